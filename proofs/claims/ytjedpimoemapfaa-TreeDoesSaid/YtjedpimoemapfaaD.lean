/- Win; Steps, the program's and the reference's -/
import Derived.Test.YtjedpimoemapfaaC
import Derived.Test.YtjedpimoemapfaaScan
namespace Go.Proofs.Ytjedpimoemapfaa
open Go.RowKit

def noWin : Value := .tuple #[.int .i64 (-1), .agg #[.int .i64 0, .int .i64 0], .bool false]
def someWin (v : Nat) (x : Lf) : Value := .tuple #[.int .i64 v, .agg #[.int .i64 x.k, .int .i64 x.t], .bool true]
def winV (ls : List Lf) : Value :=
  match scan ls ls.length with
  | none => noWin
  | some v => match ls[v]? with
    | none => noWin
    | some x => someWin v x

set_option maxHeartbeats 400000 in
theorem win_nil (w : World) : Calls Try.prog 21 #[.pointer none] w fun e w' => e = .returned noWin ∧ Kept [] w w' := by
  go_enter Try.func21, Try.ntmps21
  go_wp2_with (go_at_call 23; refine (len_nil _).mono ?_; rintro e w' ⟨rfl, rfl⟩)
  go_region
  go_wp2
  refine bodyPost_ret (v := noWin) (by simp [results, Try.results21, go_sem, noWin]) rfl ⟨rfl, ?_⟩
  exact (((Kept.refl _ _).alloc _).alloc _).drew

set_option maxHeartbeats 400000 in
theorem win_ok (w : World) (bt bl bw : Nat) (kd : Option Nat) (m base s : Nat) (ls : List Lf) (ws : List Nat) (h : TOk w bt bl bw kd m base s ls ws) :
    Calls Try.prog 21 #[.pointer (some ⟨bt, 0, none⟩)] w fun e w' => e = .returned (winV ls) ∧ Kept [] w w' := by
  have h64 := h.le64
  have H := Lib.hid h
  by_cases hc : cntH ls = 0
  · have hv : winV ls = noWin := by unfold winV; rw [scan_zero hc]
    have HV := Lib.hid hv
    have HC := Lib.hid hc
    clear hv h hc
    go_enter Try.func21, Try.ntmps21
    go_wp2_with (go_at_call 23; refine (len_ok _ bt bl bw kd m base s ls ws (H.out.alloc _)).mono ?_; rw [HC.out]; rintro e w' ⟨rfl, rfl⟩)
    go_region
    go_wp2
    refine bodyPost_ret (v := noWin) (by simp [results, Try.results21, go_sem, noWin]) rfl ⟨by rw [HV.out], ?_⟩
    exact (((Kept.refl _ _).alloc _).alloc _).drew
  · obtain ⟨v, y, h1, h2, h3, h4⟩ := Wins.scan (by have := h.wins; rwa [h.hb] at this) (by rw [← h.hb]; exact h.len) (by omega : 0 < cntH ls)
    have hv : winV ls = someWin v y := by unfold winV; rw [h2]; simp only [h3]
    have hvl : v < ls.length := by rcases Nat.lt_or_ge v ls.length with h | h; exact h; simp [List.getElem?_eq_none h] at h3
    have hb1 : 1 ≤ base := by rw [h.hb]; exact Nat.one_le_two_pow
    have hv0 : base = 1 → v = 0 := by intro e; have := h.len; omega
    have c1 := h.t8.t.cell (i := 1) rfl
    have c2 := h.t8.t.cell (i := 2) rfl
    have c3 := h.t8.t.cell (i := 3) rfl
    have w1 := h.t8.w.cell (i := 1) (v := .int .i64 v) (by simp [h1])
    have x0 := h.t8.l.cell (lcells_at ls v y h3).1
    have x1 := h.t8.l.cell (lcells_at ls v y h3).2.1
    have hwl : (1 : Int) < (ws.length : Int) := by rw [WB.len h.wins]; omega
    have l1 := h.t8.t.lt
    have l2 := h.t8.l.lt
    have l3 := h.t8.w.lt
    have hi0 : (0 : Int) ≤ (v : Int) := Int.natCast_nonneg _
    have hi1 : (v : Int) < (ls.length : Int) := by omega
    have hcb : ((cntH ls : Int) == 0) = false := by simp; omega
    have HV := Lib.hid hv
    have HV0 := Lib.hid hv0
    clear hv h h1 h2 h3 h4 hc hv0
    by_cases hb : base = 1
    · obtain rfl : v = 0 := HV0.out hb
      have hbb : ((base : Int) == 1) = true := by simp [hb]
      clear hb
      simp only [Nat.zero_mul, Nat.zero_add] at x0 x1
      go_enter Try.func21, Try.ntmps21
      go_wp2_with (go_at_call 23; refine (len_ok _ bt bl bw kd m base s ls ws (H.out.alloc _)).mono ?_; rintro e w' ⟨rfl, rfl⟩)
      go_region
      go_wp2
      refine bodyPost_ret (v := someWin 0 y) (by simp [results, Try.results21, go_sem, someWin]) rfl ⟨by rw [HV.out], ?_⟩
      exact ((Kept.refl _ _).alloc _).drew
    · have hbb : ((base : Int) == 1) = false := by simp; omega
      clear hb
      go_enter Try.func21, Try.ntmps21
      go_wp2_with (go_at_call 23; refine (len_ok _ bt bl bw kd m base s ls ws (H.out.alloc _)).mono ?_; rintro e w' ⟨rfl, rfl⟩)
      go_region
      go_wp2
      refine bodyPost_ret (v := someWin v y) (by simp [results, Try.results21, go_sem, someWin]) rfl ⟨by rw [HV.out], ?_⟩
      exact ((Kept.refl _ _).alloc _).drew

set_option maxHeartbeats 400000 in
theorem steps_any (w : World) (n : Int) : Calls Try.prog 18 #[.int .i64 n] w fun e w' => e = .returned (.int .i64 (stepsF n)) ∧ w = w' := by
  have h6 := stepsF_le n
  generalize hS : stepsF n = S at *
  have HS := Lib.hid hS
  clear hS
  go_enter Try.func18, Try.ntmps18
  go_wp2
  go_loop [3, 4] (fun i x => ∃ k : Nat, k ≤ S ∧ i = .int .i64 k ∧ x = .int .i64 (2 ^ k : Nat)) (fun i _ => S - (intOf i).toNat)
  case atStart => exact ⟨0, by omega, rfl, rfl⟩
  case round =>
    obtain ⟨k, hk, rfl, rfl⟩ := hrel
    have hp := stepsF_lt n k (by rw [HS.out]; exact hk)
    rw [HS.out] at hp
    have hq : 2 ^ k ≤ 64 := Nat.pow_le_pow_right (by omega) (by omega : k ≤ 6)
    have hq2 : 2 ^ (k + 1) = 2 ^ k * 2 := Nat.pow_succ 2 k
    generalize 2 ^ k = B at *
    by_cases hlt : k < S
    · have hm := hp.2 hlt
      have hm1 : (B : Int) < n := by omega
      have hm2 : (B : Int) < 64 := by omega
      have HQ := Lib.hid hq2
      clear hp hq2 hm
      go_wp2
      all_goals
        go_round
        case rel => exact ⟨k + 1, by omega, by go_num, by rw [HQ.out]; go_num⟩
        case measure => simp [intOf]; omega
    · have hm : ¬ (B : Int) < min n 64 := fun h => hlt (hp.1 h)
      obtain rfl : k = S := by omega
      clear hp hq2
      by_cases hn : n ≤ 64
      · have hm1 : ¬ (B : Int) < n := by omega
        clear hm
        go_wp2
        all_goals
          go_ret
          exact ⟨rfl, rfl⟩
      · have hm1 : ¬ (B : Int) < 64 := by omega
        clear hm
        go_wp2
        all_goals
          go_ret
          exact ⟨rfl, rfl⟩

end Go.Proofs.Ytjedpimoemapfaa
