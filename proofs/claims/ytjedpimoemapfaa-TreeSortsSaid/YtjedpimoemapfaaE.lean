/- the reference's Steps -/
import Derived.Test.YtjedpimoemapfaaC
import Derived.Test.YtjedpimoemapfaaScan
import Derived.Deep.QuietTactic
import Derived.BigQuiet
namespace Go.Proofs.Ytjedpimoemapfaa
open Go.RowKit

set_option maxHeartbeats 400000 in
theorem rsteps_any (w : World) (n : Int) : Calls Try.prog 19 #[.int .i64 n] w fun e w' => e = .returned (.int .i64 (stepsF n)) ∧ w = w' := by
  have h6 := stepsF_le n
  obtain ⟨N, hN, hN1, hN2⟩ : ∃ N : Int, N = min n 64 ∧ (64 < n → N = 64) ∧ (n ≤ 64 → N = n) := ⟨_, rfl, by omega, by omega⟩
  generalize hS : stepsF n = S at *
  have HS := Lib.hid hS
  have HN := Lib.hid hN
  have HN1 := Lib.hid hN1
  have HN2 := Lib.hid hN2
  clear hS hN hN1 hN2
  go_enter Try.func19, Try.ntmps19
  go_upto_if 5 with fail
  go_cut [0] (fun v wx => v = .int .i64 N ∧ wx = w)
  case first =>
    go_wp2
    · go_meet
      case rel => exact ⟨by rw [HN1.out (by assumption)], rfl⟩
    · go_meet
      case rel => exact ⟨by rw [HN2.out (by omega)], rfl⟩
  case rest =>
  obtain ⟨rfl, rfl⟩ := hcut
  go_wp2
  go_loop [3] (fun i => ∃ k : Nat, k ≤ S ∧ i = .int .i64 k) (fun i => S - (intOf i).toNat)
  case atStart => exact ⟨0, by omega, rfl⟩
  case round =>
    obtain ⟨k, hk, rfl⟩ := hrel
    have hp := stepsF_lt n k (by rw [HS.out]; exact hk)
    rw [HS.out, ← HN.out] at hp
    have hq : 2 ^ k ≤ 64 := Nat.pow_le_pow_right (by omega) (by omega : k ≤ 6)
    have hw : wrap64 ((2 : Int) ^ k) = ((2 ^ k : Nat) : Int) := by
      rw [show ((2 : Int) ^ k) = ((2 ^ k : Nat) : Int) by simp]
      generalize 2 ^ k = B at *
      unfold wrap64; omega
    by_cases hlt : k < S
    · have hm : wrap64 ((2 : Int) ^ k) < N := by rw [hw]; exact hp.2 hlt
      clear hp hw hq
      go_wp2
      go_round
      case rel => exact ⟨k + 1, by omega, by go_num⟩
      case measure => simp [intOf]; omega
    · have hm : ¬ wrap64 ((2 : Int) ^ k) < N := by rw [hw]; exact fun h => hlt (hp.1 h)
      obtain rfl : k = S := by omega
      clear hp hw hq
      go_wp2
      go_ret
      exact ⟨rfl, rfl⟩

theorem Kept.drewN {S : List Nat} {a w : World} (h : Kept S a w) (n : Nat) : Kept S a (w.drewN n) := ⟨h.os, h.tape, h.output, h.size, h.block⟩

/-- A slice value over a block known whole; nil where there is none. -/
def lslice (bx : Nat) (ls : List Lf) : Value := .slice (some ⟨bx, 0, none⟩) ls.length ls.length

def winI (ls : List Lf) : Int := match scan ls ls.length with | none => -1 | some v => v
def scanI (ls : List Lf) (n : Nat) : Int := match scan ls n with | none => -1 | some v => v

set_option maxHeartbeats 800000 in
theorem rwin_any (w : World) (bx : Nat) (ls : List Lf) (h : Arr w bx 36 (lcells ls)) (hl : ls.length ≤ 1000) :
   Calls Try.prog 27 #[.slice (some ⟨bx, 0, none⟩) ls.length ls.length] w fun e w' => e = .returned (.int .i64 (scanI ls ls.length)) ∧ Kept [] w w' := by
  have H := Lib.hid h
  clear h
  go_enter Try.func27, Try.ntmps27
  go_wp2
  go_loopg [3, 4] (ls.length) (fun g b i wr => ∃ k : Nat, k + g = ls.length ∧ i = .int .i64 k ∧ b = .int .i64 (scanI ls k) ∧ Kept [] w wr)
  case atStart => exact ⟨0, by omega, rfl, rfl, Kept.refl _ _⟩
  case round =>
    obtain ⟨k, hk, rfl, rfl, hkp⟩ := hrel
    have HKP := Lib.hid hkp
    clear hkp
    by_cases hlt : k < ls.length
    · have hlt1 : (k : Int) < (ls.length : Int) := by omega
      have hlt0 : (0 : Int) ≤ (k : Int) := by omega
      obtain ⟨x, hx⟩ : ∃ x, ls[k]? = some x := ⟨ls[k], by simp [hlt]⟩
      have hA := H.out.kept HKP.out (by simp)
      have x0 := hA.cell (lcells_at ls k x hx).1
      have x2 := hA.cell (lcells_at ls k x hx).2.2
      clear hA
      cases hxh : x.h with
      | false =>
        have hs : scanI ls (k + 1) = scanI ls k := by unfold scanI; simp [scan, hx, hxh]
        have HS := Lib.hid hs
        rw [hxh] at x2
        clear hs hx hxh
        go_wp2
        go_region
        go_wp2
        go_roundg (ls.length - (k + 1))
        case measure => omega
        case rel => exact ⟨k + 1, by omega, by go_num, by rw [HS.out], HKP.out.drew⟩
      | true =>
        rw [hxh] at x2
        cases hsc : scan ls k with
        | none =>
          have hs0 : scanI ls k = -1 := by simp [scanI, hsc]
          have hs : scanI ls (k + 1) = k := by unfold scanI; simp [scan, hx, hxh, hsc]
          have HS := Lib.hid hs
          rw [hs0]
          clear hs hx hxh hsc hs0
          go_wp2
          go_quiet (fail)
          go_wp2
          go_roundg (ls.length - (k + 1))
          case measure => omega
          case rel => exact ⟨k + 1, by omega, by go_num, by rw [HS.out], HKP.out.drewN _⟩
        | some b => 
          have hs0 : scanI ls k = b := by simp [scanI, hsc]
          obtain ⟨hbk, y, hy, hyh⟩ := scan_some ls k b hsc
          have hs : scanI ls (k + 1) = if x.k < y.k then (k : Int) else b := by unfold scanI; simp only [scan, hx, hxh, hsc, hy]; rw [if_neg (by simp)]; by_cases e : x.k < y.k <;> simp [e]
          have HS := Lib.hid hs
          have y0 := (H.out.kept HKP.out (by simp)).cell (lcells_at ls b y hy).1
          have hb0 : (0 : Int) ≤ (b : Int) := by omega
          have hb1 : (b : Int) < (ls.length : Int) := by omega
          have hbd : decide ((b : Int) < 0) = false := by simp
          rw [hs0]
          clear hs hx hxh hsc hs0 hy hyh
          by_cases hlt2 : x.k < y.k
          · go_wp2
            go_quiet (fail)
            go_wp2
            go_roundg (ls.length - (k + 1))
            case measure => omega
            case rel => exact ⟨k + 1, by omega, by go_num, by rw [HS.out, if_pos hlt2], HKP.out.drewN _⟩
          · go_wp2
            go_quiet (fail)
            go_wp2
            go_roundg (ls.length - (k + 1))
            case measure => omega
            case rel => exact ⟨k + 1, by omega, by go_num, by rw [HS.out, if_neg (by omega)], HKP.out.drewN _⟩
    · obtain rfl : k = ls.length := by omega
      go_wp2
      go_ret
      exact ⟨rfl, HKP.out⟩

end Go.Proofs.Ytjedpimoemapfaa
