/- May two parts be joined; may leaves and edges be; all leaves. -/
import Derived.Test.YtnfdbbjemlehnaaDoorI
namespace Go.Proofs.YtnfdbbjemlehnaaDoor
open Go.RowKit

set_option maxHeartbeats 1600000 in
theorem may_any (w : World) (lv ev : Value) (es : List Pr) (hP : PairsAt w ev es) (hlb : es.length ≤ 1000) (a b : Nat) (ha : a < 64) (hb : b < 64) :
    Calls Tryd.prog 28 #[.agg #[lv, ev], .int .i64 a, .int .i64 b] w fun en w' => en = .returned (.bool (mayF es a b)) ∧ Kept [] w w' := by
  have y1 := or_nat a b (by omega) (by omega)
  have hor : a ||| b < 64 := or_lt (n := 6) ha hb
  have HOR := Lib.hid hor
  have HP := Lib.hid hP
  have hM : mayF es a b = if joinedF es (a ||| b) then joinedF es a && joinedF es b else !edgeF es a b := rfl
  generalize mayF es a b = M at *
  have HM := Lib.hid hM
  clear hP hM hor
  go_enter Tryd.func28, Tryd.ntmps28
  go_wp2_with fail
  have A1 : Arr (w.alloc (Obj.cells #[lv, ev] 49)) w.heap.size 49 [lv, ev] := Arr.new _ _ _
  have K1 := Kept.alloc (Kept.refl [] w) (Obj.cells #[lv, ev] 49)
  generalize hw1 : w.alloc (Obj.cells #[lv, ev] 49) = w1 at *
  generalize hbx : w.heap.size = bx at A1 ⊢
  have A := Lib.hid A1
  have K := Lib.hid K1
  have HP1 := Lib.hid (HP.out.kept K1)
  have sk := Kept.refl [] w1
  clear A1 K1 hw1 hbx HP
  refine (joined_any _ lv ev es HP1.out hlb _ HOR.out).mono ?_
  rintro e w2 ⟨rfl, hk2⟩
  have x0 := (hk2.cell A.out.lt (by simp)).trans (A.out.cell (i := 0) rfl)
  have x1 := (hk2.cell A.out.lt (by simp)).trans (A.out.cell (i := 1) rfl)
  have HK2 := Lib.hid hk2
  clear hk2 sk
  cases hj : joinedF es (a ||| b) with
  | true =>
    have hm := HM.out
    rw [hj, if_pos rfl] at hm
    subst hm
    clear HM
    cases hja : joinedF es a with
    | true =>
      have HJA := Lib.hid hja
      clear hja
      go_wp2_with fail
      refine (joined_any _ lv ev es (HP1.out.kept HK2.out) hlb _ ha).mono ?_
      rw [HJA.out]
      rintro e w3 ⟨rfl, hk3⟩
      have x0 := (hk3.cell (Nat.lt_of_lt_of_le A.out.lt HK2.out.size) (by simp)).trans x0
      have x1 := (hk3.cell (Nat.lt_of_lt_of_le A.out.lt HK2.out.size) (by simp)).trans x1
      have HK3 := Lib.hid (HK2.out.trans hk3)
      clear hk3
      go_wp2_with (go_at_call 23; refine (joined_any _ lv ev es (HP1.out.kept HK3.out) hlb _ hb).mono ?_; rintro e w4 ⟨rfl, hk4⟩; have HK4 := Lib.hid hk4; clear hk4)
      all_goals (go_ret; exact ⟨by simp [*, HJA.out], K.out.trans (HK3.out.trans HK4.out)⟩)
    | false =>
      have HJA := Lib.hid hja
      clear hja
      go_wp2_with (go_at_call 23; refine (joined_any _ lv ev es (HP1.out.kept HK2.out) hlb _ ha).mono ?_; rw [HJA.out]; rintro e w3 ⟨rfl, hk3⟩; have HK3 := Lib.hid hk3; clear hk3)
      go_ret
      exact ⟨by rw [HJA.out]; rfl, K.out.trans (HK2.out.trans HK3.out)⟩
  | false =>
    have hm := HM.out
    rw [hj, if_neg (by simp)] at hm
    subst hm
    clear HM
    go_wp2_with (go_at_call 34; refine (edge_any _ lv ev es (HP1.out.kept HK2.out) hlb _ _ ha hb).mono ?_; rintro e w4 ⟨rfl, hk4⟩; have HK4 := Lib.hid hk4; clear hk4)
    go_ret
    exact ⟨rfl, K.out.trans (HK2.out.trans HK4.out)⟩

def okF (gs es : List Pr) : Bool := decide (1 ≤ gs.length ∧ gs.length ≤ 6) && !gs.any oddG && !es.any (oddE gs.length)

theorem Ok.of {gs es : List Pr} (h : okF gs es = true) : Ok gs es := by
  simp only [okF, Bool.and_eq_true, decide_eq_true_eq, Bool.not_eq_true', List.any_eq_false] at h
  obtain ⟨⟨⟨h1, h2⟩, h3⟩, h4⟩ := h
  refine ⟨h1, h2, fun g hg => ?_, fun e he => ?_⟩
  · have := h3 g hg
    simp [oddG, beyond] at this
    omega
  · have := h4 e he
    simp [oddE] at this
    omega

set_option maxHeartbeats 3200000 in
theorem check_any (w : World) (lv ev : Value) (gs es : List Pr) (h : JAt w lv ev gs es) (hl : gs.length ≤ 1000) (hlb : es.length ≤ 1000) :
    Calls Tryd.prog 17 #[.agg #[lv, ev]] w fun en w' => en = .returned (.int .i64 (if okF gs es then 0 else 1)) ∧ Kept [] w w' := by
  obtain ⟨⟨al, cl, rfl, hls⟩, he⟩ := h
  have HL : Hid (PairsAt w (.slice al gs.length cl) gs) := Lib.hid ⟨al, cl, rfl, hls⟩
  have HE := Lib.hid he
  clear hls he
  have hM : (if okF gs es then (0 : Int) else 1) = if gs.length < 1 then 1 else if 6 < gs.length then 1 else if gs.any oddG then 1 else if es.any (oddE gs.length) then 1 else 0 := by
    unfold okF
    have hd : decide (1 ≤ gs.length ∧ gs.length ≤ 6) = (!decide (gs.length < 1) && !decide (6 < gs.length)) := by generalize gs.length = n; rw [Bool.eq_iff_iff]; simp; omega
    rw [hd]
    by_cases h1 : gs.length < 1 <;> by_cases h2 : 6 < gs.length <;> cases gs.any oddG <;> cases es.any (oddE gs.length) <;> simp [h1, h2]
  rw [hM]
  clear hM
  have K0 : Kept [] w ((w.alloc (Obj.cells #[.slice al gs.length cl, ev] 49)).alloc (Obj.cells #[.int .i64 ↑gs.length] 3)) := Kept.alloc (Kept.alloc (Kept.refl [] w) _) _
  have HK0 := Lib.hid K0
  clear K0
  by_cases h1 : gs.length < 1
  · rw [if_pos h1]
    have h1' : (gs.length : Int) < 1 := by omega
    clear h1
    go_enter Tryd.func17, Tryd.ntmps17
    go_wp2
    go_ret
    exact ⟨rfl, HK0.out⟩
  rw [if_neg h1]
  have h1' : ¬ (gs.length : Int) < 1 := by omega
  by_cases h2 : 6 < gs.length
  · rw [if_pos h2]
    have h2' : (6 : Int) < (gs.length : Int) := by omega
    clear h1 h2
    go_enter Tryd.func17, Tryd.ntmps17
    go_wp2
    go_ret
    exact ⟨rfl, HK0.out⟩
  rw [if_neg h2]
  have h2' : ¬ (6 : Int) < (gs.length : Int) := by omega
  clear h1 h2
  cases hg : gs.any oddG with
  | true =>
    have HG := Lib.hid hg
    clear hg
    go_enter Tryd.func17, Tryd.ntmps17
    go_wp2_with (go_at_call 25; refine (any26 _ _ gs (HL.out.kept HK0.out) hl).mono ?_; rw [HG.out]; rintro e w4 ⟨rfl, hk4⟩; have HK4 := Lib.hid hk4; clear hk4)
    go_ret
    exact ⟨rfl, HK0.out.trans HK4.out⟩
  | false =>
    have HG := Lib.hid hg
    clear hg
    have AN : Arr ((w.alloc (Obj.cells #[.slice al gs.length cl, ev] 49)).alloc (Obj.cells #[.int .i64 ↑gs.length] 3)) (w.heap.size + 1) 3 [.int .i64 gs.length] := Arr.new' (by simp) rfl
    have HA := Lib.hid AN
    have AJ : Arr ((w.alloc (Obj.cells #[.slice al gs.length cl, ev] 49)).alloc (Obj.cells #[.int .i64 ↑gs.length] 3)) w.heap.size 49 [.slice al gs.length cl, ev] := Arr.alloc (Arr.new' rfl rfl) _
    have HAJ := Lib.hid AJ
    clear AN AJ
    cases hg2 : es.any (oddE gs.length) with
    | true =>
      have HG2 := Lib.hid hg2
      clear hg2
      go_enter Tryd.func17, Tryd.ntmps17
      go_wp2_with (first | (go_at_call 25; refine (any26 _ _ gs (HL.out.kept HK0.out) hl).mono ?_; rw [HG.out]; rintro e w4 ⟨rfl, hk4⟩; have HK4 := Lib.hid hk4; have x1 := (hk4.cell HAJ.out.lt (by simp)).trans (HAJ.out.cell (i := 1) rfl); clear hk4) | (go_at_call 27; refine (any24 _ _ es (HE.out.kept (HK0.out.trans HK4.out)) hlb _ gs.length (HA.out.kept HK4.out (by simp))).mono ?_; rw [HG2.out]; rintro e w5 ⟨rfl, hk5⟩; have HK5 := Lib.hid hk5; clear hk5))
      go_ret
      exact ⟨rfl, HK0.out.trans (HK4.out.trans HK5.out)⟩
    | false =>
      have HG2 := Lib.hid hg2
      clear hg2
      go_enter Tryd.func17, Tryd.ntmps17
      go_wp2_with (first | (go_at_call 25; refine (any26 _ _ gs (HL.out.kept HK0.out) hl).mono ?_; rw [HG.out]; rintro e w4 ⟨rfl, hk4⟩; have HK4 := Lib.hid hk4; have x1 := (hk4.cell HAJ.out.lt (by simp)).trans (HAJ.out.cell (i := 1) rfl); clear hk4) | (go_at_call 27; refine (any24 _ _ es (HE.out.kept (HK0.out.trans HK4.out)) hlb _ gs.length (HA.out.kept HK4.out (by simp))).mono ?_; rw [HG2.out]; rintro e w5 ⟨rfl, hk5⟩; have HK5 := Lib.hid hk5; clear hk5))
      go_ret
      exact ⟨rfl, HK0.out.trans (HK4.out.trans HK5.out)⟩

set_option maxHeartbeats 1600000 in
theorem all_any (w : World) (al : Option Addr) (n cl : Nat) (ev : Value) (hn : n ≤ 6) :
    Calls Tryd.prog 18 #[.agg #[.slice al n cl, ev]] w fun en w' => en = .returned (.int .i64 ((2 ^ n - 1 : Nat) : Int)) ∧ Kept [] w w' := by
  match n, hn with
  | 0, _ | 1, _ | 2, _ | 3, _ | 4, _ | 5, _ | 6, _ =>
    go_enter Tryd.func18, Tryd.ntmps18
    go_wp2
    go_ret
    exact ⟨rfl, Kept.alloc (Kept.refl [] w) _⟩
end Go.Proofs.YtnfdbbjemlehnaaDoor
