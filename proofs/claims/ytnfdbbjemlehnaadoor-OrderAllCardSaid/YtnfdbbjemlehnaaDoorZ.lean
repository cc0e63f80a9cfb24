/- What is known of the best shape of leaves that may be. -/
import Derived.Test.YtnfdbbjemlehnaaDoorY
namespace Go.Proofs.YtnfdbbjemlehnaaDoor
open Go.RowKit

def bestS (gs es : List Pr) : Sh := buildF (bestT gs es) 63 (2 ^ gs.length - 1)
def bestC (gs es : List Pr) : Int := ((bestT gs es)[2 ^ gs.length - 1]?.getD default).t

theorem pow_bounds {gs : List Pr} (n1 : 1 ≤ gs.length) (n6 : gs.length ≤ 6) : 1 ≤ 2 ^ gs.length - 1 ∧ 2 ^ gs.length - 1 ≤ 63 ∧ 2 ^ gs.length - 1 < 2 ^ gs.length := by
  have a := Nat.pow_le_pow_right (n := 2) (by decide) n1
  have b := Nat.pow_le_pow_right (n := 2) (by decide) n6
  omega

theorem bestS_shape {gs es : List Pr} (hok : okF gs es = true) : shapeF gs es (bestS gs es) = (2 ^ gs.length - 1, bestC gs es, true) := by
  have ok := Ok.of hok
  obtain ⟨p1, p2, p3⟩ := pow_bounds ok.n1 ok.n6
  exact build_cost gs es ok.n6 63 _ p1 p2 p3

theorem bestS_cost {gs es : List Pr} (hok : okF gs es = true) : costF gs es (bestS gs es) = (bestC gs es, 0) := by
  have := bestS_shape hok
  unfold costF
  rw [if_pos hok, this]
  simp

theorem cost_ge {gs es : List Pr} (hok : okF gs es = true) (s : Sh) : (costF gs es s).2 ≠ 0 ∨ bestC gs es ≤ (costF gs es s).1 := by
  have ok := Ok.of hok
  unfold costF
  rw [if_pos hok]
  by_cases h : (shapeF gs es s).2.2 = true ∧ (shapeF gs es s).1 = 2 ^ gs.length - 1
  · rw [if_pos h]
    right
    have h3 : shapeF gs es s = (2 ^ gs.length - 1, (shapeF gs es s).2.1, true) := by
      rw [← h.2, ← h.1]
    exact (shape_ge gs es ok.n6 s _ _ h3).2.2
  · rw [if_neg h]; left; simp

theorem all_bits (n : Nat) : n < 7 → ∀ i, i < n → (2 ^ n - 1).testBit i = true := by
  intro _ i hi; rw [Nat.testBit_two_pow_sub_one]; simpa using hi

theorem bestS_leaves {gs es : List Pr} (hok : okF gs es = true) : (leavesF (bestS gs es)).length = gs.length ∧ ∀ i : Nat, i < gs.length → times' i (leavesF (bestS gs es)) = 1 := by
  have ok := Ok.of hok
  obtain ⟨p1, p2, p3⟩ := pow_bounds ok.n1 ok.n6
  obtain ⟨a, b⟩ := build_leaves gs es ok.n6 63 _ p1 p2 p3
  have n6 := ok.n6
  refine ⟨a.trans (pc_all _ (by omega)), fun i hi => (b i).trans ?_⟩
  rw [if_pos (all_bits _ (by omega) i hi)]

/-- Costs fit. -/
theorem times_take (i : Int) (l : List Int) (j : Nat) (x : Int) (h : l[j]? = some x) : times' i (l.take (j + 1)) = times' i (l.take j) + if x = i then 1 else 0 := by
  rw [List.take_add_one, h, times_append]
  unfold times'
  by_cases e : x = i <;> simp [e]
theorem times_le (i : Int) (l : List Int) : times' i l ≤ l.length := List.length_filter_le _ _

theorem best_in {gs es : List Pr} (w : World) (lv ev : Value) (h : JAt w lv ev gs es) (hlb : es.length ≤ 1000) (htab : Tab w) (hok : okF gs es = true) : Calls Tryd.prog 8 #[lv, ev] w (BestPost (bestS gs es) (bestC gs es) w) :=
  best_ok w lv ev gs es h hlb htab hok
theorem best_out {gs es : List Pr} (w : World) (lv ev : Value) (h : JAt w lv ev gs es) (hl : gs.length ≤ 1000) (hlb : es.length ≤ 1000) (hok : okF gs es = false) : Calls Tryd.prog 8 #[lv, ev] w (NoPost w) :=
  best_no w lv ev gs es h hl hlb hok
theorem cost_in {gs es : List Pr} (w : World) (lv ev v : Value) (s : Sh) (h : JAt w lv ev gs es) (hl : gs.length ≤ 1000) (hlb : es.length ≤ 1000) (htab : Tab w) (hs : ShAt w 0 s v) : Calls Tryd.prog 9 #[lv, ev, v] w (CostPost (costF gs es s).1 (costF gs es s).2 w) :=
  cost_any w lv ev v gs es s h hl hlb htab hs
end Go.Proofs.YtnfdbbjemlehnaaDoor
