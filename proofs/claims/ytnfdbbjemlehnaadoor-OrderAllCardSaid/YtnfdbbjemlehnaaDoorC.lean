/- The library's search in a list, for the three tests of this package. -/
import Derived.Test.YtnfdbbjemlehnaaDoorB
namespace Go.Proofs.YtnfdbbjemlehnaaDoor
open Go.RowKit

/-- What may not be: of a guess, of an edge. -/
def beyond (n : Int) : Bool := decide (n < 0) || decide (1099511627776 < n)
def oddG (g : Pr) : Bool := beyond g.k || beyond g.t
def oddE (n : Nat) (e : Pr) : Bool := decide (min e.k e.t < 0) || decide ((n : Int) ≤ max e.k e.t) || decide (e.k = e.t)

set_option maxHeartbeats 400000 in
theorem odd1_any (w : World) (n : Int) : Calls Tryd.prog 36 #[.int .i64 n] w fun en w' => en = .returned (.bool (beyond n)) ∧ w = w' := by
  unfold beyond
  by_cases h1 : n < 0
  · go_enter Tryd.func36, Tryd.ntmps36
    go_wp2
    go_ret
    exact ⟨by simp [h1], rfl⟩
  · by_cases h2 : 1099511627776 < n
    all_goals (go_enter Tryd.func36, Tryd.ntmps36; go_wp2; go_ret; exact ⟨by simp [h1, h2], rfl⟩)

set_option maxHeartbeats 800000 in
theorem odd_any (w : World) (g : Pr) : Calls Tryd.prog 26 #[.agg #[.int .i64 g.k, .int .i64 g.t]] w fun en w' => en = .returned (.bool (oddG g)) ∧ Kept [] w w' := by
  unfold oddG
  cases h1 : beyond g.k <;> cases h2 : beyond g.t
  all_goals
    go_enter Tryd.func26, Tryd.ntmps26
    go_wp2_with (go_at_call 36; refine (odd1_any _ _).mono ?_; rintro e w1 ⟨rfl, rfl⟩)
    go_ret
    exact ⟨by simp [h1, h2], Kept.alloc (Kept.refl [] w) _⟩

set_option maxHeartbeats 1600000 in
theorem check1_any (w : World) (bn : Nat) (n : Nat) (h : Arr w bn 3 [.int .i64 n]) (e : Pr) : Calls Tryd.prog 24 #[.agg #[.int .i64 e.k, .int .i64 e.t], .pointer (some ⟨bn, 0, none⟩)] w fun en w' => en = .returned (.bool (oddE n e)) ∧ Kept [] w w' := by
  have c1 := h.cell (i := 0) rfl
  have l1 := h.lt
  clear h
  unfold oddE
  go_enter Tryd.func24, Tryd.ntmps24
  go_wp2
  all_goals (go_ret; refine ⟨congrArg (fun b => Ending.returned (.bool b)) ?_, Kept.alloc (Kept.refl [] w) _⟩; clear c1 l1; rw [Bool.eq_iff_iff]; simp; omega)

end Go.Proofs.YtnfdbbjemlehnaaDoor
