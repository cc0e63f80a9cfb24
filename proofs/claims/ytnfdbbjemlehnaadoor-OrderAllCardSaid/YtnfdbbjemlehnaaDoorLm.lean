/- The plain law of orders: each leaf stands once in the shape that is built. -/
import Derived.Test.YtnfdbbjemlehnaaDoorLl
namespace Go.Proofs.YtnfdbbjemlehnaaDoor

mutual
def leavesF : Sh → List Int
  | .node lf [] => [lf]
  | .node _ (a :: r) => leavesF a ++ leavesFs r
def leavesFs : List Sh → List Int
  | [] => []
  | a :: r => leavesF a ++ leavesFs r
end

/-- How often a number stands in a list. -/
def times' (i : Int) (l : List Int) : Nat := (l.filter (fun x => x == i)).length

theorem times_append (i : Int) (a b : List Int) : times' i (a ++ b) = times' i a + times' i b := by unfold times'; rw [List.filter_append, List.length_append]

theorem pc_or : ∀ a : Nat, a < 64 → ∀ b : Nat, b < 64 → a &&& b = 0 → pc (a ||| b) = pc a + pc b := by decide +kernel
theorem pc_pow : ∀ k : Nat, k < 6 → pc (2 ^ k) = 1 := by decide +kernel
theorem pc_all : ∀ n : Nat, n < 7 → pc (2 ^ n - 1) = n := by decide +kernel

theorem build_leaves (gs es : List Pr) (n6 : gs.length ≤ 6) : ∀ (f S : Nat), 1 ≤ S → S ≤ f → S < 2 ^ gs.length →
    (leavesF (buildF (bestT gs es) f S)).length = pc S ∧ ∀ i : Nat, times' i (leavesF (buildF (bestT gs es) f S)) = if S.testBit i then 1 else 0 := by
  have h6 : 2 ^ gs.length ≤ 2 ^ 6 := Nat.pow_le_pow_right (by decide) n6
  intro f
  induction f with
  | zero => intro S h1 h2; omega
  | succ f ih =>
    intro S h1 hf h2
    rw [buildF_eq]
    rcases entry_cases gs es n6 h1 h2 with ⟨k0, t0, hone, htz⟩ | ⟨a, b, ka, a0, b0, hb, d1, d2, la, lb, hm, ht⟩
    · rw [if_pos k0, leavesF]
      refine ⟨?_, fun i => ?_⟩
      · rw [hone, pc_pow _ (by omega)]; rfl
      · rw [show S.testBit i = decide (tz S = i) from by rw [← pow_bit, ← hone]]
        unfold times'
        by_cases hi : tz S = i
        · subst hi; simp
        · have : ¬ ((tz S : Int) = (i : Int)) := by omega
          simp [hi, this]
    · rw [if_neg (by rw [ka]; omega), ka]
      simp only [Int.toNat_natCast, hb]
      obtain ⟨x1, x2⟩ := ih a (by omega) (by omega) (by omega)
      obtain ⟨y1, y2⟩ := ih b (by omega) (by omega) (by omega)
      rw [leavesF, leavesFs, leavesFs, List.append_nil]
      refine ⟨?_, fun i => ?_⟩
      · rw [List.length_append, x1, y1, ← pc_or a (by omega) b (by omega) d1, d2]
      · rw [times_append, x2, y2, ← d2, or_bit]
        have := congrArg (fun z => z.testBit i) d1
        simp only [Nat.testBit_and, Nat.zero_testBit] at this
        cases ha : a.testBit i <;> cases hb' : b.testBit i <;> simp [ha, hb'] at this ⊢
end Go.Proofs.YtnfdbbjemlehnaaDoor
