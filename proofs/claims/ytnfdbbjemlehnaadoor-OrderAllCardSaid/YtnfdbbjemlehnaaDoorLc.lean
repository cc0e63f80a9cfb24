/- The plain law of orders: a connected set grows by leaves that have an edge to it. -/
import Derived.Test.YtnfdbbjemlehnaaDoorLb
namespace Go.Proofs.YtnfdbbjemlehnaaDoor

theorem high_bit {a : Nat} (ha : a < 64) {i : Nat} (hi : 6 ≤ i) : a.testBit i = false :=
  Nat.testBit_lt_two_pow (Nat.lt_of_lt_of_le ha (Nat.pow_le_pow_right (n := 2) (i := 6) (by decide) hi))

theorem diff_bit (S T : Nat) (hS : S < 64) (i : Nat) : (diffN S T).testBit i = (S.testBit i && !T.testBit i) := by
  unfold diffN
  rw [Nat.testBit_and, Nat.testBit_xor]
  by_cases hi : i < 6
  · have : Nat.testBit 63 i = true := by
      match i, hi with
      | 0, _ | 1, _ | 2, _ | 3, _ | 4, _ | 5, _ => rfl
    rw [this]; simp
  · rw [high_bit hS (by omega)]; simp

theorem Sub.refl (a : Nat) : Sub a a := fun _ h => h
theorem Sub.trans {a b c : Nat} (h : Sub a b) (k : Sub b c) : Sub a c := fun i hi => k i (h i hi)
theorem Sub.antisymm {a b : Nat} (h : Sub a b) (k : Sub b a) : a = b := by
  apply Nat.eq_of_testBit_eq
  intro i
  rw [Bool.eq_iff_iff]
  exact ⟨h i, k i⟩
theorem sub_lt {a b : Nat} (h : Sub a b) (hb : b < 64) : a < 64 := by
  have e : a = a &&& b := by
    apply Nat.eq_of_testBit_eq
    intro i
    rw [Nat.testBit_and]
    cases ha : a.testBit i with
    | false => rfl
    | true => rw [h i ha]; rfl
  rw [e]
  exact Nat.lt_of_le_of_lt Nat.and_le_right hb

theorem ne_zero_bit {a : Nat} (h : a ≠ 0) : ∃ i, a.testBit i = true := Nat.exists_testBit_of_ne_zero h
end Go.Proofs.YtnfdbbjemlehnaaDoor
