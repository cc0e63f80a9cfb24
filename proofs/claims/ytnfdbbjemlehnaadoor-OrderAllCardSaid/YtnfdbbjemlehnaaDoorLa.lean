/- The plain law of orders: edges between sets. -/
import Derived.Test.YtnfdbbjemlehnaaDoorO
namespace Go.Proofs.YtnfdbbjemlehnaaDoor

/-- A leaf's bit is met. -/
theorem bit_met (a : Nat) (i : Int) (ha : a < 64) : (a &&& bitN i != 0) = (decide (0 ≤ i) && a.testBit i.toNat) := by
  unfold bitN
  by_cases h : i < 0 ∨ 62 ≤ i
  · rw [if_pos h]
    rcases h with h | h
    · simp; omega
    · have : a.testBit i.toNat = false := Nat.testBit_lt_two_pow (Nat.lt_of_lt_of_le ha (Nat.pow_le_pow_right (n := 2) (i := 6) (by decide) (by omega)))
      simp [this]
  · rw [if_neg h]
    have h0 : 0 ≤ i := by omega
    simp only [h0, decide_true, Bool.true_and]
    cases ht : a.testBit i.toNat with
    | true =>
      have : (a &&& 2 ^ i.toNat).testBit i.toNat = true := by simp [ht]
      have hne : a &&& 2 ^ i.toNat ≠ 0 := by intro e; rw [e] at this; simp at this
      simp [hne]
    | false =>
      have : a &&& 2 ^ i.toNat = 0 := by
        apply Nat.eq_of_testBit_eq
        intro j
        rw [Nat.testBit_and, Nat.testBit_two_pow]
        by_cases hj : i.toNat = j
        · subst hj; simp [ht]
        · simp [hj]
      simp [this]

theorem hit_symm (a b : Nat) (e : Pr) : hit a b e = hit b a e := by
  unfold hit
  cases (a &&& bitN e.k != 0) <;> cases (b &&& bitN e.t != 0) <;> cases (b &&& bitN e.k != 0) <;> cases (a &&& bitN e.t != 0) <;> rfl

theorem edgeF_symm (es : List Pr) (a b : Nat) : edgeF es a b = edgeF es b a := by
  unfold edgeF
  congr 1
  funext e
  exact hit_symm a b e

theorem mayF_symm (es : List Pr) (a b : Nat) : mayF es a b = mayF es b a := by
  unfold mayF
  rw [Nat.or_comm a b, edgeF_symm es a b, Bool.and_comm (joinedF es a)]

theorem stepF_symm (gs es : List Pr) (a b : Nat) : stepF gs es a b = stepF gs es b a := by
  unfold stepF
  simp only
  rw [Nat.or_comm a b, edgeF_symm es a b, Int.add_comm (pagesF gs es a) (pagesF gs es b), Int.mul_comm (pagesF gs es a)]
end Go.Proofs.YtnfdbbjemlehnaaDoor
