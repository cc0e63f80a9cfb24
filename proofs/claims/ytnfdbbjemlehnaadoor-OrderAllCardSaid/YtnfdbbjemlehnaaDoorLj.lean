/- The plain law of orders: no shape that may be costs less than the table tells. -/
import Derived.Test.YtnfdbbjemlehnaaDoorLi
import Derived.Test.YtnfdbbjemlehnaaDoorN
namespace Go.Proofs.YtnfdbbjemlehnaaDoor

theorem one_skip (es : List Pr) : ∀ k : Nat, k < 6 → ∀ b : Nat, 1 ≤ b → b < 2 ^ k → skipB es (2 ^ k) b = true := by
  intro k hk b h1 h2
  have h : (b &&& 2 ^ k) ≠ b := by
    intro e
    have hs : ∀ i, b.testBit i = true → i = k := by
      intro i hi
      have := congrArg (fun x => x.testBit i) e
      simp only [Nat.testBit_and, pow_bit, hi, Bool.true_and] at this
      exact (of_decide_eq_true this).symm
    obtain ⟨i, hi⟩ := ne_zero_bit (show b ≠ 0 by omega)
    have := hs i hi
    subst this
    rw [Nat.testBit_lt_two_pow h2] at hi
    simp at hi
  unfold skipB
  simp [h]

theorem cap_mono {a b : Int} (h : a ≤ b) : cap a ≤ cap b := by unfold cap maxCost; omega

theorem bitN_pow {lf : Int} {n : Nat} (h0 : 0 ≤ lf) (h1 : lf < n) (hn : n ≤ 6) : bitN lf = 2 ^ lf.toNat ∧ lf.toNat < 6 := by
  unfold bitN
  rw [if_neg (by omega)]
  exact ⟨rfl, by omega⟩

theorem disj_sub {a b : Nat} (ha : a < 64) (hb : b < 64) (h : a &&& b = 0) : (a ||| b) - a = b ∧ (a ||| b) - b = a := by
  have key : ∀ x y : Nat, x < 64 → y < 64 → x &&& y = 0 → (x ||| y) - x = y := by
    intro x y hx hy hxy
    have s6 : x ||| y < 64 := or_lt (n := 6) hx hy
    have hs : Sub x (x ||| y) := fun i hi => by rw [or_bit, hi]; rfl
    rw [(sub_num _ s6 x hx (sub_and hs)).1]
    apply Nat.eq_of_testBit_eq
    intro i
    rw [diff_bit _ _ s6, or_bit]
    have := congrArg (fun z => z.testBit i) hxy
    simp only [Nat.testBit_and, Nat.zero_testBit] at this
    cases hx' : x.testBit i with
    | true => rw [hx'] at this; simp at this; simp [this]
    | false => simp
  exact ⟨key a b ha hb h, by rw [Nat.or_comm]; exact key b a hb ha (by rw [Nat.and_comm]; exact h)⟩
end Go.Proofs.YtnfdbbjemlehnaaDoor
