/- The plain law of orders: a connected set with one more leaf that has an edge to it. -/
import Derived.Test.YtnfdbbjemlehnaaDoorLc
namespace Go.Proofs.YtnfdbbjemlehnaaDoor

theorem pow_bit (j i : Nat) : (2 ^ j).testBit i = decide (j = i) := by rw [Nat.testBit_two_pow]

theorem or_bit (a b i : Nat) : (a ||| b).testBit i = (a.testBit i || b.testBit i) := Nat.testBit_or ..

theorem conn_join {es : List Pr} {T j : Nat} (hT : T < 64) (hj : j < 6) (hc : Conn es T) (hn : T.testBit j = false) (he : edgeF es T (2 ^ j) = true) : Conn es (T ||| 2 ^ j) := by
  have p6 : 2 ^ j < 64 := Nat.pow_lt_pow_right (a := 2) (n := 6) (by decide) hj
  have s6 : T ||| 2 ^ j < 64 := or_lt (n := 6) hT p6
  intro U hU h0 hne
  have u6 : U < 64 := sub_lt hU s6
  have d6 : diffN (T ||| 2 ^ j) U < 64 := (diff_bits _ s6 _ u6).2
  have inT : ∀ i, U.testBit i = true → i ≠ j → T.testBit i = true := by
    intro i hi hij
    have := hU i hi
    rw [or_bit, pow_bit] at this
    simpa [Ne.symm hij] using this
  cases hu : U.testBit j with
  | true =>
    have hd : ∀ i, (diffN U (2 ^ j)).testBit i = (U.testBit i && !decide (j = i)) := fun i => by rw [diff_bit _ _ u6, pow_bit]
    have d6' : diffN U (2 ^ j) < 64 := (diff_bits _ u6 _ p6).2
    by_cases hz : diffN U (2 ^ j) = 0
    · rw [edgeF_symm]
      refine edge_mono hT d6 p6 u6 ?_ ?_ he
      · intro i hi
        rw [diff_bit _ _ s6, or_bit, hi]
        have hij : j ≠ i := by intro e; subst e; rw [hn] at hi; simp at hi
        have h1 := hd i
        rw [hz] at h1
        simp [hij] at h1
        simp [h1]
      · intro i hi
        rw [pow_bit] at hi
        have := of_decide_eq_true hi
        subst this; exact hu
    · by_cases hw : diffN U (2 ^ j) = T
      · refine absurd (Sub.antisymm hU ?_) hne
        intro i hi
        rw [or_bit, pow_bit, Bool.or_eq_true] at hi
        rcases hi with hi | hi
        · rw [← hw, hd] at hi
          simp at hi
          exact hi.1
        · have := of_decide_eq_true hi
          subst this; exact hu
      · have hsub : Sub (diffN U (2 ^ j)) T := by
          intro i hi
          rw [hd] at hi
          simp at hi
          exact inT i hi.1 (Ne.symm hi.2)
        have := hc _ hsub hz hw
        refine edge_mono d6' u6 (diff_bits _ hT _ d6').2 d6 ?_ ?_ this
        · intro i hi
          rw [hd] at hi
          simp at hi
          exact hi.1
        · intro i hi
          rw [diff_bit _ _ hT, hd] at hi
          rw [diff_bit _ _ s6, or_bit]
          have hij : j ≠ i := by intro e; subst e; rw [hn] at hi; simp at hi
          simp [hij] at hi
          simp [hi.1, hi.2]
  | false =>
    have hsub : Sub U T := by
      intro i hi
      exact inT i hi (by intro e; subst e; rw [hu] at hi; simp at hi)
    by_cases hw : U = T
    · subst hw
      refine edge_mono u6 u6 p6 d6 (Sub.refl _) ?_ he
      intro i hi
      rw [pow_bit] at hi
      have := of_decide_eq_true hi
      subst this
      rw [diff_bit _ _ s6, or_bit, pow_bit]
      simp [hu]
    · have := hc _ hsub h0 hw
      refine edge_mono u6 u6 (diff_bits _ hT _ u6).2 d6 (Sub.refl _) ?_ this
      intro i hi
      rw [diff_bit _ _ hT] at hi
      rw [diff_bit _ _ s6, or_bit]
      simp at hi
      simp [hi.1, hi.2]
end Go.Proofs.YtnfdbbjemlehnaaDoor
