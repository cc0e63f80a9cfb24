/- The plain law of orders: joined means connected. -/
import Derived.Test.YtnfdbbjemlehnaaDoorLe
namespace Go.Proofs.YtnfdbbjemlehnaaDoor

theorem joinF_iff (es : List Pr) (S : Nat) (hS : S < 64) : ∀ (f h : Nat), h < 64 → 64 ≤ f + h → h ≠ 0 → Sub h S → Conn es h → (joinF es S f h = true ↔ Conn es S) := by
  intro f
  induction f with
  | zero => intro h hh hf; omega
  | succ f ih =>
    intro h hh hf h0 hs hc
    have d6 := (diff_bits S hS h hh).2
    obtain ⟨g1, g2, g3, g4⟩ := grow_fact es h hh 64 (diffN S h) h hh d6 (by omega) (Sub.refl _) (fun i hi => by rw [diff_bit _ _ hS] at hi; simp at hi; exact hi.2) hc
    obtain ⟨g5, g6⟩ := growF_ge es h 64 (diffN S h) h hh d6
    unfold joinF
    by_cases hg : growF es h 64 (diffN S h) h = h
    · rw [if_pos hg]
      by_cases hS2 : h = S
      · subst hS2
        simp [hc]
      · have : ¬ Conn es S := by
          intro hcs
          have he := hcs h hs h0 hS2
          rw [edge_iff es _ _ hh d6] at he
          obtain ⟨i, j, hi, hj, hA⟩ := he
          have hj6 : j < 6 := by
            rcases Nat.lt_or_ge j 6 with h | h
            · exact h
            · rw [high_bit d6 h] at hj; simp at hj
          have hb := g4 j hj ((edge_iff es _ _ hh (Nat.pow_lt_pow_right (a := 2) (n := 6) (by decide) hj6)).mpr ⟨i, j, hi, by rw [pow_bit]; simp, hA⟩)
          rw [hg] at hb
          rw [diff_bit _ _ hS, hb] at hj
          simp at hj
        simp [hS2, this]
    · rw [if_neg hg]
      refine ih _ g6 (by omega) (by omega) ?_ g3
      intro i hi
      have := g2 i hi
      rw [or_bit, diff_bit _ _ hS] at this
      simp at this
      rcases this with h | h
      · exact hs i h
      · exact h.1

theorem conn_one (es : List Pr) (j : Nat) : Conn es (2 ^ j) := by
  intro T hT h0 hne
  refine absurd (Sub.antisymm hT ?_) hne
  intro i hi
  rw [pow_bit] at hi
  have := of_decide_eq_true hi
  subst this
  obtain ⟨k, hk⟩ := ne_zero_bit h0
  have := hT k hk
  rw [pow_bit] at this
  have := of_decide_eq_true this
  subst this
  exact hk

theorem joined_iff (es : List Pr) (S : Nat) (hS : S < 64) (h0 : S ≠ 0) : joinedF es S = true ↔ Conn es S := by
  obtain ⟨e1, e2, e3, _⟩ := low_fact S hS (by omega)
  unfold joinedF
  have p6 := (low_bits S hS).2
  refine joinF_iff es S hS 64 _ p6 (by omega) ?_ ?_ ?_
  · rw [e1]; exact Nat.ne_of_gt (Nat.pow_pos (by decide))
  · rw [e1]; intro i hi; rw [pow_bit] at hi; have := of_decide_eq_true hi; subst this; exact e3
  · rw [e1]; exact conn_one es _
end Go.Proofs.YtnfdbbjemlehnaaDoor
