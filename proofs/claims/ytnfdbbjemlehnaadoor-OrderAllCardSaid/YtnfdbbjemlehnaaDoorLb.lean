/- The plain law of orders: edges lead from each of some leaves to all. -/
import Derived.Test.YtnfdbbjemlehnaaDoorLa
namespace Go.Proofs.YtnfdbbjemlehnaaDoor

/-- An edge between two leaves. -/
def Adj (es : List Pr) (i j : Nat) : Prop := ∃ e ∈ es, 0 ≤ e.k ∧ 0 ≤ e.t ∧ ((e.k.toNat = i ∧ e.t.toNat = j) ∨ (e.k.toNat = j ∧ e.t.toNat = i))

theorem edge_iff (es : List Pr) (a b : Nat) (ha : a < 64) (hb : b < 64) : edgeF es a b = true ↔ ∃ i j, a.testBit i = true ∧ b.testBit j = true ∧ Adj es i j := by
  unfold edgeF
  rw [List.any_eq_true]
  constructor
  · rintro ⟨e, he, h⟩
    simp only [hit, bit_met _ _ ha, bit_met _ _ hb, Bool.or_eq_true, Bool.and_eq_true, decide_eq_true_eq] at h
    rcases h with ⟨⟨h1, h2⟩, h3, h4⟩ | ⟨⟨h1, h2⟩, h3, h4⟩
    · exact ⟨_, _, h2, h4, e, he, h1, h3, .inl ⟨rfl, rfl⟩⟩
    · exact ⟨_, _, h4, h2, e, he, h1, h3, .inr ⟨rfl, rfl⟩⟩
  · rintro ⟨i, j, hi, hj, e, he, h1, h2, h⟩
    refine ⟨e, he, ?_⟩
    simp only [hit, bit_met _ _ ha, bit_met _ _ hb, Bool.or_eq_true, Bool.and_eq_true, decide_eq_true_eq]
    rcases h with ⟨rfl, rfl⟩ | ⟨rfl, rfl⟩
    · exact .inl ⟨⟨h1, hi⟩, h2, hj⟩
    · exact .inr ⟨⟨h1, hj⟩, h2, hi⟩

/-- One set of leaves is part of another. -/
def Sub (a b : Nat) : Prop := ∀ i, a.testBit i = true → b.testBit i = true

theorem edge_mono {es : List Pr} {a a' b b' : Nat} (ha : a < 64) (ha' : a' < 64) (hb : b < 64) (hb' : b' < 64) (h1 : Sub a a') (h2 : Sub b b') (h : edgeF es a b = true) : edgeF es a' b' = true := by
  rw [edge_iff es _ _ ha hb] at h
  rw [edge_iff es _ _ ha' hb']
  obtain ⟨i, j, hi, hj, hA⟩ := h
  exact ⟨i, j, h1 i hi, h2 j hj, hA⟩

/-- No cut of it is without an edge. -/
def Conn (es : List Pr) (S : Nat) : Prop := ∀ T, Sub T S → T ≠ 0 → T ≠ S → edgeF es T (diffN S T) = true
end Go.Proofs.YtnfdbbjemlehnaaDoor
