/- The plain law of orders: one set's entry after it was filled. -/
import Derived.Test.YtnfdbbjemlehnaaDoorLg
import Derived.Test.YtnfdbbjemlehnaaDoorM
namespace Go.Proofs.YtnfdbbjemlehnaaDoor

/-- The entry of a set. -/
def ent (T : List Pr) (s : Nat) : Pr := T[s]?.getD default

theorem ent_set_same {T : List Pr} {s : Nat} (h : s < T.length) (p : Pr) : ent (T.set s p) s = p := by simp [ent, h]
theorem ent_set_other {T : List Pr} {s r : Nat} (h : s ≠ r) (p : Pr) : ent (T.set s p) r = ent T r := by simp [ent, List.getElem?_set, h]

theorem fill1_other (gs es : List Pr) (set : Nat) (T : List Pr) (a r : Nat) (h : set ≠ r) : ent (fill1 gs es set T a) r = ent T r := by
  unfold fill1
  repeat' split
  · rfl
  · exact ent_set_other h _
  · rfl

theorem fill1_len (gs es : List Pr) (set : Nat) (T : List Pr) (a : Nat) : (fill1 gs es set T a).length = T.length := by
  unfold fill1
  repeat' split
  all_goals simp

theorem fillF_other (gs es : List Pr) (set r : Nat) (h : set ≠ r) : ∀ (f a : Nat) (T : List Pr), ent (fillF gs es set f a T) r = ent T r := by
  intro f
  induction f with
  | zero => intro a T; rfl
  | succ f ih => intro a T; rw [fillF, ih, fill1_other gs es set T a r h]

theorem fillF_len (gs es : List Pr) (set : Nat) : ∀ (f a : Nat) (T : List Pr), (fillF gs es set f a T).length = T.length := by
  intro f
  induction f with
  | zero => intro a T; rfl
  | succ f ih => intro a T; rw [fillF, ih, fill1_len]

/-- What a split costs by a table. -/
def splitC (gs es : List Pr) (T : List Pr) (set a : Nat) : Int := cap ((ent T a).t + (ent T (set - a)).t + stepF gs es a (set - a))

/-- An entry tells the least of the splits below n. -/
def LeastTo (gs es : List Pr) (set : Nat) (T0 : List Pr) (n : Nat) (p : Pr) : Prop :=
  (p.k = 0 ∧ (∀ a, 1 ≤ a → a < n → skipB es set a = true) ∧ p = ⟨0, 0⟩) ∨
  (∃ a, 1 ≤ a ∧ a < n ∧ p.k = (a : Int) ∧ skipB es set a = false ∧ p.t = splitC gs es T0 set a ∧ ∀ b, 1 ≤ b → b < n → skipB es set b = false → p.t ≤ splitC gs es T0 set b)

theorem fillF_least (gs es : List Pr) (set : Nat) (T0 : List Pr) (hl : set < T0.length) : ∀ (f a : Nat) (T : List Pr), 1 ≤ a → a + f = set → T.length = T0.length → (∀ r, set ≠ r → ent T r = ent T0 r) → LeastTo gs es set T0 a (ent T set) →
    LeastTo gs es set T0 set (ent (fillF gs es set f a T) set) := by
  intro f
  induction f with
  | zero => intro a T h1 h2 _ _ h; obtain rfl : a = set := (by omega); exact h
  | succ f ih =>
    intro a T h1 h2 h3 h4 h
    rw [fillF]
    refine ih (a + 1) _ (by omega) (by omega) (by rw [fill1_len, h3]) (fun r hr => by rw [fill1_other gs es set T a r hr, h4 r hr]) ?_
    have hc : costB gs es set T a = splitC gs es T0 set a := by
      unfold costB splitC
      have e1 := h4 a (by omega)
      have e2 := h4 (set - a) (by omega)
      unfold ent at e1 e2 ⊢
      rw [e1, e2]
    unfold fill1
    cases hsk : skipB es set a with
    | true =>
      simp only [if_true]
      rcases h with ⟨k0, hall, hp⟩ | ⟨b, b1, b2, b3, b4, b5, b6⟩
      · refine .inl ⟨k0, fun b hb1 hb2 => ?_, hp⟩
        rcases Nat.lt_or_ge b a with h | h
        · exact hall b hb1 h
        · obtain rfl : b = a := (by omega)
          exact hsk
      · exact .inr ⟨b, b1, by omega, b3, b4, b5, fun c c1 c2 c3 => by rcases Nat.lt_or_ge c a with h | h; exact b6 c c1 h c3; obtain rfl : c = a := (by omega); rw [hsk] at c3; simp at c3⟩
    | false =>
      simp only [Bool.false_eq_true, if_false]
      rw [hc]
      by_cases hcond : (T[set]?.getD default).k = 0 ∨ splitC gs es T0 set a < (T[set]?.getD default).t
      · rw [if_pos hcond, ent_set_same (by omega)]
        refine .inr ⟨a, h1, by omega, rfl, hsk, rfl, fun c c1 c2 c3 => ?_⟩
        rcases Nat.lt_or_ge c a with hca | hca
        · rcases h with ⟨k0, hall, hp⟩ | ⟨b, b1, b2, b3, b4, b5, b6⟩
          · rw [hall c c1 hca] at c3; simp at c3
          · rcases hcond with hk | hlt
            · have : (ent T set).k = 0 := hk
              omega
            · have h7 := b6 c c1 hca c3
              have : splitC gs es T0 set a < (ent T set).t := hlt
              show splitC gs es T0 set a ≤ _
              omega
        · obtain rfl : c = a := by omega
          exact Int.le_refl _
      · rw [if_neg hcond]
        have hk : ¬ (ent T set).k = 0 := fun e => hcond (.inl e)
        have ht : ¬ splitC gs es T0 set a < (ent T set).t := fun e => hcond (.inr e)
        rcases h with ⟨k0, _⟩ | ⟨b, b1, b2, b3, b4, b5, b6⟩
        · exact absurd k0 hk
        · exact .inr ⟨b, b1, by omega, b3, b4, b5, fun c c1 c2 c3 => by rcases Nat.lt_or_ge c a with h | h; exact b6 c c1 h c3; obtain rfl : c = a := (by omega); omega⟩
end Go.Proofs.YtnfdbbjemlehnaaDoor
