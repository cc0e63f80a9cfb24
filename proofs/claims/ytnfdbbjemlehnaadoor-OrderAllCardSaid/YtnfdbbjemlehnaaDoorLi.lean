/- The plain law of orders: the table tells the least cost by splits. -/
import Derived.Test.YtnfdbbjemlehnaaDoorLh
namespace Go.Proofs.YtnfdbbjemlehnaaDoor

theorem LeastTo.congr {gs es : List Pr} {set n : Nat} {T T' : List Pr} {p : Pr} (hn : n ≤ set) (h : ∀ r, r < set → ent T r = ent T' r) (k : LeastTo gs es set T n p) : LeastTo gs es set T' n p := by
  have hc : ∀ a, 1 ≤ a → a < n → splitC gs es T set a = splitC gs es T' set a := by
    intro a h1 h2
    unfold splitC
    rw [h a (by omega), h (set - a) (by omega)]
  rcases k with k | ⟨a, a1, a2, a3, a4, a5, a6⟩
  · exact .inl k
  · exact .inr ⟨a, a1, a2, a3, a4, by rw [← hc a a1 a2]; exact a5, fun b b1 b2 b3 => by rw [← hc b b1 b2]; exact a6 b b1 b2 b3⟩

theorem tabF_least (gs es : List Pr) : ∀ (f set : Nat) (T : List Pr), 1 ≤ set → set + f ≤ 64 → T.length = 64 → (∀ r, 1 ≤ r → r < set → LeastTo gs es r T r (ent T r)) → (∀ r, set ≤ r → ent T r = ⟨0, 0⟩) →
    ∀ r, 1 ≤ r → r < set + f → LeastTo gs es r (tabF gs es f set T) r (ent (tabF gs es f set T) r) := by
  intro f
  induction f with
  | zero => intro set T _ _ _ h _ r r1 r2; exact h r r1 r2
  | succ f ih =>
    intro set T h1 h2 h3 h h0 r r1 r2
    rw [tabF]
    have hoth := fun r (hr : set ≠ r) => fillF_other gs es set r hr (set - 1) 1 T
    refine ih (set + 1) _ (by omega) (by omega) (by rw [fillF_len, h3]) ?_ ?_ r r1 (by omega)
    · intro s s1 s2
      by_cases hs : s = set
      · subst hs
        have := fillF_least gs es s T (by omega) (s - 1) 1 T (Nat.le_refl _) (by omega) rfl (fun _ _ => rfl) (.inl ⟨by rw [h0 s (Nat.le_refl _)], fun a a1 a2 => by omega, h0 s (Nat.le_refl _)⟩)
        exact this.congr (Nat.le_refl _) (fun r hr => (hoth r (by omega)).symm)
      · rw [hoth s (Ne.symm hs)]
        exact (h s s1 (by omega)).congr (Nat.le_refl _) (fun r hr => (hoth r (by omega)).symm)
    · intro s hs
      rw [hoth s (by omega)]
      exact h0 s (by omega)

theorem best_least (gs es : List Pr) (h6 : gs.length ≤ 6) : ∀ r, 1 ≤ r → r < 2 ^ gs.length → LeastTo gs es r (bestT gs es) r (ent (bestT gs es) r) := by
  intro r r1 r2
  have hp : 2 ^ gs.length ≤ 2 ^ 6 := Nat.pow_le_pow_right (by decide) h6
  refine tabF_least gs es (2 ^ gs.length - 1) 1 _ (Nat.le_refl _) (by omega) (by simp) (fun s s1 s2 => by omega) (fun s _ => ?_) r r1 (by omega)
  unfold ent
  rw [List.getElem?_replicate]
  split <;> rfl
end Go.Proofs.YtnfdbbjemlehnaaDoor
