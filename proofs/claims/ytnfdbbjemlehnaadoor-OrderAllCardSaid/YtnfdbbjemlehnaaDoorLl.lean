/- The plain law of orders: the shape that is built may be, and costs what the table tells; its leaves. -/
import Derived.Test.YtnfdbbjemlehnaaDoorLk
namespace Go.Proofs.YtnfdbbjemlehnaaDoor

theorem sub_of_and {a S : Nat} (h : (a &&& S) = a) : Sub a S := fun i hi => by
  have := congrArg (fun z => z.testBit i) h
  simp only [Nat.testBit_and, hi, Bool.true_and] at this
  exact this

theorem skip_not {es : List Pr} {S a : Nat} (h : skipB es S a = false) : Sub a S ∧ mayF es a (S - a) = true := by
  unfold skipB at h
  simp only [Bool.or_eq_false_iff, Bool.not_eq_false', decide_eq_true_eq] at h
  exact ⟨sub_of_and h.1.1, h.2⟩

theorem rest_disj {S a : Nat} (hS : S < 64) (h : Sub a S) : a &&& (S - a) = 0 ∧ a ||| (S - a) = S := by
  have a6 := sub_lt h hS
  obtain ⟨n1, n2, _⟩ := sub_num S hS a a6 (sub_and h)
  rw [n1]
  refine ⟨?_, n2⟩
  apply Nat.eq_of_testBit_eq
  intro i
  rw [Nat.testBit_and, diff_bit _ _ hS]
  cases a.testBit i <;> simp

theorem buildF_eq (T : List Pr) (f S : Nat) : buildF T (f + 1) S = if (ent T S).k = 0 then .node (tz S) [] else .node (-1) [buildF T f (ent T S).k.toNat, buildF T f (S - (ent T S).k.toNat)] := rfl

/-- What is known of an entry of the table. -/
theorem entry_cases (gs es : List Pr) (n6 : gs.length ≤ 6) {S : Nat} (h1 : 1 ≤ S) (h2 : S < 2 ^ gs.length) :
    ((ent (bestT gs es) S).k = 0 ∧ (ent (bestT gs es) S).t = 0 ∧ S = 2 ^ tz S ∧ tz S < gs.length) ∨
    (∃ a b : Nat, (ent (bestT gs es) S).k = (a : Int) ∧ a ≠ 0 ∧ b ≠ 0 ∧ S - a = b ∧ a &&& b = 0 ∧ a ||| b = S ∧ a < S ∧ b < S ∧ mayF es a b = true ∧ (ent (bestT gs es) S).t = cap ((ent (bestT gs es) a).t + ((ent (bestT gs es) b).t + stepF gs es a b))) := by
  have h6 : 2 ^ gs.length ≤ 2 ^ 6 := Nat.pow_le_pow_right (by decide) n6
  have s6 : S < 64 := by omega
  rcases best_least gs es n6 S h1 h2 with ⟨k0, hall, hp⟩ | ⟨a, a1, a2, a3, a4, a5, _⟩
  · have hone : S = 2 ^ tz S := by
      apply Classical.byContradiction
      intro hne
      obtain ⟨a, x1, x2, x3⟩ := split_ex es s6 (by omega) hne
      rw [hall a x1 x2] at x3
      simp at x3
    refine .inl ⟨k0, by rw [hp], hone, ?_⟩
    rw [hone] at h2
    exact (Nat.pow_lt_pow_iff_right (by decide)).mp h2
  · obtain ⟨hs, hm⟩ := skip_not a4
    obtain ⟨d1, d2⟩ := rest_disj s6 hs
    exact .inr ⟨a, S - a, a3, by omega, by omega, rfl, d1, d2, a2, by omega, hm, by rw [a5, splitC, Int.add_assoc]⟩

theorem build_cost (gs es : List Pr) (n6 : gs.length ≤ 6) : ∀ (f S : Nat), 1 ≤ S → S ≤ f → S < 2 ^ gs.length → shapeF gs es (buildF (bestT gs es) f S) = (S, (ent (bestT gs es) S).t, true) := by
  intro f
  induction f with
  | zero => intro S h1 h2; omega
  | succ f ih =>
    intro S h1 hf h2
    rw [buildF_eq]
    rcases entry_cases gs es n6 h1 h2 with ⟨k0, t0, hone, htz⟩ | ⟨a, b, ka, a0, b0, hb, d1, d2, la, lb, hm, ht⟩
    · rw [if_pos k0, t0, shapeF]
      have hb : bitN ((tz S : Nat) : Int) = S := by
        unfold bitN
        rw [if_neg (by omega)]
        simp only [Int.toNat_natCast]
        exact hone.symm
      rw [hb]
      simp only [Prod.mk.injEq, decide_eq_true_eq, true_and]
      omega
    · rw [if_neg (by rw [ka]; omega), ka]
      simp only [Int.toNat_natCast, hb]
      rw [shapeF, if_neg (by simp), ih a (by omega) (by omega) (by omega), ih b (by omega) (by omega) (by omega)]
      simp only [d1, d2, hm, ht]
      simp
end Go.Proofs.YtnfdbbjemlehnaaDoor
