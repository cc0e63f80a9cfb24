/- The plain law of orders: no shape that may be costs less than the table tells. -/
import Derived.Test.YtnfdbbjemlehnaaDoorLj
namespace Go.Proofs.YtnfdbbjemlehnaaDoor

theorem entry_le {gs es : List Pr} (n6 : gs.length ≤ 6) {a b : Nat} (ha : a < 2 ^ gs.length) (hb : b < 2 ^ gs.length) (ha0 : a ≠ 0) (hb0 : b ≠ 0) (hab : a &&& b = 0) (hm : mayF es a b = true) :
    (ent (bestT gs es) (a ||| b)).t ≤ cap ((ent (bestT gs es) a).t + ((ent (bestT gs es) b).t + stepF gs es a b)) := by
  have h6 : 2 ^ gs.length ≤ 2 ^ 6 := Nat.pow_le_pow_right (by decide) n6
  have a6 : a < 64 := by omega
  have b6 : b < 64 := by omega
  have hs := or_lt ha hb
  have s6 : a ||| b < 64 := by omega
  have h0 : a ||| b ≠ 0 := by
    have : a ≤ a ||| b := Nat.left_le_or
    omega
  have L := best_least gs es n6 (a ||| b) (by omega) hs
  obtain ⟨d1, d2⟩ := disj_sub a6 b6 hab
  have sa : Sub a (a ||| b) := fun i hi => by rw [or_bit, hi]; rfl
  have sb : Sub b (a ||| b) := fun i hi => by rw [or_bit, hi]; simp
  have na : a ≠ a ||| b := by intro e; rw [← e] at d1; omega
  have nb : b ≠ a ||| b := by intro e; rw [← e] at d2; omega
  obtain ⟨e1, e2, e3, _⟩ := low_fact _ s6 (by omega)
  rw [or_bit, Bool.or_eq_true] at e3
  rcases e3 with e3 | e3
  · have hd : diffN (a ||| b) a = b := by rw [← (sub_num _ s6 a a6 (sub_and sa)).1, d1]
    obtain ⟨x1, x2, x3⟩ := split_of s6 h0 sa e3 na (by rw [hd]; exact hm)
    rcases L with ⟨_, L, _⟩ | ⟨c, _, _, _, _, _, L⟩
    · rw [L a x1 x2] at x3; simp at x3
    · have := L a x1 x2 x3
      unfold splitC at this
      rw [d1, Int.add_assoc] at this
      exact this
  · have hd : diffN (a ||| b) b = a := by rw [← (sub_num _ s6 b b6 (sub_and sb)).1, d2]
    obtain ⟨x1, x2, x3⟩ := split_of s6 h0 sb e3 nb (by rw [hd, mayF_symm]; exact hm)
    rcases L with ⟨_, L, _⟩ | ⟨c, _, _, _, _, _, L⟩
    · rw [L b x1 x2] at x3; simp at x3
    · have := L b x1 x2 x3
      unfold splitC at this
      rw [d2, stepF_symm, Int.add_comm (ent (bestT gs es) b).t, Int.add_assoc] at this
      exact this

theorem shape_ge (gs es : List Pr) (n6 : gs.length ≤ 6) : ∀ (s : Sh) (a : Nat) (x : Int), shapeF gs es s = (a, x, true) → a ≠ 0 ∧ a < 2 ^ gs.length ∧ (ent (bestT gs es) a).t ≤ x := by
  intro s
  refine Sh.ind (P := fun s => ∀ (a : Nat) (x : Int), shapeF gs es s = (a, x, true) → a ≠ 0 ∧ a < 2 ^ gs.length ∧ (ent (bestT gs es) a).t ≤ x) ?_ s
  intro lf l ih a x h
  match l, ih, h with
  | [], _, h =>
    rw [shapeF] at h
    simp only [Prod.mk.injEq, decide_eq_true_eq] at h
    obtain ⟨rfl, rfl, h1, h2⟩ := h
    obtain ⟨e1, e2⟩ := bitN_pow h1 h2 n6
    have hlt := bitN_below h1 h2 n6
    have hne : bitN lf ≠ 0 := by rw [e1]; exact Nat.ne_of_gt (Nat.pow_pos (by decide))
    refine ⟨hne, hlt, ?_⟩
    rcases best_least gs es n6 (bitN lf) (by omega) hlt with ⟨_, _, L⟩ | ⟨c, c1, c2, _, c3, _⟩
    · rw [L]; exact Int.le_refl _
    · rw [e1] at c2 c3
      rw [one_skip es _ e2 c c1 c2] at c3
      simp at c3
  | [p, q], ih, h =>
    rw [shapeF] at h
    split at h
    · simp at h
    · generalize hp : shapeF gs es p = P at h
      generalize hq : shapeF gs es q = Q at h
      obtain ⟨A, y, oa⟩ := P
      obtain ⟨B, z, ob⟩ := Q
      cases oa <;> cases ob <;> simp only at h
      · simp at h
      · simp at h
      · simp at h
      · split at h
        · simp at h
        · rename_i hc
          simp only [Prod.mk.injEq, and_true] at h
          obtain ⟨rfl, rfl⟩ := h
          simp at hc
          obtain ⟨a1, a2, a3⟩ := ih p (by simp) A y hp
          obtain ⟨b1, b2, b3⟩ := ih q (by simp) B z hq
          have hor : A ≤ A ||| B := Nat.left_le_or
          refine ⟨by omega, or_lt a2 b2, Int.le_trans (entry_le n6 a2 b2 a1 b1 hc.1 hc.2) (cap_mono (by omega))⟩
  | [_], _, h => simp [shapeF] at h
  | _ :: _ :: _ :: _, _, h => simp [shapeF] at h
end Go.Proofs.YtnfdbbjemlehnaaDoor
