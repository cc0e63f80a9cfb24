/- The plain law of orders: what 'joined' tells is that the leaves are connected. -/
import Derived.Test.YtnfdbbjemlehnaaDoorLd
namespace Go.Proofs.YtnfdbbjemlehnaaDoor

theorem low_fact : ∀ l : Nat, l < 64 → 0 < l → lowN l = 2 ^ tz l ∧ tz l < 6 ∧ l.testBit (tz l) = true ∧ ∀ i, i < 6 → (l &&& (l - 1)).testBit i = (l.testBit i && !decide (tz l = i)) := by decide +kernel

theorem less_bit {l : Nat} (hl : l < 64) (h0 : 0 < l) (i : Nat) : (l &&& (l - 1)).testBit i = (l.testBit i && !decide (tz l = i)) := by
  by_cases hi : i < 6
  · exact (low_fact l hl h0).2.2.2 i hi
  · rw [high_bit hl (by omega), high_bit (Nat.lt_of_le_of_lt Nat.and_le_left hl) (by omega)]; rfl

theorem grow_fact (es : List Pr) (hv : Nat) (hh : hv < 64) : ∀ (f l m : Nat), m < 64 → l < 64 → l ≤ f → Sub hv m → (∀ i, l.testBit i = true → m.testBit i = false) → Conn es m →
    Sub m (growF es hv f l m) ∧ Sub (growF es hv f l m) (m ||| l) ∧ Conn es (growF es hv f l m) ∧ (∀ i, l.testBit i = true → edgeF es hv (2 ^ i) = true → (growF es hv f l m).testBit i = true) := by
  intro f
  induction f with
  | zero =>
    intro l m hm hl hf hs hd hc
    obtain rfl : l = 0 := by omega
    exact ⟨Sub.refl _, fun i hi => by rw [or_bit]; simp [growF] at hi; simp [hi], hc, fun i hi => by simp at hi⟩
  | succ f ih =>
    intro l m hm hl hf hs hd hc
    unfold growF
    by_cases h0 : l = 0
    · subst h0
      rw [if_pos rfl]
      exact ⟨Sub.refl _, fun i hi => by rw [or_bit]; simp [hi], hc, fun i hi => by simp at hi⟩
    · rw [if_neg h0]
      obtain ⟨e1, e2, e3, _⟩ := low_fact l hl (by omega)
      have hb := less_bit hl (by omega : 0 < l)
      have h2 := (less_bits l hl (by omega)).2
      rw [e1]
      generalize tz l = t at *
      have p6 : 2 ^ t < 64 := Nat.pow_lt_pow_right (a := 2) (n := 6) (by decide) e2
      cases hed : edgeF es hv (2 ^ t) with
      | true =>
        rw [if_pos rfl]
        have hmt := hd t e3
        have h3 : m ||| 2 ^ t < 64 := or_lt (n := 6) hm p6
        have hc2 : Conn es (m ||| 2 ^ t) := conn_join hm e2 hc hmt (edge_mono hh hm p6 p6 hs (Sub.refl _) hed)
        have hs2 : Sub m (m ||| 2 ^ t) := fun i hi => by rw [or_bit, hi]; rfl
        obtain ⟨r1, r2, r3, r4⟩ := ih (l &&& (l - 1)) (m ||| 2 ^ t) h3 (by omega) (by omega) (hs.trans hs2) (fun i hi => by
          rw [hb] at hi
          simp at hi
          rw [or_bit, hd i hi.1, pow_bit]
          simpa using hi.2) hc2
        refine ⟨hs2.trans r1, fun i hi => ?_, r3, fun i hi he => ?_⟩
        · have := r2 i hi
          rw [or_bit, or_bit, hb, pow_bit] at this
          rw [or_bit]
          simp at this
          rcases this with (h | h) | h
          · simp [h]
          · subst h; simp [e3]
          · simp [h.1]
        · by_cases hti : t = i
          · subst hti; exact r1 t (by rw [or_bit, pow_bit]; simp)
          · exact r4 i (by rw [hb, hi]; simp [hti]) he
      | false =>
        rw [if_neg (by simp)]
        obtain ⟨r1, r2, r3, r4⟩ := ih (l &&& (l - 1)) m hm (by omega) (by omega) hs (fun i hi => by
          rw [hb] at hi
          simp at hi
          exact hd i hi.1) hc
        refine ⟨r1, fun i hi => ?_, r3, fun i hi he => ?_⟩
        · have := r2 i hi
          rw [or_bit, hb] at this
          rw [or_bit]
          simp at this
          rcases this with h | h
          · simp [h]
          · simp [h.1]
        · by_cases hti : t = i
          · subst hti; rw [hed] at he; simp at he
          · exact r4 i (by rw [hb, hi]; simp [hti]) he
end Go.Proofs.YtnfdbbjemlehnaaDoor
