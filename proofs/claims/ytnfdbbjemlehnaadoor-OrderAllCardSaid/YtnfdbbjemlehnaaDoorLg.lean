/- The plain law of orders: each set of two or more leaves has a split that may be. -/
import Derived.Test.YtnfdbbjemlehnaaDoorLf
namespace Go.Proofs.YtnfdbbjemlehnaaDoor

theorem sub_num : ∀ S : Nat, S < 64 → ∀ a : Nat, a < 64 → (a &&& S) = a → S - a = diffN S a ∧ (a ||| diffN S a) = S ∧ a ≤ S := by decide +kernel

theorem sub_and {a S : Nat} (h : Sub a S) : (a &&& S) = a := by
  apply Nat.eq_of_testBit_eq
  intro i
  rw [Nat.testBit_and]
  cases ha : a.testBit i with
  | false => rfl
  | true => rw [h i ha]; rfl

theorem low_and {a S : Nat} (hS : S < 64) (h0 : S ≠ 0) (hb : a.testBit (tz S) = true) : ((a &&& lowN S) == 0) = false := by
  obtain ⟨e1, _⟩ := low_fact S hS (by omega)
  rw [e1]
  have h : (a &&& 2 ^ tz S).testBit (tz S) = true := by rw [Nat.testBit_and, hb, pow_bit]; simp
  have hne : a &&& 2 ^ tz S ≠ 0 := by intro e; rw [e] at h; simp at h
  simpa using hne

theorem split_of {es : List Pr} {S a : Nat} (hS : S < 64) (h0 : S ≠ 0) (hs : Sub a S) (hb : a.testBit (tz S) = true) (hne : a ≠ S) (hm : mayF es a (diffN S a) = true) : 1 ≤ a ∧ a < S ∧ skipB es S a = false := by
  have ha := sub_lt hs hS
  obtain ⟨n1, n2, n3⟩ := sub_num S hS a ha (sub_and hs)
  refine ⟨?_, by omega, ?_⟩
  · rcases Nat.eq_zero_or_pos a with h | h
    · subst h; simp at hb
    · exact h
  · unfold skipB
    rw [n1, hm, low_and hS h0 hb, sub_and hs]
    simp

theorem split_conn {es : List Pr} {S : Nat} (hS : S < 64) (h0 : S ≠ 0) (hc : Conn es S) : ∀ (n T : Nat), S - T ≤ n → Sub T S → T ≠ S → T.testBit (tz S) = true → Conn es T → ∃ a, 1 ≤ a ∧ a < S ∧ skipB es S a = false := by
  intro n
  induction n with
  | zero =>
    intro T hn hs hne hb _
    have := (sub_num S hS T (sub_lt hs hS) (sub_and hs)).2.2
    omega
  | succ n ih =>
    intro T hn hs hne hb hcT
    have t6 := sub_lt hs hS
    have d6 := (diff_bits S hS T t6).2
    have hT0 : T ≠ 0 := by intro e; subst e; simp at hb
    have he := hc T hs hT0 hne
    rw [edge_iff es _ _ t6 d6] at he
    obtain ⟨i, j, hi, hj, hA⟩ := he
    have hj6 : j < 6 := by
      rcases Nat.lt_or_ge j 6 with h | h
      · exact h
      · rw [high_bit d6 h] at hj; simp at hj
    have p6 : 2 ^ j < 64 := Nat.pow_lt_pow_right (a := 2) (n := 6) (by decide) hj6
    have hej : edgeF es T (2 ^ j) = true := (edge_iff es _ _ t6 p6).mpr ⟨i, j, hi, by rw [pow_bit]; simp, hA⟩
    have hjj := hj
    rw [diff_bit _ _ hS] at hjj
    simp at hjj
    have hcT' := conn_join t6 hj6 hcT hjj.2 hej
    have hs' : Sub (T ||| 2 ^ j) S := by
      intro k hk
      rw [or_bit, pow_bit] at hk
      simp at hk
      rcases hk with hk | hk
      · exact hs k hk
      · subst hk; exact hjj.1
    by_cases hw : (T ||| 2 ^ j) = S
    · refine ⟨T, split_of hS h0 hs hb hne ?_⟩
      have hd : diffN S T = 2 ^ j := by
        apply Nat.eq_of_testBit_eq
        intro k
        rw [diff_bit _ _ hS, ← hw, or_bit, pow_bit]
        by_cases hk : j = k
        · subst hk; simp [hjj.2]
        · simp [hk]
      unfold mayF
      rw [hd, hw, if_pos ((joined_iff es S hS h0).mpr hc), (joined_iff es T t6 hT0).mpr hcT, (joined_iff es _ p6 (Nat.ne_of_gt (Nat.pow_pos (by decide)))).mpr (conn_one es j)]
      rfl
    · have hlt : T < (T ||| 2 ^ j) := by
        have h1 : T ≤ (T ||| 2 ^ j) := Nat.left_le_or
        rcases Nat.lt_or_ge T (T ||| 2 ^ j) with h | h
        · exact h
        · have e : T = (T ||| 2 ^ j) := by omega
          have := hjj.2
          rw [e, or_bit, pow_bit] at this
          simp at this
      have hle := (sub_num S hS _ (sub_lt hs' hS) (sub_and hs')).2.2
      exact ih _ (by omega) hs' hw (by rw [or_bit, hb]; rfl) hcT'

theorem split_ex (es : List Pr) {S : Nat} (hS : S < 64) (h0 : S ≠ 0) (h1 : S ≠ 2 ^ tz S) : ∃ a, 1 ≤ a ∧ a < S ∧ skipB es S a = false := by
  obtain ⟨e1, e2, e3, _⟩ := low_fact S hS (by omega)
  by_cases hc : Conn es S
  · refine split_conn hS h0 hc _ (2 ^ tz S) (Nat.le_refl _) ?_ (Ne.symm h1) (by rw [pow_bit]; simp) (conn_one es _)
    intro i hi
    rw [pow_bit] at hi
    have := of_decide_eq_true hi
    subst this
    exact e3
  · have hj : joinedF es S = false := by
      cases h : joinedF es S with
      | false => rfl
      | true => exact absurd ((joined_iff es S hS h0).mp h) hc
    obtain ⟨T, hT⟩ := Classical.not_forall.mp hc
    simp only [Classical.not_imp] at hT
    obtain ⟨hs, hT0, hne, he⟩ := hT
    have t6 := sub_lt hs hS
    obtain ⟨n1, n2, n3⟩ := sub_num S hS T t6 (sub_and hs)
    have d6 := (diff_bits S hS T t6).2
    have he : edgeF es T (diffN S T) = false := by simpa using he
    cases hb : T.testBit (tz S) with
    | true =>
      refine ⟨T, split_of hS h0 hs hb hne ?_⟩
      unfold mayF
      rw [n2, hj, he]
      rfl
    | false =>
      have hsd : Sub (diffN S T) S := by intro i hi; rw [diff_bit _ _ hS] at hi; simp at hi; exact hi.1
      have hdd : diffN S (diffN S T) = T := by
        apply Nat.eq_of_testBit_eq
        intro k
        rw [diff_bit _ _ hS, diff_bit _ _ hS]
        cases hk : T.testBit k with
        | true => rw [hs k hk]; rfl
        | false => cases S.testBit k <;> rfl
      refine ⟨diffN S T, split_of hS h0 hsd (by rw [diff_bit _ _ hS, e3, hb]; rfl) ?_ ?_⟩
      · intro e
        obtain ⟨k, hk⟩ := ne_zero_bit hT0
        have := diff_bit S T hS k
        rw [e, hs k hk, hk] at this
        simp at this
      · rw [hdd]
        unfold mayF
        rw [Nat.or_comm, n2, hj, edgeF_symm, he]
        rfl
end Go.Proofs.YtnfdbbjemlehnaaDoor
