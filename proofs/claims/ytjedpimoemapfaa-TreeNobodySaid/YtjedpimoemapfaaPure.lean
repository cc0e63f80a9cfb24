/- The plain law of the tree of winners: lists and numbers alone. -/
namespace Go.Proofs.Ytjedpimoemapfaa

/-- A leaf: a key, a tag, whether it holds them. -/
structure Lf where
  k : Int
  t : Int
  h : Bool

/-- Does a leaf hold a thing? -/
def hld (ls : List Lf) (i : Nat) : Bool := match ls[i]? with | some x => x.h | none => false

/-- Which of two leaves wins. -/
def bet (ls : List Lf) (i k : Nat) : Nat :=
  match ls[k]? with
  | none => i
  | some y => if y.h = false then i else
    match ls[i]? with
    | none => k
    | some x => if x.h = false then k else if y.k < x.k then k else i

theorem bet_or (ls : List Lf) (i k : Nat) : bet ls i k = i ∨ bet ls i k = k := by
  unfold bet
  split
  · exact .inl rfl
  · split
    · exact .inl rfl
    · split
      · exact .inr rfl
      · split
        · exact .inr rfl
        · split
          · exact .inr rfl
          · exact .inl rfl

theorem bet_congr (ls ls' : List Lf) (i k : Nat) (hi : ls[i]? = ls'[i]?) (hk : ls[k]? = ls'[k]?) : bet ls i k = bet ls' i k := by
  unfold bet; rw [hi, hk]

/-- All inner places but those on the way up from 'at' are right. -/
structure WB (ls : List Lf) (base : Nat) (ws : List Nat) (at' : Nat) : Prop where
  len : ws.length = 2 * base
  small : ∀ (c v : Nat), ws[c]? = some v → v < base
  leaf : ∀ i, i < base → ws[base + i]? = some i
  node : ∀ a, 1 ≤ a → a < base → (∀ j, a ≠ at' / 2 ^ j) → ∃ p q, ws[2 * a]? = some p ∧ ws[2 * a + 1]? = some q ∧ ws[a]? = some (bet ls p q)

def Wins (ls : List Lf) (base : Nat) (ws : List Nat) : Prop := WB ls base ws 0

theorem WB.wins {ls : List Lf} {base : Nat} {ws : List Nat} (h : WB ls base ws 0) : Wins ls base ws := h

theorem WB.get {ls : List Lf} {base : Nat} {ws : List Nat} {a : Nat} (h : WB ls base ws a) (c : Nat) (hc : c < 2 * base) : ∃ v, ws[c]? = some v ∧ v < base := by
  have hl := h.len
  refine ⟨ws[c], by simp [show c < ws.length by omega], ?_⟩
  exact h.small c _ (by simp [show c < ws.length by omega])

theorem Wins.node {ls : List Lf} {base : Nat} {ws : List Nat} (h : Wins ls base ws) (a : Nat) (h1 : 1 ≤ a) (h2 : a < base) :
    ∃ p q, ws[2 * a]? = some p ∧ ws[2 * a + 1]? = some q ∧ ws[a]? = some (bet ls p q) :=
  WB.node h a h1 h2 (fun j e => by rw [Nat.zero_div] at e; omega)

/-- What stands at a place is a leaf below it. -/
theorem Wins.under {ls : List Lf} {base : Nat} {ws : List Nat} (h : Wins ls base ws) :
    ∀ (d c : Nat), 1 ≤ c → c < 2 * base → 2 * base ≤ c + d → ∃ v, ws[c]? = some v ∧ ∃ j, c = (base + v) / 2 ^ j := by
  intro d
  induction d with
  | zero => intro c _ _ _; omega
  | succ d ih =>
    intro c h1 h2 h3
    by_cases hc : base ≤ c
    · exact ⟨c - base, by have := WB.leaf h (c - base) (by omega); rwa [show base + (c - base) = c by omega] at this, 0, by simp; omega⟩
    · obtain ⟨p, q, hp, hq, ha⟩ := h.node c h1 (by omega)
      obtain ⟨p', hp', jp, ep⟩ := ih (2 * c) (by omega) (by omega) (by omega)
      obtain ⟨q', hq', jq, eq'⟩ := ih (2 * c + 1) (by omega) (by omega) (by omega)
      rw [hp] at hp'; rw [hq] at hq'
      simp only [Option.some.injEq] at hp' hq'
      subst hp' hq'
      refine ⟨_, ha, ?_⟩
      rcases bet_or ls p q with e | e <;> rw [e]
      · exact ⟨jp + 1, by rw [Nat.pow_succ, ← Nat.div_div_eq_div_mul, ← ep]; omega⟩
      · exact ⟨jq + 1, by rw [Nat.pow_succ, ← Nat.div_div_eq_div_mul, ← eq']; omega⟩

theorem Wins.set {ls : List Lf} {base : Nat} {ws : List Nat} (h : Wins ls base ws) (i : Nat) (x : Lf) : WB (ls.set i x) base ws ((base + i) / 2) := by
  refine ⟨WB.len h, WB.small h, WB.leaf h, ?_⟩
  intro a h1 h2 hn
  obtain ⟨p, q, hp, hq, ha⟩ := h.node a h1 h2
  have key : ∀ c v, (c = 2 * a ∨ c = 2 * a + 1) → ws[c]? = some v → i ≠ v := by
    intro c v hc hv e
    obtain ⟨v', hv', j, ej⟩ := h.under (2 * base) c (by omega) (by omega) (by omega)
    rw [hv] at hv'
    simp only [Option.some.injEq] at hv'
    subst hv' e
    have hj : a = c / 2 := by omega
    apply hn j
    rw [hj, ej, Nat.div_div_eq_div_mul, Nat.div_div_eq_div_mul, Nat.mul_comm]
  refine ⟨p, q, hp, hq, ?_⟩
  rw [ha, bet_congr ls (ls.set i x) p q]
  · rw [List.getElem?_set_ne (key _ _ (.inl rfl) hp)]
  · rw [List.getElem?_set_ne (key _ _ (.inr rfl) hq)]

theorem WB.step {ls : List Lf} {base : Nat} {ws : List Nat} {a p q : Nat} (h : WB ls base ws a) (h1 : 1 ≤ a) (h2 : a < base) (hp : ws[2 * a]? = some p) (hq : ws[2 * a + 1]? = some q) :
    WB ls base (ws.set a (bet ls p q)) (a / 2) := by
  have hl := h.len
  refine ⟨by simpa using h.len, ?_, ?_, ?_⟩
  · intro c v hv
    by_cases hc : a = c
    · subst hc
      rw [List.getElem?_set_self (by omega)] at hv
      simp only [Option.some.injEq] at hv
      subst hv
      rcases bet_or ls p q with e | e <;> rw [e]
      · exact h.small _ _ hp
      · exact h.small _ _ hq
    · rw [List.getElem?_set_ne hc] at hv
      exact h.small _ _ hv
  · intro i hi
    rw [List.getElem?_set_ne (by omega)]
    exact h.leaf i hi
  · intro b hb1 hb2 hn
    by_cases hab : a = b
    · subst hab
      exact ⟨p, q, by rw [List.getElem?_set_ne (by omega)]; exact hp, by rw [List.getElem?_set_ne (by omega)]; exact hq, by rw [List.getElem?_set_self (by omega)]⟩
    · have hc : ∀ j, b ≠ a / 2 ^ j := by
        intro j e
        cases j with
        | zero => simp at e; exact hab e.symm
        | succ j => exact hn j (by rw [e, Nat.div_div_eq_div_mul, Nat.pow_succ, Nat.mul_comm])
      obtain ⟨p', q', hp', hq', ha'⟩ := h.node b hb1 hb2 hc
      have hn0 := hn 0
      simp at hn0
      exact ⟨p', q', by rw [List.getElem?_set_ne (by omega)]; exact hp', by rw [List.getElem?_set_ne (by omega)]; exact hq', by rw [List.getElem?_set_ne hab]; exact ha'⟩

/-- The winner among the leaves from lo on, below hi. -/
def Best (ls : List Lf) (lo hi v : Nat) : Prop :=
  lo ≤ v ∧ v < hi ∧ ∀ j x, lo ≤ j → j < hi → ls[j]? = some x → x.h = true → ∃ y, ls[v]? = some y ∧ y.h = true ∧ y.k ≤ x.k ∧ (j < v → y.k < x.k)

theorem Best.join {ls : List Lf} {lo mid hi p q : Nat} (hp : Best ls lo mid p) (hq : Best ls mid hi q) : Best ls lo hi (bet ls p q) := by
  obtain ⟨p1, p2, p3⟩ := hp
  obtain ⟨q1, q2, q3⟩ := hq
  have hb := bet_or ls p q
  refine ⟨by rcases hb with e | e <;> rw [e] <;> omega, by rcases hb with e | e <;> rw [e] <;> omega, ?_⟩
  intro j x h1 h2 hx hh
  by_cases hj : j < mid
  · obtain ⟨y, hy, hyh, hyk, hyl⟩ := p3 j x h1 hj hx hh
    unfold bet
    split
    · exact ⟨y, hy, hyh, hyk, hyl⟩
    · rename_i z hz
      by_cases hzh : z.h = false
      · rw [if_pos hzh]; exact ⟨y, hy, hyh, hyk, hyl⟩
      · rw [if_neg hzh, hy]
        simp only [hyh]
        by_cases hlt : z.k < y.k
        · rw [if_neg (by simp), if_pos hlt]; exact ⟨z, hz, by simpa using hzh, by omega, fun _ => by omega⟩
        · rw [if_neg (by simp), if_neg hlt]; exact ⟨y, hy, hyh, hyk, hyl⟩
  · obtain ⟨z, hz, hzh, hzk, hzl⟩ := q3 j x (by omega) h2 hx hh
    unfold bet
    rw [hz]
    simp only [hzh]
    rw [if_neg (by simp)]
    split
    · exact ⟨z, hz, hzh, hzk, hzl⟩
    · rename_i y hy
      by_cases hyh : y.h = false
      · rw [if_pos hyh]; exact ⟨z, hz, hzh, hzk, hzl⟩
      · rw [if_neg hyh]
        by_cases hlt : z.k < y.k
        · rw [if_pos hlt]; exact ⟨z, hz, hzh, hzk, hzl⟩
        · rw [if_neg hlt]; exact ⟨y, hy, by simpa using hyh, by omega, fun _ => by omega⟩

theorem Wins.best {ls : List Lf} {s : Nat} {ws : List Nat} (h : Wins ls (2 ^ s) ws) :
    ∀ (r d c : Nat), d + r = s → 2 ^ d ≤ c → c < 2 ^ (d + 1) → ∃ v, ws[c]? = some v ∧ Best ls ((c - 2 ^ d) * 2 ^ r) ((c - 2 ^ d + 1) * 2 ^ r) v := by
  intro r
  induction r with
  | zero =>
    intro d c hd h1 h2
    simp only [Nat.add_zero] at hd
    subst hd
    rw [Nat.pow_succ] at h2
    have := WB.leaf h (c - 2 ^ d) (by omega)
    rw [show 2 ^ d + (c - 2 ^ d) = c by omega] at this
    refine ⟨_, this, by simp, by simp, ?_⟩
    intro j x hj1 hj2 hx hh
    simp at hj1 hj2
    obtain rfl : j = c - 2 ^ d := by omega
    exact ⟨x, hx, hh, Int.le_refl _, fun h => by omega⟩
  | succ r ih =>
    intro d c hd h1 h2
    have hlt : c < 2 ^ s := Nat.lt_of_lt_of_le h2 (Nat.pow_le_pow_right (by omega) (by omega))
    have hpos : 0 < 2 ^ d := Nat.two_pow_pos d
    obtain ⟨p, q, hp, hq, ha⟩ := h.node c (by omega) hlt
    have e1 : 2 ^ (d + 1) = 2 * 2 ^ d := by rw [Nat.pow_succ]; omega
    have e2 : 2 ^ (d + 1 + 1) = 2 * 2 ^ (d + 1) := by rw [Nat.pow_succ]; omega
    obtain ⟨p', hp', bp⟩ := ih (d + 1) (2 * c) (by omega) (by omega) (by omega)
    obtain ⟨q', hq', bq⟩ := ih (d + 1) (2 * c + 1) (by omega) (by omega) (by omega)
    rw [hp] at hp'; rw [hq] at hq'
    simp only [Option.some.injEq] at hp' hq'
    subst hp' hq'
    refine ⟨_, ha, ?_⟩
    have e3 : 2 * c - 2 ^ (d + 1) = 2 * (c - 2 ^ d) := by omega
    have e4 : 2 * c + 1 - 2 ^ (d + 1) = 2 * (c - 2 ^ d) + 1 := by omega
    have e5 : 2 ^ (r + 1) = 2 * 2 ^ r := by rw [Nat.pow_succ]; omega
    rw [e3] at bp
    rw [e4] at bq
    rw [e5]
    rw [show (c - 2 ^ d) * (2 * 2 ^ r) = 2 * (c - 2 ^ d) * 2 ^ r by rw [← Nat.mul_assoc, Nat.mul_comm _ 2],
      show (c - 2 ^ d + 1) * (2 * 2 ^ r) = (2 * (c - 2 ^ d) + 1 + 1) * 2 ^ r by rw [← Nat.mul_assoc]; congr 1; omega]
    exact bp.join bq

/-- What stands at the top is the winner of all. -/
theorem Wins.top {ls : List Lf} {s : Nat} {ws : List Nat} (h : Wins ls (2 ^ s) ws) : ∃ v, ws[1]? = some v ∧ Best ls 0 (2 ^ s) v := by
  obtain ⟨v, hv, hb⟩ := h.best s 0 1 (by omega) (by simp) (by simp)
  exact ⟨v, hv, by simpa using hb⟩

/-- How many leaves hold a thing. -/
def cntH (ls : List Lf) : Nat := (ls.filter (·.h)).length

theorem cntH_le (ls : List Lf) : cntH ls ≤ ls.length := List.length_filter_le _ _

theorem cntH_set (ls : List Lf) (i : Nat) (x y : Lf) (h : ls[i]? = some y) :
    (cntH (ls.set i x) : Int) = cntH ls - (if y.h then 1 else 0) + (if x.h then 1 else 0) := by
  induction ls generalizing i with
  | nil => simp at h
  | cons z ls ih =>
    cases i with
    | zero =>
      simp at h; subst h
      simp only [cntH, List.set_cons_zero, List.filter_cons]
      cases z.h <;> cases x.h <;> simp <;> omega
    | succ i =>
      simp only [List.getElem?_cons_succ] at h
      have := ih i h
      simp only [cntH, List.set_cons_succ, List.filter_cons] at *
      cases z.h <;> simp <;> omega

theorem cntH_pos {ls : List Lf} (h : 0 < cntH ls) : ∃ (j : Nat) (x : Lf), ls[j]? = some x ∧ x.h = true := by
  unfold cntH at h
  obtain ⟨x, hx⟩ := List.exists_mem_of_length_pos h
  simp only [List.mem_filter] at hx
  obtain ⟨j, hj⟩ := List.getElem?_of_mem hx.1
  exact ⟨j, x, hj, hx.2⟩

theorem cntH_pos_of {ls : List Lf} {j : Nat} {x : Lf} (h : ls[j]? = some x) (hx : x.h = true) : 0 < cntH ls := by
  unfold cntH
  exact List.length_pos_of_mem (List.mem_filter.2 ⟨List.mem_of_getElem? h, hx⟩)

end Go.Proofs.Ytjedpimoemapfaa
