/- Merging, on lists alone: again and again the head that the scan finds. -/
import Derived.Test.YtjedpimoemapfaaScan
namespace Go.Proofs.Ytjedpimoemapfaa

structure Pr where
  k : Int
  t : Int

def leafAt (ps : List Pr) (j : Nat) : Lf := match ps[j]? with | some p => ⟨p.k, p.t, true⟩ | none => ⟨0, 0, false⟩

def total (rows : List (List Pr)) : Nat := (rows.map List.length).sum

/-- The heads behind what has been taken of each list. -/
def heads (rows : List (List Pr)) (cs : List Nat) : List Lf := List.zipWith leafAt rows cs

def mgc (rows : List (List Pr)) : Nat → List Nat → List Pr
  | 0, _ => []
  | n + 1, cs => match scan (heads rows cs) rows.length with
    | none => []
    | some v => match rows[v]? with
      | none => []
      | some ps => match cs[v]? with
        | none => []
        | some c => match ps[c]? with
          | none => []
          | some p => p :: mgc rows n (cs.set v (c + 1))

/-- What has been taken of each list is no more than there is. -/
structure CsOk (rows : List (List Pr)) (cs : List Nat) : Prop where
  len : cs.length = rows.length
  le : ∀ (i c : Nat) (ps : List Pr), cs[i]? = some c → rows[i]? = some ps → c ≤ ps.length

def mgr (rows : List (List Pr)) (cs : List Nat) : List Pr := mgc rows (total rows - cs.sum) cs

theorem heads_len {rows : List (List Pr)} {cs : List Nat} (h : CsOk rows cs) : (heads rows cs).length = rows.length := by
  simp [heads, h.len]

theorem heads_at {rows : List (List Pr)} {cs : List Nat} {i c : Nat} {ps : List Pr} (h1 : rows[i]? = some ps) (h2 : cs[i]? = some c) : (heads rows cs)[i]? = some (leafAt ps c) := by
  simp [heads, List.getElem?_zipWith, h1, h2]

theorem sum_le (rows : List (List Pr)) (cs : List Nat) (h : CsOk rows cs) : cs.sum ≤ total rows := by
  obtain ⟨h1, h2⟩ := h
  induction rows generalizing cs with
  | nil => cases cs with
    | nil => simp [total]
    | cons c cs => simp at h1
  | cons ps rows ih =>
    cases cs with
    | nil => simp at h1
    | cons c cs =>
      have := ih cs (by simpa using h1) (fun i c' ps' hc hp => h2 (i + 1) c' ps' (by simpa using hc) (by simpa using hp))
      have h0 := h2 0 c ps (by simp) (by simp)
      simp only [total, List.map_cons, List.sum_cons] at *
      omega

theorem sum_set (cs : List Nat) (v c : Nat) (h : cs[v]? = some c) : (cs.set v (c + 1)).sum = cs.sum + 1 := by
  induction cs generalizing v with
  | nil => simp at h
  | cons x cs ih =>
    cases v with
    | zero => simp at h; subst h; simp; omega
    | succ v => simp at h; simp [ih v h]; omega

theorem CsOk.set {rows : List (List Pr)} {cs : List Nat} (h : CsOk rows cs) {v c : Nat} {ps : List Pr} (h1 : rows[v]? = some ps) (h2 : cs[v]? = some c) (hc : c < ps.length) : CsOk rows (cs.set v (c + 1)) := by
  refine ⟨by simpa using h.len, ?_⟩
  intro i c' ps' hc' hp'
  by_cases e : v = i
  · subst e
    have hv : v < cs.length := by rcases Nat.lt_or_ge v cs.length with h | h; exact h; simp [List.getElem?_eq_none h] at h2
    rw [List.getElem?_set_self hv] at hc'
    rw [h1] at hp'
    simp only [Option.some.injEq] at hc' hp'
    subst hp'; omega
  · rw [List.getElem?_set_ne e] at hc'
    exact h.le i c' ps' hc' hp'

/-- The head that the scan finds is there. -/
theorem scan_heads {rows : List (List Pr)} {cs : List Nat} (h : CsOk rows cs) {n v : Nat} (hv : scan (heads rows cs) n = some v) : ∃ ps c p, rows[v]? = some ps ∧ cs[v]? = some c ∧ ps[c]? = some p ∧ c < ps.length ∧ v < n := by
  obtain ⟨hn, y, hy, hyh⟩ := scan_some _ _ _ hv
  have hl : v < (heads rows cs).length := by rcases Nat.lt_or_ge v (heads rows cs).length with h | h; exact h; simp [List.getElem?_eq_none h] at hy
  rw [heads_len h] at hl
  have hlc : v < cs.length := by rw [h.len]; exact hl
  have h1 : rows[v]? = some rows[v] := by simp [hl]
  have h2 : cs[v]? = some cs[v] := by simp [hlc]
  have h3 := heads_at h1 h2
  rw [hy] at h3
  simp only [Option.some.injEq] at h3
  subst h3
  unfold leafAt at hyh
  split at hyh
  · rename_i p hp
    refine ⟨_, _, p, h1, h2, hp, ?_, hn⟩
    rcases Nat.lt_or_ge cs[v] rows[v].length with h | h
    · exact h
    · simp [List.getElem?_eq_none h] at hp
  · simp at hyh

theorem mgr_none {rows : List (List Pr)} {cs : List Nat} (hs : scan (heads rows cs) rows.length = none) : mgr rows cs = [] := by
  unfold mgr
  cases total rows - cs.sum with
  | zero => rfl
  | succ n => simp [mgc, hs]

theorem mgr_some {rows : List (List Pr)} {cs : List Nat} (h : CsOk rows cs) {v c : Nat} {ps : List Pr} {p : Pr} (hs : scan (heads rows cs) rows.length = some v) (h1 : rows[v]? = some ps) (h2 : cs[v]? = some c) (h3 : ps[c]? = some p) :
    mgr rows cs = p :: mgr rows (cs.set v (c + 1)) := by
  have hc : c < ps.length := by rcases Nat.lt_or_ge c ps.length with h | h; exact h; simp [List.getElem?_eq_none h] at h3
  have h4 := sum_le _ _ (h.set h1 h2 hc)
  rw [sum_set cs v c h2] at h4
  unfold mgr
  rw [sum_set cs v c h2]
  rw [show total rows - cs.sum = (total rows - (cs.sum + 1)) + 1 by omega]
  simp [mgc, hs, h1, h2, h3]

/-- If no list has a head, all has been taken. -/
theorem scan_all {rows : List (List Pr)} {cs : List Nat} (h : CsOk rows cs) (hs : scan (heads rows cs) rows.length = none) : cs.sum = total rows := by
  have key : ∀ (i c : Nat) (ps : List Pr), cs[i]? = some c → rows[i]? = some ps → c = ps.length := by
    intro i c ps hc hp
    have hle := h.le i c ps hc hp
    rcases Nat.lt_or_ge c ps.length with h' | h'
    · have hi : i < rows.length := by rcases Nat.lt_or_ge i rows.length with h | h; exact h; simp [List.getElem?_eq_none h] at hp
      have := scan_none _ _ hs i _ hi (heads_at hp hc)
      simp [leafAt, h'] at this
    · omega
  have h1 := h.len
  clear hs h
  induction rows generalizing cs with
  | nil => cases cs with
    | nil => simp [total]
    | cons c cs => simp at h1
  | cons ps rows ih =>
    cases cs with
    | nil => simp at h1
    | cons c cs =>
      have := ih (cs := cs) (fun i c' ps' hc hp => key (i + 1) c' ps' (by simpa using hc) (by simpa using hp)) (by simpa using h1)
      have h0 := key 0 c ps (by simp) (by simp)
      rw [show total (ps :: rows) = ps.length + total rows by simp [total], List.sum_cons]; omega

theorem mgr_len {rows : List (List Pr)} : ∀ (n : Nat) (cs : List Nat), CsOk rows cs → total rows - cs.sum = n → (mgr rows cs).length = n := by
  intro n
  induction n with
  | zero =>
    intro cs h hn
    unfold mgr; rw [hn]; rfl
  | succ n ih =>
    intro cs h hn
    cases hs : scan (heads rows cs) rows.length with
    | none => have := scan_all h hs; omega
    | some v =>
      obtain ⟨ps, c, p, h1, h2, h3, h4, _⟩ := scan_heads h hs
      rw [mgr_some h hs h1 h2 h3, List.length_cons, ih _ (h.set h1 h2 h4) (by rw [sum_set cs v c h2]; omega)]

theorem CsOk.zero (rows : List (List Pr)) : CsOk rows (List.replicate rows.length 0) := by
  refine ⟨by simp, ?_⟩
  intro i c ps hc _
  rw [List.getElem?_replicate] at hc
  split at hc
  · simp at hc; omega
  · simp at hc

theorem sum_zero (n : Nat) : (List.replicate n 0).sum = 0 := by simp

/-- All lists merged. -/
def merged (rows : List (List Pr)) : List Pr := mgr rows (List.replicate rows.length 0)

theorem merged_len (rows : List (List Pr)) : (merged rows).length = total rows :=
  mgr_len _ _ (CsOk.zero rows) (by rw [sum_zero]; omega)

/-- Ahead of the other, by key and then by tag. -/
def before (p q : Pr) : Prop := p.k < q.k ∨ p.k = q.k ∧ p.t < q.t

/-- Of lists in order, whose tags rise along each list and from list to list, what is merged is in order. -/
theorem mgr_sorted {rows : List (List Pr)} (hs : ∀ (i a b : Nat) (ps : List Pr) (p q : Pr), rows[i]? = some ps → a < b → ps[a]? = some p → ps[b]? = some q → p.k ≤ q.k ∧ p.t < q.t)
    (ht : ∀ (i j a b : Nat) (ps qs : List Pr) (p q : Pr), i < j → rows[i]? = some ps → rows[j]? = some qs → ps[a]? = some p → qs[b]? = some q → p.t < q.t) :
    ∀ (n : Nat) (cs : List Nat), CsOk rows cs → total rows - cs.sum = n → (mgr rows cs).Pairwise before ∧
      ∀ q ∈ mgr rows cs, ∃ (i b c : Nat) (qs : List Pr), rows[i]? = some qs ∧ cs[i]? = some c ∧ c ≤ b ∧ qs[b]? = some q := by
  intro n
  induction n with
  | zero =>
    intro cs h hn
    have : mgr rows cs = [] := by unfold mgr; rw [hn]; rfl
    rw [this]; simp
  | succ n ih =>
    intro cs h hn
    cases hsc : scan (heads rows cs) rows.length with
    | none => have := scan_all h hsc; omega
    | some v =>
      obtain ⟨ps, c, p, h1, h2, h3, h4, h5⟩ := scan_heads h hsc
      rw [mgr_some h hsc h1 h2 h3]
      have hvc : v < cs.length := by rw [h.len]; exact h5
      obtain ⟨i1, i2⟩ := ih _ (h.set h1 h2 h4) (by rw [sum_set cs v c h2]; omega)
      have mem : ∀ q ∈ mgr rows (cs.set v (c + 1)), ∃ (i b d : Nat) (qs : List Pr), rows[i]? = some qs ∧ cs[i]? = some d ∧ d ≤ b ∧ qs[b]? = some q ∧ (i = v → c + 1 ≤ b) := by
        intro q hq
        obtain ⟨i, b, d, qs, e1, e2, e3, e4⟩ := i2 q hq
        by_cases e : v = i
        · subst e
          rw [List.getElem?_set_self hvc] at e2
          simp only [Option.some.injEq] at e2
          exact ⟨v, b, c, qs, e1, h2, by omega, e4, fun _ => by omega⟩
        · rw [List.getElem?_set_ne e] at e2
          exact ⟨i, b, d, qs, e1, e2, e3, e4, fun h => (e h.symm).elim⟩
      refine ⟨List.Pairwise.cons ?_ i1, ?_⟩
      · intro q hq
        obtain ⟨i, b, d, qs, e1, e2, e3, e4, e5⟩ := mem q hq
        have hb := scan_best _ _ _ hsc
        have hil : i < rows.length := by rcases Nat.lt_or_ge i rows.length with h | h; exact h; simp [List.getElem?_eq_none h] at e1
        have hbl : b < qs.length := by rcases Nat.lt_or_ge b qs.length with h | h; exact h; simp [List.getElem?_eq_none h] at e4
        have hdl : d < qs.length := by omega
        obtain ⟨y, hy, _, hk, hl⟩ := hb.2.2 i (leafAt qs d) (Nat.zero_le _) hil (heads_at e1 e2) (by simp [leafAt, hdl])
        rw [heads_at h1 h2] at hy
        simp only [Option.some.injEq] at hy
        subst hy
        have hkv : (leafAt ps c).k = p.k := by simp [leafAt, h3]
        have hkd : (leafAt qs d).k = qs[d].k := by simp [leafAt, hdl]
        rw [hkv, hkd] at hk hl
        have hd : qs[d]? = some qs[d] := by simp [hdl]
        have hdb : qs[d].k ≤ q.k := by
          rcases Nat.lt_or_ge d b with h' | h'
          · exact (hs i d b qs _ _ e1 h' hd e4).1
          · obtain rfl : d = b := by omega
            rw [hd] at e4; simp only [Option.some.injEq] at e4; rw [e4]; exact Int.le_refl _
        by_cases hlt : p.k < q.k
        · exact .inl hlt
        · refine .inr ⟨by omega, ?_⟩
          rcases Nat.lt_trichotomy i v with h' | h' | h'
          · have := hl h'; omega
          · subst h'
            rw [h1] at e1; simp only [Option.some.injEq] at e1; subst e1
            exact (hs i c b ps _ _ h1 (by have := e5 rfl; omega) h3 e4).2
          · exact ht v i c b ps qs _ _ h' h1 e1 h3 e4
      · intro q hq
        rcases List.mem_cons.1 hq with e | hq
        · subst e; exact ⟨v, c, c, ps, h1, h2, Nat.le_refl _, h3⟩
        · obtain ⟨i, b, d, qs, e1, e2, e3, e4, _⟩ := mem q hq
          exact ⟨i, b, d, qs, e1, e2, e3, e4⟩

end Go.Proofs.Ytjedpimoemapfaa
