/- The lists that TreeSorts makes: keys that never fall, tags that rise. -/
import Derived.Test.YtjedpimoemapfaaMg
namespace Go.Proofs.Ytjedpimoemapfaa

/-- The key that comes behind a list: no less than the last one's. -/
def nextKey (l : List Pr) (p : Pr) : Int := match l.getLast? with | none => p.k | some q => if p.k < q.k then q.k else p.k

def rowK (i : Nat) (ps : List Pr) : Nat → List Pr
  | 0 => []
  | k + 1 => match ps[k]? with
    | none => rowK i ps k
    | some p => rowK i ps k ++ [⟨nextKey (rowK i ps k) p, ((100000 * i + k : Nat) : Int)⟩]

theorem rowK_len (i : Nat) (ps : List Pr) (k : Nat) (hk : k ≤ ps.length) : (rowK i ps k).length = k := by
  induction k with
  | zero => rfl
  | succ k ih =>
    have : ps[k]? = some ps[k] := by simp [show k < ps.length by omega]
    simp only [rowK, this, List.length_append, ih (by omega)]
    rfl

theorem rowK_succ (i : Nat) (ps : List Pr) (k : Nat) (p : Pr) (h : ps[k]? = some p) : rowK i ps (k + 1) = rowK i ps k ++ [⟨nextKey (rowK i ps k) p, ((100000 * i + k : Nat) : Int)⟩] := by
  simp only [rowK, h]

/-- Keys never fall, tags rise. -/
theorem rowK_ok (i : Nat) (ps : List Pr) (k : Nat) (hk : k ≤ ps.length) :
    (∀ (a : Nat) (p : Pr), (rowK i ps k)[a]? = some p → p.t = ((100000 * i + a : Nat) : Int)) ∧
    (∀ (a b : Nat) (p q : Pr), a ≤ b → (rowK i ps k)[a]? = some p → (rowK i ps k)[b]? = some q → p.k ≤ q.k) := by
  induction k with
  | zero => simp [rowK]
  | succ k ih =>
    obtain ⟨i1, i2⟩ := ih (by omega)
    have hlen := rowK_len i ps k (by omega)
    have hp : ps[k]? = some ps[k] := by simp [show k < ps.length by omega]
    rw [rowK_succ i ps k _ hp]
    refine ⟨?_, ?_⟩
    · intro a p ha
      rw [List.getElem?_append] at ha
      split at ha
      · exact i1 a p ha
      · rw [hlen] at ha
        have h0 : a - k = 0 := by
          rcases Nat.eq_zero_or_pos (a - k) with h | h
          · exact h
          · rw [List.getElem?_eq_none (by simp; omega)] at ha; simp at ha
        have hak : a = k := by omega
        subst hak
        simp at ha; subst ha; simp
    · intro a b p q hab ha hb
      rw [List.getElem?_append] at ha hb
      by_cases hbk : b < (rowK i ps k).length
      · rw [if_pos hbk] at hb
        rw [if_pos (by omega)] at ha
        exact i2 a b p q hab ha hb
      · rw [if_neg hbk] at hb
        have hb0 : b - (rowK i ps k).length = 0 := by
          rcases Nat.eq_zero_or_pos (b - (rowK i ps k).length) with h | h
          · exact h
          · rw [List.getElem?_eq_none (by simp; omega)] at hb; simp at hb
        rw [hb0] at hb
        simp at hb
        subst hb
        by_cases hak : a < (rowK i ps k).length
        · rw [if_pos hak] at ha
          have hlast : (rowK i ps k).getLast? = (rowK i ps k)[k - 1]? := by rw [List.getLast?_eq_getElem?, hlen]
          have hk1 : (rowK i ps k)[k - 1]? = some (rowK i ps k)[k - 1] := by simp [show k - 1 < (rowK i ps k).length by omega]
          have hle := i2 a (k - 1) p _ (by omega) ha hk1
          simp only [nextKey, hlast, hk1]
          split <;> omega
        · rw [if_neg hak] at ha
          have ha0 : a - (rowK i ps k).length = 0 := by
            rcases Nat.eq_zero_or_pos (a - (rowK i ps k).length) with h | h
            · exact h
            · rw [List.getElem?_eq_none (by simp; omega)] at ha; simp at ha
          rw [ha0] at ha
          simp at ha
          subst ha
          exact Int.le_refl _

/-- All the lists. -/
def srt : Nat → List (List Pr) → List (List Pr)
  | _, [] => []
  | i, ps :: rest => rowK i ps ps.length :: srt (i + 1) rest

theorem srt_at (i : Nat) (rows : List (List Pr)) (r : Nat) : (srt i rows)[r]? = (rows[r]?).map fun ps => rowK (i + r) ps ps.length := by
  induction rows generalizing i r with
  | nil => simp [srt]
  | cons ps rest ih =>
    cases r with
    | zero => simp [srt]
    | succ r => simp only [srt, List.getElem?_cons_succ, ih (i + 1) r]; congr 2; funext ps; congr 1; omega

theorem srt_len (i : Nat) (rows : List (List Pr)) : (srt i rows).length = rows.length := by
  induction rows generalizing i with
  | nil => rfl
  | cons ps rest ih => simp [srt, ih]

theorem srt_total (i : Nat) (rows : List (List Pr)) : total (srt i rows) = total rows := by
  induction rows generalizing i with
  | nil => rfl
  | cons ps rest ih =>
    have := ih (i + 1)
    simp only [total, srt, List.map_cons, List.sum_cons] at *
    rw [this, rowK_len i ps ps.length (Nat.le_refl _)]

/-- What is merged of these lists is in order. -/
theorem srt_sorted (rows : List (List Pr)) (hl : ∀ ps ∈ rows, ps.length ≤ 2000) : (merged (srt 0 rows)).Pairwise before := by
  have form : ∀ (i : Nat) (qs : List Pr), (srt 0 rows)[i]? = some qs → ∃ ps, rows[i]? = some ps ∧ qs = rowK i ps ps.length ∧ ps.length ≤ 2000 := by
    intro i qs h
    rw [srt_at] at h
    obtain ⟨ps, h1, h2⟩ := Option.map_eq_some_iff.1 h
    refine ⟨ps, h1, ?_, hl ps (List.mem_of_getElem? h1)⟩
    rw [← h2, Nat.zero_add]
  refine (mgr_sorted ?_ ?_ (total (srt 0 rows)) _ (CsOk.zero _) (by rw [sum_zero]; omega)).1
  · intro i a b qs p q hq hab hp hq'
    obtain ⟨ps, _, rfl, _⟩ := form i qs hq
    obtain ⟨k1, k2⟩ := rowK_ok i ps ps.length (Nat.le_refl _)
    exact ⟨k2 a b p q (by omega) hp hq', by rw [k1 a p hp, k1 b q hq']; omega⟩
  · intro i j a b qs rs p q hij hi hj hp hq
    obtain ⟨ps, _, rfl, hl1⟩ := form i qs hi
    obtain ⟨ps', _, rfl, _⟩ := form j rs hj
    obtain ⟨k1, _⟩ := rowK_ok i ps ps.length (Nat.le_refl _)
    obtain ⟨k1', _⟩ := rowK_ok j ps' ps'.length (Nat.le_refl _)
    have hal : a < (rowK i ps ps.length).length := by
      rcases Nat.lt_or_ge a (rowK i ps ps.length).length with h | h
      · exact h
      · simp [List.getElem?_eq_none h] at hp
    rw [rowK_len i ps ps.length (Nat.le_refl _)] at hal
    rw [k1 a p hp, k1' b q hq]
    omega

end Go.Proofs.Ytjedpimoemapfaa
