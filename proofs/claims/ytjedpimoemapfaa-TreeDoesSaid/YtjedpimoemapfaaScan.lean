/- The winner by looking at one leaf behind the other: lists and numbers alone. -/
import Derived.Test.YtjedpimoemapfaaPure
namespace Go.Proofs.Ytjedpimoemapfaa

/-- The least key among the first n leaves that hold one, the first of several. -/
def scan (ls : List Lf) : Nat → Option Nat
  | 0 => none
  | n + 1 => match ls[n]? with
    | none => scan ls n
    | some x => if x.h = false then scan ls n else
      match scan ls n with
      | none => some n
      | some b => match ls[b]? with
        | none => some n
        | some y => if x.k < y.k then some n else some b

theorem scan_some (ls : List Lf) (n b : Nat) (h : scan ls n = some b) : b < n ∧ ∃ y, ls[b]? = some y ∧ y.h = true := by
  induction n generalizing b with
  | zero => simp [scan] at h
  | succ n ih =>
    simp only [scan] at h
    split at h
    · obtain ⟨h1, h2⟩ := ih b h; exact ⟨by omega, h2⟩
    · rename_i x hx
      split at h
      · obtain ⟨h1, h2⟩ := ih b h; exact ⟨by omega, h2⟩
      · rename_i hh
        have hn : ∃ y, ls[n]? = some y ∧ y.h = true := ⟨x, hx, by simpa using hh⟩
        split at h
        · simp only [Option.some.injEq] at h; subst h; exact ⟨by omega, hn⟩
        · rename_i c hc
          obtain ⟨h1, h2⟩ := ih c hc
          split at h
          · simp only [Option.some.injEq] at h; subst h; exact ⟨by omega, hn⟩
          · split at h
            · simp only [Option.some.injEq] at h; subst h; exact ⟨by omega, hn⟩
            · simp only [Option.some.injEq] at h; subst h; exact ⟨by omega, h2⟩

theorem scan_best (ls : List Lf) (n b : Nat) (h : scan ls n = some b) : Best ls 0 n b := by
  refine ⟨Nat.zero_le _, (scan_some ls n b h).1, ?_⟩
  induction n generalizing b with
  | zero => simp [scan] at h
  | succ n ih =>
    intro j x _ hj hx hxh
    obtain ⟨hb, y0, hy0, hyh0⟩ := scan_some ls (n + 1) b h
    refine ⟨y0, hy0, hyh0, ?_⟩
    simp only [scan] at h
    have old : ∀ c, scan ls n = some c → j < n → ∃ y, ls[c]? = some y ∧ y.k ≤ x.k ∧ (j < c → y.k < x.k) := by
      intro c hc hjn
      obtain ⟨y, h1, _, h2, h3⟩ := ih c hc j x (Nat.zero_le _) hjn hx hxh
      exact ⟨y, h1, h2, h3⟩
    have none_old : scan ls n = none → j < n → False := by
      intro hnone hjn
      have : ∀ m, scan ls m = none → j < m → False := by
        intro m
        induction m with
        | zero => intro _ h; omega
        | succ m ihm =>
          intro hm hjm
          simp only [scan] at hm
          split at hm
          · rename_i hx'
            by_cases e : j = m
            · subst e; rw [hx] at hx'; simp at hx'
            · exact ihm hm (by omega)
          · rename_i z hz
            split at hm
            · rename_i hzh
              by_cases e : j = m
              · subst e; rw [hx] at hz; simp only [Option.some.injEq] at hz; subst hz; rw [hxh] at hzh; simp at hzh
              · exact ihm hm (by omega)
            · split at hm
              · simp at hm
              · split at hm
                · simp at hm
                · split at hm <;> simp at hm
      exact this n hnone hjn
    split at h
    · rename_i hx'
      have hjn : j < n := by
        rcases Nat.lt_or_ge j n with h' | h'
        · exact h'
        · obtain rfl : j = n := by omega
          rw [hx] at hx'; simp at hx'
      obtain ⟨y, h1, h2, h3⟩ := old b h hjn
      rw [hy0] at h1; simp only [Option.some.injEq] at h1; subst h1
      exact ⟨h2, h3⟩
    · rename_i z hz
      split at h
      · rename_i hzh
        have hjn : j < n := by
          rcases Nat.lt_or_ge j n with h' | h'
          · exact h'
          · obtain rfl : j = n := by omega
            rw [hx] at hz; simp only [Option.some.injEq] at hz; subst hz; rw [hxh] at hzh; simp at hzh
        obtain ⟨y, h1, h2, h3⟩ := old b h hjn
        rw [hy0] at h1; simp only [Option.some.injEq] at h1; subst h1
        exact ⟨h2, h3⟩
      · split at h
        · rename_i hnone
          simp only [Option.some.injEq] at h; subst h
          have hjn : j = n := by
            rcases Nat.lt_or_ge j n with h' | h'
            · exact (none_old hnone h').elim
            · omega
          subst hjn
          rw [hx] at hy0; simp only [Option.some.injEq] at hy0; subst hy0
          exact ⟨Int.le_refl _, fun h => by omega⟩
        · rename_i c hc
          obtain ⟨hcn, yc, hyc, _⟩ := scan_some ls n c hc
          rw [hyc] at h
          simp only at h
          by_cases hlt : z.k < yc.k
          · rw [if_pos hlt] at h
            simp only [Option.some.injEq] at h; subst h
            rw [hz] at hy0; simp only [Option.some.injEq] at hy0; subst hy0
            by_cases hjn : j < n
            · obtain ⟨y, h1, h2, h3⟩ := old c hc hjn
              rw [hyc] at h1; simp only [Option.some.injEq] at h1; subst h1
              exact ⟨by omega, fun _ => by omega⟩
            · obtain rfl : j = n := by omega
              rw [hx] at hz; simp only [Option.some.injEq] at hz; subst hz
              exact ⟨Int.le_refl _, fun h => by omega⟩
          · rw [if_neg hlt] at h
            simp only [Option.some.injEq] at h; subst h
            rw [hyc] at hy0; simp only [Option.some.injEq] at hy0; subst hy0
            by_cases hjn : j < n
            · obtain ⟨y, h1, h2, h3⟩ := old c hc hjn
              rw [hyc] at h1; simp only [Option.some.injEq] at h1; subst h1
              exact ⟨h2, h3⟩
            · obtain rfl : j = n := by omega
              rw [hx] at hz; simp only [Option.some.injEq] at hz; subst hz
              exact ⟨by omega, fun h => by omega⟩

theorem scan_none (ls : List Lf) (n : Nat) (h : scan ls n = none) (j : Nat) (x : Lf) (hj : j < n) (hx : ls[j]? = some x) : x.h = false := by
  induction n with
  | zero => omega
  | succ m ihm =>
    simp only [scan] at h
    split at h
    · rename_i hx'
      by_cases e : j = m
      · subst e; rw [hx] at hx'; simp at hx'
      · exact ihm h (by omega)
    · rename_i z hz
      split at h
      · rename_i hzh
        by_cases e : j = m
        · subst e; rw [hx] at hz; simp only [Option.some.injEq] at hz; subst hz; exact hzh
        · exact ihm h (by omega)
      · split at h
        · simp at h
        · split at h
          · simp at h
          · split at h <;> simp at h

/-- Two winners are one. -/
theorem Best.one {ls : List Lf} {n m a b j : Nat} {x : Lf} (ha : Best ls 0 n a) (hb : Best ls 0 m b) (hx : ls[j]? = some x) (hh : x.h = true) (hn : ls.length ≤ n) (hm : ls.length ≤ m) : a = b := by
  have lt : ∀ (i : Nat) (y : Lf), ls[i]? = some y → i < ls.length := by
    intro i y hi
    rcases Nat.lt_or_ge i ls.length with h | h
    · exact h
    · simp [List.getElem?_eq_none h] at hi
  have hj := lt j x hx
  obtain ⟨ya, h1, h2, _, _⟩ := ha.2.2 j x (Nat.zero_le _) (by omega) hx hh
  obtain ⟨yb, g1, g2, _, _⟩ := hb.2.2 j x (Nat.zero_le _) (by omega) hx hh
  obtain ⟨ya', e1, _, e2, e3⟩ := ha.2.2 b yb (Nat.zero_le _) (by have := lt b yb g1; omega) g1 g2
  obtain ⟨yb', f1, _, f2, f3⟩ := hb.2.2 a ya (Nat.zero_le _) (by have := lt a ya h1; omega) h1 h2
  rw [h1] at e1; rw [g1] at f1
  simp only [Option.some.injEq] at e1 f1
  subst e1 f1
  rcases Nat.lt_trichotomy a b with h | h | h
  · have := f3 h; omega
  · exact h
  · have := e3 h; omega

/-- What stands at the top is what the scan finds. -/
theorem Wins.scan {ls : List Lf} {s : Nat} {ws : List Nat} (h : Wins ls (2 ^ s) ws) (hl : ls.length ≤ 2 ^ s) (hc : 0 < cntH ls) : ∃ v y, ws[1]? = some v ∧ scan ls ls.length = some v ∧ ls[v]? = some y ∧ y.h = true := by
  obtain ⟨v, hv, hb⟩ := h.top
  obtain ⟨j, x, hx, hh⟩ := cntH_pos hc
  have hj : j < ls.length := by
    rcases Nat.lt_or_ge j ls.length with h | h
    · exact h
    · simp [List.getElem?_eq_none h] at hx
  cases hs : Ytjedpimoemapfaa.scan ls ls.length with
  | none => have := scan_none ls ls.length hs j x hj hx; rw [hh] at this; simp at this
  | some b =>
    have hbb := scan_best ls _ b hs
    have e := hb.one hbb hx hh hl (Nat.le_refl _)
    subst e
    obtain ⟨_, y, hy, hyh⟩ := scan_some ls _ v hs
    exact ⟨v, y, hv, rfl, hy, hyh⟩

theorem scan_zero {ls : List Lf} (hc : cntH ls = 0) (n : Nat) : scan ls n = none := by
  cases hs : scan ls n with
  | none => rfl
  | some b =>
    obtain ⟨_, y, hy, hyh⟩ := scan_some ls _ b hs
    have := cntH_pos_of hy hyh
    omega

/-- How many doublings of 1 reach a number of leaves. -/
def stepsF (n : Int) : Nat :=
  if n ≤ 1 then 0 else if n ≤ 2 then 1 else if n ≤ 4 then 2 else if n ≤ 8 then 3 else if n ≤ 16 then 4 else if n ≤ 32 then 5 else 6

theorem stepsF_le (n : Int) : stepsF n ≤ 6 := by unfold stepsF; repeat' split
                                                 all_goals omega

theorem stepsF_pow (n : Int) (_h1 : 1 ≤ n) (h2 : n ≤ 64) : n ≤ (2 ^ stepsF n : Nat) := by
  unfold stepsF; repeat' split
  all_goals (simp; omega)

/-- A power is below the number just till the doublings are enough. -/
theorem stepsF_lt (n : Int) (k : Nat) (hk : k ≤ stepsF n) : ((2 ^ k : Nat) : Int) < min n 64 ↔ k < stepsF n := by
  have h6 := stepsF_le n
  have hm : min n 64 = if n ≤ 64 then n else 64 := by rw [Int.min_def]
  rw [hm]
  have hk7 : k = 0 ∨ k = 1 ∨ k = 2 ∨ k = 3 ∨ k = 4 ∨ k = 5 ∨ k = 6 := by omega
  clear hm
  unfold stepsF at *
  by_cases a1 : n ≤ 1
  · rw [if_pos a1] at *; rw [if_pos (by omega)]; rcases hk7 with rfl | rfl | rfl | rfl | rfl | rfl | rfl <;> simp <;> omega
  rw [if_neg a1] at *
  by_cases a2 : n ≤ 2
  · rw [if_pos a2] at *; rw [if_pos (by omega)]; rcases hk7 with rfl | rfl | rfl | rfl | rfl | rfl | rfl <;> simp <;> omega
  rw [if_neg a2] at *
  by_cases a3 : n ≤ 4
  · rw [if_pos a3] at *; rw [if_pos (by omega)]; rcases hk7 with rfl | rfl | rfl | rfl | rfl | rfl | rfl <;> simp <;> omega
  rw [if_neg a3] at *
  by_cases a4 : n ≤ 8
  · rw [if_pos a4] at *; rw [if_pos (by omega)]; rcases hk7 with rfl | rfl | rfl | rfl | rfl | rfl | rfl <;> simp <;> omega
  rw [if_neg a4] at *
  by_cases a5 : n ≤ 16
  · rw [if_pos a5] at *; rw [if_pos (by omega)]; rcases hk7 with rfl | rfl | rfl | rfl | rfl | rfl | rfl <;> simp <;> omega
  rw [if_neg a5] at *
  by_cases a6 : n ≤ 32
  · rw [if_pos a6] at *; rw [if_pos (by omega)]; rcases hk7 with rfl | rfl | rfl | rfl | rfl | rfl | rfl <;> simp <;> omega
  rw [if_neg a6] at *
  rcases hk7 with rfl | rfl | rfl | rfl | rfl | rfl | rfl <;> split <;> simp <;> omega

end Go.Proofs.Ytjedpimoemapfaa
