/- How a list of lists of pairs that came in is read. -/
import Derived.Test.YtjedpimoemapfaaDoes
namespace Go.Proofs.Ytjedpimoemapfaa
open Go.ChangeShapes Go.WideShapes Go.ChangeAt Go.RowKit

theorem Try.cells42 : Try.prog.cellsOf 42 = 1 := by kernel_rfl
theorem Try.bytes28 : Try.prog.bytesOf 28 = 16 := by kernel_rfl
theorem Try.bytes42 : Try.prog.bytesOf 42 = 24 := by kernel_rfl

theorem weightsAll_mem {H : Type} {P : Program} {e : TypeId} : ∀ {l : List (DataW H)} {d : DataW H}, d ∈ l → ∀ n ∈ d.weights P e, n ∈ DataW.weightsAll P e l
  | [], d, h, _, _ => by simp at h
  | x :: l, d, h, n, hn => by
    simp only [DataW.weightsAll, List.mem_append]
    rcases List.mem_cons.1 h with rfl | h
    · exact .inl hn
    · exact .inr (weightsAll_mem h n hn)

theorem pair_form {H : Type} {enc : TypeId × Value → H} {w : World} {base : Nat} {spare : Nat → Bool} {held : Bool} {fuel : Nat} {cs : List Value} {x : DataW H × List MemPlace}
    (h : DataW.trod enc Try.prog w base spare held fuel 28 cs = some x) : ∃ k t : Int, cs = [.int .i64 k, .int .i64 t] := by
  obtain ⟨z0, z1, n', _, hl', g0, g1⟩ := trod_struct2 Try.underlying28 h
  simp only [Try.cells3, Try.cells28] at hl' g0 g1
  obtain ⟨k, hk, _, _⟩ := DataW.trod_int Try.underlying3 g0
  obtain ⟨t, ht, _, _⟩ := DataW.trod_int Try.underlying3 g1
  match cs, hl' with
  | [c0, c1], _ =>
    simp at hk ht
    exact ⟨k, t, by rw [hk, ht]⟩

instance : Inhabited Pr := ⟨⟨0, 0⟩⟩

theorem pairs_open {H : Type} {enc : TypeId × Value → H} {w : World} {base : Nat} {spare : Nat → Bool} {held : Bool} {fuel : Nat} {cs : List Value} {x : DataW H × List MemPlace}
    (h : DataW.trod enc Try.prog w base spare held fuel 42 cs = some x) : ∃ v ps, cs = [v] ∧ PairsAt w v ps ∧ (ps = [] ∨ ∃ es sp, x.1 = .slice es sp ∧ es.length = ps.length) := by
  rcases Deep.open_slice Try.underlying42 h with ⟨rfl, _⟩ | ⟨a, len, cap, m, n, D, Pl, rfl, _, hl, _, hm, rfl, hx⟩
  · exact ⟨_, [], rfl, ⟨none, 0, rfl, by simp⟩, .inl rfl⟩
  · have hlm : len ≤ m := by rw [hm]; split <;> omega
    obtain ⟨F, hF⟩ := Deep.choose_lt (n := len) (α := Pr) (p := fun i p => ∃ cs', w.cells? base (a.add (i * 2)) 2 = some cs' ∧ cs' = [.int .i64 p.k, .int .i64 p.t]) (fun i hi => by
      obtain ⟨cs', h1, h2⟩ := hx i (by omega)
      rw [Try.cells28] at h1
      obtain ⟨k, t, e⟩ := pair_form h2
      exact ⟨⟨k, t⟩, cs', h1, e⟩)
    refine ⟨_, (List.range len).map F, rfl, ⟨some a, cap, by simp, ?_⟩, .inr ⟨_, _, rfl, by simp⟩⟩
    intro j p hj
    simp only [List.getElem?_map, Option.map_eq_some_iff] at hj
    obtain ⟨i, hi, rfl⟩ := hj
    obtain ⟨hjl, rfl⟩ : j < len ∧ i = j := by
      have hjl : j < len := by
        rcases Nat.lt_or_ge j len with h | h
        · exact h
        · rw [List.getElem?_eq_none (by simpa using h)] at hi; simp at hi
      rw [List.getElem?_range hjl] at hi
      simp at hi
      exact ⟨hjl, hi.symm⟩
    obtain ⟨c0, h0, _⟩ := hF 0 (by omega)
    rw [Nat.zero_mul] at h0
    obtain ⟨ea, hb⟩ := cells_head h0 (by omega)
    obtain ⟨cs', h1, rfl⟩ := hF i hjl
    rw [ea] at h1
    have hc := cells_at h1
    exact ⟨a.block, a.off, by rw [← ea], hb, hc 0 _ rfl, hc 1 _ rfl⟩

/-- What a list of lists reads as, with its reach. -/
theorem rows_open {H : Type} {enc : TypeId × Value → H} {w : World} {base : Nat} {spare : Nat → Bool} {held : Bool} {fuel : Nat} {cs : List Value} {x : DataW H × List MemPlace}
    (h : DataW.trod enc Try.prog w base spare held fuel 40 cs = some x) (hsz : (DataW.weightsEach Try.prog [40] [x.1]).all (· ≤ reachBytes) = true) :
    ∃ v rows, cs = [v] ∧ RowsAt w v rows ∧ (∀ ps ∈ rows, ps.length ≤ 8796093022208) ∧ rows.length ≤ 8796093022208 := by
  have hr := reachBytes_lt
  rcases Deep.open_slice Try.underlying40 h with ⟨rfl, _⟩ | ⟨a, len, cap, m, n, D, Pl, rfl, _, hl, _, hm, rfl, hx⟩
  · exact ⟨_, [], rfl, ⟨none, 0, rfl, by simp⟩, by simp, by simp⟩
  · have hlm : len ≤ m := by rw [hm]; split <;> omega
    have hlen := sized_slice hsz (j := 0) rfl rfl Try.underlying40
    rw [Try.bytes42] at hlen
    simp only [List.length_map, List.length_range] at hlen
    have each : ∀ i, i < len → ∃ ps : List Pr, ∃ v, w.cells? base (a.add (i * 1)) 1 = some [v] ∧ PairsAt w v ps ∧ ps.length ≤ 8796093022208 := by
      intro i hi
      obtain ⟨cs', h1, h2⟩ := hx i (by omega)
      rw [Try.cells42] at h1
      obtain ⟨v, ps, rfl, hp, hd⟩ := pairs_open h2
      refine ⟨ps, v, h1, hp, ?_⟩
      rcases hd with rfl | ⟨es, sp, hd, he⟩
      · simp
      · simp only at hd
        have hmem : (es.length + sp.length) * 16 ∈ DataW.weightsEach Try.prog [40] [(DataW.slice ((List.range len).map D) ((List.range (m - len)).map fun j => D (len + j)) : DataW H)] := by
          refine DataW.weights_mem_each (j := 0) rfl rfl _ ?_
          simp only [DataW.weights, Try.underlying40, List.mem_cons, List.mem_append]
          refine .inr (.inl (weightsAll_mem (d := D i) (List.mem_map.2 ⟨i, by simpa using hi, rfl⟩) _ ?_))
          rw [hd]
          simp [DataW.weights, Try.underlying42, Try.bytes28]
        have := List.all_eq_true.1 hsz _ hmem
        simp only [decide_eq_true_eq] at this
        omega
    obtain ⟨F, hF⟩ := Deep.choose_lt (n := len) (α := List Pr) (p := fun i ps => ∃ v, w.cells? base (a.add (i * 1)) 1 = some [v] ∧ PairsAt w v ps ∧ ps.length ≤ 8796093022208) each
    refine ⟨_, (List.range len).map F, rfl, ⟨some a, cap, by simp, ?_⟩, ?_, by simp; omega⟩
    · intro j p hj
      simp only [List.getElem?_map, Option.map_eq_some_iff] at hj
      obtain ⟨i, hi, rfl⟩ := hj
      obtain ⟨hjl, rfl⟩ : j < len ∧ i = j := by
        have hjl : j < len := by
          rcases Nat.lt_or_ge j len with h | h
          · exact h
          · rw [List.getElem?_eq_none (by simpa using h)] at hi; simp at hi
        rw [List.getElem?_range hjl] at hi
        simp at hi
        exact ⟨hjl, hi.symm⟩
      obtain ⟨c0, h0, _⟩ := hF 0 (by omega)
      rw [Nat.zero_mul] at h0
      obtain ⟨ea, hb⟩ := cells_head h0 (by omega)
      obtain ⟨v, h1, hp, _⟩ := hF i hjl
      rw [ea] at h1
      have hc := cells_at h1 0 v rfl
      exact ⟨a.block, a.off, v, by rw [← ea], hb, by simpa using hc, hp⟩
    · intro ps hps
      obtain ⟨i, hi, rfl⟩ := List.mem_map.1 hps
      obtain ⟨v, _, _, h⟩ := hF i (by simpa using hi)
      exact h

theorem total_le_mem {rows : List (List Pr)} {ps : List Pr} (h : ps ∈ rows) : ps.length ≤ total rows := by
  induction rows with
  | nil => simp at h
  | cons x rows ih =>
    rw [show total (x :: rows) = x.length + total rows by simp [total]]
    rcases List.mem_cons.1 h with rfl | h
    · omega
    · have := ih h; omega

theorem prcells_at (l : List Pr) (j : Nat) (p : Pr) (h : l[j]? = some p) : (prcells l)[j * 2]? = some (.int .i64 p.k) ∧ (prcells l)[j * 2 + 1]? = some (.int .i64 p.t) := by
  induction l generalizing j with
  | nil => simp at h
  | cons y l ih =>
    rw [show prcells (y :: l) = .int .i64 y.k :: .int .i64 y.t :: prcells l from rfl]
    cases j with
    | zero => simp at h; subst h; exact ⟨rfl, rfl⟩
    | succ j =>
      simp only [List.getElem?_cons_succ] at h
      have := ih j h
      rw [show (j + 1) * 2 = j * 2 + 1 + 1 by omega, show j * 2 + 1 + 1 + 1 = (j * 2 + 1) + 1 + 1 by omega]
      simpa only [List.getElem?_cons_succ] using this

/-- What a call has built reads as a list of pairs. -/
theorem own_pairs {w : World} {base : Nat} {v : Value} {ps : List Pr} (h : w.ownsRow base 28 2 v ps.length (prcells ps)) : PairsAt w v ps := by
  rcases Nat.eq_zero_or_pos ps.length with h0 | h0
  · have : ps = [] := List.length_eq_zero_iff.1 h0
    subst this
    obtain ⟨_, h2⟩ := h
    rcases h2 with ⟨rfl, _⟩ | ⟨g, cap, cur, rfl, _⟩
    · exact ⟨none, 0, rfl, by simp⟩
    · exact ⟨_, cap, rfl, by simp⟩
  · obtain ⟨g, cap, rfl, _, hg, hc⟩ := own_form h h0
    refine ⟨_, cap, rfl, fun j p hp => ⟨g, 0, rfl, hg, ?_, ?_⟩⟩
    · have := hc _ _ (prcells_at ps j p hp).1; simpa using this
    · have := hc _ _ (prcells_at ps j p hp).2; simpa using this

end Go.Proofs.Ytjedpimoemapfaa
