/- All shapes of some leaves: the plain list; rows of shapes in memory. -/
import Derived.Test.YtnfdbbjemlehnaaDoorEdges
namespace Go.Proofs.YtnfdbbjemlehnaaDoor
open Go.RowKit

def shapesF : Nat → Nat → List Sh
  | 0, _ => []
  | f + 1, set => if pc set = 1 then [.node (tz set) []] else
    (List.range (set - 1)).flatMap fun a => if (a + 1) &&& set = a + 1 then (shapesF f (a + 1)).flatMap fun x => (shapesF f (set - (a + 1))).map fun y => .node (-1) [x, y] else []

def rowA (f set a : Nat) : List Sh := if a &&& set = a then (shapesF f a).flatMap fun x => (shapesF f (set - a)).map fun y => .node (-1) [x, y] else []
def accF (f set m : Nat) : List Sh := (List.range m).flatMap fun a => rowA f set (a + 1)

theorem shapesF_one (f set : Nat) (h : pc set = 1) : shapesF (f + 1) set = [.node (tz set) []] := by
  rw [shapesF, if_pos h]
theorem shapesF_many (f set : Nat) (h : ¬ pc set = 1) : shapesF (f + 1) set = accF f set (set - 1) := by
  rw [shapesF, if_neg h]; rfl
theorem accF_succ (f set m : Nat) : accF f set (m + 1) = accF f set m ++ rowA f set (m + 1) := by
  unfold accF; rw [List.range_succ, List.flatMap_append]; simp
theorem accF_le (f set m n : Nat) (h : m ≤ n) : (accF f set m).length ≤ (accF f set n).length := by
  induction h with
  | refl => exact Nat.le_refl _
  | step _ ih => rw [accF_succ, List.length_append]; omega

theorem shapes_len : ∀ f, f < 17 → ∀ set, set < 16 → (shapesF f set).length ≤ 120 := by decide +kernel
theorem one_form : ∀ set, set < 16 → pc set = 1 → ∃ j, j < 6 ∧ set = 2 ^ j := by decide +kernel
theorem one_back : ∀ j, j < 6 → pc (2 ^ j) = 1 ∧ tz (2 ^ j) = j := by decide +kernel
theorem pc_zero : ∀ a, a < 64 → pc a = 0 → a = 0 := by decide +kernel

theorem mem_acc {f set a : Nat} {s : Sh} (h1 : 1 ≤ a) (h2 : a < set) (h : s ∈ rowA f set a) : s ∈ accF f set (set - 1) := by
  unfold accF
  rw [List.mem_flatMap]
  exact ⟨a - 1, by simp; omega, by rw [show a - 1 + 1 = a by omega]; exact h⟩

theorem build_mem (gs es : List Pr) (n6 : gs.length ≤ 6) : ∀ (f f' S : Nat), 1 ≤ S → S ≤ f → S ≤ f' → S < 2 ^ gs.length → buildF (bestT gs es) f' S ∈ shapesF f S := by
  have h6 : 2 ^ gs.length ≤ 2 ^ 6 := Nat.pow_le_pow_right (by decide) n6
  intro f
  induction f with
  | zero => intro f' S h1 h2; omega
  | succ f ih =>
    intro f' S h1 h2 h3 h4
    obtain ⟨f', rfl⟩ : ∃ m, f' = m + 1 := ⟨f' - 1, by omega⟩
    rw [buildF_eq]
    rcases entry_cases gs es n6 h1 h4 with ⟨e1, _, e3, e4⟩ | ⟨a, b, e1, a0, b0, e2, e3, e4, e5, e6, _, _⟩
    · rw [if_pos e1]
      have := pc_pow (tz S) (by omega)
      rw [← e3] at this
      rw [shapesF_one _ _ this]
      simp
    · rw [if_neg (by rw [e1]; omega), e1, Int.toNat_natCast, e2]
      have hp := pc_or a (by omega) b (by omega) e3
      rw [e4] at hp
      have hn : ¬ pc S = 1 := by
        intro e
        have ha : pc a ≠ 0 := fun h => a0 (pc_zero a (by omega) h)
        have hb : pc b ≠ 0 := fun h => b0 (pc_zero b (by omega) h)
        omega
      rw [shapesF_many _ _ hn]
      refine mem_acc (a := a) (by omega) e5 ?_
      unfold rowA
      have hsub : a &&& S = a := by
        rw [← e4]
        apply Nat.eq_of_testBit_eq
        intro i
        simp only [Nat.testBit_and, Nat.testBit_or]
        cases a.testBit i <;> simp
      rw [if_pos hsub, List.mem_flatMap]
      refine ⟨_, ih f' a (by omega) (by omega) (by omega) (by omega), ?_⟩
      rw [List.mem_map, e2]
      exact ⟨_, ih f' b (by omega) (by omega) (by omega) (by omega), rfl⟩

/-- A value reads as a shape; all blocks of it are such as P says. -/
inductive ShP (w : World) (P : Nat → Prop) : Sh → Value → Prop
  | mk (lf : Int) (l : List Sh) (a : Option Addr) (cp : Nat) (c0 c1 : Nat → Value)
      (ha : ∀ j, j < l.length → ∃ b o, a = some ⟨b, o, none⟩ ∧ P b ∧ b < w.heap.size ∧ w.cell? ⟨b, o + j * 2, none⟩ = some (c0 j) ∧ w.cell? ⟨b, o + j * 2 + 1, none⟩ = some (c1 j))
      (h : ∀ j s, l[j]? = some s → ShP w P s (.agg #[c0 j, c1 j])) : ShP w P (.node lf l) (.agg #[.int .i64 lf, .slice a l.length cp])

theorem ShP.next {S : List Nat} {w w' : World} {P Q : Nat → Prop} {v : Value} {s : Sh} (h : ShP w P s v) (k : Kept S w w') (hS : ∀ x, P x → x ∉ S) (hQ : ∀ x, P x → x < w.heap.size → Q x) : ShP w' Q s v := by
  induction h with
  | mk lf l a cp c0 c1 ha _ ih =>
    refine .mk lf l a cp c0 c1 (fun j hj => ?_) ih
    obtain ⟨b, o, h1, h0, h2, h3, h4⟩ := ha j hj
    exact ⟨b, o, h1, hQ b h0 h2, Nat.lt_of_lt_of_le h2 k.size, (k.cell h2 (hS b h0)).trans h3, (k.cell h2 (hS b h0)).trans h4⟩
theorem ShP.sh {w : World} {P : Nat → Prop} {base : Nat} {v : Value} {s : Sh} (h : ShP w P s v) (hP : ∀ x, P x → base ≤ x) : ShAt w base s v := by
  induction h with
  | mk lf l a cp c0 c1 ha _ ih =>
    refine .mk lf l a cp c0 c1 (fun j hj => ?_) ih
    obtain ⟨b, o, h1, h0, h2, h3, h4⟩ := ha j hj
    exact ⟨b, o, h1, hP b h0, h2, h3, h4⟩
theorem ShP.form {w : World} {P : Nat → Prop} {s : Sh} {v : Value} (h : ShP w P s v) : ∃ lf a n cp, v = .agg #[.int .i64 lf, .slice a n cp] := by
  cases h; exact ⟨_, _, _, _, rfl⟩
theorem ShP.leaf (w : World) (P : Nat → Prop) (n : Int) : ShP w P (.node n []) (.agg #[.int .i64 n, .slice none 0 0]) :=
  .mk n [] none 0 (fun _ => default) (fun _ => default) (fun j hj => by simp at hj) (fun j s hs => by simp at hs)
theorem ShP.pair {w : World} {P : Nat → Prop} {b : Nat} {x0 x1 y0 y1 : Value} {s t : Sh} (n : Int) (hb : Arr w b 26 [x0, x1, y0, y1]) (hbb : P b) (h1 : ShP w P s (.agg #[x0, x1])) (h2 : ShP w P t (.agg #[y0, y1])) :
    ShP w P (.node n [s, t]) (.agg #[.int .i64 n, .slice (some ⟨b, 0, none⟩) 2 2]) := by
  refine .mk n [s, t] (some ⟨b, 0, none⟩) 2 (fun j => if j = 0 then x0 else y0) (fun j => if j = 0 then x1 else y1) (fun j hj => ⟨b, 0, rfl, hbb, hb.lt, ?_⟩) (fun j u hu => ?_)
  · match j, hj with
    | 0, _ => exact ⟨hb.cell (i := 0) rfl, hb.cell (i := 1) rfl⟩
    | 1, _ => exact ⟨hb.cell (i := 2) rfl, hb.cell (i := 3) rfl⟩
  · match j, hu with
    | 0, hu => simp at hu; subst hu; exact h1
    | 1, hu => simp at hu; subst hu; exact h2

def NewP (P : Nat → Prop) (s : Sh) (w : World) (en : Ending) (w' : World) : Prop := ∃ v, en = .returned v ∧ ShP w' P s v ∧ Kept [] w w'

theorem leaf_p (w : World) (n : Int) (P : Nat → Prop) : Calls Tryd.prog 14 #[.int .i64 n] w (NewP P (.node n []) w) := by
  go_enter Tryd.func14, Tryd.ntmps14
  go_wp2
  exact bodyPost_ret (v := .agg #[.int .i64 n, .slice none 0 0]) (by simp [results, Tryd.results14, go_sem]) rfl ⟨_, rfl, ShP.leaf _ _ _, Kept.alloc (Kept.refl [] w) _⟩

set_option maxHeartbeats 1600000 in
theorem pair_p (w : World) (P : Nat → Prop) (hP : ∀ b, w.heap.size ≤ b → P b) (s t : Sh) (u v : Value) (hs : ShP w P s u) (ht : ShP w P t v) : Calls Tryd.prog 13 #[u, v] w (NewP P (.node (-1) [s, t]) w) := by
  obtain ⟨lf, a, n, cp, rfl⟩ := hs.form
  obtain ⟨lf', a', n', cp', rfl⟩ := ht.form
  have HS := Lib.hid hs
  have HT := Lib.hid ht
  have HP := Lib.hid hP
  clear hs ht hP
  go_enter Tryd.func13, Tryd.ntmps13
  go_wp2
  have K := fun (A B C D : Obj) => Kept.alloc (Kept.alloc (Kept.alloc (Kept.alloc (Kept.refl [] w) A) B) C) D
  refine bodyPost_ret (v := .agg #[.int .i64 (-1), .slice (some ⟨w.heap.size + 1 + 1 + 1, 0, none⟩) 2 2]) (by simp [results, Tryd.results13, go_sem]) rfl ⟨_, rfl, ShP.pair (-1) (Arr.new' (by simp) rfl) (HP.out _ (by omega)) (HS.out.next (K _ _ _ _) (by simp) (fun _ h _ => h)) (HT.out.next (K _ _ _ _) (by simp) (fun _ h _ => h)), K _ _ _ _⟩

/-- A row of one's own reads as a list of shapes. -/
def RowSh (w : World) (base : Nat) (v : Value) (L : List Sh) (P : Nat → Prop) : Prop :=
  ∃ xs, w.ownsRow base 26 2 v L.length xs ∧ ∀ j s, L[j]? = some s → ∃ x0 x1, xs[j * 2]? = some x0 ∧ xs[j * 2 + 1]? = some x1 ∧ ShP w P s (.agg #[x0, x1])

theorem RowSh.nil (w : World) (base : Nat) (P : Nat → Prop) : RowSh w base (.slice none 0 0) [] P := ⟨[], ⟨rfl, .inl ⟨rfl, rfl⟩⟩, fun j s h => by simp at h⟩

theorem RowSh.next {S : List Nat} {w w' : World} {base : Nat} {v : Value} {L : List Sh} {P Q : Nat → Prop} (h : RowSh w base v L P) (k : Kept S w w') (hv : ∀ g, v.ownBlock = some g → g ∉ S) (hS : ∀ x, P x → x ∉ S) (hQ : ∀ x, P x → x < w.heap.size → Q x) : RowSh w' base v L Q := by
  obtain ⟨xs, h1, h2⟩ := h
  refine ⟨xs, own_kept h1 k hv, fun j s hj => ?_⟩
  obtain ⟨x0, x1, a, b, c⟩ := h2 j s hj
  exact ⟨x0, x1, a, b, c.next k hS hQ⟩

theorem RowSh.base {w : World} {base base' : Nat} {v : Value} {L : List Sh} {P : Nat → Prop} (h : RowSh w base v L P) (hb : base' ≤ base) : RowSh w base' v L P := by
  obtain ⟨xs, h1, h2⟩ := h
  exact ⟨xs, own_mono h1 hb, h2⟩

theorem RowSh.at {w : World} {base : Nat} {v : Value} {L : List Sh} {P : Nat → Prop} (h : RowSh w base v L P) {j : Nat} {s : Sh} (hj : L[j]? = some s) :
    ∃ g cap lf a n cp, v = .slice (some ⟨g, 0, none⟩) L.length cap ∧ base ≤ g ∧ g < w.heap.size ∧ w.cell? ⟨g, j * 2, none⟩ = some (.int .i64 lf) ∧ w.cell? ⟨g, j * 2 + 1, none⟩ = some (.slice a n cp) ∧ ShP w P s (.agg #[.int .i64 lf, .slice a n cp]) := by
  obtain ⟨xs, h1, h2⟩ := h
  have hl : 0 < L.length := by
    cases L with
    | nil => simp at hj
    | cons => simp
  obtain ⟨x0, x1, e0, e1, hs⟩ := h2 j s hj
  obtain ⟨lf, a, n, cp, he⟩ := hs.form
  simp only [Value.agg.injEq, Array.mk.injEq, List.cons.injEq, and_true] at he
  obtain ⟨rfl, rfl⟩ := he
  obtain ⟨g, cap, rfl, hg, hlt⟩ := h1.form hl
  exact ⟨g, cap, lf, a, n, cp, rfl, hg, hlt, row_cell h1 _ _ e0, row_cell h1 _ _ e1, hs⟩

theorem RowSh.snoc {w : World} {base : Nat} {v : Value} {L : List Sh} {P : Nat → Prop} {s : Sh} {x0 x1 : Value} {xs : List Value} (h1 : w.ownsRow base 26 2 v (L.length + 1) (xs ++ [x0, x1])) (hl : xs.length = L.length * 2)
    (h2 : ∀ j s, L[j]? = some s → ∃ x0 x1, xs[j * 2]? = some x0 ∧ xs[j * 2 + 1]? = some x1 ∧ ShP w P s (.agg #[x0, x1])) (hs : ShP w P s (.agg #[x0, x1])) : RowSh w base v (L ++ [s]) P := by
  refine ⟨xs ++ [x0, x1], by simpa using h1, fun j t hj => ?_⟩
  rcases Nat.lt_or_ge j L.length with hlt | hge
  · rw [List.getElem?_append_left hlt] at hj
    obtain ⟨y0, y1, e0, e1, hp⟩ := h2 j t hj
    exact ⟨y0, y1, by rw [List.getElem?_append_left (by omega)]; exact e0, by rw [List.getElem?_append_left (by omega)]; exact e1, hp⟩
  · rw [List.getElem?_append_right hge] at hj
    have hj0 : j = L.length := by
      rcases Nat.eq_or_lt_of_le hge with e | e
      · exact e.symm
      · rw [List.getElem?_eq_none (by simp; omega)] at hj; simp at hj
    subst hj0
    simp at hj
    subst hj
    refine ⟨x0, x1, ?_, ?_, hs⟩
    · rw [List.getElem?_append_right (by omega), hl]; simp
    · rw [List.getElem?_append_right (by omega), hl]; simp
end Go.Proofs.YtnfdbbjemlehnaaDoor
