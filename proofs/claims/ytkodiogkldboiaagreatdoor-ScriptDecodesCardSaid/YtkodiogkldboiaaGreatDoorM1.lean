/- General words on memory: a block that is known whole (Arr), and what a call leaves as it was (Kept). They speak of no program. -/
import Derived.WalkKit
import Derived.Lib.Hide
import Derived.Deep.RegionHeld3
import Derived.Deep.QuietTactic
import Derived.BigQuiet
import Derived.WalkSpells
import Derived.WalkLawsBesides
import Derived.Deep.LoopGhost
import Derived.Deep.DeepCutAuto
import Derived.Deep.CutBlock
import Derived.Deep.AppendLies
import Derived.Deep.Slices
import Derived.Deep.OwnRows
import Derived.StillTailTactics
import Derived.Test.YtkodiogkldboiaaGreatDoorRows
set_option linter.unusedVariables false
set_option linter.unusedSimpArgs false
namespace Go.Proofs.YtkodiogkldboiaaGreatDoor
open Go.RowKit

/-- Block b is a row of the cells xs, of type T, none frozen. -/
def Arr (w : World) (b : Nat) (T : TypeId) (xs : List Value) : Prop := w.heap[b]? = some (.cells xs.toArray T (0, 0))

/-- All blocks of w but those of S are in w' as they were; no block has gone. -/
structure Kept (S : List Nat) (w w' : World) : Prop where
  os : w'.os = w.os
  tape : w'.tape = w.tape
  output : w'.output = w.output
  size : w.heap.size ≤ w'.heap.size
  block : ∀ k, k < w.heap.size → k ∉ S → w'.heap[k]? = w.heap[k]?

theorem Arr.lt {w : World} {b : Nat} {T : TypeId} {xs : List Value} (h : Arr w b T xs) : b < w.heap.size := lt_of_block h

theorem Arr.ne {w : World} {b b' : Nat} {T T' : TypeId} {xs xs' : List Value} (h : Arr w b T xs) (h' : Arr w b' T' xs') (hT : T ≠ T') : b ≠ b' := by
  intro e; subst e
  unfold Arr at h h'
  rw [h] at h'
  simp at h'
  exact hT h'.2

theorem Arr.cell {w : World} {b : Nat} {T : TypeId} {xs : List Value} (h : Arr w b T xs) {i : Nat} {v : Value} (hv : xs[i]? = some v) : w.cell? ⟨b, i, none⟩ = some v := by
  unfold Arr at h
  simp [World.cell?, h, hv]

theorem Arr.free {w : World} {b : Nat} {T : TypeId} {xs : List Value} (h : Arr w b T xs) (i : Nat) : w.frozen? ⟨b, i, none⟩ = false := by
  unfold Arr at h
  simp [World.frozen?, h]

theorem Arr.set {w : World} {b : Nat} {T : TypeId} {xs : List Value} (h : Arr w b T xs) (i : Nat) (v : Value) : Arr (w.setCell ⟨b, i, none⟩ v) b T (xs.set i v) := by
  have hlt := h.lt
  unfold Arr at h ⊢
  show (w.heap.modify b _)[b]? = _
  rw [Array.getElem?_modify, if_pos rfl, h]
  simp

theorem Arr.setOther {w : World} {b : Nat} {T : TypeId} {xs : List Value} (h : Arr w b T xs) {a : Addr} (hb : b ≠ a.block) (v : Value) : Arr (w.setCell a v) b T xs := by
  unfold Arr at h ⊢
  rw [Below.heap_setCell _ _ _ _ hb]; exact h

theorem Arr.alloc {w : World} {b : Nat} {T : TypeId} {xs : List Value} (h : Arr w b T xs) (o : Obj) : Arr (w.alloc o) b T xs := by
  have hlt := h.lt
  unfold Arr at h ⊢
  rw [Below.heap_alloc _ _ _ hlt]; exact h

theorem Arr.drew {w : World} {b : Nat} {T : TypeId} {xs : List Value} (h : Arr w b T xs) : Arr w.drew b T xs := h

theorem Arr.new (w : World) (cs : Array Value) (T : TypeId) : Arr (w.alloc (.cells cs T)) w.heap.size T cs.toList := by
  unfold Arr
  show (w.heap.push _)[w.heap.size]? = _
  simp

theorem Arr.new' {w : World} {cs : Array Value} {T : TypeId} {b : Nat} (hb : b = w.heap.size) {xs : List Value} (hx : cs = xs.toArray) : Arr (w.alloc (.cells cs T)) b T xs := by
  subst hb hx
  exact Arr.new w _ T

theorem Arr.kept {S : List Nat} {w w' : World} {b : Nat} {T : TypeId} {xs : List Value} (h : Arr w b T xs) (k : Kept S w w') (hS : b ∉ S) : Arr w' b T xs :=
  (k.block b h.lt hS).trans h

theorem Kept.refl (S : List Nat) (w : World) : Kept S w w := ⟨rfl, rfl, rfl, Nat.le_refl _, fun _ _ _ => rfl⟩

theorem Kept.trans {S : List Nat} {a b c : World} (h : Kept S a b) (k : Kept S b c) : Kept S a c :=
  ⟨k.os.trans h.os, k.tape.trans h.tape, k.output.trans h.output, Nat.le_trans h.size k.size, fun i hi hS => (k.block i (Nat.lt_of_lt_of_le hi h.size) hS).trans (h.block i hi hS)⟩

theorem Kept.mono {S S' : List Nat} {w w' : World} (h : Kept S w w') (hS : ∀ k, k < w.heap.size → k ∈ S → k ∈ S') : Kept S' w w' :=
  ⟨h.os, h.tape, h.output, h.size, fun k hk hn => h.block k hk (fun h' => hn (hS k hk h'))⟩

theorem Kept.drew {S : List Nat} {a w : World} (h : Kept S a w) : Kept S a w.drew := ⟨h.os, h.tape, h.output, h.size, h.block⟩

theorem Kept.alloc {S : List Nat} {a w : World} (h : Kept S a w) (o : Obj) : Kept S a (w.alloc o) :=
  h.trans ⟨rfl, rfl, rfl, by simp, fun k hk _ => Below.heap_alloc _ _ _ hk⟩

theorem Kept.setCell {S : List Nat} {a w : World} (h : Kept S a w) {p : Addr} (hp : p.block ∈ S ∨ a.heap.size ≤ p.block) (u : Value) : Kept S a (w.setCell p u) :=
  ⟨h.os, h.tape, h.output, by simpa using h.size, fun k hk hn => by
    rw [Below.heap_setCell _ _ _ _ (by intro e; subst e; rcases hp with hp | hp; exact hn hp; omega)]
    exact h.block k hk hn⟩

theorem Kept.below {w w' : World} (h : Kept [] w w') : Below w.heap.size w w' := ⟨h.os, h.tape, h.output, h.size, fun k hk => h.block k hk (by simp)⟩

theorem Kept.of_below {w w' : World} (h : Below w.heap.size w w') : Kept [] w w' := ⟨h.os, h.tape, h.output, h.size, fun k hk _ => h.block k hk⟩

/-- What lay in S but is new since a is let go. -/
theorem Kept.fresh {S S' : List Nat} {a b c : World} (h : Kept S' a b) (k : Kept S b c) (hS : ∀ x, x ∈ S → x < a.heap.size → x ∈ S') : Kept S' a c :=
  ⟨k.os.trans h.os, k.tape.trans h.tape, k.output.trans h.output, Nat.le_trans h.size k.size, fun i hi hn => (k.block i (Nat.lt_of_lt_of_le hi h.size) (fun h' => hn (hS i h' hi))).trans (h.block i hi hn)⟩

theorem Kept.cell {S : List Nat} {w w' : World} (h : Kept S w w') {b o : Nat} (hb : b < w.heap.size) (hS : b ∉ S) : w'.cell? ⟨b, o, none⟩ = w.cell? ⟨b, o, none⟩ := World.cell?_of_block (w := w) (h.block b hb hS)
theorem Kept.frozen {S : List Nat} {w w' : World} (h : Kept S w w') {b o : Nat} (hb : b < w.heap.size) (hS : b ∉ S) : w'.frozen? ⟨b, o, none⟩ = w.frozen? ⟨b, o, none⟩ := World.frozen?_of_block (w := w) (h.block b hb hS)

end Go.Proofs.YtkodiogkldboiaaGreatDoor
/- Kinds of values that lie in memory: how they are read, and how rows of them grow. It speaks of no program. -/
namespace Go.Proofs.YtkodiogkldboiaaGreatDoor
open Go.RowKit

theorem add_none (b o n : Nat) : Addr.add ⟨b, o, none⟩ n = ⟨b, o + n, none⟩ := by
  unfold Addr.add
  split
  · subst_vars; rfl
  · rfl

/-! ### what is told of a call -/
def BoolPost (c : Bool) (w : World) (en : Ending) (w' : World) : Prop := en = .returned (.bool c) ∧ Kept [] w w'
def IntPost (c : Int) (w : World) (en : Ending) (w' : World) : Prop := en = .returned (.int .i64 c) ∧ Kept [] w w'
def StrPost (s : ByteArray) (w : World) (en : Ending) (w' : World) : Prop := en = .returned (.string s) ∧ Kept [] w w'

/-! ### own rows -/
theorem own_kept {S : List Nat} {w w' : World} {base e size n : Nat} {v : Value} {xs : List Value} (h : w.ownsRow base e size v n xs) (k : Kept S w w') (hS : ∀ g, v.ownBlock = some g → g ∉ S) : w'.ownsRow base e size v n xs := by
  obtain ⟨h1, h2⟩ := h
  refine ⟨h1, ?_⟩
  rcases h2 with h2 | ⟨g, cap, cur, hv, hg, hh, r⟩
  · exact .inl h2
  · subst hv
    exact .inr ⟨g, cap, cur, rfl, hg, (k.block g (lt_of_block hh) (hS g rfl)).trans hh, r⟩
theorem own_base {w : World} {base e size n : Nat} {v : Value} {xs : List Value} (h : w.ownsRow base e size v n xs) {g : Nat} (hg : v.ownBlock = some g) : base ≤ g ∧ g < w.heap.size := by
  obtain ⟨_, h2⟩ := h
  rcases h2 with ⟨hv, _⟩ | ⟨g', cap, cur, hv, hb, hh, r⟩
  · subst hv; simp [Value.ownBlock] at hg
  · subst hv
    simp only [Value.ownBlock, Option.some.injEq] at hg
    subst hg
    exact ⟨hb, lt_of_block hh⟩
theorem own_mono {w : World} {base base' e size n : Nat} {v : Value} {xs : List Value} (h : w.ownsRow base e size v n xs) (hb : base' ≤ base) : w.ownsRow base' e size v n xs := by
  obtain ⟨h1, h2⟩ := h
  refine ⟨h1, ?_⟩
  rcases h2 with h2 | ⟨g, cap, cur, hv, hg, r⟩
  · exact .inl h2
  · exact .inr ⟨g, cap, cur, hv, by omega, r⟩
theorem own_slice {w : World} {base e size n : Nat} {v : Value} {xs : List Value} (h : w.ownsRow base e size v n xs) : ∃ a cap, v = .slice a n cap ∧ n ≤ cap ∧ cap ≤ maxLen := by
  rcases h.2 with ⟨rfl, h0⟩ | ⟨g, cap, cur, rfl, _, _, h1, h2, _⟩
  · subst h0; exact ⟨_, _, rfl, Nat.le_refl _, Nat.zero_le _⟩
  · exact ⟨_, _, rfl, h1, h2⟩
theorem own_new {w : World} {base b e size n : Nat} {xs : List Value} (h : Arr w b e xs) (hx : xs.length = n * size) (hb : base ≤ b) (hn : n ≤ maxLen) : w.ownsRow base e size (.slice (some ⟨b, 0, none⟩) n n) n xs :=
  ⟨hx, .inr ⟨b, n, xs.toArray, rfl, hb, h, Nat.le_refl _, hn, by simpa using hx, by rw [← hx]; simp⟩⟩
theorem own_cell {w : World} {base g cap e size n : Nat} {xs : List Value} (h : w.ownsRow base e size (.slice (some ⟨g, 0, none⟩) n cap) n xs) (j : Nat) (u : Value) (hu : xs[j]? = some u) : w.cell? ⟨g, j, none⟩ = some u := by
  obtain ⟨h1, h2⟩ := h
  rcases h2 with ⟨hv, _⟩ | ⟨g', cap', cur, hv, hg, hh, hn, hc, hs, ht⟩
  · simp at hv
  · simp only [Value.slice.injEq, Option.some.injEq, Addr.mk.injEq, and_true] at hv
    obtain ⟨rfl, _, rfl⟩ := hv
    have A : Arr w g e cur.toList := by unfold Arr; simpa using hh
    refine A.cell ?_
    rw [← ht, List.getElem?_take] at hu
    split at hu
    · exact hu
    · simp at hu
theorem own_free {w : World} {base g cap e size n : Nat} {xs : List Value} (h : w.ownsRow base e size (.slice (some ⟨g, 0, none⟩) n cap) n xs) (o : Nat) : w.frozen? ⟨g, o, none⟩ = false := by
  obtain ⟨h1, h2⟩ := h
  rcases h2 with ⟨hv, _⟩ | ⟨g', cap', cur, hv, hg, hh, hn, hc, hs, ht⟩
  · simp at hv
  · simp only [Value.slice.injEq, Option.some.injEq, Addr.mk.injEq, and_true] at hv
    obtain ⟨rfl, _, rfl⟩ := hv
    have A : Arr w g e cur.toList := by unfold Arr; simpa using hh
    exact A.free o
theorem own_news {w : World} {base g cap e size n : Nat} {xs : List Value} (h : w.ownsRow base e size (.slice (some ⟨g, 0, none⟩) n cap) n xs) : ∀ j u, xs[j]? = some u → w.cell? ((⟨g, 0, none⟩ : Addr).add j) = some u := fun j u hu => by
  rw [add_none, Nat.zero_add]
  exact own_cell h j u hu
theorem grown_kept {w w' : World} {row : Option Nat} (h : w.grownBy w' row) : Kept row.toList w w' :=
  ⟨h.os, h.tape, h.output, h.size, fun k hk hn => h.block k hk (by intro e; apply hn; rw [← e]; simp)⟩
theorem nmem_of {o : Option Nat} {b : Nat} (h : o ≠ some b) : b ∉ o.toList := by
  cases o with
  | none => simp
  | some c => simp; intro e; exact h (by rw [e])
theorem of_nmem {o : Option Nat} {b : Nat} (h : b ∉ o.toList) : o ≠ some b := fun e => h (by rw [e]; simp)

/-! ### kinds -/
/-- How a value's cells read as a datum; P is asked of each block that is met on the way. -/
structure Kd (α : Type) where
  sz : Nat
  E : World → (Nat → Prop) → α → List Value → Prop
  len : ∀ {w P x cs}, E w P x cs → cs.length = sz
  next : ∀ {w w' : World} {S : List Nat} {P Q : Nat → Prop} {x cs}, E w P x cs → Kept S w w' → (∀ b, P b → b ∉ S) → (∀ b, P b → b < w.heap.size → Q b) → E w' Q x cs
  one : ∀ {w P x cs}, E w P x cs → ∀ u ∈ cs, u.oneCell' = true

/-- A slice value reads as a list. -/
def Kd.At {α : Type} (K : Kd α) (w : World) (P : Nat → Prop) (v : Value) (xs : List α) : Prop :=
  ∃ a cap, v = .slice a xs.length cap ∧ xs.length ≤ cap ∧ ∀ (j : Nat) (x : α), xs[j]? = some x → ∃ b o cs, a = some ⟨b, o, none⟩ ∧ P b ∧ b < w.heap.size ∧ K.E w P x cs ∧ ∀ (i : Nat) (u : Value), cs[i]? = some u → w.cell? ⟨b, o + j * K.sz + i, none⟩ = some u

theorem Kd.At.next {α : Type} {K : Kd α} {w w' : World} {S : List Nat} {P Q : Nat → Prop} {v : Value} {xs : List α} (h : K.At w P v xs) (k : Kept S w w') (hS : ∀ b, P b → b ∉ S) (hQ : ∀ b, P b → b < w.heap.size → Q b) : K.At w' Q v xs := by
  obtain ⟨a, cap, hv, hc, h⟩ := h
  refine ⟨a, cap, hv, hc, fun j x hx => ?_⟩
  obtain ⟨b, o, cs, h1, h2, h3, h4, h5⟩ := h j x hx
  exact ⟨b, o, cs, h1, hQ b h2 h3, Nat.lt_of_lt_of_le h3 k.size, K.next h4 k hS hQ, fun i u hu => (k.cell h3 (hS b h2)).trans (h5 i u hu)⟩

/-- With nothing asked of blocks. -/
abbrev Any : Nat → Prop := fun _ => True
theorem Kd.At.kept {α : Type} {K : Kd α} {w w' : World} {v : Value} {xs : List α} (h : K.At w Any v xs) (k : Kept [] w w') : K.At w' Any v xs := h.next k (by simp) (fun _ _ _ => trivial)
theorem Kd.At.any {α : Type} {K : Kd α} {w : World} {P : Nat → Prop} {v : Value} {xs : List α} (h : K.At w P v xs) : K.At w Any v xs := h.next (Kept.refl [] w) (by simp) (fun _ _ _ => trivial)
theorem Kd.At.form {α : Type} {K : Kd α} {w : World} {P : Nat → Prop} {v : Value} {xs : List α} (h : K.At w P v xs) : ∃ a cap, v = .slice a xs.length cap ∧ xs.length ≤ cap := by
  obtain ⟨a, cap, hv, hc, _⟩ := h; exact ⟨a, cap, hv, hc⟩
theorem Kd.At.nil {α : Type} (K : Kd α) (w : World) (P : Nat → Prop) : K.At w P (.slice none 0 0) [] := ⟨none, 0, rfl, Nat.le_refl _, fun j x h => by simp at h⟩
theorem Kd.kept {α : Type} (K : Kd α) {w w' : World} {x : α} {cs : List Value} (h : K.E w Any x cs) (k : Kept [] w w') : K.E w' Any x cs := K.next h k (by simp) (fun _ _ _ => trivial)
theorem Kd.any {α : Type} (K : Kd α) {w : World} {P : Nat → Prop} {x : α} {cs : List Value} (h : K.E w P x cs) : K.E w Any x cs := K.next h (Kept.refl [] w) (by simp) (fun _ _ _ => trivial)

def kint (k : IntKind) : Kd Int where
  sz := 1
  E := fun _ _ x cs => cs = [.int k x]
  len := fun h => by subst h; rfl
  next := fun h _ _ _ => h
  one := fun h u hu => by subst h; simp at hu; subst hu; rfl
def kstr : Kd ByteArray where
  sz := 1
  E := fun _ _ x cs => cs = [.string x]
  len := fun h => by subst h; rfl
  next := fun h _ _ _ => h
  one := fun h u hu => by subst h; simp at hu; subst hu; rfl
def Kd.slice {α : Type} (K : Kd α) : Kd (List α) where
  sz := 1
  E := fun w P x cs => ∃ v, cs = [v] ∧ K.At w P v x
  len := fun ⟨_, h, _⟩ => by subst h; rfl
  next := fun ⟨v, h, hA⟩ k hS hQ => ⟨v, h, hA.next k hS hQ⟩
  one := fun ⟨v, h, hA⟩ u hu => by
    obtain ⟨a, cap, rfl, _⟩ := hA.form
    subst h; simp at hu; subst hu; rfl

/-! ### rows of one's own -/
/-- What P says, and not the value's own block. -/
def Av (P : Nat → Prop) (v : Value) (b : Nat) : Prop := P b ∧ v.ownBlock ≠ some b

def Kd.Row {α : Type} (K : Kd α) (e : TypeId) (w : World) (base : Nat) (P : Nat → Prop) (v : Value) (L : List α) : Prop :=
  ∃ xs, w.ownsRow base e K.sz v L.length xs ∧ ∀ (j : Nat) (x : α), L[j]? = some x → ∃ cs, K.E w (Av P v) x cs ∧ ∀ (i : Nat) (u : Value), cs[i]? = some u → xs[j * K.sz + i]? = some u

theorem Kd.Row.nil {α : Type} (K : Kd α) (e : TypeId) (w : World) (base : Nat) (P : Nat → Prop) : K.Row e w base P (.slice none 0 0) [] := ⟨[], ⟨by simp, .inl ⟨rfl, rfl⟩⟩, fun j x h => by simp at h⟩
theorem Kd.Row.next {α : Type} {K : Kd α} {e : TypeId} {w w' : World} {base : Nat} {S : List Nat} {P Q : Nat → Prop} {v : Value} {L : List α} (h : K.Row e w base P v L) (k : Kept S w w') (hv : ∀ g, v.ownBlock = some g → g ∉ S) (hS : ∀ b, P b → b ∉ S) (hQ : ∀ b, P b → b < w.heap.size → Q b) : K.Row e w' base Q v L := by
  obtain ⟨xs, h1, h2⟩ := h
  refine ⟨xs, own_kept h1 k hv, fun j x hx => ?_⟩
  obtain ⟨cs, a, b⟩ := h2 j x hx
  exact ⟨cs, K.next a k (fun b hb => hS b hb.1) (fun b hb hlt => ⟨hQ b hb.1 hlt, hb.2⟩), b⟩
theorem Kd.Row.kept {α : Type} {K : Kd α} {e : TypeId} {w w' : World} {base : Nat} {P : Nat → Prop} {v : Value} {L : List α} (h : K.Row e w base P v L) (k : Kept [] w w') : K.Row e w' base P v L := h.next k (by simp) (by simp) (fun _ h _ => h)
theorem Kd.Row.base {α : Type} {K : Kd α} {e : TypeId} {w : World} {base base' : Nat} {P : Nat → Prop} {v : Value} {L : List α} (h : K.Row e w base P v L) (hb : base' ≤ base) : K.Row e w base' P v L := by
  obtain ⟨xs, h1, h2⟩ := h
  exact ⟨xs, own_mono h1 hb, h2⟩
theorem Kd.Row.block {α : Type} {K : Kd α} {e : TypeId} {w : World} {base : Nat} {P : Nat → Prop} {v : Value} {L : List α} (h : K.Row e w base P v L) {g : Nat} (hg : v.ownBlock = some g) : base ≤ g ∧ g < w.heap.size := by
  obtain ⟨xs, h1, _⟩ := h
  exact own_base h1 hg
theorem Kd.Row.form {α : Type} {K : Kd α} {e : TypeId} {w : World} {base : Nat} {P : Nat → Prop} {v : Value} {L : List α} (h : K.Row e w base P v L) : ∃ a cap, v = .slice a L.length cap ∧ L.length ≤ cap ∧ cap ≤ maxLen := by
  obtain ⟨xs, h1, _⟩ := h
  exact own_slice h1
/-- A row reads as a list. -/
theorem Kd.Row.at {α : Type} {K : Kd α} {e : TypeId} {w : World} {base : Nat} {P Q : Nat → Prop} {v : Value} {L : List α} (h : K.Row e w base P v L) (hP : ∀ b, P b → b < w.heap.size → Q b) (hv : ∀ g, v.ownBlock = some g → Q g) : K.At w Q v L := by
  obtain ⟨xs, h1, h2⟩ := h
  obtain ⟨a, cap, rfl, hc, _⟩ := own_slice h1
  refine ⟨a, cap, rfl, hc, fun j x hx => ?_⟩
  have hl : 0 < L.length := by
    cases L with
    | nil => simp at hx
    | cons => simp
  obtain ⟨g, cap', he, hg, hlt⟩ := h1.form hl
  simp only [Value.slice.injEq, true_and] at he
  obtain ⟨rfl, rfl⟩ := he
  obtain ⟨cs, c1, c2⟩ := h2 j x hx
  refine ⟨g, 0, cs, rfl, hv g rfl, hlt, K.next c1 (Kept.refl [] w) (by simp) (fun b hb hlt => hP b hb.1 hlt), fun i u hu => ?_⟩
  rw [Nat.zero_add]
  exact own_cell h1 _ _ (c2 i u hu)
theorem Kd.Row.any {α : Type} {K : Kd α} {e : TypeId} {w : World} {base : Nat} {P : Nat → Prop} {v : Value} {L : List α} (h : K.Row e w base P v L) : K.At w Any v L := h.at (fun _ _ _ => trivial) (fun _ _ => trivial)

/-- A new block of one element. -/
theorem Kd.Row.one {α : Type} {K : Kd α} {e : TypeId} {w : World} {base b : Nat} {P : Nat → Prop} {x : α} {cs : List Value} (h : Arr w b e cs) (hb : base ≤ b) (hx : K.E w P x cs) (hn : ∀ c, P c → c ≠ b) : K.Row e w base P (.slice (some ⟨b, 0, none⟩) 1 1) [x] := by
  refine ⟨cs, own_new h (by have := K.len hx; simpa using this) hb (by simp [maxLen]), fun j t hj => ?_⟩
  match j, hj with
  | 0, hj =>
    simp at hj; subst hj
    exact ⟨cs, K.next hx (Kept.refl [] w) (by simp) (fun c hc _ => ⟨hc, fun e => hn c hc (by simpa [Value.ownBlock] using e.symm)⟩), fun i u hu => by simpa using hu⟩
  | j + 1, hj => simp at hj

/-- An element is appended. -/
theorem Kd.Row.push {α : Type} {K : Kd α} {e : TypeId} {wi wb w3 : World} {base : Nat} {P : Nat → Prop} {ov : Value} {L : List α} {x : α} {cs xs : List Value} {g n cap : Nat}
    (hxs : wi.ownsRow base e K.sz ov L.length xs) (hel : ∀ (j : Nat) (x : α), L[j]? = some x → ∃ cs, K.E wi (Av P ov) x cs ∧ ∀ (i : Nat) (u : Value), cs[i]? = some u → xs[j * K.sz + i]? = some u)
    (hk : Kept [] wi wb) (hx : K.E wb (Av P ov) x cs)
    (hown : w3.ownsRow base e K.sz (.slice (some ⟨g, 0, none⟩) n cap) (L.length + 1) (xs ++ cs)) (hgrow : wb.grownBy w3 ov.ownBlock) (hat : ov.ownBlock = some g ∨ g = wb.heap.size) :
    K.Row e w3 base P (.slice (some ⟨g, 0, none⟩) n cap) (L ++ [x]) := by
  have kg := grown_kept hgrow
  have avS : ∀ b, Av P ov b → b ∉ ov.ownBlock.toList := fun b hb => nmem_of hb.2
  have avQ : ∀ b, Av P ov b → b < wb.heap.size → Av P (.slice (some ⟨g, 0, none⟩) n cap) b := by
    intro b hb hlt
    refine ⟨hb.1, fun e => ?_⟩
    simp only [Value.ownBlock, Option.some.injEq] at e
    rcases hat with ha | ha
    · exact hb.2 (by rw [ha, e])
    · omega
  have hl := hxs.1
  have hcl := K.len hx
  refine ⟨xs ++ cs, by simpa using hown, fun j t hj => ?_⟩
  rcases Nat.lt_or_ge j L.length with hlt | hge
  · rw [List.getElem?_append_left hlt] at hj
    obtain ⟨cs', c1, c2⟩ := hel j t hj
    refine ⟨cs', K.next (K.next c1 hk (by simp) (fun _ h _ => h)) kg avS avQ, fun i u hu => ?_⟩
    have hcl' := K.len c1
    have hi : i < cs'.length := by rcases Nat.lt_or_ge i cs'.length with h | h; exact h; simp [List.getElem?_eq_none h] at hu
    have hm : (j + 1) * K.sz ≤ L.length * K.sz := Nat.mul_le_mul_right _ hlt
    rw [Nat.succ_mul] at hm
    rw [List.getElem?_append_left (by omega)]
    exact c2 i u hu
  · rw [List.getElem?_append_right hge] at hj
    have hj0 : j = L.length := by
      rcases Nat.eq_or_lt_of_le hge with e | e
      · exact e.symm
      · rw [List.getElem?_eq_none (by simp; omega)] at hj; simp at hj
    subst hj0
    simp at hj
    subst hj
    refine ⟨cs, K.next hx kg avS avQ, fun i u hu => ?_⟩
    rw [List.getElem?_append_right (by omega), hl]
    simpa using hu

theorem take_snoc {α : Type} (l : List α) (k : Nat) (x : α) (h : l[k]? = some x) : l.take (k + 1) = l.take k ++ [x] := by
  rw [List.take_add_one, h]; rfl
theorem get_lt {α : Type} {l : List α} {k : Nat} {x : α} (h : l[k]? = some x) : k < l.length := by
  rcases Nat.lt_or_ge k l.length with h' | h'
  · exact h'
  · rw [List.getElem?_eq_none h'] at h; simp at h
end Go.Proofs.YtkodiogkldboiaaGreatDoor
/- The data: values, rows, columns, tables, scripts; what may be. It speaks of no program. -/
namespace Go.Proofs.YtkodiogkldboiaaGreatDoor
open Go.RowKit

structure Val where
  k : Int
  n : Int
  s : ByteArray
structure Col where
  tab : ByteArray
  name : ByteArray
  type : Int
structure Tbl where
  name : ByteArray
  cols : List Col
  rows : List (List Val)
structure Scr where
  tables : List Tbl
  query : ByteArray
  budget : Int
  room : Int
  seed : Int
  faults : List Int

instance : Inhabited Val := ⟨⟨0, 0, ⟨#[]⟩⟩⟩
instance : Inhabited Col := ⟨⟨⟨#[]⟩, ⟨#[]⟩, 0⟩⟩
instance : Inhabited Tbl := ⟨⟨⟨#[]⟩, [], []⟩⟩

def kval : Kd Val where
  sz := 3
  E := fun _ _ x cs => cs = [.int .i64 x.k, .int .i64 x.n, .string x.s]
  len := fun h => by subst h; rfl
  next := fun h _ _ _ => h
  one := fun h u hu => by subst h; simp at hu; rcases hu with rfl | rfl | rfl <;> rfl
def krow : Kd (List Val) := kval.slice
def kcol : Kd Col where
  sz := 3
  E := fun _ _ x cs => cs = [.string x.tab, .string x.name, .int .i64 x.type]
  len := fun h => by subst h; rfl
  next := fun h _ _ _ => h
  one := fun h u hu => by subst h; simp at hu; rcases hu with rfl | rfl | rfl <;> rfl
def ktbl : Kd Tbl where
  sz := 3
  E := fun w P x cs => ∃ c r, cs = [.string x.name, c, r] ∧ kcol.At w P c x.cols ∧ krow.At w P r x.rows
  len := fun ⟨_, _, h, _⟩ => by subst h; rfl
  next := fun ⟨c, r, h, hc, hr⟩ k hS hQ => ⟨c, r, h, hc.next k hS hQ, hr.next k hS hQ⟩
  one := fun ⟨c, r, h, hc, hr⟩ u hu => by
    obtain ⟨_, _, rfl, _⟩ := hc.form
    obtain ⟨_, _, rfl, _⟩ := hr.form
    subst h; simp at hu; rcases hu with rfl | rfl | rfl <;> rfl
/-- A script, as a value. -/
def ScrAt (w : World) (P : Nat → Prop) (s : Scr) (v : Value) : Prop :=
  ∃ t f, v = .agg #[t, .string s.query, .int .i64 s.budget, .int .i64 s.room, .int .i64 s.seed, f] ∧ ktbl.At w P t s.tables ∧ (kint .i64).At w P f s.faults
theorem ScrAt.next {w w' : World} {S : List Nat} {P Q : Nat → Prop} {v : Value} {s : Scr} (h : ScrAt w P s v) (k : Kept S w w') (hS : ∀ b, P b → b ∉ S) (hQ : ∀ b, P b → b < w.heap.size → Q b) : ScrAt w' Q s v := by
  obtain ⟨t, f, hv, ht, hf⟩ := h
  exact ⟨t, f, hv, ht.next k hS hQ, hf.next k hS hQ⟩
theorem ScrAt.kept {w w' : World} {v : Value} {s : Scr} (h : ScrAt w Any s v) (k : Kept [] w w') : ScrAt w' Any s v := h.next k (by simp) (fun _ _ _ => trivial)

theorem val_at {w : World} {P : Nat → Prop} {v : Value} {xs : List Val} (h : kval.At w P v xs) {j : Nat} {x : Val} (hx : xs[j]? = some x) :
    ∃ b o cap, v = .slice (some ⟨b, o, none⟩) xs.length cap ∧ P b ∧ b < w.heap.size ∧ w.cell? ⟨b, o + j * 3, none⟩ = some (.int .i64 x.k) ∧ w.cell? ⟨b, o + j * 3 + 1, none⟩ = some (.int .i64 x.n) ∧ w.cell? ⟨b, o + j * 3 + 2, none⟩ = some (.string x.s) := by
  obtain ⟨a, cap, rfl, _, h⟩ := h
  obtain ⟨b, o, cs, rfl, hp, hb, rfl, hc⟩ := h j x hx
  exact ⟨b, o, cap, rfl, hp, hb, hc 0 _ rfl, hc 1 _ rfl, hc 2 _ rfl⟩
theorem col_at {w : World} {P : Nat → Prop} {v : Value} {xs : List Col} (h : kcol.At w P v xs) {j : Nat} {x : Col} (hx : xs[j]? = some x) :
    ∃ b o cap, v = .slice (some ⟨b, o, none⟩) xs.length cap ∧ P b ∧ b < w.heap.size ∧ w.cell? ⟨b, o + j * 3, none⟩ = some (.string x.tab) ∧ w.cell? ⟨b, o + j * 3 + 1, none⟩ = some (.string x.name) ∧ w.cell? ⟨b, o + j * 3 + 2, none⟩ = some (.int .i64 x.type) := by
  obtain ⟨a, cap, rfl, _, h⟩ := h
  obtain ⟨b, o, cs, rfl, hp, hb, rfl, hc⟩ := h j x hx
  exact ⟨b, o, cap, rfl, hp, hb, hc 0 _ rfl, hc 1 _ rfl, hc 2 _ rfl⟩
theorem tbl_at {w : World} {P : Nat → Prop} {v : Value} {xs : List Tbl} (h : ktbl.At w P v xs) {j : Nat} {x : Tbl} (hx : xs[j]? = some x) :
    ∃ b o cap ca cn cc ra rn rc, v = .slice (some ⟨b, o, none⟩) xs.length cap ∧ P b ∧ b < w.heap.size ∧ w.cell? ⟨b, o + j * 3, none⟩ = some (.string x.name) ∧ w.cell? ⟨b, o + j * 3 + 1, none⟩ = some (.slice ca cn cc) ∧ w.cell? ⟨b, o + j * 3 + 2, none⟩ = some (.slice ra rn rc) ∧ kcol.At w P (.slice ca cn cc) x.cols ∧ krow.At w P (.slice ra rn rc) x.rows := by
  obtain ⟨a, cap, rfl, _, h⟩ := h
  obtain ⟨b, o, cs, rfl, hp, hb, ⟨c, r, rfl, h1, h2⟩, hc⟩ := h j x hx
  obtain ⟨ca, cc, rfl, _⟩ := h1.form
  obtain ⟨ra, rc, rfl, _⟩ := h2.form
  exact ⟨b, o, cap, _, _, _, _, _, _, rfl, hp, hb, hc 0 _ rfl, hc 1 _ rfl, hc 2 _ rfl, h1, h2⟩
theorem row_at {w : World} {P : Nat → Prop} {v : Value} {xs : List (List Val)} (h : krow.At w P v xs) {j : Nat} {x : List Val} (hx : xs[j]? = some x) :
    ∃ b o cap ra rc, v = .slice (some ⟨b, o, none⟩) xs.length cap ∧ P b ∧ b < w.heap.size ∧ w.cell? ⟨b, o + j, none⟩ = some (.slice ra x.length rc) ∧ kval.At w P (.slice ra x.length rc) x := by
  obtain ⟨a, cap, rfl, _, h⟩ := h
  obtain ⟨b, o, cs, rfl, hp, hb, ⟨v, rfl, h1⟩, hc⟩ := h j x hx
  obtain ⟨ra, rc, rfl, _⟩ := h1.form
  refine ⟨b, o, cap, _, _, rfl, hp, hb, ?_, h1⟩
  have := hc 0 _ rfl
  simpa [krow, Kd.slice] using this
theorem int_at {k : IntKind} {w : World} {P : Nat → Prop} {v : Value} {xs : List Int} (h : (kint k).At w P v xs) {j : Nat} {x : Int} (hx : xs[j]? = some x) :
    ∃ b o cap, v = .slice (some ⟨b, o, none⟩) xs.length cap ∧ P b ∧ b < w.heap.size ∧ w.cell? ⟨b, o + j, none⟩ = some (.int k x) := by
  obtain ⟨a, cap, rfl, _, h⟩ := h
  obtain ⟨b, o, cs, rfl, hp, hb, rfl, hc⟩ := h j x hx
  refine ⟨b, o, cap, rfl, hp, hb, ?_⟩
  have := hc 0 _ rfl
  simpa [kint] using this

def maxInt : Int := 9007199254740991
/-- May a value be? -/
def valOk (v : Val) : Bool :=
  if v.k = 0 then decide (v.n = 0) && v.s.toList.isEmpty
  else if v.k = 1 then decide (v.n = 0 ∨ v.n = 1) && v.s.toList.isEmpty
  else if v.k = 2 then decide (-maxInt ≤ v.n ∧ v.n ≤ maxInt) && v.s.toList.isEmpty
  else if v.k = 3 then decide (v.n = 0) && decide (v.s.size ≤ 64)
  else false
def rowOk (r : List Val) : Bool := decide (r.length ≤ 32) && r.all valOk
end Go.Proofs.YtkodiogkldboiaaGreatDoor
/- Values: Check, Int, Text; the references'. -/
namespace Go.Proofs.YtkodiogkldboiaaGreatDoor
open Go.RowKit

/-- What the package tells of a value. -/
def valErr (v : Val) : Int := if valOk v then 0 else 10

theorem ret_int {k : IntKind} {a b : Int} (h : a = b) : Ending.returned (.int k a) = .returned (.int k b) := by rw [h]
theorem ret_bool {a b : Bool} (h : a = b) : Ending.returned (.bool a) = .returned (.bool b) := by rw [h]

set_option maxHeartbeats 1600000 in
theorem value_check (w : World) (x : Val) : Calls Tryz.prog 80 #[.agg #[.int .i64 x.k, .int .i64 x.n, .string x.s]] w (IntPost (valErr x) w) := by
  obtain ⟨k, n, s⟩ := x
  go_enter Tryz.func80, Tryz.ntmps80
  go_wp2
  all_goals
    go_ret
    refine ⟨ret_int ?_, Kept.alloc (Kept.refl [] w) _⟩
    simp_all [valErr, valOk, maxInt]
  all_goals first | omega | (intro h; first | omega | (exfalso; have := of_decide_eq_true h; omega) | (simp at h; omega) | (exfalso; omega)) | (rw [Bool.eq_iff_iff]; simp; first | omega | (intros; omega)) | (intros; exfalso; omega)

set_option maxHeartbeats 1600000 in
theorem ref01_check (w : World) (x : Val) : Calls Tryz.prog 97 #[.agg #[.int .i64 x.k, .int .i64 x.n, .string x.s]] w (BoolPost (valOk x) w) := by
  obtain ⟨k, n, s⟩ := x
  go_enter Tryz.func97, Tryz.ntmps97
  go_wp2
  all_goals
    go_ret
    refine ⟨ret_bool ?_, Kept.alloc (Kept.refl [] w) _⟩
    simp_all [valOk, maxInt]
  all_goals first | omega | (intro h; first | omega | (exfalso; have := of_decide_eq_true h; omega) | (simp at h; omega) | (exfalso; omega)) | (rw [Bool.eq_iff_iff]; simp; first | omega | (intros; omega)) | (intros; exfalso; omega)

/-- A value is made. -/
def ValPost (x : Val) (w : World) (en : Ending) (w' : World) : Prop := en = .returned (.agg #[.int .i64 x.k, .int .i64 x.n, .string x.s]) ∧ Kept [] w w'
def vint (n : Int) : Val := ⟨2, n, ⟨#[]⟩⟩
def vtext (s : ByteArray) : Val := ⟨3, 0, s⟩

theorem value_int (w : World) (n : Int) : Calls Tryz.prog 22 #[.int .i64 n] w (ValPost (vint n) w) := by
  go_enter Tryz.func22, Tryz.ntmps22
  go_wp2
  exact bodyPost_ret (v := .agg #[.int .i64 2, .int .i64 n, .string ⟨#[]⟩]) (by simp [results, Tryz.results22, go_sem]) rfl ⟨rfl, Kept.alloc (Kept.refl [] w) _⟩
theorem value_text (w : World) (s : ByteArray) : Calls Tryz.prog 46 #[.string s] w (ValPost (vtext s) w) := by
  go_enter Tryz.func46, Tryz.ntmps46
  go_wp2
  exact bodyPost_ret (v := .agg #[.int .i64 3, .int .i64 0, .string s]) (by simp [results, Tryz.results46, go_sem]) rfl ⟨rfl, Kept.alloc (Kept.refl [] w) _⟩
theorem ref01_int (w : World) (n : Int) : Calls Tryz.prog 63 #[.int .i64 n] w (ValPost (vint n) w) := by
  go_enter Tryz.func63, Tryz.ntmps63
  go_wp2
  exact bodyPost_ret (v := .agg #[.int .i64 2, .int .i64 n, .string ⟨#[]⟩]) (by simp [results, Tryz.results63, go_sem]) rfl ⟨rfl, Kept.alloc (Kept.refl [] w) _⟩
theorem ref01_text (w : World) (s : ByteArray) : Calls Tryz.prog 65 #[.string s] w (ValPost (vtext s) w) := by
  go_enter Tryz.func65, Tryz.ntmps65
  go_wp2
  exact bodyPost_ret (v := .agg #[.int .i64 3, .int .i64 0, .string s]) (by simp [results, Tryz.results65, go_sem]) rfl ⟨rfl, Kept.alloc (Kept.refl [] w) _⟩

/-- row.Check's test. -/
def oddVal (x : Val) : Bool := !valOk x
theorem row_odd (w : World) (x : Val) : Calls Tryz.prog 79 #[.agg #[.int .i64 x.k, .int .i64 x.n, .string x.s]] w (BoolPost (oddVal x) w) := by
  have hB : oddVal x = !(valErr x == 0) := by unfold oddVal valErr; cases valOk x <;> rfl
  have HB := Lib.hid hB
  clear hB
  go_enter Tryz.func79, Tryz.ntmps79
  go_wp2_with fail
  refine (value_check _ x).mono ?_
  rintro e w2 ⟨rfl, hk⟩
  have HK := Lib.hid hk
  clear hk
  have hv : valErr x = 0 ∨ valErr x = 10 := by unfold valErr; cases valOk x <;> simp
  rcases hv with hv | hv
  all_goals
    rw [hv] at HB ⊢
    clear hv
    go_wp2_with fail
    go_ret
    exact ⟨ret_bool (by rw [HB.out]; rfl), (Kept.alloc (Kept.refl [] w) _).trans HK.out⟩

/-- script.reader.ints' test. -/
def oddNat (x : Val) : Bool := !(decide (x.k = 2) && decide (0 ≤ x.n))
theorem ints_odd (w : World) (x : Val) : Calls Tryz.prog 58 #[.agg #[.int .i64 x.k, .int .i64 x.n, .string x.s]] w (BoolPost (oddNat x) w) := by
  obtain ⟨k, n, s⟩ := x
  go_enter Tryz.func58, Tryz.ntmps58
  go_wp2
  all_goals
    go_ret
    refine ⟨ret_bool ?_, Kept.alloc (Kept.refl [] w) _⟩
    simp_all [oddNat]
  all_goals (rw [Bool.eq_iff_iff]; simp)
end Go.Proofs.YtkodiogkldboiaaGreatDoor
/- The library's search in a list, at the types that are met. Printed by gen_search.py. -/
namespace Go.Proofs.YtkodiogkldboiaaGreatDoor
open Go.RowKit

def IxPost (b : Bool) (w : World) (en : Ending) (w' : World) : Prop := ∃ r : Int, en = .returned (.int .i64 r) ∧ decide (0 ≤ r) = b ∧ Kept [] w w'


set_option maxHeartbeats 1600000 in
theorem ix_val79 (p : Val → Bool) (w : World) (v : Value) (xs : List Val) (hP : kval.At w Any v xs) (hb : xs.length ≤ 1000000)
    (hF : ∀ x ∈ xs, ∀ w', Kept [] w w' →  Calls Tryz.prog 79 #[.agg #[.int .i64 x.k, .int .i64 x.n, .string x.s]] w' (BoolPost (p x) w')) :
    Calls Tryz.prog 77 #[v, .func (.func 79) #[] #[]] w (IxPost (xs.any p) w) := by
  have HA := Lib.hid hP
  obtain ⟨a0, cap, rfl, _⟩ := hP.form
  have HF := Lib.hid hF
  clear hF hP
  go_enter Tryz.func77, Tryz.ntmps77
  go_wp2
  go_loopg [5, 8] xs.length (fun g i5 i wr => ∃ k : Nat, k + g = xs.length ∧ i = .int .i64 k ∧ Hid (Kept [] w wr ∧ (xs.take k).any p = false))
  case atStart => exact ⟨0, by omega, rfl, Kept.refl _ _, by simp⟩
  case round =>
    obtain ⟨k, hk, rfl, hkp⟩ := hrel
    obtain ⟨wo, hwo⟩ : ∃ wo : World, wo = wr := ⟨_, rfl⟩
    subst hwo
    by_cases hlt : k < xs.length
    · obtain ⟨x, hx⟩ : ∃ x, xs[k]? = some x := ⟨xs[k], by simp [hlt]⟩
      obtain ⟨b0, o0, cap', he, _, hbs, x0, x1, x2⟩ := val_at (HA.out.kept hkp.out.1) hx
      simp only [Value.slice.injEq, true_and] at he
      obtain ⟨rfl, rfl⟩ := he
      have hk0 : (0 : Int) ≤ (k : Int) := by omega
      have hk1 : (k : Int) < (xs.length : Int) := by omega
      have HT := Lib.hid (take_snoc xs k x hx)
      have HM := Lib.hid (List.mem_of_getElem? hx)
      
      clear hx
      go_wp2_with fail
      refine (HF.out x HM.out _ hkp.out.1 ).mono ?_
      rintro e w1 ⟨rfl, hk1'⟩
      have HK1 := Lib.hid (hkp.out.1.trans hk1')
      clear hk1' x0 x1 x2
      cases hq : p x with
      | true =>
        have HQ := Lib.hid hq
        clear hq
        go_wp2_with fail
        go_ret
        refine ⟨_, rfl, ?_, HK1.out⟩
        rw [show xs.any p = true from List.any_eq_true.mpr ⟨x, HM.out, HQ.out⟩]
        simp
      | false =>
        have HQ := Lib.hid hq
        clear hq
        go_wp2_with fail
        go_roundg (xs.length - (k + 1))
        case measure => omega
        case rel => exact ⟨k + 1, by omega, by go_num, HK1.out, by rw [HT.out, List.any_append, hkp.out.2]; simp [HQ.out]⟩
    · obtain rfl : k = xs.length := by omega
      rw [List.take_length] at *
      go_wp2
      go_ret
      exact ⟨_, rfl, by rw [hkp.out.2]; rfl, hkp.out.1⟩

set_option maxHeartbeats 400000 in
theorem has_val79 (p : Val → Bool) (w : World) (v : Value) (xs : List Val) (hP : kval.At w Any v xs) (hb : xs.length ≤ 1000000)
    (hF : ∀ x ∈ xs, ∀ w', Kept [] w w' →  Calls Tryz.prog 79 #[.agg #[.int .i64 x.k, .int .i64 x.n, .string x.s]] w' (BoolPost (p x) w')) :
    Calls Tryz.prog 59 #[v, .func (.func 79) #[] #[]] w (BoolPost (xs.any p) w) := by
  have H := Lib.hid (ix_val79  p w v xs hP hb hF)
  clear hP hF
  go_enter Tryz.func59, Tryz.ntmps59
  go_wp2_with fail
  refine H.out.mono ?_
  rintro e w1 ⟨r, rfl, hr, hk1⟩
  have HR := Lib.hid hr
  have HK := Lib.hid hk1
  clear hr hk1
  go_wp2_with fail
  go_ret
  exact ⟨by rw [← HR.out]; rfl, HK.out⟩


set_option maxHeartbeats 1600000 in
theorem ix_val58 (p : Val → Bool) (w : World) (v : Value) (xs : List Val) (hP : kval.At w Any v xs) (hb : xs.length ≤ 1000000)
    (hF : ∀ x ∈ xs, ∀ w', Kept [] w w' →  Calls Tryz.prog 58 #[.agg #[.int .i64 x.k, .int .i64 x.n, .string x.s]] w' (BoolPost (p x) w')) :
    Calls Tryz.prog 77 #[v, .func (.func 58) #[] #[]] w (IxPost (xs.any p) w) := by
  have HA := Lib.hid hP
  obtain ⟨a0, cap, rfl, _⟩ := hP.form
  have HF := Lib.hid hF
  clear hF hP
  go_enter Tryz.func77, Tryz.ntmps77
  go_wp2
  go_loopg [5, 8] xs.length (fun g i5 i wr => ∃ k : Nat, k + g = xs.length ∧ i = .int .i64 k ∧ Hid (Kept [] w wr ∧ (xs.take k).any p = false))
  case atStart => exact ⟨0, by omega, rfl, Kept.refl _ _, by simp⟩
  case round =>
    obtain ⟨k, hk, rfl, hkp⟩ := hrel
    obtain ⟨wo, hwo⟩ : ∃ wo : World, wo = wr := ⟨_, rfl⟩
    subst hwo
    by_cases hlt : k < xs.length
    · obtain ⟨x, hx⟩ : ∃ x, xs[k]? = some x := ⟨xs[k], by simp [hlt]⟩
      obtain ⟨b0, o0, cap', he, _, hbs, x0, x1, x2⟩ := val_at (HA.out.kept hkp.out.1) hx
      simp only [Value.slice.injEq, true_and] at he
      obtain ⟨rfl, rfl⟩ := he
      have hk0 : (0 : Int) ≤ (k : Int) := by omega
      have hk1 : (k : Int) < (xs.length : Int) := by omega
      have HT := Lib.hid (take_snoc xs k x hx)
      have HM := Lib.hid (List.mem_of_getElem? hx)
      
      clear hx
      go_wp2_with fail
      refine (HF.out x HM.out _ hkp.out.1 ).mono ?_
      rintro e w1 ⟨rfl, hk1'⟩
      have HK1 := Lib.hid (hkp.out.1.trans hk1')
      clear hk1' x0 x1 x2
      cases hq : p x with
      | true =>
        have HQ := Lib.hid hq
        clear hq
        go_wp2_with fail
        go_ret
        refine ⟨_, rfl, ?_, HK1.out⟩
        rw [show xs.any p = true from List.any_eq_true.mpr ⟨x, HM.out, HQ.out⟩]
        simp
      | false =>
        have HQ := Lib.hid hq
        clear hq
        go_wp2_with fail
        go_roundg (xs.length - (k + 1))
        case measure => omega
        case rel => exact ⟨k + 1, by omega, by go_num, HK1.out, by rw [HT.out, List.any_append, hkp.out.2]; simp [HQ.out]⟩
    · obtain rfl : k = xs.length := by omega
      rw [List.take_length] at *
      go_wp2
      go_ret
      exact ⟨_, rfl, by rw [hkp.out.2]; rfl, hkp.out.1⟩

set_option maxHeartbeats 400000 in
theorem has_val58 (p : Val → Bool) (w : World) (v : Value) (xs : List Val) (hP : kval.At w Any v xs) (hb : xs.length ≤ 1000000)
    (hF : ∀ x ∈ xs, ∀ w', Kept [] w w' →  Calls Tryz.prog 58 #[.agg #[.int .i64 x.k, .int .i64 x.n, .string x.s]] w' (BoolPost (p x) w')) :
    Calls Tryz.prog 59 #[v, .func (.func 58) #[] #[]] w (BoolPost (xs.any p) w) := by
  have H := Lib.hid (ix_val58  p w v xs hP hb hF)
  clear hP hF
  go_enter Tryz.func59, Tryz.ntmps59
  go_wp2_with fail
  refine H.out.mono ?_
  rintro e w1 ⟨r, rfl, hr, hk1⟩
  have HR := Lib.hid hr
  have HK := Lib.hid hk1
  clear hr hk1
  go_wp2_with fail
  go_ret
  exact ⟨by rw [← HR.out]; rfl, HK.out⟩


set_option maxHeartbeats 1600000 in
theorem ix_col90 (p : Col → Bool) (w : World) (v : Value) (xs : List Col) (hP : kcol.At w Any v xs) (hb : xs.length ≤ 1000000)
    (hF : ∀ x ∈ xs, ∀ w', Kept [] w w' →  Calls Tryz.prog 90 #[.agg #[.string x.tab, .string x.name, .int .i64 x.type]] w' (BoolPost (p x) w')) :
    Calls Tryz.prog 106 #[v, .func (.func 90) #[] #[]] w (IxPost (xs.any p) w) := by
  have HA := Lib.hid hP
  obtain ⟨a0, cap, rfl, _⟩ := hP.form
  have HF := Lib.hid hF
  clear hF hP
  go_enter Tryz.func106, Tryz.ntmps106
  go_wp2
  go_loopg [5, 8] xs.length (fun g i5 i wr => ∃ k : Nat, k + g = xs.length ∧ i = .int .i64 k ∧ Hid (Kept [] w wr ∧ (xs.take k).any p = false))
  case atStart => exact ⟨0, by omega, rfl, Kept.refl _ _, by simp⟩
  case round =>
    obtain ⟨k, hk, rfl, hkp⟩ := hrel
    obtain ⟨wo, hwo⟩ : ∃ wo : World, wo = wr := ⟨_, rfl⟩
    subst hwo
    by_cases hlt : k < xs.length
    · obtain ⟨x, hx⟩ : ∃ x, xs[k]? = some x := ⟨xs[k], by simp [hlt]⟩
      obtain ⟨b0, o0, cap', he, _, hbs, x0, x1, x2⟩ := col_at (HA.out.kept hkp.out.1) hx
      simp only [Value.slice.injEq, true_and] at he
      obtain ⟨rfl, rfl⟩ := he
      have hk0 : (0 : Int) ≤ (k : Int) := by omega
      have hk1 : (k : Int) < (xs.length : Int) := by omega
      have HT := Lib.hid (take_snoc xs k x hx)
      have HM := Lib.hid (List.mem_of_getElem? hx)
      
      clear hx
      go_wp2_with fail
      refine (HF.out x HM.out _ hkp.out.1 ).mono ?_
      rintro e w1 ⟨rfl, hk1'⟩
      have HK1 := Lib.hid (hkp.out.1.trans hk1')
      clear hk1' x0 x1 x2
      cases hq : p x with
      | true =>
        have HQ := Lib.hid hq
        clear hq
        go_wp2_with fail
        go_ret
        refine ⟨_, rfl, ?_, HK1.out⟩
        rw [show xs.any p = true from List.any_eq_true.mpr ⟨x, HM.out, HQ.out⟩]
        simp
      | false =>
        have HQ := Lib.hid hq
        clear hq
        go_wp2_with fail
        go_roundg (xs.length - (k + 1))
        case measure => omega
        case rel => exact ⟨k + 1, by omega, by go_num, HK1.out, by rw [HT.out, List.any_append, hkp.out.2]; simp [HQ.out]⟩
    · obtain rfl : k = xs.length := by omega
      rw [List.take_length] at *
      go_wp2
      go_ret
      exact ⟨_, rfl, by rw [hkp.out.2]; rfl, hkp.out.1⟩

set_option maxHeartbeats 400000 in
theorem has_col90 (p : Col → Bool) (w : World) (v : Value) (xs : List Col) (hP : kcol.At w Any v xs) (hb : xs.length ≤ 1000000)
    (hF : ∀ x ∈ xs, ∀ w', Kept [] w w' →  Calls Tryz.prog 90 #[.agg #[.string x.tab, .string x.name, .int .i64 x.type]] w' (BoolPost (p x) w')) :
    Calls Tryz.prog 89 #[v, .func (.func 90) #[] #[]] w (BoolPost (xs.any p) w) := by
  have H := Lib.hid (ix_col90  p w v xs hP hb hF)
  clear hP hF
  go_enter Tryz.func89, Tryz.ntmps89
  go_wp2_with fail
  refine H.out.mono ?_
  rintro e w1 ⟨r, rfl, hr, hk1⟩
  have HR := Lib.hid hr
  have HK := Lib.hid hk1
  clear hr hk1
  go_wp2_with fail
  go_ret
  exact ⟨by rw [← HR.out]; rfl, HK.out⟩


set_option maxHeartbeats 1600000 in
theorem ix_int29 (p : Int → Bool) (w : World) (v : Value) (xs : List Int) (hP : (kint .i64).At w Any v xs) (hb : xs.length ≤ 1000000)
    (hF : ∀ x ∈ xs, ∀ w', Kept [] w w' →  Calls Tryz.prog 29 #[.int .i64 x] w' (BoolPost (p x) w')) :
    Calls Tryz.prog 56 #[v, .func (.func 29) #[] #[]] w (IxPost (xs.any p) w) := by
  have HA := Lib.hid hP
  obtain ⟨a0, cap, rfl, _⟩ := hP.form
  have HF := Lib.hid hF
  clear hF hP
  go_enter Tryz.func56, Tryz.ntmps56
  go_wp2
  go_loopg [5, 8] xs.length (fun g i5 i wr => ∃ k : Nat, k + g = xs.length ∧ i = .int .i64 k ∧ Hid (Kept [] w wr ∧ (xs.take k).any p = false))
  case atStart => exact ⟨0, by omega, rfl, Kept.refl _ _, by simp⟩
  case round =>
    obtain ⟨k, hk, rfl, hkp⟩ := hrel
    obtain ⟨wo, hwo⟩ : ∃ wo : World, wo = wr := ⟨_, rfl⟩
    subst hwo
    by_cases hlt : k < xs.length
    · obtain ⟨x, hx⟩ : ∃ x, xs[k]? = some x := ⟨xs[k], by simp [hlt]⟩
      obtain ⟨b0, o0, cap', he, _, hbs, x0⟩ := int_at (HA.out.kept hkp.out.1) hx
      simp only [Value.slice.injEq, true_and] at he
      obtain ⟨rfl, rfl⟩ := he
      have hk0 : (0 : Int) ≤ (k : Int) := by omega
      have hk1 : (k : Int) < (xs.length : Int) := by omega
      have HT := Lib.hid (take_snoc xs k x hx)
      have HM := Lib.hid (List.mem_of_getElem? hx)
      
      clear hx
      go_wp2_with fail
      refine (HF.out x HM.out _ hkp.out.1 ).mono ?_
      rintro e w1 ⟨rfl, hk1'⟩
      have HK1 := Lib.hid (hkp.out.1.trans hk1')
      clear hk1' x0
      cases hq : p x with
      | true =>
        have HQ := Lib.hid hq
        clear hq
        go_wp2_with fail
        go_ret
        refine ⟨_, rfl, ?_, HK1.out⟩
        rw [show xs.any p = true from List.any_eq_true.mpr ⟨x, HM.out, HQ.out⟩]
        simp
      | false =>
        have HQ := Lib.hid hq
        clear hq
        go_wp2_with fail
        go_roundg (xs.length - (k + 1))
        case measure => omega
        case rel => exact ⟨k + 1, by omega, by go_num, HK1.out, by rw [HT.out, List.any_append, hkp.out.2]; simp [HQ.out]⟩
    · obtain rfl : k = xs.length := by omega
      rw [List.take_length] at *
      go_wp2
      go_ret
      exact ⟨_, rfl, by rw [hkp.out.2]; rfl, hkp.out.1⟩

set_option maxHeartbeats 400000 in
theorem has_int29 (p : Int → Bool) (w : World) (v : Value) (xs : List Int) (hP : (kint .i64).At w Any v xs) (hb : xs.length ≤ 1000000)
    (hF : ∀ x ∈ xs, ∀ w', Kept [] w w' →  Calls Tryz.prog 29 #[.int .i64 x] w' (BoolPost (p x) w')) :
    Calls Tryz.prog 31 #[v, .func (.func 29) #[] #[]] w (BoolPost (xs.any p) w) := by
  have H := Lib.hid (ix_int29  p w v xs hP hb hF)
  clear hP hF
  go_enter Tryz.func31, Tryz.ntmps31
  go_wp2_with fail
  refine H.out.mono ?_
  rintro e w1 ⟨r, rfl, hr, hk1⟩
  have HR := Lib.hid hr
  have HK := Lib.hid hk1
  clear hr hk1
  go_wp2_with fail
  go_ret
  exact ⟨by rw [← HR.out]; rfl, HK.out⟩


set_option maxHeartbeats 1600000 in
theorem ix_tbl71 (p : Tbl → Bool) (w : World) (v : Value) (xs : List Tbl) (hP : ktbl.At w Any v xs) (hb : xs.length ≤ 1000000)
    (hF : ∀ x ∈ xs, ∀ w', Kept [] w w' → ∀ ca cn cc ra rn rc, kcol.At w' Any (.slice ca cn cc) x.cols → krow.At w' Any (.slice ra rn rc) x.rows → Calls Tryz.prog 71 #[.agg #[.string x.name, .slice ca cn cc, .slice ra rn rc]] w' (BoolPost (p x) w')) :
    Calls Tryz.prog 94 #[v, .func (.func 71) #[] #[]] w (IxPost (xs.any p) w) := by
  have HA := Lib.hid hP
  obtain ⟨a0, cap, rfl, _⟩ := hP.form
  have HF := Lib.hid hF
  clear hF hP
  go_enter Tryz.func94, Tryz.ntmps94
  go_wp2
  go_loopg [5, 8] xs.length (fun g i5 i wr => ∃ k : Nat, k + g = xs.length ∧ i = .int .i64 k ∧ Hid (Kept [] w wr ∧ (xs.take k).any p = false))
  case atStart => exact ⟨0, by omega, rfl, Kept.refl _ _, by simp⟩
  case round =>
    obtain ⟨k, hk, rfl, hkp⟩ := hrel
    obtain ⟨wo, hwo⟩ : ∃ wo : World, wo = wr := ⟨_, rfl⟩
    subst hwo
    by_cases hlt : k < xs.length
    · obtain ⟨x, hx⟩ : ∃ x, xs[k]? = some x := ⟨xs[k], by simp [hlt]⟩
      obtain ⟨b0, o0, cap', ca, cn, cc, ra, rn, rc, he, _, hbs, x0, x1, x2, hE1, hE2⟩ := tbl_at (HA.out.kept hkp.out.1) hx
      simp only [Value.slice.injEq, true_and] at he
      obtain ⟨rfl, rfl⟩ := he
      have hk0 : (0 : Int) ≤ (k : Int) := by omega
      have hk1 : (k : Int) < (xs.length : Int) := by omega
      have HT := Lib.hid (take_snoc xs k x hx)
      have HM := Lib.hid (List.mem_of_getElem? hx)
      have HE1 := Lib.hid hE1; have HE2 := Lib.hid hE2; clear hE1 hE2
      clear hx
      go_wp2_with fail
      refine (HF.out x HM.out _ hkp.out.1 _ _ _ _ _ _ HE1.out HE2.out).mono ?_
      rintro e w1 ⟨rfl, hk1'⟩
      have HK1 := Lib.hid (hkp.out.1.trans hk1')
      clear hk1' x0 x1 x2
      cases hq : p x with
      | true =>
        have HQ := Lib.hid hq
        clear hq
        go_wp2_with fail
        go_ret
        refine ⟨_, rfl, ?_, HK1.out⟩
        rw [show xs.any p = true from List.any_eq_true.mpr ⟨x, HM.out, HQ.out⟩]
        simp
      | false =>
        have HQ := Lib.hid hq
        clear hq
        go_wp2_with fail
        go_roundg (xs.length - (k + 1))
        case measure => omega
        case rel => exact ⟨k + 1, by omega, by go_num, HK1.out, by rw [HT.out, List.any_append, hkp.out.2]; simp [HQ.out]⟩
    · obtain rfl : k = xs.length := by omega
      rw [List.take_length] at *
      go_wp2
      go_ret
      exact ⟨_, rfl, by rw [hkp.out.2]; rfl, hkp.out.1⟩

set_option maxHeartbeats 400000 in
theorem has_tbl71 (p : Tbl → Bool) (w : World) (v : Value) (xs : List Tbl) (hP : ktbl.At w Any v xs) (hb : xs.length ≤ 1000000)
    (hF : ∀ x ∈ xs, ∀ w', Kept [] w w' → ∀ ca cn cc ra rn rc, kcol.At w' Any (.slice ca cn cc) x.cols → krow.At w' Any (.slice ra rn rc) x.rows → Calls Tryz.prog 71 #[.agg #[.string x.name, .slice ca cn cc, .slice ra rn rc]] w' (BoolPost (p x) w')) :
    Calls Tryz.prog 73 #[v, .func (.func 71) #[] #[]] w (BoolPost (xs.any p) w) := by
  have H := Lib.hid (ix_tbl71  p w v xs hP hb hF)
  clear hP hF
  go_enter Tryz.func73, Tryz.ntmps73
  go_wp2_with fail
  refine H.out.mono ?_
  rintro e w1 ⟨r, rfl, hr, hk1⟩
  have HR := Lib.hid hr
  have HK := Lib.hid hk1
  clear hr hk1
  go_wp2_with fail
  go_ret
  exact ⟨by rw [← HR.out]; rfl, HK.out⟩


set_option maxHeartbeats 1600000 in
theorem ix_row85 (c1 : Value) (p : (List Val) → Bool) (w : World) (v : Value) (xs : List (List Val)) (hP : krow.At w Any v xs) (hb : xs.length ≤ 1000000)
    (hF : ∀ x ∈ xs, ∀ w', Kept [] w w' → ∀ ra rc, kval.At w' Any (.slice ra x.length rc) x → Calls Tryz.prog 85 #[.slice ra x.length rc, c1] w' (BoolPost (p x) w')) :
    Calls Tryz.prog 107 #[v, .func (.func 85) #[] #[c1]] w (IxPost (xs.any p) w) := by
  have HA := Lib.hid hP
  obtain ⟨a0, cap, rfl, _⟩ := hP.form
  have HF := Lib.hid hF
  clear hF hP
  go_enter Tryz.func107, Tryz.ntmps107
  go_wp2
  go_loopg [5, 8] xs.length (fun g i5 i wr => ∃ k : Nat, k + g = xs.length ∧ i = .int .i64 k ∧ Hid (Kept [] w wr ∧ (xs.take k).any p = false))
  case atStart => exact ⟨0, by omega, rfl, Kept.refl _ _, by simp⟩
  case round =>
    obtain ⟨k, hk, rfl, hkp⟩ := hrel
    obtain ⟨wo, hwo⟩ : ∃ wo : World, wo = wr := ⟨_, rfl⟩
    subst hwo
    by_cases hlt : k < xs.length
    · obtain ⟨x, hx⟩ : ∃ x, xs[k]? = some x := ⟨xs[k], by simp [hlt]⟩
      obtain ⟨b0, o0, cap', ra, rc, he, _, hbs, x0, hE⟩ := row_at (HA.out.kept hkp.out.1) hx
      simp only [Value.slice.injEq, true_and] at he
      obtain ⟨rfl, rfl⟩ := he
      have hk0 : (0 : Int) ≤ (k : Int) := by omega
      have hk1 : (k : Int) < (xs.length : Int) := by omega
      have HT := Lib.hid (take_snoc xs k x hx)
      have HM := Lib.hid (List.mem_of_getElem? hx)
      have HE := Lib.hid hE; clear hE
      clear hx
      go_wp2_with fail
      refine (HF.out x HM.out _ hkp.out.1 _ _ HE.out).mono ?_
      rintro e w1 ⟨rfl, hk1'⟩
      have HK1 := Lib.hid (hkp.out.1.trans hk1')
      clear hk1' x0
      cases hq : p x with
      | true =>
        have HQ := Lib.hid hq
        clear hq
        go_wp2_with fail
        go_ret
        refine ⟨_, rfl, ?_, HK1.out⟩
        rw [show xs.any p = true from List.any_eq_true.mpr ⟨x, HM.out, HQ.out⟩]
        simp
      | false =>
        have HQ := Lib.hid hq
        clear hq
        go_wp2_with fail
        go_roundg (xs.length - (k + 1))
        case measure => omega
        case rel => exact ⟨k + 1, by omega, by go_num, HK1.out, by rw [HT.out, List.any_append, hkp.out.2]; simp [HQ.out]⟩
    · obtain rfl : k = xs.length := by omega
      rw [List.take_length] at *
      go_wp2
      go_ret
      exact ⟨_, rfl, by rw [hkp.out.2]; rfl, hkp.out.1⟩

set_option maxHeartbeats 400000 in
theorem has_row85 (c1 : Value) (p : (List Val) → Bool) (w : World) (v : Value) (xs : List (List Val)) (hP : krow.At w Any v xs) (hb : xs.length ≤ 1000000)
    (hF : ∀ x ∈ xs, ∀ w', Kept [] w w' → ∀ ra rc, kval.At w' Any (.slice ra x.length rc) x → Calls Tryz.prog 85 #[.slice ra x.length rc, c1] w' (BoolPost (p x) w')) :
    Calls Tryz.prog 93 #[v, .func (.func 85) #[] #[c1]] w (BoolPost (xs.any p) w) := by
  have H := Lib.hid (ix_row85 c1 p w v xs hP hb hF)
  clear hP hF
  go_enter Tryz.func93, Tryz.ntmps93
  go_wp2_with fail
  refine H.out.mono ?_
  rintro e w1 ⟨r, rfl, hr, hk1⟩
  have HR := Lib.hid hr
  have HK := Lib.hid hk1
  clear hr hk1
  go_wp2_with fail
  go_ret
  exact ⟨by rw [← HR.out]; rfl, HK.out⟩

end Go.Proofs.YtkodiogkldboiaaGreatDoor
