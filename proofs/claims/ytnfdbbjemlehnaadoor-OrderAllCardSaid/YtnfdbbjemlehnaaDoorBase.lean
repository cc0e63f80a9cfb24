/- General words on memory: a block that is known whole (Arr), and what a call leaves as it was (Kept). They speak of no program. -/
import Derived.WalkKit
import Derived.Lib.Hide
namespace Go.Proofs.YtnfdbbjemlehnaaDoor
open Go.RowKit

/-- Block b is a row of the cells xs, of type T, none frozen. -/
def Arr (w : World) (b : Nat) (T : TypeId) (xs : List Value) : Prop := w.heap[b]? = some (.cells xs.toArray T (0, 0))

/-- All blocks of w but those of S are in w' as they were; no block has gone. -/
structure Kept (S : List Nat) (w w' : World) : Prop where
  os : w'.os = w.os
  tape : w'.tape = w.tape
  output : w'.output = w.output
  size : w.heap.size ≤ w'.heap.size
  block : ∀ k, k < w.heap.size → k ∉ S → w'.heap[k]? = w.heap[k]?

theorem Arr.lt {w : World} {b : Nat} {T : TypeId} {xs : List Value} (h : Arr w b T xs) : b < w.heap.size := lt_of_block h

theorem Arr.ne {w : World} {b b' : Nat} {T T' : TypeId} {xs xs' : List Value} (h : Arr w b T xs) (h' : Arr w b' T' xs') (hT : T ≠ T') : b ≠ b' := by
  intro e; subst e
  unfold Arr at h h'
  rw [h] at h'
  simp at h'
  exact hT h'.2

theorem Arr.cell {w : World} {b : Nat} {T : TypeId} {xs : List Value} (h : Arr w b T xs) {i : Nat} {v : Value} (hv : xs[i]? = some v) : w.cell? ⟨b, i, none⟩ = some v := by
  unfold Arr at h
  simp [World.cell?, h, hv]

theorem Arr.free {w : World} {b : Nat} {T : TypeId} {xs : List Value} (h : Arr w b T xs) (i : Nat) : w.frozen? ⟨b, i, none⟩ = false := by
  unfold Arr at h
  simp [World.frozen?, h]

theorem Arr.set {w : World} {b : Nat} {T : TypeId} {xs : List Value} (h : Arr w b T xs) (i : Nat) (v : Value) : Arr (w.setCell ⟨b, i, none⟩ v) b T (xs.set i v) := by
  have hlt := h.lt
  unfold Arr at h ⊢
  show (w.heap.modify b _)[b]? = _
  rw [Array.getElem?_modify, if_pos rfl, h]
  simp

theorem Arr.setOther {w : World} {b : Nat} {T : TypeId} {xs : List Value} (h : Arr w b T xs) {a : Addr} (hb : b ≠ a.block) (v : Value) : Arr (w.setCell a v) b T xs := by
  unfold Arr at h ⊢
  rw [Below.heap_setCell _ _ _ _ hb]; exact h

theorem Arr.alloc {w : World} {b : Nat} {T : TypeId} {xs : List Value} (h : Arr w b T xs) (o : Obj) : Arr (w.alloc o) b T xs := by
  have hlt := h.lt
  unfold Arr at h ⊢
  rw [Below.heap_alloc _ _ _ hlt]; exact h

theorem Arr.drew {w : World} {b : Nat} {T : TypeId} {xs : List Value} (h : Arr w b T xs) : Arr w.drew b T xs := h

theorem Arr.new (w : World) (cs : Array Value) (T : TypeId) : Arr (w.alloc (.cells cs T)) w.heap.size T cs.toList := by
  unfold Arr
  show (w.heap.push _)[w.heap.size]? = _
  simp

theorem Arr.new' {w : World} {cs : Array Value} {T : TypeId} {b : Nat} (hb : b = w.heap.size) {xs : List Value} (hx : cs = xs.toArray) : Arr (w.alloc (.cells cs T)) b T xs := by
  subst hb hx
  exact Arr.new w _ T

theorem Arr.kept {S : List Nat} {w w' : World} {b : Nat} {T : TypeId} {xs : List Value} (h : Arr w b T xs) (k : Kept S w w') (hS : b ∉ S) : Arr w' b T xs :=
  (k.block b h.lt hS).trans h

theorem Kept.refl (S : List Nat) (w : World) : Kept S w w := ⟨rfl, rfl, rfl, Nat.le_refl _, fun _ _ _ => rfl⟩

theorem Kept.trans {S : List Nat} {a b c : World} (h : Kept S a b) (k : Kept S b c) : Kept S a c :=
  ⟨k.os.trans h.os, k.tape.trans h.tape, k.output.trans h.output, Nat.le_trans h.size k.size, fun i hi hS => (k.block i (Nat.lt_of_lt_of_le hi h.size) hS).trans (h.block i hi hS)⟩

theorem Kept.mono {S S' : List Nat} {w w' : World} (h : Kept S w w') (hS : ∀ k, k < w.heap.size → k ∈ S → k ∈ S') : Kept S' w w' :=
  ⟨h.os, h.tape, h.output, h.size, fun k hk hn => h.block k hk (fun h' => hn (hS k hk h'))⟩

theorem Kept.drew {S : List Nat} {a w : World} (h : Kept S a w) : Kept S a w.drew := ⟨h.os, h.tape, h.output, h.size, h.block⟩

theorem Kept.alloc {S : List Nat} {a w : World} (h : Kept S a w) (o : Obj) : Kept S a (w.alloc o) :=
  h.trans ⟨rfl, rfl, rfl, by simp, fun k hk _ => Below.heap_alloc _ _ _ hk⟩

theorem Kept.setCell {S : List Nat} {a w : World} (h : Kept S a w) {p : Addr} (hp : p.block ∈ S ∨ a.heap.size ≤ p.block) (u : Value) : Kept S a (w.setCell p u) :=
  ⟨h.os, h.tape, h.output, by simpa using h.size, fun k hk hn => by
    rw [Below.heap_setCell _ _ _ _ (by intro e; subst e; rcases hp with hp | hp; exact hn hp; omega)]
    exact h.block k hk hn⟩

theorem Kept.below {w w' : World} (h : Kept [] w w') : Below w.heap.size w w' := ⟨h.os, h.tape, h.output, h.size, fun k hk => h.block k hk (by simp)⟩

theorem Kept.of_below {w w' : World} (h : Below w.heap.size w w') : Kept [] w w' := ⟨h.os, h.tape, h.output, h.size, fun k hk _ => h.block k hk⟩

/-- What lay in S but is new since a is let go. -/
theorem Kept.fresh {S S' : List Nat} {a b c : World} (h : Kept S' a b) (k : Kept S b c) (hS : ∀ x, x ∈ S → x < a.heap.size → x ∈ S') : Kept S' a c :=
  ⟨k.os.trans h.os, k.tape.trans h.tape, k.output.trans h.output, Nat.le_trans h.size k.size, fun i hi hn => (k.block i (Nat.lt_of_lt_of_le hi h.size) (fun h' => hn (hS i h' hi))).trans (h.block i hi hn)⟩

theorem Kept.cell {S : List Nat} {w w' : World} (h : Kept S w w') {b o : Nat} (hb : b < w.heap.size) (hS : b ∉ S) : w'.cell? ⟨b, o, none⟩ = w.cell? ⟨b, o, none⟩ := World.cell?_of_block (w := w) (h.block b hb hS)
theorem Kept.frozen {S : List Nat} {w w' : World} (h : Kept S w w') {b o : Nat} (hb : b < w.heap.size) (hS : b ∉ S) : w'.frozen? ⟨b, o, none⟩ = w.frozen? ⟨b, o, none⟩ := World.frozen?_of_block (w := w) (h.block b hb hS)

end Go.Proofs.YtnfdbbjemlehnaaDoor
