/- The script's writer: row, ints, table. -/
import Derived.RangeFuncNested
import Derived.RangeFuncBound
import Derived.RangeFuncCalls
import Derived.RangeFuncLeaves
import Derived.Shelf.Abstract
import Derived.Shelf.RegionOpen
import Derived.OwnWalkIn
import Derived.TacticsInMore
import Derived.LoopNIn
import Derived.LoopIn
import Derived.Test.YtkodiogkldboiaaGreatDoorM4
set_option linter.unusedVariables false
set_option linter.unusedSimpArgs false
namespace Go.Proofs.YtkodiogkldboiaaGreatDoor
open Go.RowKit

theorem Tryz.info57 : (Tryz.prog.info? 57).map (fun i => (i.zero, i.size, i.bytes)) = some (some (.agg #[.int .i64 0, .int .i64 0, .string ⟨#[]⟩]), 3, 32) := by kernel_rfl

/-- No block at all. -/
abbrev NoB : Nat → Prop := fun _ => False

theorem wpList_bytes' {ops : Array Oper} {rest : List Oper} {o : Oper} {a : Act} {Q : Exit → Act → World → Prop} {w : World} (hgd : o.guard = none) (sl x : Operand)
    (ho : o.op = .call { callee := .builtin .append, args := #[sl, x], argTypes := #[28, 28] }) (v : Value) (l : List UInt8) (hs : a.eval sl = v) (hown : Bytes w 0 v l)
    (bb : Nat) (u : Value) (m : List UInt8) (hx : a.eval x = u) (hb : Bytes w bb u m) (hm : 0 < m.length) (hl : l.length ≤ 1073741824) (hml : m.length ≤ 1073741824)
    (h : ∀ g cap w', Bytes w' 0 (.slice (some ⟨g, 0, none⟩) (l.length + m.length) cap) (l ++ m) → Kept v.ownBlock.toList w w' → (v.ownBlock = some g ∨ w.heap.size ≤ g) → wpList Tryz.prog ops Q rest (a.put o.dst (.slice (some ⟨g, 0, none⟩) (l.length + m.length) cap)) w') : wpList Tryz.prog ops Q (o :: rest) a w := by
  obtain ⟨i0, hi0, hz0, hz1, hz2⟩ := info_parts Tryz.info5
  obtain ⟨g2, cap2, rfl, _, _⟩ := World.ownsRow.form hb hm
  refine wpList_append_lies _ hgd sl x 28 ho 0 5 i0 _ 1 1 Tryz.underlying28 hi0 hz0 hz1 hz2 rfl (by decide) v l.length (l.map bcell) hs hown ⟨g2, 0, none⟩ m.length cap2 (m.map bcell) hx (by simp) (own_news hb) (by intro u hu; obtain ⟨z, _, rfl⟩ := List.mem_map.1 hu; rfl) hm (by unfold maxLen; omega) (by omega) (Nat.zero_le _) w.heap.size rfl ?_
  intro g cap w' ho hg hat hlt
  exact h _ cap w' (by unfold Bytes; rw [← List.map_append] at ho; simpa using ho) (grown_kept hg) (hat.imp id (fun e => by omega))

theorem wpList_val {ops : Array Oper} {rest : List Oper} {o : Oper} {a : Act} {Q : Exit → Act → World → Prop} {w : World} (hgd : o.guard = none) (sl x : Operand)
    (ho : o.op = .call { callee := .builtin .append, args := #[sl, x], argTypes := #[59, 59] }) (base : Nat) (v : Value) (L : List Val) (hs : a.eval sl = v) (hown : kval.Row 57 w base NoB v L)
    (b : Nat) (y : Val) (hx : a.eval x = .slice (some ⟨b, 0, none⟩) 1 1) (hb : Arr w b 57 [.int .i64 y.k, .int .i64 y.n, .string y.s]) (hl : L.length ≤ 1048576) (hbase : base ≤ w.heap.size)
    (h : ∀ g cap w', kval.Row 57 w' base NoB (.slice (some ⟨g, 0, none⟩) (L.length + 1) cap) (L ++ [y]) → Kept v.ownBlock.toList w w' → wpList Tryz.prog ops Q rest (a.put o.dst (.slice (some ⟨g, 0, none⟩) (L.length + 1) cap)) w') : wpList Tryz.prog ops Q (o :: rest) a w := by
  obtain ⟨i0, hi0, hz0, hz1, hz2⟩ := info_parts Tryz.info57
  obtain ⟨xs, hxs, hel⟩ := hown
  refine wpList_append_lies _ hgd sl x 59 ho base 57 i0 _ 3 32 Tryz.underlying59 hi0 hz0 hz1 hz2 rfl (by decide) v L.length xs hs hxs ⟨b, 0, none⟩ 1 1 [.int .i64 y.k, .int .i64 y.n, .string y.s] hx rfl (World.news_of_block (cs := #[.int .i64 y.k, .int .i64 y.n, .string y.s]) (t := 57) (fr := (0, 0)) hb) (by intro u hu; simp at hu; rcases hu with rfl | rfl | rfl <;> rfl) (by decide) (by unfold maxLen; omega) (by omega) hbase w.heap.size rfl ?_
  intro g cap w' ho hg hat hlt
  exact h g cap w' (Kd.Row.push (x := y) hxs hel (Kept.refl [] w) rfl ho hg hat) (grown_kept hg)

/-- What the writer has written. -/
def Wrote (p : Nat) (bv : Value) (l : List UInt8) (w : World) : Prop := Arr w p 45 [bv] ∧ Bytes w 0 bv l
def WrPost (p : Nat) (bv : Value) (l : List UInt8) (w : World) (en : Ending) (w' : World) : Prop :=
  ∃ bv', en = .returned (.tuple #[]) ∧ Wrote p bv' l w' ∧ Kept (p :: bv.ownBlock.toList) w w' ∧ ∀ g, bv'.ownBlock = some g → bv.ownBlock = some g ∨ w.heap.size ≤ g

theorem Wrote.kept {p : Nat} {bv : Value} {l : List UInt8} {w w' : World} (h : Wrote p bv l w) (k : Kept [] w w') : Wrote p bv l w' := ⟨h.1.kept k (by simp), h.2.kept k (by simp)⟩

set_option maxHeartbeats 1600000 in
theorem wr_row (w : World) (p : Nat) (bv : Value) (l : List UInt8) (v : Value) (r : List Val) (hw : Wrote p bv l w) (h : kval.At w Any v r) (hok : rowOk r = true) (hl : l.length ≤ 536870912) : Calls Tryz.prog 21 #[.pointer (some ⟨p, 0, none⟩), v] w (WrPost p bv (l ++ putR r) w) := by
  have H := Lib.hid h
  have HW := Lib.hid hw
  obtain ⟨a, cap, rfl, _⟩ := h.form
  obtain ⟨a1, cp1, rfl, _⟩ := hw.2.form
  clear h hw
  obtain ⟨hpl, hpl2⟩ := putR_len hok
  have hp0 : 0 < (putR r).length := by unfold putR; simp
  have hrl := (rowOk_parts hok).1
  have HOK := Lib.hid hok
  have HPL := Lib.hid (And.intro hp0 hpl2)
  clear hpl hpl2 hp0
  go_enter Tryz.func21, Tryz.ntmps21
  go_wp2_with fail
  refine (row_Put _ _ r H.out (by omega)).mono ?_
  rintro e w2 ⟨v2, rfl, hby, hk⟩
  rw [HOK.out, if_pos rfl] at hby
  have he : rowErr r = 0 := by unfold rowErr; rw [HOK.out]; rfl
  rw [he]
  obtain ⟨a2, cp2, rfl, _⟩ := hby.form
  have HBY := Lib.hid hby
  have HK := Lib.hid hk
  have HW2 := Lib.hid (HW.out.kept hk)
  have c0 := HW2.out.1.cell (i := 0) rfl
  have f0 := HW2.out.1.free 0
  clear hby hk he hok
  generalize putR r = m at *
  go_wp2_with (at_builtin; refine wpList_bytes' rfl _ _ rfl (.slice a1 l.length cp1) l rfl HW2.out.2 w.heap.size _ m rfl HBY.out HPL.out.1 (by omega) (by have := HPL.out.2; omega) ?_; intro g cap w3 ho hk hat; have hA := HW2.out.1.kept hk (HW2.out.2.sep HW2.out.1 (by decide)); have c0 := hA.cell (i := 0) rfl; have f0 := hA.free 0; have HO := Lib.hid ho; have HKK := Lib.hid hk; have HAT := Lib.hid hat; have HA := Lib.hid hA; clear ho hk hat hA)
  go_end0
  have hlen : l.length + m.length = (l ++ m).length := by simp
  refine ⟨.slice (some ⟨g, 0, none⟩) (l.length + m.length) cap, rfl, ⟨HA.out.set 0 _, ?_⟩, ?_, ?_⟩
  · refine Bytes.kept HO.out (Kept.setCell (Kept.refl [p] w3) (.inl (by simp)) _) ?_
    intro g' hg'
    have := HO.out.sep HA.out (by decide)
    simp only [Value.ownBlock, Option.some.injEq] at hg'
    subst hg'
    simp [Value.ownBlock] at this ⊢
    exact fun e => this e.symm
  · exact ((HK.out.mono (by simp)).trans (HKK.out.mono (fun x _ hx => by simp at hx ⊢; exact .inr hx))).setCell (.inl (by simp)) _
  · intro g' hg'
    simp only [Value.ownBlock, Option.some.injEq] at hg'
    subst hg'
    exact HAT.out.imp id (fun e => Nat.le_trans HK.out.size e)

def valRow (word : ByteArray) (l : List Int) : List Val := vtext word :: l.map vint

set_option maxHeartbeats 3200000 in
theorem wr_ints (w : World) (p : Nat) (bv : Value) (l : List UInt8) (word : ByteArray) (v : Value) (ns : List Int) (hw : Wrote p bv l w) (h : (kint .i64).At w Any v ns) (hok : rowOk (valRow word ns) = true) (hl : l.length ≤ 536870912) : Calls Tryz.prog 18 #[.pointer (some ⟨p, 0, none⟩), .string word, v] w (WrPost p bv (l ++ putR (valRow word ns)) w) := by
  have H := Lib.hid h
  have HW := Lib.hid hw
  have HOK := Lib.hid hok
  obtain ⟨a, cap, rfl, _⟩ := h.form
  have hn := (rowOk_parts hok).1
  have hn : (ns.length : Int) ≤ 32 := by simp [valRow] at hn; omega
  clear h hw hok
  go_enter Tryz.func18, Tryz.ntmps18
  go_wp2_with fail
  refine (value_text _ word).mono ?_
  rintro e w2 ⟨rfl, hk⟩
  have HK := Lib.hid hk
  clear hk
  go_wp2_with fail
  have hb0 : kval.Row 57 (w2.alloc (Obj.cells #[.int .i64 3, .int .i64 0, .string word] 57)) w.heap.size NoB (.slice (some ⟨w2.heap.size, 0, none⟩) 1 1) (vtext word :: (ns.take 0).map vint) :=
    Kd.Row.one (x := vtext word) (Arr.new' rfl rfl) HK.out.size rfl (fun _ h => h.elim)
  have HB0 := Lib.hid hb0
  clear hb0
  go_loopg [6, 14] ns.length (fun g v6 i wr => ∃ (k : Nat) (rv : Value), k + g = ns.length ∧ i = .int .i64 k ∧ v6 = rv ∧ Hid (kval.Row 57 wr w.heap.size NoB rv (vtext word :: (ns.take k).map vint)) ∧ Hid (Kept [] w wr))
  case atStart => exact ⟨0, _, by omega, rfl, rfl, HB0, Lib.hid (HK.out.alloc _)⟩
  case round =>
    obtain ⟨k, rv, hk, rfl, hrv, hrow, hkp⟩ := hrel
    subst hrv
    obtain ⟨wo, hwo⟩ : ∃ wo : World, wo = wr := ⟨_, rfl⟩
    subst hwo
    obtain ⟨a1, cp1, hf, _⟩ := hrow.out.form
    subst hf
    by_cases hlt : k < ns.length
    · obtain ⟨x, hx⟩ : ∃ x, ns[k]? = some x := ⟨ns[k], by simp [hlt]⟩
      obtain ⟨b0, o0, cap', he, _, hbs, x0⟩ := int_at (H.out.kept hkp.out) hx
      simp only [Value.slice.injEq, true_and] at he
      obtain ⟨rfl, rfl⟩ := he
      have hk0 : (0 : Int) ≤ (k : Int) := by omega
      have hk1 : (k : Int) < (ns.length : Int) := by omega
      have HT := Lib.hid (take_snoc ns k x hx)
      have hll : (vtext word :: (ns.take k).map vint).length = k + 1 := by simp; omega
      have HLL := Lib.hid hll
      clear hx
      rw [hll] at hrow
      clear hll
      rw [HLL.out]
      generalize hLM : vtext word :: (ns.take k).map vint = LM at hrow HLL ⊢
      have HLM := Lib.hid hLM
      clear hLM
      go_wp2_with fail
      refine (value_int _ x).mono ?_
      rintro e w3 ⟨rfl, hk3⟩
      have HK3 := Lib.hid hk3
      clear hk3 x0
      go_wp2_with (at_builtin; go_must (refine wpList_val rfl _ _ rfl w.heap.size (.slice a1 (k + 1) cp1) LM rfl (hrow.out.kept (HK3.out.alloc _)) w3.heap.size (vint x) rfl (Arr.new' rfl rfl) (by have := HLL.out; omega) (by have := hkp.out.size; have := HK3.out.size; simp; omega) ?_); intro g cap w4 ho hk; rw [HLL.out] at ho; have HO := Lib.hid ho; have HK4 := Lib.hid (Kept.fresh (hkp.out.trans (HK3.out.alloc _)) hk (fun y hy hlt => by have := hrow.out.block (g := y) (by simpa using hy); omega)); clear ho hk)
      go_roundg (ns.length - (k + 1))
      case measure => omega
      case rel => exact ⟨k + 1, _, by omega, by go_num, rfl, by rw [HT.out, List.map_append, List.map_singleton, ← List.cons_append, HLM.out, HLL.out]; exact HO, HK4⟩
    · obtain rfl : k = ns.length := by omega
      rw [List.take_length] at *
      have hll : (vtext word :: ns.map vint).length = ns.length + 1 := by simp
      rw [hll] at hrow
      rw [hll]
      have HV : Hid (kval.At wo Any (.slice a1 (ns.length + 1) cp1) (valRow word ns)) := Lib.hid hrow.out.any
      clear hll hrow
      go_wp2_with fail
      refine (wr_row _ p bv l (.slice a1 (ns.length + 1) cp1) (valRow word ns) (HW.out.kept hkp.out) HV.out HOK.out hl).mono ?_
      rintro e w3 ⟨bv', rfl, h1, h2, h3⟩
      have H1 := Lib.hid h1
      have H2 := Lib.hid ((hkp.out.mono (by simp)).trans h2)
      have H3 := Lib.hid (fun g hg => (h3 g hg).imp id (fun e => Nat.le_trans hkp.out.size e))
      clear h1 h2 h3
      go_wp2_with fail
      go_end0
      exact ⟨bv', rfl, H1.out, H2.out, H3.out⟩

/-- A table's bytes. -/
def colRow (c : Col) : List Val := valRow c.name [c.type]
def headRow (t : Tbl) : List Val := valRow t.name [(t.cols.length : Int), (t.rows.length : Int)]
def putT (t : Tbl) : List UInt8 := putR (headRow t) ++ t.cols.flatMap (fun c => putR (colRow c)) ++ t.rows.flatMap putR

theorem WrPost.trans {p : Nat} {bv bv' : Value} {w w1 w2 : World} (k1 : Kept (p :: bv.ownBlock.toList) w w1) (h1 : ∀ g, bv'.ownBlock = some g → bv.ownBlock = some g ∨ w.heap.size ≤ g) (k2 : Kept (p :: bv'.ownBlock.toList) w1 w2) : Kept (p :: bv.ownBlock.toList) w w2 :=
  Kept.fresh k1 k2 (fun x hx hlt => by
    rcases List.mem_cons.1 hx with rfl | hx
    · simp
    · rcases h1 x (by simpa using hx) with h | h
      · simp [h]
      · omega)
theorem flat_snoc' {α β : Type} (f : α → List β) (r : List α) (k : Nat) (x : α) (h : r[k]? = some x) : (r.take (k + 1)).flatMap f = (r.take k).flatMap f ++ f x := by
  rw [take_snoc r k x h, List.flatMap_append]; simp

end Go.Proofs.YtkodiogkldboiaaGreatDoor
/- The script's writer: table. -/
namespace Go.Proofs.YtkodiogkldboiaaGreatDoor
open Go.RowKit

theorem ints_new {w : World} {b n : Nat} {xs : List Int} {T : TypeId} (h : Arr w b T (xs.map (Value.int .i64))) (hn : xs.length ≤ n) : (kint .i64).At w Any (.slice (some ⟨b, 0, none⟩) xs.length n) xs := by
  refine ⟨_, _, rfl, hn, fun j x hx => ⟨b, 0, [.int .i64 x], rfl, trivial, h.lt, rfl, fun i u hu => ?_⟩⟩
  match i, hu with
  | 0, hu =>
    simp at hu; subst hu
    refine h.cell ?_
    simp [kint, hx]
  | i + 1, hu => simp at hu

theorem val_int_ok {n : Int} (h1 : -9007199254740991 ≤ n) (h2 : n ≤ 9007199254740991) : valOk (vint n) = true := by
  simp [valOk, vint, maxInt, ByteArray.toList_eq, h1, h2]
theorem val_text_ok {s : ByteArray} (h : s.size ≤ 64) : valOk (vtext s) = true := by
  simp [valOk, vtext, h]
theorem valRow_ok {word : ByteArray} {ns : List Int} (h : word.size ≤ 64) (hn : ns.length ≤ 31) (hi : ∀ n ∈ ns, -9007199254740991 ≤ n ∧ n ≤ 9007199254740991) : rowOk (valRow word ns) = true := by
  unfold rowOk valRow
  rw [decide_eq_true (by simp; omega), Bool.true_and, List.all_cons, val_text_ok h, Bool.true_and, List.all_eq_true]
  intro v hv
  obtain ⟨n, hm, rfl⟩ := List.mem_map.1 hv
  exact val_int_ok (hi n hm).1 (hi n hm).2
theorem nameB_size {s : ByteArray} (h : nameB s = true) : s.size ≤ 24 := by
  unfold nameB at h
  simp only [Bool.and_eq_true, decide_eq_true_eq] at h
  exact h.1.2
structure TOk (t : Tbl) : Prop where
  head : rowOk (headRow t) = true
  col : ∀ c ∈ t.cols, rowOk (colRow c) = true
  row : ∀ r ∈ t.rows, rowOk r = true
  cols : t.cols.length ≤ 16
  rows : t.rows.length ≤ 4096
theorem TOk.of {t : Tbl} (h : tblOk t = true) : TOk t := by
  obtain ⟨h1, h2, h3, h4, h5, h6, h7⟩ := tblOk_iff.1 h
  refine ⟨?_, ?_, ?_, h3, h4⟩
  · refine valRow_ok (by have := nameB_size h1; omega) (by simp) (fun n hn => ?_)
    simp at hn
    omega
  · intro c hc
    have := List.all_eq_true.1 h5 c hc
    unfold colOk at this
    simp only [Bool.and_eq_true, decide_eq_true_eq] at this
    refine valRow_ok (by have := nameB_size this.1.2; omega) (by simp) (fun n hn => ?_)
    simp at hn
    omega
  · intro r hr
    have := List.all_eq_true.1 h7 r hr
    unfold bigRow at this
    simp only [Bool.not_eq_true', Bool.or_eq_false_iff, Bool.not_eq_false'] at this
    exact fit_ok this.1
theorem flat_le {α : Type} (f : α → List UInt8) (r : List α) (h : ∀ x ∈ r, (f x).length ≤ 2200) : (r.flatMap f).length ≤ 2200 * r.length := by
  induction r with
  | nil => simp
  | cons a r ih =>
    rw [List.flatMap_cons, List.length_append, List.length_cons]
    have := h a (by simp)
    have := ih (fun x hx => h x (by simp [hx]))
    omega

/-- What the writer has written, told against where it began. -/
structure Wrt (p : Nat) (bv bv' : Value) (l : List UInt8) (w w' : World) : Prop where
  wrote : Wrote p bv' l w'
  kept : Kept (p :: bv.ownBlock.toList) w w'
  own : ∀ g, bv'.ownBlock = some g → bv.ownBlock = some g ∨ w.heap.size ≤ g
theorem Wrt.next {p : Nat} {bv bv' bv'' : Value} {l l' : List UInt8} {w w1 w2 w3 : World} (h : Wrt p bv bv' l w w1) (k : Kept [] w1 w2) (h1 : Wrote p bv'' l' w3) (h2 : Kept (p :: bv'.ownBlock.toList) w2 w3) (h3 : ∀ g, bv''.ownBlock = some g → bv'.ownBlock = some g ∨ w2.heap.size ≤ g) : Wrt p bv bv'' l' w w3 :=
  ⟨h1, WrPost.trans (h.kept.trans (k.mono (by simp))) (fun g hg => (h.own g hg)) h2, fun g hg => by
    rcases h3 g hg with e | e
    · exact h.own g e
    · exact .inr (Nat.le_trans h.kept.size (Nat.le_trans k.size e))⟩
theorem Wrt.keep {p : Nat} {bv bv' : Value} {l : List UInt8} {w w1 w2 : World} (h : Wrt p bv bv' l w w1) (k : Kept [] w1 w2) : Wrt p bv bv' l w w2 :=
  ⟨h.wrote.kept k, h.kept.trans (k.mono (by simp)), h.own⟩

/-- Below a mark. -/
abbrev Lo (base : Nat) : Nat → Prop := fun b => b < base
theorem lo_off {base p : Nat} {bv : Value} (hp : base ≤ p) (ho : ∀ g, bv.ownBlock = some g → base ≤ g) : ∀ b, Lo base b → b ∉ p :: bv.ownBlock.toList := by
  intro b hb hm
  rcases List.mem_cons.1 hm with rfl | hm
  · exact absurd hb (by omega)
  · have := ho b (by simpa using hm)
    exact absurd hb (by omega)

set_option maxHeartbeats 6400000 in
theorem wr_table (w : World) (base p : Nat) (bv : Value) (l : List UInt8) (t : Tbl) (ca : Option Addr) (cn cc : Nat) (ra : Option Addr) (rn rc : Nat) (hw : Wrote p bv l w) (hp : base ≤ p) (ho : ∀ g, bv.ownBlock = some g → base ≤ g) (hc : kcol.At w (Lo base) (.slice ca cn cc) t.cols) (hr : krow.At w (Lo base) (.slice ra rn rc) t.rows) (hok : tblOk t = true) (hl : l.length ≤ 268435456) : Calls Tryz.prog 20 #[.pointer (some ⟨p, 0, none⟩), .agg #[.string t.name, .slice ca cn cc, .slice ra rn rc]] w (WrPost p bv (l ++ putT t) w) := by
  obtain rfl := at_len hc
  obtain rfl := at_len hr
  have HT := Lib.hid (TOk.of hok)
  have h1 : (t.cols.length : Int) ≤ 16 := by have := HT.out.cols; omega
  have h2 : (t.rows.length : Int) ≤ 4096 := by have := HT.out.rows; omega
  have K0 : Kept [] w (w.alloc (.cells #[.string t.name, .slice ca t.cols.length cc, .slice ra t.rows.length rc] 53)) := Kept.alloc (Kept.refl [] w) _
  have A := Arr.new w #[.string t.name, .slice ca t.cols.length cc, .slice ra t.rows.length rc] 53
  have HA := Lib.hid A
  have HK0 := Lib.hid K0
  have HW := Lib.hid (hw.kept K0)
  have HOFF := Lib.hid (lo_off hp ho)
  have HC := Lib.hid (hc.next K0 (by simp) (fun _ h _ => h))
  have HR := Lib.hid (hr.next K0 (by simp) (fun _ h _ => h))
  have HPB := Lib.hid hp
  have HNE : Hid (w.heap.size ≠ p) := Lib.hid (fun e => by have := hw.1.lt; omega)
  have HBV : Hid (w.heap.size ∉ bv.ownBlock.toList) := Lib.hid ((hw.kept K0).2.sep A (by decide))
  clear hw hc hr K0 A hp ho hok
  go_enter Tryz.func20, Tryz.ntmps20
  go_wp2_with fail
  generalize hw1 : w.alloc (Obj.cells #[.string t.name, .slice ca t.cols.length cc, .slice ra t.rows.length rc] 53) = w1 at *
  have HW1 := Lib.hid hw1
  clear hw1
  have HI : Hid ((kint .i64).At (w1.alloc (Obj.cells #[.int .i64 (t.cols.length : Int), .int .i64 (t.rows.length : Int)] 3)) Any (.slice (some ⟨w.heap.size + 1, 0, none⟩) 2 2) [(t.cols.length : Int), (t.rows.length : Int)]) := Lib.hid (ints_new (T := 3) (xs := [(t.cols.length : Int), (t.rows.length : Int)]) (n := 2) (w := w1.alloc (Obj.cells #[.int .i64 (t.cols.length : Int), .int .i64 (t.rows.length : Int)] 3)) (b := w.heap.size + 1) (Arr.new' (by rw [← HW1.out]; simp) rfl) (by simp))
  refine (wr_ints _ p bv l t.name (.slice (some ⟨w.heap.size + 1, 0, none⟩) 2 2) [(t.cols.length : Int), (t.rows.length : Int)] (HW.out.kept (Kept.alloc (Kept.refl [] _) _)) HI.out HT.out.head (by omega)).mono ?_
  rintro e w2 ⟨bv1, rfl, q1, q2, q3⟩
  have HX := Lib.hid (Wrt.next ⟨HW.out, Kept.refl _ w1, fun g h => .inl h⟩ (Kept.alloc (Kept.refl [] _) _) q1 q2 q3)
  clear q1 q2 q3
  have HOFF2 : Hid (w.heap.size ∉ p :: bv.ownBlock.toList) := Lib.hid (by simp only [List.mem_cons, not_or]; exact ⟨HNE.out, HBV.out⟩)
  have hA2 := HA.out.kept HX.out.kept HOFF2.out
  have c1 := hA2.cell (i := 1) rfl
  clear hA2
  go_wp2_with fail
  clear c1
  go_loopg [22] t.cols.length (fun g i wr => ∃ (k : Nat) (bv' : Value), k + g = t.cols.length ∧ i = .int .i64 k ∧ Hid (Wrt p bv bv' (l ++ putR (headRow t) ++ (t.cols.take k).flatMap (fun c => putR (colRow c))) w1 wr))
  case atStart => exact ⟨0, bv1, by omega, rfl, by simpa [headRow] using HX⟩
  case round =>
    obtain ⟨k, bv', hk, rfl, hx⟩ := hrel
    obtain ⟨wo, hwo⟩ : ∃ wo : World, wo = wr := ⟨_, rfl⟩
    subst hwo
    by_cases hlt : k < t.cols.length
    · obtain ⟨x, hx1⟩ : ∃ x, t.cols[k]? = some x := ⟨t.cols[k], by simp [hlt]⟩
      obtain ⟨b0, o0, cap', he, _, hbs, x0, x1, x2⟩ := col_at (HC.out.next hx.out.kept HOFF.out (fun _ h _ => h)) hx1
      simp only [Value.slice.injEq, true_and] at he
      obtain ⟨rfl, rfl⟩ := he
      have hk0 : (0 : Int) ≤ (k : Int) := by omega
      have hk1 : (k : Int) < (t.cols.length : Int) := by omega
      have HSN := Lib.hid (flat_snoc' (fun c => putR (colRow c)) t.cols k x hx1)
      have HM := Lib.hid (List.mem_of_getElem? hx1)
      have hll : (l ++ putR (headRow t) ++ (t.cols.take k).flatMap (fun c => putR (colRow c))).length ≤ 536870912 := by
        have h1 := (putR_len HT.out.head).2
        have h2 := flat_le (fun c => putR (colRow c)) (t.cols.take k) (fun y hy => (putR_len (HT.out.col y (List.mem_of_mem_take hy))).2)
        have h3 : (t.cols.take k).length ≤ k := List.length_take_le _ _
        rw [List.length_append, List.length_append]
        omega
      have HLL := Lib.hid hll
      clear hx1 hll
      go_wp2_with fail
      have HI2 := Lib.hid (ints_new (T := 3) (xs := [x.type]) (n := 1) (w := (wo.alloc (Obj.cells #[.string x.tab, .string x.name, .int .i64 x.type] 85)).alloc (Obj.cells #[.int .i64 x.type] 3)) (b := wo.heap.size + 1) (Arr.new' (by simp) rfl) (by simp))
      refine (wr_ints _ p bv' _ x.name (.slice (some ⟨wo.heap.size + 1, 0, none⟩) 1 1) [x.type] (hx.out.wrote.kept ((Kept.alloc (Kept.refl [] _) _).alloc _)) HI2.out (HT.out.col x HM.out) HLL.out).mono ?_
      rintro e w3 ⟨bv2, rfl, q1, q2, q3⟩
      have HX3 := Lib.hid (Wrt.next hx.out ((Kept.alloc (Kept.refl [] _) _).alloc _) q1 q2 q3)
      clear q1 q2 q3 x0 x1 x2
      go_wp2_with fail
      go_roundg (t.cols.length - (k + 1))
      case measure => omega
      case rel => exact ⟨k + 1, bv2, by omega, by go_num, by rw [HSN.out, ← List.append_assoc]; exact HX3⟩
    · obtain rfl : k = t.cols.length := by omega
      rw [List.take_length] at *
      have hA2 := HA.out.kept hx.out.kept HOFF2.out
      have c2 := hA2.cell (i := 2) rfl
      clear hA2
      go_wp2_with fail
      clear c2
      generalize hLH : l ++ putR (headRow t) ++ t.cols.flatMap (fun c => putR (colRow c)) = LH at hx
      have HLH := Lib.hid hLH
      have hlh : LH.length ≤ 300000000 := by
        have h1 := (putR_len HT.out.head).2
        have h2 := flat_le (fun c => putR (colRow c)) t.cols (fun y hy => (putR_len (HT.out.col y hy)).2)
        rw [← hLH, List.length_append, List.length_append]
        omega
      have HLHL := Lib.hid hlh
      clear hLH hlh
      go_loopg [37] t.rows.length (fun g i wr => ∃ (k : Nat) (bv' : Value), k + g = t.rows.length ∧ i = .int .i64 k ∧ Hid (Wrt p bv bv' (LH ++ (t.rows.take k).flatMap putR) w1 wr))
      case atStart => exact ⟨0, bv', by omega, rfl, by simpa using hx⟩
      case round =>
        obtain ⟨k, bv', hk, rfl, hx⟩ := hrel
        obtain ⟨wo, hwo⟩ : ∃ wo : World, wo = wr := ⟨_, rfl⟩
        subst hwo
        by_cases hlt : k < t.rows.length
        · obtain ⟨x, hx1⟩ : ∃ x, t.rows[k]? = some x := ⟨t.rows[k], by simp [hlt]⟩
          obtain ⟨b0, o0, cap', xa, xc, he, _, hbs, x0, hxr⟩ := row_at (HR.out.next hx.out.kept HOFF.out (fun _ h _ => h)) hx1
          simp only [Value.slice.injEq, true_and] at he
          obtain ⟨rfl, rfl⟩ := he
          have hk0 : (0 : Int) ≤ (k : Int) := by omega
          have hk1 : (k : Int) < (t.rows.length : Int) := by omega
          have HSN := Lib.hid (flat_snoc' putR t.rows k x hx1)
          have HM := Lib.hid (List.mem_of_getElem? hx1)
          have HXR := Lib.hid hxr.any
          have hll : (LH ++ (t.rows.take k).flatMap putR).length ≤ 536870912 := by
            have h2 := flat_le putR (t.rows.take k) (fun y hy => (putR_len (HT.out.row y (List.mem_of_mem_take hy))).2)
            have h3 : (t.rows.take k).length ≤ k := List.length_take_le _ _
            have := HLHL.out
            rw [List.length_append]
            omega
          have HLL := Lib.hid hll
          clear hx1 hll hxr
          go_wp2_with fail
          refine (wr_row _ p bv' _ _ x hx.out.wrote HXR.out (HT.out.row x HM.out) HLL.out).mono ?_
          rintro e w3 ⟨bv2, rfl, q1, q2, q3⟩
          have HX3 := Lib.hid (Wrt.next hx.out (Kept.refl [] _) q1 q2 q3)
          clear q1 q2 q3 x0
          go_wp2_with fail
          go_roundg (t.rows.length - (k + 1))
          case measure => omega
          case rel => exact ⟨k + 1, bv2, by omega, by go_num, by rw [HSN.out, ← List.append_assoc]; exact HX3⟩
        · obtain rfl : k = t.rows.length := by omega
          rw [List.take_length] at *
          go_wp2_with fail
          go_end0
          refine ⟨bv', rfl, ?_, (HK0.out.mono (by simp)).trans hx.out.kept, fun g hg => (hx.out.own g hg).imp id (fun e => Nat.le_trans HK0.out.size e)⟩
          have := hx.out.wrote
          rw [← HLH.out] at this
          unfold putT
          rw [← List.append_assoc, ← List.append_assoc]
          exact this
end Go.Proofs.YtkodiogkldboiaaGreatDoor
/- slices.Chunk: the iterator's contract, in the wide fence. -/
namespace Go.Proofs.YtkodiogkldboiaaGreatDoor
open Go.RowKit Go.Shelf
attribute [local go_sem] Oper.semAt_some

theorem chunk_made (w : World) (b sz cap : Nat) : Calls Tryz.prog 19 #[.slice (some ⟨b, 0, none⟩) sz cap, .int .i64 64] w fun e w' => e = .returned (.func (.func 47) #[] #[.pointer (some ⟨w.heap.size, 0, none⟩), .pointer (some ⟨w.heap.size + 1, 0, none⟩)]) ∧ w' = (w.alloc (.cells #[.slice (some ⟨b, 0, none⟩) sz cap] 28)).alloc (.cells #[.int .i64 64] 3) := by
  go_enter Tryz.func19, Tryz.ntmps19
  go_wp2
  go_ret
  exact ⟨by simp, rfl⟩

/-- Two blocks lie as they lay. -/
structure Two (Bs Bn : Nat) (W W' : World) : Prop where
  size : W.heap.size ≤ W'.heap.size
  same : ∀ k, (k = Bs ∨ k = Bn) → k < W.heap.size → W'.heap[k]? = W.heap[k]?
theorem Two.refl (Bs Bn : Nat) (W : World) : Two Bs Bn W W := ⟨Nat.le_refl _, fun _ _ _ => rfl⟩
theorem Two.trans {Bs Bn : Nat} {A B C : World} (h : Two Bs Bn A B) (k : Two Bs Bn B C) : Two Bs Bn A C := ⟨Nat.le_trans h.size k.size, fun i hi hl => (k.same i hi (Nat.lt_of_lt_of_le hl h.size)).trans (h.same i hi hl)⟩
theorem Two.drawn (Bs Bn : Nat) (W : World) (q : Nat) : Two Bs Bn W (W.drewN q) := ⟨Nat.le_refl _, fun _ _ _ => rfl⟩
theorem Two.cell {Bs Bn : Nat} {W W' : World} (h : Two Bs Bn W W') {k o : Nat} (hk : k = Bs ∨ k = Bn) (hl : k < W.heap.size) : W'.cell? ⟨k, o, none⟩ = W.cell? ⟨k, o, none⟩ := World.cell?_of_block (w := W) (h.same k hk hl)
theorem Two.kept {Bs Bn : Nat} {S : List Nat} {W W' : World} (h : Kept S W W') (h1 : Bs ∉ S) (h2 : Bn ∉ S) : Two Bs Bn W W' := ⟨h.size, fun k hk hl => h.block k hl (by rcases hk with rfl | rfl <;> assumption)⟩
theorem two_put {Bs Bn : Nat} {w : World} (h1 : Bs < w.heap.size) (h2 : Bn < w.heap.size) (W : World) (l : Nat) (o o' : Obj) (hl : w.heap.size ≤ l) (h : W.heap[l]? = some o) (_ : o.isCells = false) (_ : o.isWalk = false) : Two Bs Bn W (W.putObj l o') := by
  have hg := grownBy_putObj' W l o'
  exact ⟨hg.size, fun k hk hlt => hg.block k hlt (fun e => by cases e; rcases hk with rfl | rfl <;> omega)⟩
/-- Where a chunk begins: at 64 times a number that is small enough. -/
abbrev Ch (sz : Nat) := { k : Nat // 64 * k < sz }
def chunkAt (b sz : Nat) (x : Ch sz) : Array Value := #[.slice (some ⟨b, 64 * x.1, none⟩) (min 64 (sz - 64 * x.1)) (min 64 (sz - 64 * x.1))]

set_option maxRecDepth 100000 in
set_option maxHeartbeats 6400000 in
theorem chunk_loop (n : Nat) (hn : 1 ≤ n) (l Bs Bn b sz cap : Nat) (hsz : (sz : Int) ≤ 1048576) (hcap : sz ≤ cap) (J Jx : List (Ch sz) → World → Prop)
    (hJ : ∀ s W q, J s W → J s (W.drewN q))
    (hY : ∀ pre x W, J pre W → pre.length < sz + 1 → YieldAt Fence.wide (n - 1) Tryz.prog l (chunkAt b sz x) W fun e W' =>
      (e = .returned (.bool true) ∧ J (pre ++ [x]) W' ∧ Two Bs Bn W W') ∨ (e = .returned (.bool false) ∧ Jx (pre ++ [x]) W'))
    (W : World) (hBs : Bs < W.heap.size) (hBn : Bn < W.heap.size) (hcs : W.cell? ⟨Bs, 0, none⟩ = some (.slice (some ⟨b, 0, none⟩) sz cap)) (hcn : W.cell? ⟨Bn, 0, none⟩ = some (.int .i64 64)) (h0 : J [] W) :
    CallsIn Fence.wide n Tryz.prog 47 #[.func (.yield l) #[] #[], .pointer (some ⟨Bs, 0, none⟩), .pointer (some ⟨Bn, 0, none⟩)] W fun e W' => (∃ v, e = .returned v) ∧
      ((∃ xs : List (Ch sz), xs.map (·.1) = List.range ((sz + 63) / 64) ∧ J xs W') ∨ (∃ pre, True ∧ Jx pre W')) := by
  refine callsIn_of_wp Tryz.func47 rfl trivial ?_ rfl
  simp only [Tryz.ntmps47, List.size_toArray, List.length_cons, List.length_nil, Nat.reduceAdd, Nat.reduceSub, Array.replicate_succ, Array.replicate_zero, List.push_toArray, List.append_toArray, List.nil_append, List.cons_append]
  gi_wp2
  gi_loopw [4] (fun i wr => ∃ (m k : Nat) (pre : List (Ch sz)), i = .int .i64 (m : Int) ∧ Hid (m = 64 * k) ∧ m < sz + 64 ∧ Hid (pre.map (·.1) = List.range k) ∧ Hid (J pre wr) ∧ Hid (Two Bs Bn W wr)) (fun i _ => sz - (intOf i).toNat)
  case atStart => exact ⟨0, 0, [], rfl, Lib.hid rfl, by omega, Lib.hid rfl, Lib.hid h0, Lib.hid (Two.refl _ _ _)⟩
  case round =>
    obtain ⟨m, k, pre, rfl, hm, hk, hpre, hJs, hbe⟩ := hrel
    have s0 := (hbe.out.cell (.inl rfl) hBs).trans hcs
    have n0 := (hbe.out.cell (.inr rfl) hBn).trans hcn
    by_cases hlt : m < sz
    · have i0 : (0 : Int) ≤ (m : Int) := by omega
      have i1 : (m : Int) < (sz : Int) := by omega
      have i2 : (m : Int) ≤ (sz : Int) := by omega
      gi_wp2
      refine wpIn_wide.2 ?_
      go_quiet (fail)
      obtain ⟨e, he⟩ : ∃ e : Nat, e = min 64 (sz - m) := ⟨_, rfl⟩
      have he1 : min 64 ((sz - m : Nat) : Int) = (e : Int) := by omega
      rw [he1]
      clear he1
      have hkk : 64 * k < sz := by have := hm.out; omega
      have hpl : pre.length = k := by have := congrArg List.length hpre.out; simpa using this
      obtain ⟨fn, tmps, assign, body, hy, hR⟩ := hY pre ⟨k, hkk⟩ (wr.drewN nq) (hJ _ _ _ hJs.out) (by omega)
      have hch : chunkAt b sz ⟨k, hkk⟩ = #[.slice (some ⟨b, m, none⟩) e e] := by unfold chunkAt; rw [he, hm.out]
      rw [hch] at hy
      have HPN : Hid ((pre ++ [(⟨k, hkk⟩ : Ch sz)]).map (·.1) = List.range (k + 1)) := Lib.hid (by rw [List.map_append, hpre.out, List.range_succ]; rfl)
      have s0 : (wr.drewN nq).cell? ⟨Bs, 0, none⟩ = some (.slice (some ⟨b, 0, none⟩) sz cap) := by simpa using s0
      have n0 : (wr.drewN nq).cell? ⟨Bn, 0, none⟩ = some (.int .i64 64) := by simpa using n0
      have j0 : (0 : Int) ≤ (m : Int) + (e : Int) := by omega
      have j1 : (m : Int) + (e : Int) ≤ (cap : Int) := by omega
      have j2 : (m : Int) ≤ (m : Int) + (e : Int) := by omega
      have j3 : ((m : Int) + (e : Int)).toNat = m + e := by omega
      have j4 : (e : Int) ≤ 64 := by omega
      have j5 : ¬ e = 0 := by omega
      have j6 : 0 < e := by omega
      have HB2 := Lib.hid (hbe.out.trans (Two.drawn _ _ wr nq))
      clear he hch hpl
      gi_wp2
      refine hR.mono ?_
      rintro e' W3 (⟨rfl, hJ3, hk3⟩ | ⟨rfl, hJx3⟩)
      · have n0 := (hk3.cell (.inr rfl) (Nat.lt_of_lt_of_le hBn HB2.out.size)).trans n0
        have HB3 := Lib.hid (HB2.out.trans hk3)
        have HJ3 := Lib.hid hJ3
        clear hJ3 hk3 hy hR
        gi_wp2
        go_roundw
        case rel => exact ⟨m + 64, k + 1, _, by go_num, Lib.hid (by have := hm.out; omega), by omega, HPN, HJ3, HB3⟩
        case measure => simp [intOf]; omega
      · have HX3 := Lib.hid hJx3
        clear hJx3 hy hR
        gi_wp2
        refine bodyPost_ret (results_none rfl _ _ _) rfl ?_
        exact ⟨⟨_, rfl⟩, .inr ⟨_, trivial, HX3.out⟩⟩
    · have i1 : ¬ (m : Int) < (sz : Int) := by omega
      gi_wp2
      go_end0
      refine ⟨⟨_, rfl⟩, .inl ⟨pre, ?_, hJs.out⟩⟩
      exact hpre.out.trans (by congr 1; have := hm.out; omega)

/-- The value that slices.Chunk hands back. -/
theorem chunk_stops (n : Nat) (hn : 1 ≤ n) (Bs Bn b sz cap : Nat) (hsz : (sz : Int) ≤ 1048576) (hcap : sz ≤ cap) (w : World) (hBs : Bs < w.heap.size) (hBn : Bn < w.heap.size)
    (hcs : w.cell? ⟨Bs, 0, none⟩ = some (.slice (some ⟨b, 0, none⟩) sz cap)) (hcn : w.cell? ⟨Bn, 0, none⟩ = some (.int .i64 64)) :
    SeqStopsK Fence.wide n Tryz.prog 47 #[.pointer (some ⟨Bs, 0, none⟩), .pointer (some ⟨Bn, 0, none⟩)] (chunkAt b sz) (Two Bs Bn) (fun xs : List (Ch sz) => xs.map (·.1) = List.range ((sz + 63) / 64)) (fun _ => True) (sz + 1) w := fun l J Jx W hW hJ _ hY h0 =>
  chunk_loop n hn l Bs Bn b sz cap hsz hcap J Jx (fun s W' q h => hJ s W' _ none h ⟨rfl, rfl, rfl, Nat.le_refl _, fun _ _ _ => rfl⟩ (fun r e => by cases e)) hY W (Nat.lt_of_lt_of_le hBs hW.size) (Nat.lt_of_lt_of_le hBn hW.size) ((hW.cell (p := ⟨Bs, 0, none⟩) hBs).trans hcs) ((hW.cell (p := ⟨Bn, 0, none⟩) hBn).trans hcn) h0
end Go.Proofs.YtkodiogkldboiaaGreatDoor
