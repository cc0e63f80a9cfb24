/- script.Encode, script.Size. -/
import Derived.Lib.ConvBytes
import Derived.Lib.SlBytesRow
import Derived.Test.YtkodiogkldboiaaGreatDoorM5
set_option linter.unusedVariables false
set_option linter.unusedSimpArgs false
namespace Go.Proofs.YtkodiogkldboiaaGreatDoor
open Go.RowKit Go.Shelf
attribute [local go_sem] Oper.semAt_some

/-- A piece of the query. -/
def chunkN (q : ByteArray) (k : Nat) : ByteArray := q.extract (64 * k) (64 * k + min 64 (q.size - 64 * k))
def chunksN (q : ByteArray) : Nat := (q.size + 63) / 64
def markS : ByteArray := ⟨#[83]⟩
def topRow (s : Scr) : List Val := valRow markS [s.budget, s.room, s.seed, (s.query.size : Int), (s.tables.length : Int), (s.faults.length : Int)]
def putQ (q : ByteArray) (k : Nat) : List UInt8 := putR (valRow (chunkN q k) [])
def encB (s : Scr) : List UInt8 := putR (topRow s) ++ (List.range (chunksN s.query)).flatMap (putQ s.query) ++ s.tables.flatMap putT ++ s.faults.flatMap (fun n => putR [vint n])

structure SOk (s : Scr) : Prop where
  top : rowOk (topRow s) = true
  table : ∀ t ∈ s.tables, tblOk t = true
  fault : ∀ n ∈ s.faults, rowOk [vint n] = true
  tables : s.tables.length ≤ 16
  faults : s.faults.length ≤ 64
  query : s.query.size ≤ 16384
theorem SOk.of {s : Scr} (h : scrOk s = true) : SOk s := by
  unfold scrOk at h
  simp only [Bool.and_eq_true, decide_eq_true_eq, Bool.not_eq_true'] at h
  obtain ⟨⟨h1, h2⟩, h3⟩ := h
  have hc : catOk s.tables = true := by
    cases hq : catOk s.tables with
    | true => rfl
    | false => unfold sessErr at h1; rw [hq] at h1; cases h1
  have ha : argsOk s = true := by
    cases hq : argsOk s with
    | true => rfl
    | false => unfold sessErr at h1; rw [hc, hq] at h1; cases h1
  obtain ⟨c1, c2, c3⟩ := catOk_iff.1 hc
  unfold argsOk at ha
  simp only [Bool.and_eq_true, decide_eq_true_eq] at ha
  refine ⟨valRow_ok (by decide) (by simp) ?_, fun t ht => List.all_eq_true.1 c2 t ht, fun n hn => ?_, c1, ha.2, h2⟩
  · intro n hn
    simp at hn
    omega
  · have := List.any_eq_false.1 h3 n hn
    unfold oddFault at this
    simp at this
    unfold rowOk
    simp [val_int_ok (n := n) (by omega) (by omega)]

theorem Wrt.grown {p : Nat} {bv bv' : Value} {l : List UInt8} {w W W' : World} {row : Option Nat} (h : Wrt p bv bv' l w W) (hg : W.grownBy W' row) (hr : ∀ r, row = some r → w.heap.size ≤ r ∧ ∃ o : Obj, W.heap[r]? = some o ∧ o.isCells = false) : Wrt p bv bv' l w W' := by
  have kg := grown_kept hg
  have hp : p ∉ row.toList := by
    intro hm
    obtain ⟨_, o, ho, hc⟩ := hr p (by simpa using hm)
    have := h.wrote.1
    unfold Arr at this
    rw [this] at ho
    cases ho
    cases hc
  refine ⟨⟨h.wrote.1.kept kg hp, h.wrote.2.kept kg ?_⟩, ?_, h.own⟩
  · intro g hgo hm
    obtain ⟨_, o, ho, hc⟩ := hr g (by simpa using hm)
    rcases h.wrote.2.2 with ⟨rfl, _⟩ | ⟨g', cap, cur, rfl, _, hh, _⟩
    · simp [Value.ownBlock] at hgo
    · simp only [Value.ownBlock, Option.some.injEq] at hgo
      subst hgo
      rw [hh] at ho
      cases ho
      cases hc
  · exact Kept.fresh h.kept kg (fun x hx hlt => by
      have := (hr x (by simpa using hx)).1
      omega)

theorem keeps_of_kept {S : List Nat} {W W' : World} (h : Kept S W W') (hS : ∀ x ∈ S, ∃ o : Obj, W.heap[x]? = some o ∧ o.isCells = true) : KeepsOthers W W' :=
  ⟨h.size, fun k o hk ho => (h.block k (Array.getElem?_eq_some_iff.1 hk).1 (fun hm => by
    obtain ⟨o', ho', hc⟩ := hS k hm
    rw [hk] at ho'
    cases ho'
    rw [ho] at hc
    cases hc)).trans hk⟩
theorem wrote_cells {p : Nat} {bv : Value} {l : List UInt8} {w : World} (h : Wrote p bv l w) : ∀ x ∈ p :: bv.ownBlock.toList, ∃ o : Obj, w.heap[x]? = some o ∧ o.isCells = true := by
  intro x hx
  rcases List.mem_cons.1 hx with rfl | hx
  · exact ⟨_, h.1, rfl⟩
  · rcases h.2.2 with ⟨rfl, _⟩ | ⟨g', cap, cur, rfl, _, hh, _⟩
    · simp [Value.ownBlock] at hx
    · simp [Value.ownBlock] at hx
      subst hx
      exact ⟨_, hh, rfl⟩
theorem chunk_ok (q : ByteArray) (k : Nat) : rowOk (valRow (chunkN q k) []) = true :=
  valRow_ok (by unfold chunkN; rw [ByteArray.size_extract]; omega) (by simp) (by simp)

theorem off_of {p b : Nat} {bv bv' : Value} {l : List UInt8} {w W : World} (h : Wrt p bv bv' l w W) (hb : b ∉ p :: bv.ownBlock.toList) (hlt : b < w.heap.size) : b ∉ p :: bv'.ownBlock.toList := by
  intro hm
  rcases List.mem_cons.1 hm with rfl | hm
  · exact hb (by simp)
  · rcases h.own b (by simpa using hm) with e | e
    · exact hb (by simp [e])
    · omega

theorem putT_len {t : Tbl} (h : tblOk t = true) : (putT t).length ≤ 9060000 := by
  have o := TOk.of h
  have h1 := (putR_len o.head).2
  have h2 := flat_le (fun c => putR (colRow c)) t.cols (fun y hy => (putR_len (o.col y hy)).2)
  have h3 := flat_le putR t.rows (fun y hy => (putR_len (o.row y hy)).2)
  have h4 := o.cols
  have h5 := o.rows
  unfold putT
  rw [List.length_append, List.length_append]
  omega
theorem flat_big {α : Type} (f : α → List UInt8) (r : List α) (h : ∀ x ∈ r, (f x).length ≤ 9060000) : (r.flatMap f).length ≤ 9060000 * r.length := by
  induction r with
  | nil => simp
  | cons a r ih =>
    rw [List.flatMap_cons, List.length_append, List.length_cons]
    have := h a (by simp)
    have := ih (fun x hx => h x (by simp [hx]))
    omega

theorem one_val (w : World) (x : Val) : kval.At (w.alloc (Obj.cells #[.int .i64 x.k, .int .i64 x.n, .string x.s] 57)) Any (.slice (some ⟨w.heap.size, 0, none⟩) 1 1) [x] :=
  (Kd.Row.one (K := kval) (e := 57) (base := 0) (P := NoB) (x := x) (Arr.new' rfl rfl) (Nat.zero_le _) rfl (fun _ h => h.elim)).any
theorem own_low {w : World} {base : Nat} {v : Value} {l : List UInt8} (h : Bytes w 0 v l) (hb : ∀ g, v.ownBlock = some g → base ≤ g) : Bytes w base v l := by
  obtain ⟨h1, h2⟩ := h
  refine ⟨h1, ?_⟩
  rcases h2 with h2 | ⟨g, cap, cur, hv, hg, r⟩
  · exact .inl h2
  · exact .inr ⟨g, cap, cur, hv, hb g (by rw [hv]; rfl), r⟩

def EncPost (s : Scr) (w : World) (en : Ending) (w' : World) : Prop :=
  ∃ v, en = .returned (.tuple #[v, .int .i64 (scrErr s)]) ∧ Bytes w' w.heap.size v (if scrOk s then encB s else []) ∧ Kept [] w w'

theorem bytes_kept (w : World) (e : TypeId) (s : ByteArray) : Kept [] w (Lib.bytesWorld w e s) := by
  refine ⟨?_, ?_, ?_, by rw [Lib.bytesWorld_size]; omega, fun k hk _ => Lib.bytesWorld_at_old w e s k hk⟩
  all_goals simp [Lib.bytesWorld, World.freeze, World.alloc, World.drew, -World.alloc_eq, -World.drew_eq]
theorem bytes_lie (w : World) (e : TypeId) (s : ByteArray) : Lib.Bytes (Lib.bytesWorld w e s) w.heap.size 0 s := by
  intro i hi
  rw [Nat.zero_add, Lib.bytesWorld_cell w e s i hi]
  simp [List.getD, hi]
  rfl
theorem lie_kept {w w' : World} {b : Nat} {s : ByteArray} {S : List Nat} (h : Lib.Bytes w b 0 s) (k : Kept S w w') (hb : b < w.heap.size) (hS : b ∉ S) : Lib.Bytes w' b 0 s := fun i hi => (k.cell hb hS).trans (h i hi)

set_option maxRecDepth 100000 in
set_option maxHeartbeats 12800000 in
theorem script_encode (w : World) (v : Value) (s : Scr) (h : ScrAt w Any s v) (hm : ML w) (hf : FineS s) : Calls Tryz.prog 7 #[v] w (EncPost s w) := by
  obtain ⟨t, f, rfl, ht, hfl⟩ := h
  obtain ⟨ta, tc, rfl, _⟩ := ht.form
  obtain ⟨fa, fc, rfl, _⟩ := hfl.form
  have K0 : Kept [] w (w.alloc (.cells #[.slice ta s.tables.length tc, .string s.query, .int .i64 s.budget, .int .i64 s.room, .int .i64 s.seed, .slice fa s.faults.length fc] 25)) := Kept.alloc (Kept.refl [] w) _
  have A := Arr.new w #[.slice ta s.tables.length tc, .string s.query, .int .i64 s.budget, .int .i64 s.room, .int .i64 s.seed, .slice fa s.faults.length fc] 25
  have HA := Lib.hid A
  have HK0 := Lib.hid K0
  have HM := Lib.hid (ML.kept hm K0)
  have HT := Lib.hid (ht.kept K0)
  have HFL := Lib.hid (hfl.kept K0)
  have HF := Lib.hid hf
  have HSA : Hid (ScrAt (w.alloc (.cells #[.slice ta s.tables.length tc, .string s.query, .int .i64 s.budget, .int .i64 s.room, .int .i64 s.seed, .slice fa s.faults.length fc] 25)) Any s (.agg #[.slice ta s.tables.length tc, .string s.query, .int .i64 s.budget, .int .i64 s.room, .int .i64 s.seed, .slice fa s.faults.length fc])) := Lib.hid ⟨_, _, rfl, ht.kept K0, hfl.kept K0⟩
  clear ht hm hf K0 A hfl
  refine (callsIn_wide (n := 9)).1 (callsIn_of_wp_marks Tryz.func7 rfl trivial (wpIn_wide.2 ?_) rfl)
  simp only [Tryz.ntmps7, List.size_toArray, List.length_cons, List.length_nil, Nat.reduceAdd, Nat.reduceSub, Array.replicate_succ, Array.replicate_zero, List.push_toArray, List.append_toArray, List.nil_append, List.cons_append]
  go_wp2_with fail
  refine (script_check _ _ s HSA.out HM.out HF.out).mono ?_
  rintro e w2 ⟨rfl, hk⟩
  have hA2 := HA.out.kept hk (by simp)
  have c0 := hA2.cell (i := 0) rfl
  have c1 := hA2.cell (i := 1) rfl
  have c2 := hA2.cell (i := 2) rfl
  have c3 := hA2.cell (i := 3) rfl
  have c4 := hA2.cell (i := 4) rfl
  have c5 := hA2.cell (i := 5) rfl
  have HA2 := Lib.hid hA2
  have HT2 := Lib.hid (HT.out.kept hk)
  have HFL2 := Lib.hid (HFL.out.kept hk)
  have HK := Lib.hid (HK0.out.trans hk)
  have lP := hA2.lt
  clear hk hA2
  cases hq : scrOk s
  · have he : scrErr s = 300 := by unfold scrErr; rw [hq]; rfl
    have HE := Lib.hid he
    have HQ := Lib.hid hq
    rw [he]
    clear he hq
    go_wp2_with fail
    exact ⟨_, results_tmp2 rfl _ _ _, .slice none 0 0, by rw [HE.out]; rfl, by rw [HQ.out]; exact Bytes.nil _ _, HK.out⟩
  · have he : scrErr s = 0 := by unfold scrErr; rw [hq]; rfl
    have HE := Lib.hid he
    have HQ := Lib.hid hq
    rw [he]
    clear he hq
    go_wp2_with fail
    have HOK := Lib.hid (SOk.of HQ.out)
    have h1 : (s.query.size : Int) ≤ 16384 := by have := HOK.out.query; omega
    have h2 : (s.tables.length : Int) ≤ 16 := by have := HOK.out.tables; omega
    have h3 : (s.faults.length : Int) ≤ 64 := by have := HOK.out.faults; omega
    have k3 : Kept [] w2 ((w2.alloc (Obj.cells #[.slice none 0 0] 45)).alloc (Obj.cells #[.pointer (some ⟨w2.heap.size, 0, none⟩)] 43)) := (Kept.alloc (Kept.refl [] w2) _).alloc _
    have A45 : Arr ((w2.alloc (Obj.cells #[.slice none 0 0] 45)).alloc (Obj.cells #[.pointer (some ⟨w2.heap.size, 0, none⟩)] 43)) w2.heap.size 45 [.slice none 0 0] := (Arr.new' rfl rfl : Arr (w2.alloc (Obj.cells #[.slice none 0 0] 45)) w2.heap.size 45 [.slice none 0 0]).alloc _
    have A43 : Arr ((w2.alloc (Obj.cells #[.slice none 0 0] 45)).alloc (Obj.cells #[.pointer (some ⟨w2.heap.size, 0, none⟩)] 43)) (w2.heap.size + 1) 43 [.pointer (some ⟨w2.heap.size, 0, none⟩)] := Arr.new' (by simp) rfl
    have S3 : ((w2.alloc (Obj.cells #[.slice none 0 0] 45)).alloc (Obj.cells #[.pointer (some ⟨w2.heap.size, 0, none⟩)] 43)).heap.size = w2.heap.size + 2 := by simp
    generalize hw3 : (w2.alloc (Obj.cells #[.slice none 0 0] 45)).alloc (Obj.cells #[.pointer (some ⟨w2.heap.size, 0, none⟩)] 43) = w3 at *
    have HK3 := Lib.hid k3
    have H45 := Lib.hid A45
    have H43 := Lib.hid A43
    have HS3 := Lib.hid S3
    have HI := Lib.hid (ints_new (T := 3) (xs := [s.budget, s.room, s.seed, (s.query.size : Int), (s.tables.length : Int), (s.faults.length : Int)]) (n := 6) (w := w3.alloc (Obj.cells #[.int .i64 s.budget, .int .i64 s.room, .int .i64 s.seed, .int .i64 (s.query.size : Int), .int .i64 (s.tables.length : Int), .int .i64 (s.faults.length : Int)] 3)) (b := w2.heap.size + 1 + 1) (Arr.new' (by rw [S3]) rfl) (by simp))
    clear hw3 k3 A45 A43 S3 c0 c1 c2 c3 c4 c5
    refine (wr_ints _ w2.heap.size (.slice none 0 0) [] markS (.slice (some ⟨w2.heap.size + 1 + 1, 0, none⟩) 6 6) [s.budget, s.room, s.seed, (s.query.size : Int), (s.tables.length : Int), (s.faults.length : Int)] ⟨H45.out.alloc _, Bytes.nil _ _⟩ HI.out HOK.out.top (by simp)).mono ?_
    rintro e w4 ⟨bv1, rfl, q1, q2, q3⟩
    have HX4 := Lib.hid (Wrt.next (bv := .slice none 0 0) (l := []) ⟨⟨H45.out, Bytes.nil _ _⟩, Kept.refl _ w3, fun g h => .inl h⟩ (Kept.alloc (Kept.refl [] _) _) q1 q2 q3)
    clear q1 q2 q3 HI
    have hoff : w.heap.size ∉ w2.heap.size :: (Value.slice none 0 0).ownBlock.toList := by simp [Value.ownBlock]; omega
    have HOFF := Lib.hid hoff
    have hA4 := (HA2.out.kept HK3.out (by simp)).kept HX4.out.kept hoff
    have c1 := hA4.cell (i := 1) rfl
    clear hoff hA4
    have hcv := Lib.run_convert_string_bytes (P := Tryz.prog) w4 9 28 5 s.query Tryz.underlying9 Tryz.underlying28 Tryz.underlying5
    go_wp2_with fail
    refine (chunk_made _ _ _ _).mono ?_
    rintro e w5 ⟨rfl, rfl⟩
    have kb := bytes_kept w4 5 s.query
    have hbs := Lib.bytesWorld_size w4 5 s.query
    have hlie := bytes_lie w4 5 s.query
    have hgc := grownCap_ge w4 s.query.size 0 5
    clear hcv c1
    generalize grownCap w4 s.query.size 0 5 = gc at *
    generalize hwb : Lib.bytesWorld w4 5 s.query = wb at *
    clear hwb
    have kL : Kept [] wb ((wb.alloc (Obj.cells #[.slice (some ⟨w4.heap.size, 0, none⟩) s.query.size gc] 28)).alloc (Obj.cells #[.int .i64 64] 3)) := (Kept.alloc (Kept.refl [] wb) _).alloc _
    have AL1 : Arr ((wb.alloc (Obj.cells #[.slice (some ⟨w4.heap.size, 0, none⟩) s.query.size gc] 28)).alloc (Obj.cells #[.int .i64 64] 3)) wb.heap.size 28 [.slice (some ⟨w4.heap.size, 0, none⟩) s.query.size gc] := (Arr.new' rfl rfl : Arr (wb.alloc (Obj.cells #[.slice (some ⟨w4.heap.size, 0, none⟩) s.query.size gc] 28)) wb.heap.size 28 [.slice (some ⟨w4.heap.size, 0, none⟩) s.query.size gc]).alloc _
    have AL2 : Arr ((wb.alloc (Obj.cells #[.slice (some ⟨w4.heap.size, 0, none⟩) s.query.size gc] 28)).alloc (Obj.cells #[.int .i64 64] 3)) (wb.heap.size + 1) 3 [.int .i64 64] := Arr.new' (by simp) rfl
    go_wp2_with fail
    generalize hwL : (wb.alloc (Obj.cells #[.slice (some ⟨w4.heap.size, 0, none⟩) s.query.size gc] 28)).alloc (Obj.cells #[.int .i64 64] 3) = wL at *
    clear hwL
    have hgap : s.query.size ≤ gc := hgc
    have hq1 := AL1.cell (i := 0) rfl
    have hq2 := AL2.cell (i := 0) rfl
    have hl1 := AL1.lt
    have hl2 := AL2.lt
    rw [hbs] at hq1 hq2 hl1 hl2
    have KL := Lib.hid (kb.trans kL)
    have LIE := Lib.hid (lie_kept hlie kL (by omega) (by simp))
    have HWL : Hid (Wrt w2.heap.size bv1 bv1 ([] ++ putR (topRow s)) wL wL) := Lib.hid ⟨HX4.out.wrote.kept KL.out, Kept.refl _ _, fun g h => .inl h⟩
    have HQC : Hid (wL.cell? ⟨w2.heap.size + 1, 0, none⟩ = some (.pointer (some ⟨w2.heap.size, 0, none⟩))) := Lib.hid (((H43.out.kept HX4.out.kept (by simp [Value.ownBlock])).kept KL.out (by simp)).cell (i := 0) rfl)
    have HA43L := Lib.hid ((H43.out.kept HX4.out.kept (by simp [Value.ownBlock])).kept KL.out (by simp))
    have hwb4 : w4.heap.size < wL.heap.size := by omega
    have HO1 : Hid (w4.heap.size ∉ w2.heap.size :: bv1.ownBlock.toList) := Lib.hid (by
      intro hm
      rcases List.mem_cons.1 hm with e | hm
      · have := HX4.out.wrote.1.lt; omega
      · have := (HX4.out.wrote.2.own (g := w4.heap.size) (by simpa using hm)).2; omega)
    have HO2 : Hid ((w4.heap.size + 1) ∉ w2.heap.size :: bv1.ownBlock.toList ∧ (w4.heap.size + 1) + 1 ∉ w2.heap.size :: bv1.ownBlock.toList) := Lib.hid (by
      have h4 := HX4.out.wrote.1.lt
      constructor
      all_goals
        intro hm
        rcases List.mem_cons.1 hm with e | hm
        · omega
        · have := (HX4.out.wrote.2.own (by simpa using hm)).2; omega)
    have HQO : Hid (w2.heap.size + 1 ∉ w2.heap.size :: bv1.ownBlock.toList) := Lib.hid (by
      have := HWL.out.wrote.2.sep HA43L.out (by decide)
      simp only [List.mem_cons, not_or]
      exact ⟨by omega, this⟩)
    have K2L : Hid (Kept [w2.heap.size] w2 wL) := Lib.hid (((HK3.out.mono (by simp)).trans (HX4.out.kept.mono (by simp [Value.ownBlock]))).trans (KL.out.mono (by simp)))
    have HBS : Hid (∀ x, x ∈ w2.heap.size :: bv1.ownBlock.toList → x < w2.heap.size → x ∈ [w2.heap.size]) := Lib.hid (fun x hx hlt => by
      rcases List.mem_cons.1 hx with rfl | hx
      · simp
      · rcases HX4.out.own x (by simpa using hx) with e | e
        · simp [Value.ownBlock] at e
        · have := HS3.out; omega)
    clear kb hlie kL AL1 AL2 hgc
    refine wpIn_wide.1 (wpIn_rangeFunc_ownF (F := Fence.wide) (n := 9) rfl (by omega) (gf := 47) (lb := #[.pointer (some ⟨(w4.heap.size + 1), 0, none⟩), .pointer (some ⟨(w4.heap.size + 1) + 1, 0, none⟩)]) rfl trivial (enters_of Tryz.func47 (by kernel_rfl) rfl)
      (chunk_stops 8 (by omega) (w4.heap.size + 1) ((w4.heap.size + 1) + 1) w4.heap.size s.query.size gc (by omega) hgap wL hl1 hl2 hq1 hq2) (fun h k => h.trans k) (two_put hl1 hl2) (Below.refl _ _) (fun _ => rfl)
      (fun pre W => ∃ bv', Wrt w2.heap.size bv1 bv' ([] ++ putR (topRow s) ++ pre.flatMap (fun x => putQ s.query x.1)) wL W) (fun _ _ _ => False) ?hI (fun _ _ _ _ _ h _ _ => h) ⟨bv1, by simpa using HWL.out⟩ ?a1 ?assign ?body ?done ?stop)
    case hI =>
      rintro pre W W' row ⟨bv', hx⟩ hg hr
      exact ⟨bv', hx.grown hg hr⟩
    case assign =>
      intro l x W K hK
      simp only [chunkAt]
      gi_wp2
      exact hK
    case body =>
      rintro l pre x W ⟨bv', hx⟩ hlen
      have hcell := (hx.kept.cell HA43L.out.lt HQO.out).trans HQC.out
      have hcv2 := Lib.run_convert_window (P := Tryz.prog) W 28 5 9 Tryz.underlying28 Tryz.underlying5 Tryz.underlying9 w4.heap.size 0 s.query (lie_kept LIE.out hx.kept (by omega) HO1.out) (64 * x.1) (min 64 (s.query.size - 64 * x.1)) (min 64 (s.query.size - 64 * x.1)) (by have := x.2; omega)
      rw [Nat.zero_add] at hcv2
      have hll : ([] ++ putR (topRow s) ++ pre.flatMap (fun x : Ch s.query.size => putQ s.query x.1)).length ≤ 536870912 := by
        have h1 := (putR_len HOK.out.top).2
        have h2 := flat_le (fun x : Ch s.query.size => putQ s.query x.1) pre (fun y _ => (putR_len (chunk_ok s.query y.1)).2)
        rw [List.nil_append, List.length_append]
        omega
      have HX := Lib.hid hx
      have HLL := Lib.hid hll
      clear hx hll hlen
      gi_wp2_with (refine ⟨trivial, ?_⟩; gi_at_call 18; refine (CallsIn.inRound l (callsIn_wide.2 (wr_ints _ w2.heap.size bv' _ (chunkN s.query x.1) _ [] HX.out.wrote (Kd.At.nil _ _ _) (chunk_ok _ _) HLL.out))).mono ?_; rintro e w6 ⟨bv2, rfl, q1, q2, q3⟩; have HN := Lib.hid (Wrt.next HX.out (Kept.refl [] _) q1 q2 q3); have HKO := Lib.hid (keeps_of_kept q2 (wrote_cells HX.out.wrote)); have HTW := Lib.hid (Two.kept q2 (off_of HX.out HO2.out.1 hl1) (off_of HX.out HO2.out.2 hl2)); clear q1 q2 q3)
      exact ⟨HKO.out, HTW.out, bv2, by rw [List.flatMap_append, ← List.append_assoc]; simpa [putQ] using HN.out⟩
    case stop =>
      rintro D c pre W _ _ h _
      exact h.elim
    case done =>
      rintro D xs W hD hS ⟨bv', hx⟩ hK
      have hL : xs.flatMap (fun x : Ch s.query.size => putQ s.query x.1) = (List.range (chunksN s.query)).flatMap (putQ s.query) := by
        unfold chunksN
        rw [← hS, List.flatMap_map]
      rw [hL] at hx
      clear hL hS
      generalize hLQ : [] ++ putR (topRow s) ++ (List.range (chunksN s.query)).flatMap (putQ s.query) = LQ at hx
      have HLQ := Lib.hid hLQ
      have hlq : LQ.length ≤ 100000000 := by
        have h1 := (putR_len HOK.out.top).2
        have h2 := flat_le (putQ s.query) (List.range (chunksN s.query)) (fun y _ => (putR_len (chunk_ok s.query y)).2)
        rw [List.length_range] at h2
        unfold chunksN at *
        rw [← hLQ, List.nil_append, List.length_append]
        omega
      have HLQL := Lib.hid hlq
      have HX := Lib.hid hx
      have HKD := Lib.hid hK
      have hA5 := HA2.out.kept (Kept.fresh K2L.out hx.kept HBS.out) (by simp; omega)
      have c0 := hA5.cell (i := 0) rfl
      clear hA5 hLQ hlq hx hK
      go_wp2_with fail
      clear c0
      go_loopg [48] s.tables.length (fun g i wr => ∃ (k : Nat) (bv' : Value), k + g = s.tables.length ∧ i = .int .i64 k ∧ Hid (Wrt w2.heap.size bv1 bv' (LQ ++ (s.tables.take k).flatMap putT) wL wr) ∧ Hid (wr.heap[D]? = some (.deferred (some []))))
      case atStart => exact ⟨0, bv', by omega, rfl, by simpa using HX, HKD⟩
      case round =>
        obtain ⟨k, bv', hk, rfl, hx, hd⟩ := hrel
        obtain ⟨wo, hwo⟩ : ∃ wo : World, wo = wr := ⟨_, rfl⟩
        subst hwo
        have HK2 := Lib.hid (Kept.fresh K2L.out hx.out.kept HBS.out)
        have q0 := (hx.out.kept.cell (o := 0) HA43L.out.lt HQO.out).trans HQC.out
        by_cases hlt : k < s.tables.length
        · obtain ⟨x, hx1⟩ : ∃ x, s.tables[k]? = some x := ⟨s.tables[k], by simp [hlt]⟩
          have HTL := Lib.hid ((HT2.out.next (Q := Lo w2.heap.size) (Kept.refl [] w2) (by simp) (fun _ _ h => h)).next HK2.out (fun b hb => by simp; intro e; rw [e] at hb; exact absurd hb (Nat.lt_irrefl _)) (fun _ h _ => h))
          obtain ⟨b0, o0, cap', ca, cn, cc, ra, rn, rc, he, _, hbs, x0, x1, x2, hE1, hE2⟩ := tbl_at HTL.out hx1
          simp only [Value.slice.injEq, true_and] at he
          obtain ⟨rfl, rfl⟩ := he
          have hk0 : (0 : Int) ≤ (k : Int) := by omega
          have hk1 : (k : Int) < (s.tables.length : Int) := by omega
          have HSN := Lib.hid (flat_snoc' putT s.tables k x hx1)
          have HM := Lib.hid (List.mem_of_getElem? hx1)
          have HE1 := Lib.hid hE1
          have HE2 := Lib.hid hE2
          have hll : (LQ ++ (s.tables.take k).flatMap putT).length ≤ 268435456 := by
            have h2 := flat_big putT (s.tables.take k) (fun y hy => putT_len (HOK.out.table y (List.mem_of_mem_take hy)))
            have h3 : (s.tables.take k).length ≤ k := List.length_take_le _ _
            have := HLQL.out
            rw [List.length_append]
            omega
          have HLL := Lib.hid hll
          have KB := Lib.hid (Kept.alloc (Kept.refl [] wo) (Obj.cells #[.string x.name, .slice ca cn cc, .slice ra rn rc] 53))
          have HOW : Hid (∀ g, bv'.ownBlock = some g → w2.heap.size ≤ g) := Lib.hid (fun g hg => by
            have := HS3.out
            have h3 := HK2.out.size
            rcases hx.out.own g hg with e | e
            · rcases HX4.out.own g e with e' | e'
              · simp [Value.ownBlock] at e'
              · omega
            · have := K2L.out.size; omega)
          have lq : w2.heap.size + 1 < wo.heap.size := Nat.lt_of_lt_of_le HA43L.out.lt hx.out.kept.size
          have q1 := (KB.out.cell (o := 0) lq (by simp)).trans q0
          clear hx1 hll hE1 hE2
          go_wp2_with fail
          refine (wr_table _ w2.heap.size w2.heap.size bv' (LQ ++ (s.tables.take k).flatMap putT) x ca cn cc ra rn rc (hx.out.wrote.kept KB.out) (Nat.le_refl _) HOW.out (HE1.out.next KB.out (by simp) (fun _ h _ => h)) (HE2.out.next KB.out (by simp) (fun _ h _ => h)) (HOK.out.table x HM.out) HLL.out).mono ?_
          rintro e w7 ⟨bv2, rfl, q1, q2, q3⟩
          have HX3 := Lib.hid (Wrt.next hx.out KB.out q1 q2 q3)
          have HD3 := Lib.hid ((keeps_of_kept q2 (wrote_cells (hx.out.wrote.kept KB.out))).same D _ ((KB.out.block D (Array.getElem?_eq_some_iff.1 hd.out).1 (by simp)).trans hd.out) rfl)
          clear q1 q2 q3 x0 x1 x2 q0 lq
          go_wp2_with fail
          go_roundg (s.tables.length - (k + 1))
          case measure => omega
          case rel => exact ⟨k + 1, bv2, by omega, by go_num, by rw [HSN.out, ← List.append_assoc]; exact HX3, HD3⟩
        · obtain rfl : k = s.tables.length := by omega
          rw [List.take_length] at *
          have hA5 := HA2.out.kept HK2.out (by simp; omega)
          have c5 := hA5.cell (i := 5) rfl
          clear hA5 q0
          go_wp2_with fail
          generalize hLT : LQ ++ s.tables.flatMap putT = LT at hx
          have HLT := Lib.hid hLT
          have hlt2 : LT.length ≤ 268435456 := by
            have h2 := flat_big putT s.tables (fun y hy => putT_len (HOK.out.table y hy))
            have := HLQL.out
            rw [← hLT, List.length_append]
            omega
          have HLTL := Lib.hid hlt2
          clear hLT hlt2 c5 HX HKD
          go_loopg [59] s.faults.length (fun g i wr => ∃ (k : Nat) (bv' : Value), k + g = s.faults.length ∧ i = .int .i64 k ∧ Hid (Wrt w2.heap.size bv1 bv' (LT ++ (s.faults.take k).flatMap (fun n => putR [vint n])) wL wr) ∧ Hid (wr.heap[D]? = some (.deferred (some []))))
          case atStart => exact ⟨0, bv', by omega, rfl, by simpa using hx, hd⟩
          case round =>
            obtain ⟨k, bv', hk, rfl, hx, hd⟩ := hrel
            obtain ⟨wo, hwo⟩ : ∃ wo : World, wo = wr := ⟨_, rfl⟩
            subst hwo
            have HK2 := Lib.hid (Kept.fresh K2L.out hx.out.kept HBS.out)
            have q0 := (hx.out.kept.cell (o := 0) HA43L.out.lt HQO.out).trans HQC.out
            by_cases hlt : k < s.faults.length
            · obtain ⟨x, hx1⟩ : ∃ x, s.faults[k]? = some x := ⟨s.faults[k], by simp [hlt]⟩
              have HFLL := Lib.hid ((HFL2.out.next (Q := Lo w2.heap.size) (Kept.refl [] w2) (by simp) (fun _ _ h => h)).next HK2.out (fun b hb => by simp; intro e; rw [e] at hb; exact absurd hb (Nat.lt_irrefl _)) (fun _ h _ => h))
              obtain ⟨b0, o0, cap', he, _, hbs, x0⟩ := int_at HFLL.out hx1
              simp only [Value.slice.injEq, true_and] at he
              obtain ⟨rfl, rfl⟩ := he
              have hk0 : (0 : Int) ≤ (k : Int) := by omega
              have hk1 : (k : Int) < (s.faults.length : Int) := by omega
              have HSN := Lib.hid (flat_snoc' (fun n => putR [vint n]) s.faults k x hx1)
              have HM := Lib.hid (List.mem_of_getElem? hx1)
              have hll : (LT ++ (s.faults.take k).flatMap (fun n => putR [vint n])).length ≤ 536870912 := by
                have h2 := flat_le (fun n => putR [vint n]) (s.faults.take k) (fun y hy => (putR_len (HOK.out.fault y (List.mem_of_mem_take hy))).2)
                have h3 : (s.faults.take k).length ≤ k := List.length_take_le _ _
                have := HLTL.out
                rw [List.length_append]
                omega
              have HLL := Lib.hid hll
              have lq : w2.heap.size + 1 < wo.heap.size := Nat.lt_of_lt_of_le HA43L.out.lt hx.out.kept.size
              clear hx1 hll
              go_wp2_with fail
              have sk := Kept.refl [] wo
              have s1 := q0
              go_region_held3 (fun w' => w'.cell? ⟨w2.heap.size + 1, 0, none⟩ = some (.pointer (some ⟨w2.heap.size, 0, none⟩)))
                (first | exact s1 | go_keep)
                (first | (go_at_call 22; refine (value_int _ x).mono ?_; rintro e w' ⟨rfl, hk⟩; have sk := Kept.trans (by first | exact sk | exact sk.drew | exact sk.drewN _) hk; have s1 := (sk.cell lq (by simp)).trans q0; have lq2 := Nat.lt_of_lt_of_le lq sk.size; clear hk) | (go_at_call 21; refine (wr_row _ w2.heap.size bv' (LT ++ (s.faults.take k).flatMap (fun n => putR [vint n])) _ [vint x] (hx.out.wrote.kept (sk.alloc _)) (one_val w' (vint x)) (HOK.out.fault x HM.out) HLL.out).mono ?_; rintro e w8 ⟨bv2, rfl, q1, q2, q3⟩; have s1 := (q2.cell (Nat.lt_of_lt_of_le lq (sk.alloc _).size) (off_of hx.out HQO.out HA43L.out.lt)).trans (((sk.alloc _).cell lq (by simp)).trans q0); have HX3 := Lib.hid (Wrt.next hx.out (sk.alloc _) q1 q2 q3); have HD3 := Lib.hid ((keeps_of_kept q2 (wrote_cells (hx.out.wrote.kept (sk.alloc _)))).same D _ (((sk.alloc _).block D (Array.getElem?_eq_some_iff.1 hd.out).1 (by simp)).trans hd.out) rfl); clear q1 q2 q3))
              rename_i hHeld
              clear hHeld s1 sk x0 q0 lq lq2
              go_wp2_with fail
              go_roundg (s.faults.length - (k + 1))
              case measure => omega
              case rel => exact ⟨k + 1, bv2, by omega, by go_num, by rw [HSN.out, ← List.append_assoc]; exact HX3, HD3⟩
            · obtain rfl : k = s.faults.length := by omega
              rw [List.take_length] at *
              generalize hLF : LT ++ s.faults.flatMap (fun n => putR [vint n]) = LF at hx
              have HLF := Lib.hid hLF
              clear hLF
              have p0 := hx.out.wrote.1.cell (i := 0) rfl
              obtain ⟨a9, cp9, hf9, _⟩ := hx.out.wrote.2.form
              subst hf9
              go_wp2_with fail
              have hne : ∀ g, (Value.slice a9 LF.length cp9).ownBlock = some g → g ≠ D := by
                intro g hg e
                subst e
                rcases hx.out.wrote.2.2 with ⟨e, _⟩ | ⟨g', cap, cur, e, _, hh, _⟩
                · rw [e] at hg; simp [Value.ownBlock] at hg
                · rw [e] at hg
                  simp only [Value.ownBlock, Option.some.injEq] at hg
                  subst hg
                  rw [hd.out] at hh
                  cases hh
              have hbase : ∀ g, (Value.slice a9 LF.length cp9).ownBlock = some g → w.heap.size ≤ g := by
                intro g hg
                have h1 := HK.out.size
                have h2 := K2L.out.size
                rcases hx.out.own g hg with e | e
                · rcases HX4.out.own g e with e' | e'
                  · simp [Value.ownBlock] at e'
                  · have := HS3.out; omega
                · omega
              have hgr := grownBy_putObj' wo D (.deferred none)
              refine ⟨by simp, .inl ⟨_, _, rfl, run_takeDeferred hd.out, ?_⟩⟩
              refine ⟨_, results_tmp2 rfl _ _ _, .slice a9 LF.length cp9, by rw [HE.out]; rfl, ?_, ?_⟩
              · rw [HQ.out, if_pos rfl]
                have hby := hx.out.wrote.2.kept (grown_kept hgr) (fun g hg hm => by simp at hm; exact hne g hg hm)
                have he : encB s = LF := by
                  rw [← HLF.out, ← HLT.out, ← HLQ.out]
                  unfold encB
                  simp only [List.nil_append, List.append_assoc]
                rw [he]
                exact own_low hby hbase
              · refine Kept.fresh (Kept.fresh HK.out HK2.out (fun y hy hlt => by simp at hy; omega)) (grown_kept hgr) (fun y hy hlt => ?_)
                simp at hy
                have := HK.out.size
                have := K2L.out.size
                omega
end Go.Proofs.YtkodiogkldboiaaGreatDoor
/- The reference's rows of a script: ints. -/
namespace Go.Proofs.YtkodiogkldboiaaGreatDoor
open Go.RowKit

/-- From a mark on. -/
abbrev Hi (base : Nat) : Nat → Prop := fun b => base ≤ b
def NewRow (r : List Val) (w : World) (en : Ending) (w' : World) : Prop := ∃ v, en = .returned v ∧ kval.At w' (Hi w.heap.size) v r ∧ Kept [] w w'

theorem row_hi {w : World} {base : Nat} {v : Value} {r : List Val} (h : kval.Row 57 w base NoB v r) : kval.At w (Hi base) v r := h.at (fun _ h _ => h.elim) (fun g hg => (h.block hg).1)

set_option maxHeartbeats 3200000 in
theorem ref_ints (w : World) (word : ByteArray) (v : Value) (ns : List Int) (h : (kint .i64).At w Any v ns) (hn : ns.length ≤ 31) : Calls Tryz.prog 62 #[.string word, v] w (NewRow (valRow word ns) w) := by
  have H := Lib.hid h
  obtain ⟨a, cap, rfl, _⟩ := h.form
  have hn : (ns.length : Int) ≤ 31 := by omega
  clear h
  go_enter Tryz.func62, Tryz.ntmps62
  go_wp2_with fail
  refine (ref01_text _ word).mono ?_
  rintro e w2 ⟨rfl, hk⟩
  have HK := Lib.hid hk
  clear hk
  go_wp2_with fail
  have hb0 : kval.Row 57 (w2.alloc (Obj.cells #[.int .i64 3, .int .i64 0, .string word] 57)) w.heap.size NoB (.slice (some ⟨w2.heap.size, 0, none⟩) 1 1) (vtext word :: (ns.take 0).map vint) :=
    Kd.Row.one (x := vtext word) (Arr.new' rfl rfl) HK.out.size rfl (fun _ h => h.elim)
  have HB0 := Lib.hid hb0
  clear hb0
  go_loopg [5, 6] ns.length (fun g v6 i wr => ∃ (k : Nat) (rv : Value), k + g = ns.length ∧ i = .int .i64 k ∧ v6 = rv ∧ Hid (kval.Row 57 wr w.heap.size NoB rv (vtext word :: (ns.take k).map vint)) ∧ Hid (Kept [] w wr))
  case atStart => exact ⟨0, _, by omega, rfl, rfl, HB0, Lib.hid (HK.out.alloc _)⟩
  case round =>
    obtain ⟨k, rv, hk, rfl, hrv, hrow, hkp⟩ := hrel
    subst hrv
    obtain ⟨wo, hwo⟩ : ∃ wo : World, wo = wr := ⟨_, rfl⟩
    subst hwo
    obtain ⟨a1, cp1, hf, _⟩ := hrow.out.form
    subst hf
    by_cases hlt : k < ns.length
    · obtain ⟨x, hx⟩ : ∃ x, ns[k]? = some x := ⟨ns[k], by simp [hlt]⟩
      obtain ⟨b0, o0, cap', he, _, hbs, x0⟩ := int_at (H.out.kept hkp.out) hx
      simp only [Value.slice.injEq, true_and] at he
      obtain ⟨rfl, rfl⟩ := he
      have hk0 : (0 : Int) ≤ (k : Int) := by omega
      have hk1 : (k : Int) < (ns.length : Int) := by omega
      have HT := Lib.hid (take_snoc ns k x hx)
      have hll : (vtext word :: (ns.take k).map vint).length = k + 1 := by simp; omega
      have HLL := Lib.hid hll
      clear hx
      rw [hll] at hrow
      clear hll
      rw [HLL.out]
      generalize hLM : vtext word :: (ns.take k).map vint = LM at hrow HLL ⊢
      have HLM := Lib.hid hLM
      clear hLM
      go_wp2_with fail
      refine (ref01_int _ x).mono ?_
      rintro e w3 ⟨rfl, hk3⟩
      have HK3 := Lib.hid hk3
      clear hk3 x0
      go_wp2_with (at_builtin; go_must (refine wpList_val rfl _ _ rfl w.heap.size (.slice a1 (k + 1) cp1) LM rfl (hrow.out.kept (HK3.out.alloc _)) w3.heap.size (vint x) rfl (Arr.new' rfl rfl) (by have := HLL.out; omega) (by have := hkp.out.size; have := HK3.out.size; simp; omega) ?_); intro g cap w4 ho hk; rw [HLL.out] at ho; have HO := Lib.hid ho; have HK4 := Lib.hid (Kept.fresh (hkp.out.trans (HK3.out.alloc _)) hk (fun y hy hlt => by have := hrow.out.block (g := y) (by simpa using hy); omega)); clear ho hk)
      go_roundg (ns.length - (k + 1))
      case measure => omega
      case rel => exact ⟨k + 1, _, by omega, by go_num, rfl, by rw [HT.out, List.map_append, List.map_singleton, ← List.cons_append, HLM.out, HLL.out]; exact HO, HK4⟩
    · obtain rfl : k = ns.length := by omega
      rw [List.take_length] at *
      have hll : (vtext word :: ns.map vint).length = ns.length + 1 := by simp
      rw [hll] at hrow
      rw [hll]
      clear hll
      go_wp2_with fail
      go_ret
      exact ⟨_, rfl, row_hi hrow.out, hkp.out⟩
end Go.Proofs.YtkodiogkldboiaaGreatDoor
/- Rows of rows: how one grows. -/
namespace Go.Proofs.YtkodiogkldboiaaGreatDoor
open Go.RowKit

theorem Tryz.info59 : (Tryz.prog.info? 59).map (fun i => (i.zero, i.size, i.bytes)) = some (some (.slice none 0 0), 1, 24) := by kernel_rfl

theorem wpList_row {ops : Array Oper} {rest : List Oper} {o : Oper} {a : Act} {Q : Exit → Act → World → Prop} {w : World} (hgd : o.guard = none) (sl x : Operand)
    (ho : o.op = .call { callee := .builtin .append, args := #[sl, x], argTypes := #[51, 51] }) (base : Nat) (v : Value) (L : List (List Val)) (hs : a.eval sl = v) (hown : krow.Row 59 w base Any v L)
    (b : Nat) (rv : Value) (r : List Val) (hx : a.eval x = .slice (some ⟨b, 0, none⟩) 1 1) (hb : Arr w b 59 [rv]) (hr : kval.At w (Av Any v) rv r) (hl : L.length ≤ 1048576) (hbase : base ≤ w.heap.size)
    (h : ∀ g cap w', krow.Row 59 w' base Any (.slice (some ⟨g, 0, none⟩) (L.length + 1) cap) (L ++ [r]) → Kept v.ownBlock.toList w w' → wpList Tryz.prog ops Q rest (a.put o.dst (.slice (some ⟨g, 0, none⟩) (L.length + 1) cap)) w') : wpList Tryz.prog ops Q (o :: rest) a w := by
  obtain ⟨i0, hi0, hz0, hz1, hz2⟩ := info_parts Tryz.info59
  obtain ⟨xs, hxs, hel⟩ := hown
  obtain ⟨ra, rc, rfl, _⟩ := hr.form
  refine wpList_append_lies _ hgd sl x 51 ho base 59 i0 _ 1 24 Tryz.underlying51 hi0 hz0 hz1 hz2 rfl (by decide) v L.length xs hs hxs ⟨b, 0, none⟩ 1 1 [.slice ra r.length rc] hx rfl (World.news_of_block (cs := #[.slice ra r.length rc]) (t := 59) (fr := (0, 0)) hb) (by intro u hu; simp at hu; subst hu; rfl) (by decide) (by unfold maxLen; omega) (by omega) hbase w.heap.size rfl ?_
  intro g cap w' ho hg hat hlt
  exact h g cap w' (Kd.Row.push (K := krow) (x := r) (cs := [.slice ra r.length rc]) hxs hel (Kept.refl [] w) ⟨_, rfl, hr⟩ ho hg hat) (grown_kept hg)

theorem step_row {ops : Array Oper} {o : Oper} {a : Act} {K : Act → World → Prop} {Q : Exit → Act → World → Prop} {E : Prop} {w : World} (hgd : o.guard = none) (sl x : Operand)
    (ho : o.op = .call { callee := .builtin .append, args := #[sl, x], argTypes := #[51, 51] }) (base : Nat) (v : Value) (L : List (List Val)) (hs : a.eval sl = v) (hown : krow.Row 59 w base Any v L)
    (b : Nat) (rv : Value) (r : List Val) (hx : a.eval x = .slice (some ⟨b, 0, none⟩) 1 1) (hb : Arr w b 59 [rv]) (hr : kval.At w (Av Any v) rv r) (hl : L.length ≤ 1048576) (hbase : base ≤ w.heap.size)
    (h : ∀ g cap w', krow.Row 59 w' base Any (.slice (some ⟨g, 0, none⟩) (L.length + 1) cap) (L ++ [r]) → Kept v.ownBlock.toList w w' → K (a.put o.dst (.slice (some ⟨g, 0, none⟩) (L.length + 1) cap)) w') :
    if Region.wanted o (yielded ops a.tmps) = true then Oper.wp Tryz.prog o a w K Q else E := by
  obtain ⟨i0, hi0, hz0, hz1, hz2⟩ := info_parts Tryz.info59
  obtain ⟨xs, hxs, hel⟩ := hown
  obtain ⟨ra, rc, rfl, _⟩ := hr.form
  refine step_append_lies _ hgd sl x 51 ho base 59 i0 _ 1 24 Tryz.underlying51 hi0 hz0 hz1 hz2 rfl (by decide) v L.length xs hs hxs ⟨b, 0, none⟩ 1 1 [.slice ra r.length rc] hx rfl (World.news_of_block (cs := #[.slice ra r.length rc]) (t := 59) (fr := (0, 0)) hb) (by intro u hu; simp at hu; subst hu; rfl) (by decide) (by unfold maxLen; omega) (by omega) hbase w.heap.size rfl ?_
  intro g cap w' ho hg hat hlt
  exact h g cap w' (Kd.Row.push (K := krow) (x := r) (cs := [.slice ra r.length rc]) hxs hel (Kept.refl [] w) ⟨_, rfl, hr⟩ ho hg hat) (grown_kept hg)

theorem wp_row {o : Oper} {a : Act} {K : Act → World → Prop} {Q : Exit → Act → World → Prop} {w : World} (sl x : Operand)
    (ho : o.op = .call { callee := .builtin .append, args := #[sl, x], argTypes := #[51, 51] }) (base : Nat) (v : Value) (L : List (List Val)) (hs : a.eval sl = v) (hown : krow.Row 59 w base Any v L)
    (b : Nat) (rv : Value) (r : List Val) (hx : a.eval x = .slice (some ⟨b, 0, none⟩) 1 1) (hb : Arr w b 59 [rv]) (hr : kval.At w (Av Any v) rv r) (hl : L.length ≤ 1048576) (hbase : base ≤ w.heap.size)
    (h : ∀ g cap w', krow.Row 59 w' base Any (.slice (some ⟨g, 0, none⟩) (L.length + 1) cap) (L ++ [r]) → Kept v.ownBlock.toList w w' → K (a.put o.dst (.slice (some ⟨g, 0, none⟩) (L.length + 1) cap)) w') :
    Oper.wp Tryz.prog o a w K Q := by
  obtain ⟨i0, hi0, hz0, hz1, hz2⟩ := info_parts Tryz.info59
  obtain ⟨xs, hxs, hel⟩ := hown
  obtain ⟨ra, rc, rfl, _⟩ := hr.form
  refine wp_append_lies _ sl x 51 ho base 59 i0 _ 1 24 Tryz.underlying51 hi0 hz0 hz1 hz2 rfl (by decide) v L.length xs hs hxs ⟨b, 0, none⟩ 1 1 [.slice ra r.length rc] hx rfl (World.news_of_block (cs := #[.slice ra r.length rc]) (t := 59) (fr := (0, 0)) hb) (by intro u hu; simp at hu; subst hu; rfl) (by decide) (by unfold maxLen; omega) (by omega) hbase w.heap.size rfl ?_
  intro g cap w' ho hg hat hlt
  exact h g cap w' (Kd.Row.push (K := krow) (x := r) (cs := [.slice ra r.length rc]) hxs hel (Kept.refl [] w) ⟨_, rfl, hr⟩ ho hg hat) (grown_kept hg)

theorem run_append_zero {w : World} (base : Nat) (t ty e : TypeId) (i : TypeInfo) (size : Nat) {P : Program} (ht : P.underlying t = some (.slice e)) (hi : P.info? e = some i)
    (v : Value) (n : Nat) (xs : List Value) (hown : w.ownsRow base e size v n xs) (ad : Option Addr) (c : Nat) :
    (Builtin.append_ #[t, t] ty #[v, .slice ad 0 c]).run P w = .ok v w := by
  cases ad with
  | none =>
    rcases hown.2 with ⟨rfl, rfl⟩ | ⟨g, cap, cur, rfl, _, _, hnc, _⟩
    · simp [Builtin.append_, run_underlying ht, sizeOf, typeInfo, hi, Builtin.lenOf, Builtin.firstCells]
    · simp [Builtin.append_, run_underlying ht, sizeOf, typeInfo, hi, Builtin.lenOf, Builtin.firstCells, hnc, storeCells]
  | some ad =>
    rcases hown.2 with ⟨rfl, rfl⟩ | ⟨g, cap, cur, rfl, _, _, hnc, _⟩
    · simp [Builtin.append_, run_underlying ht, sizeOf, typeInfo, hi, Builtin.lenOf, Builtin.firstCells, loadCells, loadCellsFrom]
    · simp [Builtin.append_, run_underlying ht, sizeOf, typeInfo, hi, Builtin.lenOf, Builtin.firstCells, hnc, storeCells, loadCells, loadCellsFrom]

/-- What the cells of a row of rows hold. -/
theorem rows_cells {w : World} {P : Nat → Prop} {v : Value} {R : List (List Val)} (h : krow.At w P v R) (h0 : 0 < R.length) :
    ∃ (b o cap : Nat) (news : List Value), v = .slice (some ⟨b, o, none⟩) R.length cap ∧ news.length = R.length ∧ ∀ (j : Nat) (x : List Val), R[j]? = some x → ∃ u, news[j]? = some u ∧ w.cell? ⟨b, o + j, none⟩ = some u ∧ kval.At w P u x := by
  obtain ⟨x0, hx0⟩ : ∃ x, R[0]? = some x := ⟨R[0], by simp [h0]⟩
  obtain ⟨b, o, cap, ra, rc, rfl, _⟩ := row_at h hx0
  refine ⟨b, o, cap, (List.range R.length).map (fun j => (w.cell? ⟨b, o + j, none⟩).getD undef), rfl, by simp, fun j x hx => ?_⟩
  obtain ⟨b1, o1, c1, ra1, rc1, he, _, _, hc, ha⟩ := row_at h hx
  simp only [Value.slice.injEq, Option.some.injEq, Addr.mk.injEq, and_true, true_and] at he
  obtain ⟨⟨rfl, rfl⟩, rfl⟩ := he
  exact ⟨_, by simp [get_lt hx, hc], hc, ha⟩

theorem wpList_rows {ops : Array Oper} {rest : List Oper} {o : Oper} {a : Act} {Q : Exit → Act → World → Prop} {w : World} (hgd : o.guard = none) (sl x : Operand)
    (ho : o.op = .call { callee := .builtin .append, args := #[sl, x], argTypes := #[51, 51] }) (base : Nat) (v : Value) (L : List (List Val)) (hs : a.eval sl = v) (hown : krow.Row 59 w base Any v L)
    (u : Value) (R : List (List Val)) (hx : a.eval x = u) (hr : krow.At w (Av Any v) u R) (hl : L.length ≤ 1048576) (hR : R.length ≤ 1048576) (hbase : base ≤ w.heap.size)
    (h : ∀ ad cap w', krow.Row 59 w' base Any (.slice ad (L.length + R.length) cap) (L ++ R) → Kept v.ownBlock.toList w w' → wpList Tryz.prog ops Q rest (a.put o.dst (.slice ad (L.length + R.length) cap)) w') : wpList Tryz.prog ops Q (o :: rest) a w := by
  obtain ⟨i0, hi0, hz0, hz1, hz2⟩ := info_parts Tryz.info59
  rcases Nat.eq_zero_or_pos R.length with h0 | h0
  · obtain ⟨ad, c, rfl, _⟩ := hr.form
    obtain rfl : R = [] := List.eq_nil_of_length_eq_zero h0
    obtain ⟨ov, ocap, hv, _, _⟩ := hown.form
    have hown' := hown
    obtain ⟨xs, hxs, hel⟩ := hown'
    refine wpList_plain hgd fun K hK => ?_
    have hrun := run_append_zero (P := Tryz.prog) (w := w) base 51 o.type 59 i0 1 Tryz.underlying51 hi0 v L.length xs hxs ad c
    unfold Oper.wp
    simp only [List.length_nil] at hx
    simp [execOp, ho, resolve, invoke, builtin, hs, hx, hrun, Result.andThen]
    subst hv
    have := h ov ocap w (by simpa using hown) (Kept.refl _ _)
    simp only [List.length_nil, Nat.add_zero] at this
    exact hK _ _ this
  · obtain ⟨b, off, cap, news, rfl, hnl, hn⟩ := rows_cells hr h0
    obtain ⟨xs, hxs, hel⟩ := hown
    have hone : ∀ z ∈ news, z.oneCell' = true := by
      intro z hz
      obtain ⟨j, hj, rfl⟩ := List.getElem_of_mem hz
      obtain ⟨u, hu, _, hau⟩ := hn j (R[j]'(by omega)) (List.getElem?_eq_getElem (by omega))
      rw [List.getElem?_eq_getElem hj] at hu
      cases hu
      obtain ⟨_, _, e, _⟩ := hau.form
      rw [e]; rfl
    refine wpList_append_lies _ hgd sl x 51 ho base 59 i0 _ 1 24 Tryz.underlying51 hi0 hz0 hz1 hz2 rfl (by decide) v L.length xs hs hxs ⟨b, off, none⟩ R.length cap news hx (by omega) (fun j z hz => by
      have hj := get_lt hz
      obtain ⟨u, hu, hc, _⟩ := hn j (R[j]'(by omega)) (List.getElem?_eq_getElem (by omega))
      rw [hz] at hu
      cases hu
      rw [add_none]
      exact hc) hone h0 (by unfold maxLen; omega) (by omega) hbase w.heap.size rfl ?_
    intro g cap2 w' ho2 hg hat hlt
    have kg := grown_kept hg
    have avS : ∀ b, Av Any v b → b ∉ v.ownBlock.toList := fun b hb => nmem_of hb.2
    have avQ : ∀ b, Av Any v b → b < w.heap.size → Av Any (.slice (some ⟨g, 0, none⟩) (L.length + R.length) cap2) b := by
      intro b hb hlt
      refine ⟨trivial, fun e => ?_⟩
      simp only [Value.ownBlock, Option.some.injEq] at e
      rcases hat with ha | ha
      · exact hb.2 (by rw [ha, e])
      · omega
    have hl1 : xs.length = L.length := by have := hxs.1; rw [show krow.sz = 1 from rfl] at this; omega
    refine h _ cap2 w' ⟨xs ++ news, by rw [List.length_append]; exact ho2, fun j t hj => ?_⟩ kg
    rcases Nat.lt_or_ge j L.length with hlt2 | hge
    · rw [List.getElem?_append_left hlt2] at hj
      obtain ⟨cs, c1, c2⟩ := hel j t hj
      obtain ⟨z, rfl, hz⟩ := c1
      refine ⟨[z], ⟨z, rfl, hz.next kg avS avQ⟩, fun i u hu => ?_⟩
      have := c2 i u hu
      rw [List.getElem?_append_left (get_lt this)]
      exact this
    · rw [List.getElem?_append_right hge] at hj
      obtain ⟨u, hu, hc, hau⟩ := hn _ t hj
      refine ⟨[u], ⟨u, rfl, hau.next kg avS avQ⟩, fun i z hz => ?_⟩
      match i, hz with
      | 0, hz =>
        simp at hz
        subst hz
        show (xs ++ news)[j * 1 + 0]? = _
        rw [List.getElem?_append_right (by omega), show j * 1 + 0 - xs.length = j - L.length by omega]
        exact hu
      | i + 1, hz => simp at hz
end Go.Proofs.YtkodiogkldboiaaGreatDoor
