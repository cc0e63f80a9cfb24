/- The reference's rows of a script: rows. -/
import Derived.Laws.StructEq
import Derived.Test.YtkodiogkldboiaaGreatDoorM6
set_option linter.unusedVariables false
set_option linter.unusedSimpArgs false
namespace Go.Proofs.YtkodiogkldboiaaGreatDoor
open Go.RowKit

def tblRows (t : Tbl) : List (List Val) := headRow t :: t.cols.map colRow ++ t.rows
def rowsS (s : Scr) : List (List Val) := [topRow s] ++ (List.range (chunksN s.query)).map (fun k => valRow (chunkN s.query k) []) ++ s.tables.flatMap tblRows ++ s.faults.map (fun n => [vint n])

theorem av_new {wi w1 : World} {base h : Nat} {v rv : Value} {L : List (List Val)} {r : List Val} (hw : krow.Row 59 wi base Any v L) (hh : wi.heap.size ≤ h) (hr : kval.At w1 (Hi h) rv r) : kval.At w1 (Av Any v) rv r :=
  hr.next (Kept.refl [] _) (by simp) (fun b hb _ => ⟨trivial, fun e => by have := (hw.block e).2; have : h ≤ b := hb; omega⟩)
theorem row_sep {w : World} {base bx T : Nat} {v : Value} {L : List (List Val)} {xs : List Value} (h : krow.Row 59 w base Any v L) (A : Arr w bx T xs) (hT : T ≠ 59) : bx ∉ v.ownBlock.toList := by
  intro hm
  have hv : v.ownBlock = some bx := by simpa using hm
  obtain ⟨zs, ⟨_, h2⟩, _⟩ := h
  rcases h2 with ⟨rfl, _⟩ | ⟨g, cap, cur, rfl, _, hh, _⟩
  · simp [Value.ownBlock] at hv
  · simp only [Value.ownBlock, Option.some.injEq] at hv
    subst hv
    unfold Arr at A
    rw [A] at hh
    simp at hh
    exact hT hh.2
theorem row_off {w : World} {base : Nat} {v : Value} {L : List (List Val)} (h : krow.Row 59 w base Any v L) : ∀ b, Lo base b → b ∉ v.ownBlock.toList := fun b hb hm => by
  have := (h.block (g := b) (by simpa using hm)).1
  exact absurd hb (by omega)

theorem rows_one {w : World} {base b : Nat} {rv : Value} {r : List Val} (h : Arr w b 59 [rv]) (hb : base ≤ b) (hr : kval.At w (fun c => c ≠ b) rv r) : krow.Row 59 w base Any (.slice (some ⟨b, 0, none⟩) 1 1) [r] := by
  refine ⟨[rv], own_new h rfl hb (by simp [maxLen]), fun j t hj => ?_⟩
  match j, hj with
  | 0, hj =>
    simp at hj; subst hj
    exact ⟨[rv], ⟨rv, rfl, hr.next (Kept.refl [] w) (by simp) (fun c hc _ => ⟨trivial, fun e => hc (by simpa [Value.ownBlock] using e.symm)⟩)⟩, fun i u hu => by simpa using hu⟩
  | j + 1, hj => simp at hj
def L1 (s : Scr) (k : Nat) : List (List Val) := [topRow s] ++ (List.range k).map (fun k => valRow (chunkN s.query k) [])
theorem L1_succ (s : Scr) (k : Nat) : L1 s (k + 1) = L1 s k ++ [valRow (chunkN s.query k) []] := by
  unfold L1; rw [List.range_succ, List.map_append, List.append_assoc]; rfl
theorem L1_len (s : Scr) (k : Nat) : (L1 s k).length = k + 1 := by unfold L1; simp
theorem map_snoc {α β : Type} (f : α → β) (l : List α) (k : Nat) (x : α) (h : l[k]? = some x) : (l.take (k + 1)).map f = (l.take k).map f ++ [f x] := by
  rw [take_snoc l k x h, List.map_append]; rfl
theorem tblRows_len {t : Tbl} (h : tblOk t = true) : (tblRows t).length ≤ 5000 := by
  have o := TOk.of h
  have h4 := o.cols
  have h5 := o.rows
  unfold tblRows
  simp
  omega
theorem flat_rows {α β : Type} (f : α → List β) (n : Nat) (r : List α) (h : ∀ x ∈ r, (f x).length ≤ n) : (r.flatMap f).length ≤ n * r.length := by
  induction r with
  | nil => simp
  | cons a r ih =>
    rw [List.flatMap_cons, List.length_append, List.length_cons, Nat.mul_add]
    have := h a (by simp)
    have := ih (fun x hx => h x (by simp [hx]))
    omega

def RowsPost (s : Scr) (w : World) (en : Ending) (w' : World) : Prop := ∃ v, en = .returned v ∧ krow.At w' Any v (rowsS s) ∧ Kept [] w w'

set_option maxRecDepth 100000 in
set_option maxHeartbeats 12800000 in
theorem ref_rows (w : World) (v : Value) (s : Scr) (h : ScrAt w Any s v) (hok : SOk s) : Calls Tryz.prog 39 #[v] w (RowsPost s w) := by
  obtain ⟨t, f, rfl, ht, hfl⟩ := h
  obtain ⟨ta, tc, rfl, _⟩ := ht.form
  obtain ⟨fa, fc, rfl, _⟩ := hfl.form
  have K0 : Kept [] w (w.alloc (.cells #[.slice ta s.tables.length tc, .string s.query, .int .i64 s.budget, .int .i64 s.room, .int .i64 s.seed, .slice fa s.faults.length fc] 25)) := Kept.alloc (Kept.refl [] w) _
  have A := Arr.new w #[.slice ta s.tables.length tc, .string s.query, .int .i64 s.budget, .int .i64 s.room, .int .i64 s.seed, .slice fa s.faults.length fc] 25
  have HA0 := Lib.hid A
  have HK0 := Lib.hid K0
  have HT0 := Lib.hid ((ht.next (Q := Lo w.heap.size) (Kept.refl [] w) (by simp) (fun _ _ h => h)).next K0 (by simp) (fun _ h _ => h))
  have HFL0 := Lib.hid ((hfl.next (Q := Lo w.heap.size) (Kept.refl [] w) (by simp) (fun _ _ h => h)).next K0 (by simp) (fun _ h _ => h))
  have HOK := Lib.hid hok
  have h1 : (s.query.size : Int) ≤ 16384 := by have := hok.query; omega
  have h2 : (s.tables.length : Int) ≤ 16 := by have := hok.tables; omega
  have h3 : (s.faults.length : Int) ≤ 64 := by have := hok.faults; omega
  clear ht K0 A hfl hok
  go_enter Tryz.func39, Tryz.ntmps39
  go_wp2_with fail
  have HS1 : Hid ((w.alloc (.cells #[.slice ta s.tables.length tc, .string s.query, .int .i64 s.budget, .int .i64 s.room, .int .i64 s.seed, .slice fa s.faults.length fc] 25)).heap.size = w.heap.size + 1) := Lib.hid (by simp)
  generalize hw1 : w.alloc (.cells #[.slice ta s.tables.length tc, .string s.query, .int .i64 s.budget, .int .i64 s.room, .int .i64 s.seed, .slice fa s.faults.length fc] 25) = w1 at *
  clear hw1
  have HI := Lib.hid (ints_new (T := 3) (xs := [s.budget, s.room, s.seed, (s.query.size : Int), (s.tables.length : Int), (s.faults.length : Int)]) (n := 6) (w := w1.alloc (Obj.cells #[.int .i64 s.budget, .int .i64 s.room, .int .i64 s.seed, .int .i64 (s.query.size : Int), .int .i64 (s.tables.length : Int), .int .i64 (s.faults.length : Int)] 3)) (b := w.heap.size + 1) (Arr.new' (by rw [HS1.out]) rfl) (by simp))
  refine (ref_ints _ markS (.slice (some ⟨w.heap.size + 1, 0, none⟩) 6 6) [s.budget, s.room, s.seed, (s.query.size : Int), (s.tables.length : Int), (s.faults.length : Int)] HI.out (by simp)).mono ?_
  rintro e w2 ⟨v2, rfl, hv2, hk⟩
  obtain ⟨a2, c2, rfl, _⟩ := hv2.form
  have HK2 := Lib.hid ((Kept.alloc (Kept.refl [] w1) (Obj.cells #[.int .i64 s.budget, .int .i64 s.room, .int .i64 s.seed, .int .i64 (s.query.size : Int), .int .i64 (s.tables.length : Int), .int .i64 (s.faults.length : Int)] 3)).trans hk)
  have HV2 := Lib.hid hv2
  clear hk hv2 HI
  go_wp2_with fail
  have HT1 := Lib.hid (HT0.out.next (Q := Lo w1.heap.size) (Kept.refl [] w1) (by simp) (fun _ _ h => h))
  have HFL1 := Lib.hid (HFL0.out.next (Q := Lo w1.heap.size) (Kept.refl [] w1) (by simp) (fun _ _ h => h))
  have hr1 : krow.Row 59 (w2.alloc (Obj.cells #[.slice a2 (valRow markS [s.budget, s.room, s.seed, (s.query.size : Int), (s.tables.length : Int), (s.faults.length : Int)]).length c2] 59)) w1.heap.size Any (.slice (some ⟨w2.heap.size, 0, none⟩) 1 1) [topRow s] :=
    rows_one (Arr.new' rfl rfl) HK2.out.size (HV2.out.next (Kept.alloc (Kept.refl [] w2) _) (by simp) (fun b _ hlt => by omega))
  have HR1 := Lib.hid hr1
  clear hr1
  go_loopg [3, 4] (chunksN s.query) (fun g v3 i wr => ∃ (m k : Nat) (rv : Value), k + g = chunksN s.query ∧ i = .int .i64 (m : Int) ∧ v3 = rv ∧ Hid (m = 64 * k) ∧ Hid (krow.Row 59 wr w1.heap.size Any rv (L1 s k)) ∧ Hid (Kept [] w1 wr))
  case atStart => exact ⟨0, 0, _, by omega, rfl, rfl, Lib.hid rfl, HR1, Lib.hid (HK2.out.alloc _)⟩
  case round =>
    obtain ⟨m, k, rv, hk, rfl, hrv, hm, hrow, hkp⟩ := hrel
    subst hrv
    obtain ⟨wo, hwo⟩ : ∃ wo : World, wo = wr := ⟨_, rfl⟩
    subst hwo
    obtain ⟨a1, cp1, hf, _⟩ := hrow.out.form
    subst hf
    have c1 := (HA0.out.kept hkp.out (by simp)).cell (i := 1) rfl
    have hnq : chunksN s.query ≤ 257 := by unfold chunksN; omega
    have HLN : Hid ((L1 s k).length ≤ 300) := Lib.hid (by rw [L1_len]; omega)
    by_cases hlt : k < chunksN s.query
    · have hml : m < s.query.size := by have := hm.out; unfold chunksN at hlt; omega
      have i0 : (0 : Int) ≤ (m : Int) := by omega
      have i1 : (m : Int) < (s.query.size : Int) := by omega
      have i2 : (m : Int) ≤ (s.query.size : Int) := by omega
      generalize hLL : L1 s k = LL at hrow HLN ⊢
      have HLL := Lib.hid hLL
      clear hLL hnq
      by_cases hfull : (s.query.size : Int) < (m : Int) + 64
      · have HCH : Hid (chunkN s.query k = s.query.extract m s.query.size) := Lib.hid (by unfold chunkN; rw [← hm.out]; congr 1; omega)
        go_wp2_with fail
        refine (ref_ints _ (s.query.extract m s.query.size) _ [] (Kd.At.nil _ _ _) (by simp)).mono ?_
        rintro e w3 ⟨v3, rfl, hv3, hk3⟩
        obtain ⟨a3, c3, rfl, _⟩ := hv3.form
        have HK3 := Lib.hid hk3
        have HAV := Lib.hid (av_new hrow.out (Nat.le_refl _) (hv3.next (Kept.alloc (Kept.refl [] w3) (Obj.cells #[.slice a3 (valRow (s.query.extract m s.query.size) []).length c3] 59)) (by simp) (fun _ h _ => h)))
        clear hv3 hk3
        go_wp2_with (at_builtin; go_must (refine wpList_row rfl _ _ rfl w1.heap.size (.slice a1 LL.length cp1) LL rfl (hrow.out.kept (HK3.out.alloc _)) w3.heap.size _ (valRow (s.query.extract m s.query.size) []) rfl (Arr.new' rfl rfl) HAV.out (by have := HLN.out; omega) (by have := hkp.out.size; have := HK3.out.size; simp; omega) ?_); intro g cap w4 ho hk4; have HO := Lib.hid ho; have HK4 := Lib.hid (Kept.fresh (hkp.out.trans (HK3.out.alloc _)) hk4 (fun y hy hlt => by have := hrow.out.block (g := y) (by simpa using hy); omega)); clear ho hk4)
        go_roundg (chunksN s.query - (k + 1))
        case measure => omega
        case rel => exact ⟨m + 64, k + 1, _, by omega, by go_num, rfl, Lib.hid (by have := hm.out; omega), by rw [L1_succ, HLL.out, HCH.out]; exact HO, HK4⟩
      · have HCH : Hid (chunkN s.query k = s.query.extract m (m + 64)) := Lib.hid (by unfold chunkN; rw [← hm.out]; congr 1; omega)
        have j1 : (m : Int) + 64 ≤ (s.query.size : Int) := by omega
        have j2 : (m : Int) ≤ (m : Int) + 64 := by omega
        have j3 : ((m : Int) + 64).toNat = m + 64 := by omega
        go_wp2_with fail
        refine (ref_ints _ (s.query.extract m (m + 64)) _ [] (Kd.At.nil _ _ _) (by simp)).mono ?_
        rintro e w3 ⟨v3, rfl, hv3, hk3⟩
        obtain ⟨a3, c3, rfl, _⟩ := hv3.form
        have HK3 := Lib.hid hk3
        have HAV := Lib.hid (av_new hrow.out (Nat.le_refl _) (hv3.next (Kept.alloc (Kept.refl [] w3) (Obj.cells #[.slice a3 (valRow (s.query.extract m (m + 64)) []).length c3] 59)) (by simp) (fun _ h _ => h)))
        clear hv3 hk3
        go_wp2_with (at_builtin; go_must (refine wpList_row rfl _ _ rfl w1.heap.size (.slice a1 LL.length cp1) LL rfl (hrow.out.kept (HK3.out.alloc _)) w3.heap.size _ (valRow (s.query.extract m (m + 64)) []) rfl (Arr.new' rfl rfl) HAV.out (by have := HLN.out; omega) (by have := hkp.out.size; have := HK3.out.size; simp; omega) ?_); intro g cap w4 ho hk4; have HO := Lib.hid ho; have HK4 := Lib.hid (Kept.fresh (hkp.out.trans (HK3.out.alloc _)) hk4 (fun y hy hlt => by have := hrow.out.block (g := y) (by simpa using hy); omega)); clear ho hk4)
        go_roundg (chunksN s.query - (k + 1))
        case measure => omega
        case rel => exact ⟨m + 64, k + 1, _, by omega, by go_num, rfl, Lib.hid (by have := hm.out; omega), by rw [L1_succ, HLL.out, HCH.out]; exact HO, HK4⟩
    · obtain rfl : k = chunksN s.query := by omega
      have hml : ¬ (m : Int) < (s.query.size : Int) := by have := hm.out; unfold chunksN at this; omega
      generalize hLL : L1 s (chunksN s.query) = B1 at hrow HLN ⊢
      have HB1 := Lib.hid hLL
      clear hLL hnq
      go_wp2_with fail
      clear c1
      go_loopg [3, 6] s.tables.length (fun g v3 i wr => ∃ (k : Nat) (rv : Value), k + g = s.tables.length ∧ i = .int .i64 k ∧ v3 = rv ∧ Hid (krow.Row 59 wr w1.heap.size Any rv (B1 ++ (s.tables.take k).flatMap tblRows)) ∧ Hid (Kept [] w1 wr))
      case atStart => exact ⟨0, _, by omega, rfl, rfl, by simpa using hrow, hkp⟩
      case round =>
        obtain ⟨k, rv, hk, rfl, hrv, hrow, hkp⟩ := hrel
        subst hrv
        obtain ⟨wo, hwo⟩ : ∃ wo : World, wo = wr := ⟨_, rfl⟩
        subst hwo
        obtain ⟨a1, cp1, hf, _⟩ := hrow.out.form
        subst hf
        have c0 := (HA0.out.kept hkp.out (by simp)).cell (i := 0) rfl
        have c5 := (HA0.out.kept hkp.out (by simp)).cell (i := 5) rfl
        have hln : (B1 ++ (s.tables.take k).flatMap tblRows).length ≤ 100000 := by
          have h2 := flat_rows tblRows 5000 (s.tables.take k) (fun y hy => tblRows_len (HOK.out.table y (List.mem_of_mem_take hy)))
          have h3 : (s.tables.take k).length ≤ k := List.length_take_le _ _
          have := HLN.out
          rw [List.length_append]
          omega
        have HLN2 := Lib.hid hln
        clear hln
        by_cases hlt : k < s.tables.length
        · obtain ⟨x, hx1⟩ : ∃ x, s.tables[k]? = some x := ⟨s.tables[k], by simp [hlt]⟩
          obtain ⟨b0, o0, cap', ca, cn, cc, ra, rn, rc, he, _, hbs, x0, x1, x2, hE1, hE2⟩ := tbl_at HT1.out hx1
          simp only [Value.slice.injEq, true_and] at he
          obtain ⟨rfl, rfl⟩ := he
          have x0 := (hkp.out.cell hbs (by simp)).trans x0
          have x1 := (hkp.out.cell hbs (by simp)).trans x1
          have x2 := (hkp.out.cell hbs (by simp)).trans x2
          obtain rfl := at_len hE1
          obtain rfl := at_len hE2
          have hk0 : (0 : Int) ≤ (k : Int) := by omega
          have hk1 : (k : Int) < (s.tables.length : Int) := by omega
          have HSN := Lib.hid (flat_snoc' tblRows s.tables k x hx1)
          have HM := Lib.hid (List.mem_of_getElem? hx1)
          have HTX := Lib.hid (TOk.of (HOK.out.table x HM.out))
          have HE1 := Lib.hid hE1
          have HE2 := Lib.hid hE2
          have z1 : (x.cols.length : Int) ≤ 16 := by have := HTX.out.cols; omega
          have z2 : (x.rows.length : Int) ≤ 4096 := by have := HTX.out.rows; omega
          clear hx1 hE1 hE2
          generalize hLL : B1 ++ (s.tables.take k).flatMap tblRows = LL at hrow HLN2 ⊢
          have HLL := Lib.hid hLL
          clear hLL
          go_wp2_with fail
          have AB := Arr.new wo #[.string x.name, .slice ca x.cols.length cc, .slice ra x.rows.length rc] 53
          have KB := Kept.alloc (Kept.refl [] wo) (Obj.cells #[.string x.name, .slice ca x.cols.length cc, .slice ra x.rows.length rc] 53)
          have SB : (wo.alloc (Obj.cells #[.string x.name, .slice ca x.cols.length cc, .slice ra x.rows.length rc] 53)).heap.size = wo.heap.size + 1 := by simp
          generalize hwB : wo.alloc (Obj.cells #[.string x.name, .slice ca x.cols.length cc, .slice ra x.rows.length rc] 53) = wB at *
          have HAB := Lib.hid AB
          have HKB := Lib.hid KB
          have HSB := Lib.hid SB
          have HI := Lib.hid (ints_new (T := 3) (xs := [(x.cols.length : Int), (x.rows.length : Int)]) (n := 2) (w := wB.alloc (Obj.cells #[.int .i64 (x.cols.length : Int), .int .i64 (x.rows.length : Int)] 3)) (b := wo.heap.size + 1) (Arr.new' (by rw [SB]) rfl) (by simp))
          clear hwB AB KB SB x0 x1 x2 c0 c5
          refine (ref_ints _ x.name (.slice (some ⟨wo.heap.size + 1, 0, none⟩) 2 2) [(x.cols.length : Int), (x.rows.length : Int)] HI.out (by simp)).mono ?_
          rintro e w3 ⟨v3, rfl, hv3, hk3⟩
          obtain ⟨a3, c3, rfl, _⟩ := hv3.form
          have HKI := Lib.hid (HKB.out.trans ((Kept.alloc (Kept.refl [] wB) (Obj.cells #[.int .i64 (x.cols.length : Int), .int .i64 (x.rows.length : Int)] 3)).trans hk3))
          have HAV := Lib.hid (av_new hrow.out (by have := HKB.out.size; simp; omega) (hv3.next (Kept.alloc (Kept.refl [] w3) (Obj.cells #[.slice a3 (valRow x.name [(x.cols.length : Int), (x.rows.length : Int)]).length c3] 59)) (by simp) (fun _ h _ => h)))
          have HAB3 := Lib.hid ((HAB.out.kept ((Kept.alloc (Kept.refl [] wB) (Obj.cells #[.int .i64 (x.cols.length : Int), .int .i64 (x.rows.length : Int)] 3)).trans hk3) (by simp)).alloc (Obj.cells #[.slice a3 (valRow x.name [(x.cols.length : Int), (x.rows.length : Int)]).length c3] 59))
          clear hv3 hk3 HI
          go_wp2_with (at_builtin; go_must (refine wpList_row rfl _ _ rfl w1.heap.size (.slice a1 LL.length cp1) LL rfl (hrow.out.kept (HKI.out.alloc _)) w3.heap.size _ (headRow x) rfl (Arr.new' rfl rfl) HAV.out (by have := HLN2.out; omega) (by have := hkp.out.size; have := HKI.out.size; simp; omega) ?_); intro g cap w4 ho hk4; have HO := Lib.hid ho; have HK4 := Lib.hid (Kept.fresh (hkp.out.trans (HKI.out.alloc _)) hk4 (fun y hy hlt => by have := hrow.out.block (g := y) (by simpa using hy); omega)); have HAB4 := Lib.hid (HAB3.out.kept hk4 (row_sep (hrow.out.kept (HKI.out.alloc _)) HAB3.out (by decide))); clear ho hk4)
          go_loopg [3, 8] x.cols.length (fun g v3 i wr => ∃ (j : Nat) (rv : Value), j + g = x.cols.length ∧ i = .int .i64 j ∧ v3 = rv ∧ Hid (krow.Row 59 wr w1.heap.size Any rv (LL ++ [headRow x] ++ (x.cols.take j).map colRow)) ∧ Hid (Kept [] w1 wr) ∧ Hid (Arr wr wo.heap.size 53 [.string x.name, .slice ca x.cols.length cc, .slice ra x.rows.length rc]))
          case atStart => exact ⟨0, _, by omega, rfl, rfl, by simpa using HO, HK4, HAB4⟩
          case round =>
            obtain ⟨j, rv, hj, rfl, hrv, hrow, hkq, hab⟩ := hrel
            subst hrv
            obtain ⟨wn, hwn⟩ : ∃ wn : World, wn = wr := ⟨_, rfl⟩
            subst hwn
            obtain ⟨a1, cp1, hf, _⟩ := hrow.out.form
            subst hf
            have d1 := hab.out.cell (i := 1) rfl
            have d2 := hab.out.cell (i := 2) rfl
            have lB := hab.out.lt
            have HLN3 : Hid ((LL ++ [headRow x] ++ (x.cols.take j).map colRow).length ≤ 200000) := Lib.hid (by
              have h3 : (x.cols.take j).length ≤ j := List.length_take_le _ _
              have := HLN2.out
              simp only [List.length_append, List.length_map, List.length_singleton]
              omega)
            by_cases hjl : j < x.cols.length
            · obtain ⟨y, hy⟩ : ∃ y, x.cols[j]? = some y := ⟨x.cols[j], by simp [hjl]⟩
              obtain ⟨b1, o1, cap1, he, hlo, hbs1, y0, y1, y2⟩ := col_at (HE1.out.next hkq.out (by simp) (fun _ h _ => h)) hy
              simp only [Value.slice.injEq, true_and] at he
              obtain ⟨rfl, rfl⟩ := he
              have hj0 : (0 : Int) ≤ (j : Int) := by omega
              have hj1 : (j : Int) < (x.cols.length : Int) := by omega
              have HSM := Lib.hid (map_snoc colRow x.cols j y hy)
              have HLO := Lib.hid hlo
              generalize hLM : LL ++ [headRow x] ++ (x.cols.take j).map colRow = LM at hrow HLN3 ⊢
              have HLM := Lib.hid hLM
              clear hy hlo hLM y0 d2
              go_wp2_with fail
              have s1 := d1
              have s2 := y1
              have s3 := y2
              go_region_held3 (fun w' => w'.cell? ⟨wo.heap.size, 1, none⟩ = some (.slice (some ⟨b1, o1, none⟩) x.cols.length cc) ∧ w'.cell? ⟨b1, o1 + j * 3 + 1, none⟩ = some (.string y.name) ∧ w'.cell? ⟨b1, o1 + j * 3 + 2, none⟩ = some (.int .i64 y.type))
                (first | exact ⟨s1, s2, s3⟩ | go_keep)
                (first | (go_at_call 62; refine (ref_ints _ y.name _ [y.type] (by exact ints_new (T := 3) (xs := [y.type]) (n := 1) (Arr.new' (by simp) rfl) (by simp)) (by simp)).mono ?_; rintro e w' ⟨v3, rfl, hv3, hk⟩; obtain ⟨a3, c3, rfl, _⟩ := hv3.form; have sk := Kept.trans (by first | exact (Kept.refl [] wn).alloc _ | exact ((Kept.refl [] wn).drew).alloc _ | exact ((Kept.refl [] wn).drewN _).alloc _) hk; have hav := av_new hrow.out (by simp) hv3; have hab3 := hab.out.kept sk (by simp); have s1 := (sk.cell lB (by simp)).trans d1; have s2 := (sk.cell hbs1 (by simp)).trans y1; have s3 := (sk.cell hbs1 (by simp)).trans y2; clear hk hv3) | (have hav0 := hav; go_must (have q1 := hav.next (Q := Av Any (.slice a1 LM.length cp1)) (Kept.alloc (Kept.refl [] w') (Obj.cells #[.slice a3 (valRow y.name [y.type]).length c3] 59)) (by simp) (fun _ h _ => h)); go_must (have q2 := hrow.out.kept (sk.alloc (Obj.cells #[.slice a3 (valRow y.name [y.type]).length c3] 59))); go_must (have q3 : Arr (w'.alloc (Obj.cells #[.slice a3 (valRow y.name [y.type]).length c3] 59)) w'.heap.size 59 [.slice a3 (valRow y.name [y.type]).length c3] := Arr.new' (by simp) rfl); rw [if_pos (by rfl)]; go_must (refine wp_row _ _ rfl w1.heap.size (.slice a1 LM.length cp1) LM rfl q2 w'.heap.size _ (colRow y) rfl q3 q1 (by have := HLN3.out; omega) (by have := hkq.out.size; have := sk.size; simp; omega) ?_); intro g cap w5 ho hk5; have hab5 := (hab3.alloc (Obj.cells #[.slice a3 (valRow y.name [y.type]).length c3] 59)).kept hk5 (row_sep q2 (hab3.alloc (Obj.cells #[.slice a3 (valRow y.name [y.type]).length c3] 59)) (by decide)); have s1 := hab5.cell (i := 1) rfl; have lb2 := Nat.lt_of_lt_of_le hbs1 (sk.alloc (Obj.cells #[.slice a3 (valRow y.name [y.type]).length c3] 59)).size; have s2 := (hk5.cell lb2 (row_off hrow.out b1 HLO.out)).trans (((sk.alloc (Obj.cells #[.slice a3 (valRow y.name [y.type]).length c3] 59)).cell hbs1 (by simp)).trans y1); have s3 := (hk5.cell lb2 (row_off hrow.out b1 HLO.out)).trans (((sk.alloc (Obj.cells #[.slice a3 (valRow y.name [y.type]).length c3] 59)).cell hbs1 (by simp)).trans y2); have HO := Lib.hid ho; have HAB5 := Lib.hid hab5; have HK5 := Lib.hid (Kept.fresh (hkq.out.trans (sk.alloc (Obj.cells #[.slice a3 (valRow y.name [y.type]).length c3] 59))) hk5 (fun y hy hlt => by have := hrow.out.block (g := y) (by simpa using hy); omega)); clear ho hk5))
              rename_i hHeld
              clear hHeld s1 s2 s3 sk hav hav0 q1 q2 q3 hab3 hab5 lb2 d1 y1 y2 hbs1
              go_wp2_with fail
              go_roundg (x.cols.length - (j + 1))
              case measure => omega
              case rel => exact ⟨j + 1, _, by omega, by go_num, rfl, by rw [HSM.out, ← List.append_assoc, HLM.out]; exact HO, HK5, HAB5⟩
            · obtain rfl : j = x.cols.length := by omega
              rw [List.take_length] at *
              generalize hLM : LL ++ [headRow x] ++ x.cols.map colRow = LM at hrow HLN3 ⊢
              have HLM := Lib.hid hLM
              have HRA := Lib.hid (HE2.out.next (Q := Av Any (.slice a1 LM.length cp1)) hkq.out (by simp) (fun b hb _ => ⟨trivial, fun e => row_off hrow.out b hb (by simp [e])⟩))
              clear hLM
              go_wp2_with (at_builtin; go_must (refine wpList_rows rfl _ _ rfl w1.heap.size (.slice a1 LM.length cp1) LM rfl hrow.out _ x.rows rfl HRA.out (by have := HLN3.out; omega) (by omega) hkq.out.size ?_); intro ad cap w5 ho hk5; have HO := Lib.hid ho; have HK5 := Lib.hid (Kept.fresh hkq.out hk5 (fun y hy hlt => by have := hrow.out.block (g := y) (by simpa using hy); omega)); clear ho hk5)
              go_roundg (s.tables.length - (k + 1))
              case measure => omega
              case rel => exact ⟨k + 1, _, by omega, by go_num, rfl, by rw [HSN.out, ← List.append_assoc, HLL.out]; unfold tblRows; rw [← List.append_assoc, ← List.singleton_append, ← List.append_assoc, HLM.out]; exact HO, HK5⟩
        · obtain rfl : k = s.tables.length := by omega
          rw [List.take_length] at *
          generalize hLL : B1 ++ s.tables.flatMap tblRows = B2 at hrow HLN2 ⊢
          have HB2 := Lib.hid hLL
          clear hLL
          go_wp2_with fail
          clear c0 c5
          go_loopg [3, 9] s.faults.length (fun g v3 i wr => ∃ (k : Nat) (rv : Value), k + g = s.faults.length ∧ i = .int .i64 k ∧ v3 = rv ∧ Hid (krow.Row 59 wr w1.heap.size Any rv (B2 ++ (s.faults.take k).map (fun n => [vint n]))) ∧ Hid (Kept [] w1 wr))
          case atStart => exact ⟨0, _, by omega, rfl, rfl, by simpa using hrow, hkp⟩
          case round =>
            obtain ⟨k, rv, hk, rfl, hrv, hrow, hkp⟩ := hrel
            subst hrv
            obtain ⟨wo, hwo⟩ : ∃ wo : World, wo = wr := ⟨_, rfl⟩
            subst hwo
            obtain ⟨a1, cp1, hf, _⟩ := hrow.out.form
            subst hf
            have c5 := (HA0.out.kept hkp.out (by simp)).cell (i := 5) rfl
            have HLN4 : Hid ((B2 ++ (s.faults.take k).map (fun n => [vint n])).length ≤ 200000) := Lib.hid (by
              have h3 : (s.faults.take k).length ≤ k := List.length_take_le _ _
              have := HLN2.out
              simp only [List.length_append, List.length_map]
              omega)
            by_cases hlt : k < s.faults.length
            · obtain ⟨x, hx1⟩ : ∃ x, s.faults[k]? = some x := ⟨s.faults[k], by simp [hlt]⟩
              obtain ⟨b0, o0, cap', he, _, hbs, x0⟩ := int_at (HFL1.out.next hkp.out (by simp) (fun _ h _ => h)) hx1
              simp only [Value.slice.injEq, true_and] at he
              obtain ⟨rfl, rfl⟩ := he
              have hk0 : (0 : Int) ≤ (k : Int) := by omega
              have hk1 : (k : Int) < (s.faults.length : Int) := by omega
              have HSN := Lib.hid (map_snoc (fun n => [vint n]) s.faults k x hx1)
              clear hx1
              generalize hLL : B2 ++ (s.faults.take k).map (fun n => [vint n]) = LL at hrow HLN4 ⊢
              have HLL := Lib.hid hLL
              clear hLL
              go_wp2_with fail
              refine (ref01_int _ x).mono ?_
              rintro e w3 ⟨rfl, hk3⟩
              have HK3 := Lib.hid hk3
              clear hk3 x0 c5
              have HV : Hid (kval.At ((w3.alloc (Obj.cells #[.int .i64 2, .int .i64 x, .string ⟨#[]⟩] 57)).alloc (Obj.cells #[.slice (some ⟨w3.heap.size, 0, none⟩) 1 1] 59)) (Av Any (.slice a1 LL.length cp1)) (.slice (some ⟨w3.heap.size, 0, none⟩) 1 1) [vint x]) := Lib.hid (by
                have hh := row_hi (Kd.Row.one (K := kval) (e := 57) (base := w3.heap.size) (P := NoB) (x := vint x) (w := w3.alloc (Obj.cells #[.int .i64 2, .int .i64 x, .string ⟨#[]⟩] 57)) (b := w3.heap.size) (Arr.new' rfl rfl) (Nat.le_refl _) rfl (fun _ h => h.elim))
                exact (av_new hrow.out HK3.out.size hh).next (Q := Av Any (.slice a1 LL.length cp1)) (Kept.alloc (Kept.refl [] _) _) (by simp) (fun _ h _ => h))
              go_wp2_with (at_builtin; go_must (refine wpList_row rfl _ _ rfl w1.heap.size (.slice a1 LL.length cp1) LL rfl (hrow.out.kept ((HK3.out.alloc _).alloc _)) (w3.heap.size + 1) _ [vint x] rfl (Arr.new' (by simp) rfl) HV.out (by have := HLN4.out; omega) (by have := hkp.out.size; have := HK3.out.size; simp; omega) ?_); intro g cap w4 ho hk4; have HO := Lib.hid ho; have HK4 := Lib.hid (Kept.fresh (hkp.out.trans ((HK3.out.alloc _).alloc _)) hk4 (fun y hy hlt => by have := hrow.out.block (g := y) (by simpa using hy); omega)); clear ho hk4)
              go_roundg (s.faults.length - (k + 1))
              case measure => omega
              case rel => exact ⟨k + 1, _, by omega, by go_num, rfl, by rw [HSN.out, ← List.append_assoc, HLL.out]; exact HO, HK4⟩
            · obtain rfl : k = s.faults.length := by omega
              rw [List.take_length] at *
              generalize hLF : B2 ++ s.faults.map (fun n => [vint n]) = LF at hrow HLN4 ⊢
              have HLF := Lib.hid hLF
              clear hLF
              go_wp2_with fail
              go_ret
              have he : rowsS s = LF := by
                rw [← HLF.out, ← HB2.out, ← HB1.out]
                rfl
              exact ⟨_, rfl, by rw [he]; exact hrow.out.any, HK0.out.trans hkp.out⟩
end Go.Proofs.YtkodiogkldboiaaGreatDoor
/- The reference's Encode. -/
namespace Go.Proofs.YtkodiogkldboiaaGreatDoor
open Go.RowKit

theorem rows_ok {s : Scr} (h : SOk s) : ∀ r ∈ rowsS s, rowOk r = true := by
  intro r hr
  unfold rowsS at hr
  simp only [List.mem_append, List.mem_singleton, List.mem_map, List.mem_flatMap] at hr
  rcases hr with ((rfl | ⟨k, _, rfl⟩) | ⟨t, ht, hr⟩) | ⟨n, hn, rfl⟩
  · exact h.top
  · exact chunk_ok _ _
  · have o := TOk.of (h.table t ht)
    unfold tblRows at hr
    simp only [List.mem_append, List.mem_cons, List.mem_map] at hr
    rcases hr with (rfl | ⟨c, hc, rfl⟩) | hr
    · exact o.head
    · exact o.col c hc
    · exact o.row r hr
  · exact h.fault n hn
theorem rows_bytes (s : Scr) : (rowsS s).flatMap putR = encB s := by
  have e : ∀ ts : List Tbl, (ts.flatMap tblRows).flatMap putR = ts.flatMap putT := by
    intro ts
    induction ts with
    | nil => rfl
    | cons t ts ih =>
      rw [List.flatMap_cons, List.flatMap_append, ih, List.flatMap_cons]
      congr 1
      unfold tblRows putT
      rw [List.flatMap_append, List.flatMap_cons, List.flatMap_map]
  unfold rowsS encB
  rw [List.flatMap_append, List.flatMap_append, List.flatMap_append, e, List.flatMap_map, List.flatMap_map]
  simp
  rfl
theorem rows_len {s : Scr} (h : SOk s) : (rowsS s).length ≤ 100000 := by
  have h1 := flat_rows tblRows 5000 s.tables (fun t ht => tblRows_len (h.table t ht))
  have h2 := h.tables
  have h3 := h.faults
  have h4 := h.query
  unfold rowsS chunksN
  simp only [List.length_append, List.length_map, List.length_range, List.length_singleton]
  omega

def BytesPost (l : List UInt8) (w : World) (en : Ending) (w' : World) : Prop := ∃ v, en = .returned v ∧ Bytes w' w.heap.size v l ∧ Kept [] w w'

set_option maxHeartbeats 6400000 in
theorem ref_encode (w : World) (v : Value) (s : Scr) (h : ScrAt w Any s v) (hok : SOk s) : Calls Tryz.prog 14 #[v] w (BytesPost (encB s) w) := by
  obtain ⟨t, f, rfl, ht, hfl⟩ := h
  obtain ⟨ta, tc, rfl, _⟩ := ht.form
  obtain ⟨fa, fc, rfl, _⟩ := hfl.form
  have K0 : Kept [] w (w.alloc (.cells #[.slice ta s.tables.length tc, .string s.query, .int .i64 s.budget, .int .i64 s.room, .int .i64 s.seed, .slice fa s.faults.length fc] 25)) := Kept.alloc (Kept.refl [] w) _
  have HK0 := Lib.hid K0
  have HSA : Hid (ScrAt (w.alloc (.cells #[.slice ta s.tables.length tc, .string s.query, .int .i64 s.budget, .int .i64 s.room, .int .i64 s.seed, .slice fa s.faults.length fc] 25)) Any s (.agg #[.slice ta s.tables.length tc, .string s.query, .int .i64 s.budget, .int .i64 s.room, .int .i64 s.seed, .slice fa s.faults.length fc])) := Lib.hid ⟨_, _, rfl, ht.kept K0, hfl.kept K0⟩
  have HOK := Lib.hid hok
  have HLR := Lib.hid (rows_len hok)
  clear ht K0 hfl hok
  go_enter Tryz.func14, Tryz.ntmps14
  go_wp2_with fail
  refine (ref_rows _ _ s HSA.out HOK.out).mono ?_
  rintro e w2 ⟨v2, rfl, hv2, hk⟩
  obtain ⟨a2, c2, rfl, _⟩ := hv2.form
  have HV2 := Lib.hid hv2
  have HK2 := Lib.hid (HK0.out.trans hk)
  have HRO := Lib.hid (rows_ok HOK.out)
  have HRB := Lib.hid (rows_bytes s)
  clear hk hv2
  generalize rowsS s = RS at *
  have hlr : (RS.length : Int) ≤ 100000 := by have := HLR.out; omega
  go_wp2_with fail
  go_loopg [3, 5] RS.length (fun g v3 i wr => ∃ (k : Nat) (bv : Value), k + g = RS.length ∧ i = .int .i64 k ∧ v3 = bv ∧ Hid (Bytes wr w2.heap.size bv ((RS.take k).flatMap putR)) ∧ Hid (Kept [] w2 wr))
  case atStart => exact ⟨0, _, by omega, rfl, rfl, Lib.hid (by simpa using Bytes.nil w2 w2.heap.size), Lib.hid (Kept.refl _ _)⟩
  case round =>
    obtain ⟨k, bv, hk, rfl, hbv, hby, hkp⟩ := hrel
    subst hbv
    obtain ⟨wo, hwo⟩ : ∃ wo : World, wo = wr := ⟨_, rfl⟩
    subst hwo
    obtain ⟨a1, cp1, hf, _⟩ := hby.out.form
    subst hf
    by_cases hlt : k < RS.length
    · obtain ⟨x, hx⟩ : ∃ x, RS[k]? = some x := ⟨RS[k], by simp [hlt]⟩
      obtain ⟨b0, o0, cap', xa, xc, he, _, hbs, x0, hxr⟩ := row_at (HV2.out.kept hkp.out) hx
      simp only [Value.slice.injEq, true_and] at he
      obtain ⟨rfl, rfl⟩ := he
      have hk0 : (0 : Int) ≤ (k : Int) := by omega
      have hk1 : (k : Int) < (RS.length : Int) := by omega
      have HSN := Lib.hid (flat_snoc' putR RS k x hx)
      have hxo := HRO.out x (List.mem_of_getElem? hx)
      have HXO := Lib.hid hxo
      have HXR := Lib.hid hxr
      have HPL := Lib.hid (show 0 < (putR x).length ∧ (putR x).length ≤ 2200 from ⟨by unfold putR; simp, (putR_len hxo).2⟩)
      have hll : ((RS.take k).flatMap putR).length ≤ 500000000 := by
        have h2 := flat_le putR (RS.take k) (fun y hy => (putR_len (HRO.out y (List.mem_of_mem_take hy))).2)
        have h3 : (RS.take k).length ≤ k := List.length_take_le _ _
        omega
      have HLL := Lib.hid hll
      clear hx hxr hxo hll
      generalize hLM : (RS.take k).flatMap putR = LM at hby HLL ⊢
      have HLM := Lib.hid hLM
      clear hLM
      go_wp2_with fail
      refine (ref_put _ _ x HXR.out HXO.out).mono ?_
      rintro e w3 ⟨v3, rfl, hb3, hk3⟩
      obtain ⟨a3, c3, rfl, _⟩ := hb3.form
      have HB3 := Lib.hid hb3
      have HK3 := Lib.hid hk3
      clear hb3 hk3 x0
      generalize hPX : putR x = px at *
      clear hPX
      go_wp2_with (at_builtin; go_must (refine wpList_bytes rfl _ _ rfl w2.heap.size (.slice a1 LM.length cp1) LM rfl (hby.out.kept HK3.out (by simp)) wo.heap.size _ px rfl HB3.out HPL.out.1 (by have := HLL.out; omega) (by have := HPL.out.2; omega) (by have := HK2.out.size; have := hkp.out.size; have := HK3.out.size; omega) ?_); intro ad cap w4 ho hk4; have HO := Lib.hid ho; have HK4 := Lib.hid (Kept.fresh (hkp.out.trans HK3.out) hk4 (fun y hy hlt => by have h1 := hby.out.own (g := y) (by simpa using hy); omega)); clear ho hk4)
      go_roundg (RS.length - (k + 1))
      case measure => omega
      case rel => exact ⟨k + 1, _, by omega, by go_num, rfl, by rw [HSN.out, HLM.out]; exact HO, HK4⟩
    · obtain rfl : k = RS.length := by omega
      rw [List.take_length] at *
      rw [HRB.out] at *
      go_wp2_with fail
      go_ret
      exact ⟨_, rfl, own_mono hby.out HK2.out.size, HK2.out.trans hkp.out⟩
end Go.Proofs.YtkodiogkldboiaaGreatDoor
/- Equality of lists: slices.Equal, the references'. -/
namespace Go.Proofs.YtkodiogkldboiaaGreatDoor
open Go.RowKit

instance : DecidableEq Val := fun a b => decidable_of_iff (a.k = b.k ∧ a.n = b.n ∧ a.s = b.s) (by cases a; cases b; simp)
instance : DecidableEq Col := fun a b => decidable_of_iff (a.tab = b.tab ∧ a.name = b.name ∧ a.type = b.type) (by cases a; cases b; simp)
instance : DecidableEq Tbl := fun a b => decidable_of_iff (a.name = b.name ∧ a.cols = b.cols ∧ a.rows = b.rows) (by cases a; cases b; simp)

theorem take_eq {α : Type} {l m : List α} {k : Nat} {x y : α} (hx : l[k]? = some x) (hy : m[k]? = some y) (h : l.take k = m.take k) (e : x = y) : l.take (k + 1) = m.take (k + 1) := by
  rw [take_snoc l k x hx, take_snoc m k y hy, h, e]
theorem ne_of_at {α : Type} {l m : List α} {k : Nat} {x y : α} (hx : l[k]? = some x) (hy : m[k]? = some y) (e : ¬ x = y) : ¬ l = m := fun h => e (by rw [h, hy] at hx; exact (Option.some.inj hx).symm)
theorem eq_of_take {α : Type} {l m : List α} (h : l.length = m.length) (e : l.take l.length = m.take l.length) : l = m := by
  rw [List.take_length, h, List.take_length] at e; exact e

set_option maxRecDepth 100000 in
set_option maxHeartbeats 3200000 in
theorem eq_ints (w : World) (u v : Value) (xs ys : List Int) (hx : (kint .i64).At w Any u xs) (hy : (kint .i64).At w Any v ys) (hb : (xs.length : Int) ≤ 16777216) : Calls Tryz.prog 23 #[u, v] w (BoolPost (decide (xs = ys)) w) := by
  have HX := Lib.hid hx
  have HY := Lib.hid hy
  obtain ⟨a, ca, rfl, _⟩ := hx.form
  obtain ⟨b, cb, rfl, _⟩ := hy.form
  clear hx hy
  by_cases hl : xs.length = ys.length
  · have HL := Lib.hid hl
    rw [← hl]
    have hlI : ((xs.length : Int) != (xs.length : Int)) = false := by simp
    clear hl
    go_enter Tryz.func23, Tryz.ntmps23
    go_wp2
    go_loopg [5, 13] xs.length (fun g v5 i wr => ∃ k : Nat, k + g = xs.length ∧ i = .int .i64 k ∧ Hid (Kept [] w wr) ∧ Hid (xs.take k = ys.take k))
    case atStart => exact ⟨0, by omega, rfl, Lib.hid (Kept.refl _ _), Lib.hid rfl⟩
    case round =>
      obtain ⟨k, hk, rfl, HK, HT⟩ := hrel
      obtain ⟨wo, hwo⟩ : ∃ wo : World, wo = wr := ⟨_, rfl⟩
      subst hwo
      have hk0 : (0 : Int) ≤ (k : Int) := by omega
      by_cases hlt : k < xs.length
      · obtain ⟨x, hx⟩ : ∃ x, xs[k]? = some x := ⟨xs[k], List.getElem?_eq_getElem hlt⟩
        obtain ⟨y, hy⟩ : ∃ y, ys[k]? = some y := ⟨ys[k]'(by rw [← HL.out]; exact hlt), List.getElem?_eq_getElem _⟩
        obtain ⟨b1, o1, c1, he, _, _, x0⟩ := int_at (HX.out.kept HK.out) hx
        simp only [Value.slice.injEq, true_and] at he
        obtain ⟨rfl, rfl⟩ := he
        obtain ⟨b2, o2, c2, he, _, _, y0⟩ := int_at (HY.out.kept HK.out) hy
        rw [← HL.out] at he
        simp only [Value.slice.injEq, true_and] at he
        obtain ⟨rfl, rfl⟩ := he
        have hk1 : (k : Int) < (xs.length : Int) := by omega
        have HXY := Lib.hid (And.intro hx hy)
        clear hx hy
        by_cases hxy : x = y
        · have HE := Lib.hid (take_eq HXY.out.1 HXY.out.2 HT.out hxy)
          subst hxy
          go_wp2_with fail
          go_quiet (fail)
          go_wp2_with fail
          go_roundg (xs.length - (k + 1))
          case measure => omega
          case rel => exact ⟨k + 1, by omega, by go_num, Lib.hid (HK.out.drewN _), HE⟩
        · have HE := Lib.hid (ne_of_at HXY.out.1 HXY.out.2 hxy)
          have hxy' : ¬ x = y := hxy
          go_wp2_with fail
          go_quiet (fail)
          go_wp2_with fail
          go_ret
          exact ⟨by rw [decide_eq_false HE.out]; rfl, HK.out.drewN _⟩
      · obtain rfl : k = xs.length := by omega
        have HE := Lib.hid (eq_of_take HL.out HT.out)
        go_wp2_with fail
        go_ret
        exact ⟨by rw [decide_eq_true HE.out]; rfl, HK.out⟩
  · have hlI : ¬ (xs.length : Int) = (ys.length : Int) := by omega
    have HE : Hid (¬ xs = ys) := Lib.hid (fun e => hl (by rw [e]))
    go_enter Tryz.func23, Tryz.ntmps23
    go_wp2
    go_ret
    exact ⟨by rw [decide_eq_false HE.out]; rfl, Kept.refl _ _⟩
end Go.Proofs.YtkodiogkldboiaaGreatDoor
/- Equality of lists of columns and of values. -/
namespace Go.Proofs.YtkodiogkldboiaaGreatDoor
open Go.RowKit

theorem bytes_eq {a b : ByteArray} (h : a.toList = b.toList) : a = b := by
  rw [ByteArray.toList_eq, ByteArray.toList_eq] at h
  cases a; cases b
  simp at h
  rw [h]
theorem val_ne {x y : Val} (h : ¬ x = y) : ¬ x.k = y.k ∨ x.k = y.k ∧ ¬ x.n = y.n ∨ x.k = y.k ∧ x.n = y.n ∧ ¬ x.s.toList = y.s.toList := by
  by_cases h1 : x.k = y.k
  · by_cases h2 : x.n = y.n
    · refine .inr (.inr ⟨h1, h2, fun h3 => h ?_⟩)
      have := bytes_eq h3
      cases x; cases y; simp_all
    · exact .inr (.inl ⟨h1, h2⟩)
  · exact .inl h1
theorem col_ne {x y : Col} (h : ¬ x = y) : ¬ x.tab.toList = y.tab.toList ∨ x.tab.toList = y.tab.toList ∧ ¬ x.name.toList = y.name.toList ∨ x.tab.toList = y.tab.toList ∧ x.name.toList = y.name.toList ∧ ¬ x.type = y.type := by
  by_cases h1 : x.tab.toList = y.tab.toList
  · by_cases h2 : x.name.toList = y.name.toList
    · refine .inr (.inr ⟨h1, h2, fun h3 => h ?_⟩)
      have h1' := bytes_eq h1
      have h2' := bytes_eq h2
      cases x; cases y; simp_all
    · exact .inr (.inl ⟨h1, h2⟩)
  · exact .inl h1

set_option maxRecDepth 100000 in
set_option maxHeartbeats 3200000 in
theorem eq_cols (w : World) (u v : Value) (xs ys : List Col) (hx : kcol.At w Any u xs) (hy : kcol.At w Any v ys) (hb : (xs.length : Int) ≤ 16777216) : Calls Tryz.prog 49 #[u, v] w (BoolPost (decide (xs = ys)) w) := by
  have HX := Lib.hid hx
  have HY := Lib.hid hy
  obtain ⟨a, ca, rfl, _⟩ := hx.form
  obtain ⟨b, cb, rfl, _⟩ := hy.form
  clear hx hy
  by_cases hl : xs.length = ys.length
  · have HL := Lib.hid hl
    rw [← hl]
    have hlI : ((xs.length : Int) != (xs.length : Int)) = false := by simp
    clear hl
    go_enter Tryz.func49, Tryz.ntmps49
    go_wp2
    go_loopg [5, 13] xs.length (fun g v5 i wr => ∃ k : Nat, k + g = xs.length ∧ i = .int .i64 k ∧ Hid (Kept [] w wr) ∧ Hid (xs.take k = ys.take k))
    case atStart => exact ⟨0, by omega, rfl, Lib.hid (Kept.refl _ _), Lib.hid rfl⟩
    case round =>
      obtain ⟨k, hk, rfl, HK, HT⟩ := hrel
      obtain ⟨wo, hwo⟩ : ∃ wo : World, wo = wr := ⟨_, rfl⟩
      subst hwo
      have hk0 : (0 : Int) ≤ (k : Int) := by omega
      by_cases hlt : k < xs.length
      · obtain ⟨x, hx⟩ : ∃ x, xs[k]? = some x := ⟨xs[k], List.getElem?_eq_getElem hlt⟩
        obtain ⟨y, hy⟩ : ∃ y, ys[k]? = some y := ⟨ys[k]'(by rw [← HL.out]; exact hlt), List.getElem?_eq_getElem _⟩
        obtain ⟨b1, o1, c1, he, _, _, x0, x1, x2⟩ := col_at (HX.out.kept HK.out) hx
        simp only [Value.slice.injEq, true_and] at he
        obtain ⟨rfl, rfl⟩ := he
        obtain ⟨b2, o2, c2, he, _, _, y0, y1, y2⟩ := col_at (HY.out.kept HK.out) hy
        rw [← HL.out] at he
        simp only [Value.slice.injEq, true_and] at he
        obtain ⟨rfl, rfl⟩ := he
        have hk1 : (k : Int) < (xs.length : Int) := by omega
        have HXY := Lib.hid (And.intro hx hy)
        clear hx hy
        by_cases hxy : x = y
        · have HE := Lib.hid (take_eq HXY.out.1 HXY.out.2 HT.out hxy)
          subst hxy
          go_wp2_with fail
          go_quiet (fail)
          go_wp2_with fail
          go_roundg (xs.length - (k + 1))
          case measure => omega
          case rel => exact ⟨k + 1, by omega, by go_num, Lib.hid (HK.out.drewN _), HE⟩
        · have HE := Lib.hid (ne_of_at HXY.out.1 HXY.out.2 hxy)
          have hd : ¬ x.tab.toList = y.tab.toList ∨ x.tab.toList = y.tab.toList ∧ ¬ x.name.toList = y.name.toList ∨ x.tab.toList = y.tab.toList ∧ x.name.toList = y.name.toList ∧ ¬ x.type = y.type := col_ne hxy
          clear hxy
          rcases hd with h1 | ⟨h1, h2⟩ | ⟨h1, h2, h3⟩
          all_goals
            go_wp2_with fail
            go_quiet (fail)
            go_wp2_with fail
            go_ret
            exact ⟨by rw [decide_eq_false HE.out]; rfl, HK.out.drewN _⟩
      · obtain rfl : k = xs.length := by omega
        have HE := Lib.hid (eq_of_take HL.out HT.out)
        go_wp2_with fail
        go_ret
        exact ⟨by rw [decide_eq_true HE.out]; rfl, HK.out⟩
  · have hlI : ¬ (xs.length : Int) = (ys.length : Int) := by omega
    have HE : Hid (¬ xs = ys) := Lib.hid (fun e => hl (by rw [e]))
    go_enter Tryz.func49, Tryz.ntmps49
    go_wp2
    go_ret
    exact ⟨by rw [decide_eq_false HE.out]; rfl, Kept.refl _ _⟩

set_option maxRecDepth 100000 in
set_option maxHeartbeats 3200000 in
theorem eq_vals (w : World) (u v : Value) (xs ys : List Val) (hx : kval.At w Any u xs) (hy : kval.At w Any v ys) (hb : (xs.length : Int) ≤ 16777216) : Calls Tryz.prog 68 #[u, v] w (BoolPost (decide (xs = ys)) w) := by
  have HX := Lib.hid hx
  have HY := Lib.hid hy
  obtain ⟨a, ca, rfl, _⟩ := hx.form
  obtain ⟨b, cb, rfl, _⟩ := hy.form
  clear hx hy
  by_cases hl : xs.length = ys.length
  · have HL := Lib.hid hl
    rw [← hl]
    have hlI : ((xs.length : Int) != (xs.length : Int)) = false := by simp
    clear hl
    go_enter Tryz.func68, Tryz.ntmps68
    go_wp2
    go_loopg [5, 13] xs.length (fun g v5 i wr => ∃ k : Nat, k + g = xs.length ∧ i = .int .i64 k ∧ Hid (Kept [] w wr) ∧ Hid (xs.take k = ys.take k))
    case atStart => exact ⟨0, by omega, rfl, Lib.hid (Kept.refl _ _), Lib.hid rfl⟩
    case round =>
      obtain ⟨k, hk, rfl, HK, HT⟩ := hrel
      obtain ⟨wo, hwo⟩ : ∃ wo : World, wo = wr := ⟨_, rfl⟩
      subst hwo
      have hk0 : (0 : Int) ≤ (k : Int) := by omega
      by_cases hlt : k < xs.length
      · obtain ⟨x, hx⟩ : ∃ x, xs[k]? = some x := ⟨xs[k], List.getElem?_eq_getElem hlt⟩
        obtain ⟨y, hy⟩ : ∃ y, ys[k]? = some y := ⟨ys[k]'(by rw [← HL.out]; exact hlt), List.getElem?_eq_getElem _⟩
        obtain ⟨b1, o1, c1, he, _, _, x0, x1, x2⟩ := val_at (HX.out.kept HK.out) hx
        simp only [Value.slice.injEq, true_and] at he
        obtain ⟨rfl, rfl⟩ := he
        obtain ⟨b2, o2, c2, he, _, _, y0, y1, y2⟩ := val_at (HY.out.kept HK.out) hy
        rw [← HL.out] at he
        simp only [Value.slice.injEq, true_and] at he
        obtain ⟨rfl, rfl⟩ := he
        have hk1 : (k : Int) < (xs.length : Int) := by omega
        have HXY := Lib.hid (And.intro hx hy)
        clear hx hy
        by_cases hxy : x = y
        · have HE := Lib.hid (take_eq HXY.out.1 HXY.out.2 HT.out hxy)
          subst hxy
          go_wp2_with fail
          go_quiet (fail)
          go_wp2_with fail
          go_roundg (xs.length - (k + 1))
          case measure => omega
          case rel => exact ⟨k + 1, by omega, by go_num, Lib.hid (HK.out.drewN _), HE⟩
        · have HE := Lib.hid (ne_of_at HXY.out.1 HXY.out.2 hxy)
          have hd : ¬ x.k = y.k ∨ x.k = y.k ∧ ¬ x.n = y.n ∨ x.k = y.k ∧ x.n = y.n ∧ ¬ x.s.toList = y.s.toList := val_ne hxy
          clear hxy
          rcases hd with h1 | ⟨h1, h2⟩ | ⟨h1, h2, h3⟩
          all_goals
            go_wp2_with fail
            go_quiet (fail)
            go_wp2_with fail
            go_ret
            exact ⟨by rw [decide_eq_false HE.out]; rfl, HK.out.drewN _⟩
      · obtain rfl : k = xs.length := by omega
        have HE := Lib.hid (eq_of_take HL.out HT.out)
        go_wp2_with fail
        go_ret
        exact ⟨by rw [decide_eq_true HE.out]; rfl, HK.out⟩
  · have hlI : ¬ (xs.length : Int) = (ys.length : Int) := by omega
    have HE : Hid (¬ xs = ys) := Lib.hid (fun e => hl (by rw [e]))
    go_enter Tryz.func68, Tryz.ntmps68
    go_wp2
    go_ret
    exact ⟨by rw [decide_eq_false HE.out]; rfl, Kept.refl _ _⟩

set_option maxRecDepth 100000 in
set_option maxHeartbeats 3200000 in
theorem ref13_cols (w : World) (u v : Value) (xs ys : List Col) (hx : kcol.At w Any u xs) (hy : kcol.At w Any v ys) (hb : (xs.length : Int) ≤ 16777216) : Calls Tryz.prog 26 #[u, v] w (BoolPost (decide (xs = ys)) w) := by
  have HX := Lib.hid hx
  have HY := Lib.hid hy
  obtain ⟨a, ca, rfl, _⟩ := hx.form
  obtain ⟨b, cb, rfl, _⟩ := hy.form
  clear hx hy
  by_cases hl : xs.length = ys.length
  · have HL := Lib.hid hl
    rw [← hl]
    have hlI : ((xs.length : Int) != (xs.length : Int)) = false := by simp
    clear hl
    go_enter Tryz.func26, Tryz.ntmps26
    go_wp2
    go_loopg [5] xs.length (fun g i wr => ∃ k : Nat, k + g = xs.length ∧ i = .int .i64 k ∧ Hid (Kept [] w wr) ∧ Hid (xs.take k = ys.take k))
    case atStart => exact ⟨0, by omega, rfl, Lib.hid (Kept.refl _ _), Lib.hid rfl⟩
    case round =>
      obtain ⟨k, hk, rfl, HK, HT⟩ := hrel
      obtain ⟨wo, hwo⟩ : ∃ wo : World, wo = wr := ⟨_, rfl⟩
      subst hwo
      have hk0 : (0 : Int) ≤ (k : Int) := by omega
      by_cases hlt : k < xs.length
      · obtain ⟨x, hx⟩ : ∃ x, xs[k]? = some x := ⟨xs[k], List.getElem?_eq_getElem hlt⟩
        obtain ⟨y, hy⟩ : ∃ y, ys[k]? = some y := ⟨ys[k]'(by rw [← HL.out]; exact hlt), List.getElem?_eq_getElem _⟩
        obtain ⟨b1, o1, c1, he, _, _, x0, x1, x2⟩ := col_at (HX.out.kept HK.out) hx
        simp only [Value.slice.injEq, true_and] at he
        obtain ⟨rfl, rfl⟩ := he
        obtain ⟨b2, o2, c2, he, _, _, y0, y1, y2⟩ := col_at (HY.out.kept HK.out) hy
        rw [← HL.out] at he
        simp only [Value.slice.injEq, true_and] at he
        obtain ⟨rfl, rfl⟩ := he
        have hk1 : (k : Int) < (xs.length : Int) := by omega
        have HXY := Lib.hid (And.intro hx hy)
        clear hx hy
        by_cases hxy : x = y
        · have HE := Lib.hid (take_eq HXY.out.1 HXY.out.2 HT.out hxy)
          subst hxy
          go_wp2_with fail
          go_quiet (fail)
          go_wp2_with fail
          go_roundg (xs.length - (k + 1))
          case measure => omega
          case rel => exact ⟨k + 1, by omega, by go_num, Lib.hid (HK.out.drewN _), HE⟩
        · have HE := Lib.hid (ne_of_at HXY.out.1 HXY.out.2 hxy)
          have hd : ¬ x.tab.toList = y.tab.toList ∨ x.tab.toList = y.tab.toList ∧ ¬ x.name.toList = y.name.toList ∨ x.tab.toList = y.tab.toList ∧ x.name.toList = y.name.toList ∧ ¬ x.type = y.type := col_ne hxy
          clear hxy
          rcases hd with h1 | ⟨h1, h2⟩ | ⟨h1, h2, h3⟩
          all_goals
            go_wp2_with fail
            go_quiet (fail)
            go_wp2_with fail
            go_ret
            exact ⟨by rw [decide_eq_false HE.out]; rfl, HK.out.drewN _⟩
      · obtain rfl : k = xs.length := by omega
        have HE := Lib.hid (eq_of_take HL.out HT.out)
        go_wp2_with fail
        go_ret
        exact ⟨by rw [decide_eq_true HE.out]; rfl, HK.out⟩
  · have hlI : ¬ (xs.length : Int) = (ys.length : Int) := by omega
    have HE : Hid (¬ xs = ys) := Lib.hid (fun e => hl (by rw [e]))
    go_enter Tryz.func26, Tryz.ntmps26
    go_wp2
    go_ret
    exact ⟨by rw [decide_eq_false HE.out]; rfl, Kept.refl _ _⟩

end Go.Proofs.YtkodiogkldboiaaGreatDoor
/- Equality of rows, tables, scripts: row.Same, slices.EqualFunc, sameTable, script.Same. -/
namespace Go.Proofs.YtkodiogkldboiaaGreatDoor
open Go.RowKit

theorem row_same (w : World) (u v : Value) (xs ys : List Val) (hx : kval.At w Any u xs) (hy : kval.At w Any v ys) (hb : (xs.length : Int) ≤ 16777216) : Calls Tryz.prog 51 #[u, v] w (BoolPost (decide (xs = ys)) w) := by
  have HC := Lib.hid (eq_vals w u v xs ys hx hy hb)
  clear hx hy
  go_enter Tryz.func51, Tryz.ntmps51
  go_wp2_with fail
  refine HC.out.mono ?_
  rintro e w2 ⟨rfl, hk⟩
  have HK := Lib.hid hk
  clear hk HC
  generalize hc : decide (xs = ys) = c
  have HD := Lib.hid hc
  clear hc
  go_wp2_with fail
  go_ret
  exact ⟨by rw [HD.out]; rfl, HK.out⟩

set_option maxRecDepth 100000 in
set_option maxHeartbeats 3200000 in
theorem eqf_rows (w : World) (u v : Value) (xs ys : List (List Val)) (hx : krow.At w Any u xs) (hy : krow.At w Any v ys) (hb : (xs.length : Int) ≤ 16777216) (hr : ∀ r ∈ xs, r.length ≤ 1000000) : Calls Tryz.prog 50 #[u, v, .func (.func 51) #[] #[]] w (BoolPost (decide (xs = ys)) w) := by
  have HX := Lib.hid hx
  have HY := Lib.hid hy
  have HR := Lib.hid hr
  obtain ⟨a, ca, rfl, _⟩ := hx.form
  obtain ⟨b, cb, rfl, _⟩ := hy.form
  clear hx hy hr
  by_cases hl : xs.length = ys.length
  · have HL := Lib.hid hl
    rw [← hl]
    clear hl
    go_enter Tryz.func50, Tryz.ntmps50
    go_wp2
    go_loopg [7, 8, 9, 17] xs.length (fun g v7 v8 v9 i wr => ∃ k : Nat, k + g = xs.length ∧ i = .int .i64 k ∧ Hid (Kept [] w wr) ∧ Hid (xs.take k = ys.take k))
    case atStart => exact ⟨0, by omega, rfl, Lib.hid (Kept.refl _ _), Lib.hid rfl⟩
    case round =>
      obtain ⟨k, hk, rfl, HK, HT⟩ := hrel
      obtain ⟨wo, hwo⟩ : ∃ wo : World, wo = wr := ⟨_, rfl⟩
      subst hwo
      have hk0 : (0 : Int) ≤ (k : Int) := by omega
      by_cases hlt : k < xs.length
      · obtain ⟨x, hx⟩ : ∃ x, xs[k]? = some x := ⟨xs[k], List.getElem?_eq_getElem hlt⟩
        obtain ⟨y, hy⟩ : ∃ y, ys[k]? = some y := ⟨ys[k]'(by rw [← HL.out]; exact hlt), List.getElem?_eq_getElem _⟩
        obtain ⟨b1, o1, c1, xa, xc, he, _, _, x0, hxa⟩ := row_at (HX.out.kept HK.out) hx
        simp only [Value.slice.injEq, true_and] at he
        obtain ⟨rfl, rfl⟩ := he
        obtain ⟨b2, o2, c2, ya, yc, he, _, _, y0, hya⟩ := row_at (HY.out.kept HK.out) hy
        rw [← HL.out] at he
        simp only [Value.slice.injEq, true_and] at he
        obtain ⟨rfl, rfl⟩ := he
        have hk1 : (k : Int) < (xs.length : Int) := by omega
        have HXY := Lib.hid (And.intro hx hy)
        have HC := Lib.hid (row_same wo _ _ x y hxa hya (by have := HR.out x (List.mem_of_getElem? hx); omega))
        clear hx hy hxa hya
        go_wp2_with fail
        refine HC.out.mono ?_
        rintro e w2 ⟨rfl, hk2⟩
        have HK2 := Lib.hid (HK.out.trans hk2)
        clear hk2 x0 y0
        by_cases hxy : x = y
        · have HE := Lib.hid (take_eq HXY.out.1 HXY.out.2 HT.out hxy)
          rw [decide_eq_true hxy]
          clear hxy
          go_wp2_with fail
          go_roundg (xs.length - (k + 1))
          case measure => omega
          case rel => exact ⟨k + 1, by omega, by go_num, HK2, HE⟩
        · have HE := Lib.hid (ne_of_at HXY.out.1 HXY.out.2 hxy)
          rw [decide_eq_false hxy]
          clear hxy
          go_wp2_with fail
          go_ret
          exact ⟨by rw [decide_eq_false HE.out]; rfl, HK2.out⟩
      · obtain rfl : k = xs.length := by omega
        have HE := Lib.hid (eq_of_take HL.out HT.out)
        go_wp2_with fail
        go_ret
        exact ⟨by rw [decide_eq_true HE.out]; rfl, HK.out⟩
  · have hlI : ¬ (xs.length : Int) = (ys.length : Int) := by omega
    have HE : Hid (¬ xs = ys) := Lib.hid (fun e => hl (by rw [e]))
    go_enter Tryz.func50, Tryz.ntmps50
    go_wp2
    go_ret
    exact ⟨by rw [decide_eq_false HE.out]; rfl, Kept.refl _ _⟩

theorem tbl_eq {x y : Tbl} : x = y ↔ x.name = y.name ∧ x.cols = y.cols ∧ x.rows = y.rows := by cases x; cases y; simp

set_option maxRecDepth 100000 in
set_option maxHeartbeats 3200000 in
theorem same_table (w : World) (c r c' r' : Value) (x y : Tbl) (h1 : kcol.At w Any c x.cols) (h2 : krow.At w Any r x.rows) (h3 : kcol.At w Any c' y.cols) (h4 : krow.At w Any r' y.rows) (hf : Fine x) : Calls Tryz.prog 25 #[.agg #[.string x.name, c, r], .agg #[.string y.name, c', r']] w (BoolPost (decide (x = y)) w) := by
  obtain ⟨ca, cc, rfl, _⟩ := h1.form
  obtain ⟨ra, rc, rfl, _⟩ := h2.form
  obtain ⟨ca', cc', rfl, _⟩ := h3.form
  obtain ⟨ra', rc', rfl, _⟩ := h4.form
  have K0 : Kept [] w ((w.alloc (.cells #[.string x.name, .slice ca x.cols.length cc, .slice ra x.rows.length rc] 53)).alloc (.cells #[.string y.name, .slice ca' y.cols.length cc', .slice ra' y.rows.length rc'] 53)) := ((Kept.refl [] w).alloc _).alloc _
  have A1 : Arr ((w.alloc (.cells #[.string x.name, .slice ca x.cols.length cc, .slice ra x.rows.length rc] 53)).alloc (.cells #[.string y.name, .slice ca' y.cols.length cc', .slice ra' y.rows.length rc'] 53)) w.heap.size 53 [.string x.name, .slice ca x.cols.length cc, .slice ra x.rows.length rc] := (Arr.new' rfl rfl : Arr (w.alloc (.cells #[.string x.name, .slice ca x.cols.length cc, .slice ra x.rows.length rc] 53)) w.heap.size 53 [.string x.name, .slice ca x.cols.length cc, .slice ra x.rows.length rc]).alloc _
  have A2 : Arr ((w.alloc (.cells #[.string x.name, .slice ca x.cols.length cc, .slice ra x.rows.length rc] 53)).alloc (.cells #[.string y.name, .slice ca' y.cols.length cc', .slice ra' y.rows.length rc'] 53)) (w.heap.size + 1) 53 [.string y.name, .slice ca' y.cols.length cc', .slice ra' y.rows.length rc'] := Arr.new' (by simp) rfl
  have HK0 := Lib.hid K0
  have HA1 := Lib.hid A1
  have HA2 := Lib.hid A2
  have H1 := Lib.hid (h1.kept K0)
  have H2 := Lib.hid (h2.kept K0)
  have H3 := Lib.hid (h3.kept K0)
  have H4 := Lib.hid (h4.kept K0)
  have HF := Lib.hid hf
  have HQ := Lib.hid (@tbl_eq x y)
  clear h1 h2 h3 h4 hf K0 A1 A2
  by_cases hn : x.name = y.name
  · rw [hn]
    rw [hn] at HK0 HA1 HA2 H1 H2 H3 H4
    have HN := Lib.hid hn
    clear hn
    go_enter Tryz.func25, Tryz.ntmps25
    go_upto_region 1 with fail
    generalize (w.alloc (.cells #[.string y.name, .slice ca x.cols.length cc, .slice ra x.rows.length rc] 53)).alloc (.cells #[.string y.name, .slice ca' y.cols.length cc', .slice ra' y.rows.length rc'] 53) = w1 at *
    have HC := Lib.hid (eq_cols w1 _ _ x.cols y.cols H1.out H3.out (by have := HF.out.cols; omega))
    have c0 := HA1.out.cell (i := 0) rfl
    have c1 := HA1.out.cell (i := 1) rfl
    have d0 := HA2.out.cell (i := 0) rfl
    have d1 := HA2.out.cell (i := 1) rfl
    go_wp2_with fail
    refine HC.out.mono ?_
    rintro e w2 ⟨rfl, hk2⟩
    have HA3 := Lib.hid (HA1.out.kept hk2 (by simp))
    have HA4 := Lib.hid (HA2.out.kept hk2 (by simp))
    have HC2 := Lib.hid (eqf_rows w2 _ _ x.rows y.rows (H2.out.kept hk2) (H4.out.kept hk2) (by have := HF.out.rows; omega) HF.out.row)
    have HK2 := Lib.hid (HK0.out.trans hk2)
    clear hk2 c0 c1 d0 d1
    have c2 := HA3.out.cell (i := 2) rfl
    have d2 := HA4.out.cell (i := 2) rfl
    by_cases hc : x.cols = y.cols
    · have HCE := Lib.hid hc
      rw [decide_eq_true hc]
      clear hc
      go_wp2_with fail
      refine HC2.out.mono ?_
      rintro e w3 ⟨rfl, hk3⟩
      have HK3 := Lib.hid (HK2.out.trans hk3)
      have hd : decide (x = y) = decide (x.rows = y.rows) := decide_eq_decide.2 (by rw [HQ.out]; exact ⟨fun h => h.2.2, fun h => ⟨HN.out, HCE.out, h⟩⟩)
      have HD := Lib.hid hd
      clear hd hk3 c2 d2
      generalize decide (x.rows = y.rows) = c at *
      go_wp2_with fail
      go_ret
      exact ⟨by rw [HD.out]; rfl, HK3.out⟩
    · have HE : Hid (¬ x = y) := Lib.hid (fun e => hc (HQ.out.1 e).2.1)
      rw [decide_eq_false hc]
      clear hc
      go_wp2_with fail
      go_ret
      exact ⟨by rw [decide_eq_false HE.out]; rfl, HK2.out⟩
  · have hn' : ¬ x.name.toList = y.name.toList := fun e => hn (bytes_eq e)
    have HE : Hid (¬ x = y) := Lib.hid (fun e => hn (HQ.out.1 e).1)
    have c0 := HA1.out.cell (i := 0) rfl
    have d0 := HA2.out.cell (i := 0) rfl
    clear hn
    go_enter Tryz.func25, Tryz.ntmps25
    go_wp2_with fail
    go_ret
    exact ⟨by rw [decide_eq_false HE.out]; rfl, HK0.out⟩
end Go.Proofs.YtkodiogkldboiaaGreatDoor
