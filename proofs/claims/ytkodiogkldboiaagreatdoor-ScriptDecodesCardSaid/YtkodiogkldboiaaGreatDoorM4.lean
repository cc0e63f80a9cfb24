/- What may be kept as a row: ref04.May; a column that may not be. -/
import Derived.Deep.RegionWith
import Derived.Test.YtkodiogkldboiaaGreatDoorM3
set_option linter.unusedVariables false
set_option linter.unusedSimpArgs false
namespace Go.Proofs.YtkodiogkldboiaaGreatDoor
open Go.RowKit

def mayErr (r : List Val) : Int := if rowOk r then (if rowSize r > 253 then 3 else 0) else 20

set_option maxHeartbeats 1600000 in
theorem ref_may (w : World) (v : Value) (r : List Val) (h : kval.At w Any v r) (hb : r.length ≤ 1000000) : Calls Tryz.prog 84 #[v] w (IntPost (mayErr r) w) := by
  have H := Lib.hid h
  obtain ⟨a, cap, rfl, _⟩ := h.form
  clear h
  cases hq : rowOk r
  all_goals
    have HQ := Lib.hid hq
    go_enter Tryz.func84, Tryz.ntmps84
    go_wp2_with fail
    refine (ref02_check _ _ r H.out hb).mono ?_
    rw [hq]
    clear hq
    rintro e w2 ⟨rfl, hk⟩
    have HK := Lib.hid hk
    clear hk
    go_wp2_with fail
  · go_ret
    exact ⟨ret_int (by unfold mayErr; rw [HQ.out]; rfl), HK.out⟩
  · refine (ref_put _ _ r (H.out.kept HK.out) HQ.out).mono ?_
    rintro e w3 ⟨v3, rfl, hby, hk3⟩
    obtain ⟨a3, cp3, rfl, _⟩ := hby.form
    have HK3 := Lib.hid (HK.out.trans hk3)
    have hl := (putR_len HQ.out).1
    rw [hl]
    have hl2 := (putR_len HQ.out).2
    have HME : Hid (mayErr r = if rowSize r > 253 then 3 else 0) := Lib.hid (by unfold mayErr; rw [HQ.out]; rfl)
    rw [hl] at hl2
    clear hl hk3 hby
    generalize rowSize r = z at *
    have hz : (z : Int) ≤ 2200 := by omega
    go_wp2_with fail
    · have h1 : (253 : Int) < (z : Int) := by first | assumption | omega
      go_ret
      exact ⟨ret_int (by rw [HME.out, if_pos (by omega)]), HK3.out⟩
    · have h1 : ¬ (253 : Int) < (z : Int) := by first | assumption | omega
      go_ret
      exact ⟨ret_int (by rw [HME.out, if_neg (by omega)]), HK3.out⟩

def colOk (c : Col) : Bool := c.tab.toList.isEmpty && nameB c.name && decide (1 ≤ c.type ∧ c.type ≤ 3)

set_option maxHeartbeats 1600000 in
theorem odd_column (w : World) (c : Col) (hm : ML w) (hs : (c.name.size : Int) ≤ 140737488355328) : Calls Tryz.prog 90 #[.agg #[.string c.tab, .string c.name, .int .i64 c.type]] w (BoolPost (!colOk c) w) := by
  obtain ⟨tab, name, type⟩ := c
  simp only at hs
  have HM := Lib.hid (ML.kept hm (Kept.alloc (Kept.refl [] w) (.cells #[.string tab, .string name, .int .i64 type] 85)))
  clear hm
  have A := Arr.new w #[.string tab, .string name, .int .i64 type] 85
  have HA := Lib.hid A
  have HK0 := Lib.hid (Kept.alloc (Kept.refl [] w) (.cells #[.string tab, .string name, .int .i64 type] 85))
  clear A
  cases ht : tab.toList.isEmpty
  all_goals
    have HT := Lib.hid ht
    go_enter Tryz.func90, Tryz.ntmps90
    go_wp2_with fail
  · go_ret
    exact ⟨ret_bool (by simp [colOk, HT.out]), HK0.out⟩
  · refine (lex_name _ name HM.out hs).mono ?_
    rintro e w2 ⟨rfl, hk⟩
    have HK := Lib.hid (HK0.out.trans hk)
    have c2 := (HA.out.kept hk (by simp)).cell (i := 2) rfl
    clear hk
    cases hn : nameB name
    all_goals
      have HN := Lib.hid hn
      go_wp2_with fail
    all_goals
      go_ret
      refine ⟨ret_bool ?_, HK.out⟩
      unfold colOk
      rw [HT.out, HN.out]
      first | rfl | (rw [Bool.eq_iff_iff]; simp; done) | (rw [Bool.eq_iff_iff]; simp; omega)
end Go.Proofs.YtkodiogkldboiaaGreatDoor
/- Tables: catalog.Table, catalog.Check. -/
namespace Go.Proofs.YtkodiogkldboiaaGreatDoor
open Go.RowKit

theorem at_len {α : Type} {K : Kd α} {w : World} {P : Nat → Prop} {a : Option Addr} {n c : Nat} {xs : List α} (h : K.At w P (.slice a n c) xs) : n = xs.length := by
  obtain ⟨_, _, he, _⟩ := h.form
  simp only [Value.slice.injEq] at he
  exact he.2.1

/-- A row that does not fit, or is too large. -/
def bigRow (cols : List Col) (r : List Val) : Bool := !fitB cols r || decide (253 < rowSize r)

set_option maxHeartbeats 1600000 in
theorem table_row (w : World) (p : Nat) (n : ByteArray) (ca : Option Addr) (cc : Nat) (rv : Value) (cols : List Col) (ra : Option Addr) (rc : Nat) (r : List Val) (hp : Arr w p 53 [.string n, .slice ca cols.length cc, rv]) (hc : kcol.At w Any (.slice ca cols.length cc) cols) (hr : kval.At w Any (.slice ra r.length rc) r) (hb : r.length ≤ 1000000) (hbc : cols.length ≤ 1000000) : Calls Tryz.prog 85 #[.slice ra r.length rc, .pointer (some ⟨p, 0, none⟩)] w (BoolPost (bigRow cols r) w) := by
  have c1 := hp.cell (i := 1) rfl
  have HC := Lib.hid hc
  have HR := Lib.hid hr
  clear hc hr hp
  go_enter Tryz.func85, Tryz.ntmps85
  go_wp2_with fail
  refine (fits_any _ _ _ cols r HC.out HR.out hb hbc).mono ?_
  rintro e w2 ⟨rfl, hk⟩
  have HK := Lib.hid hk
  clear hk c1
  cases hq : fitB cols r
  all_goals
    have HQ := Lib.hid hq
    clear hq
    go_wp2_with fail
  · go_ret
    exact ⟨ret_bool (by unfold bigRow; rw [HQ.out]; rfl), HK.out⟩
  · refine (row_size _ _ r (HR.out.kept HK.out) hb).mono ?_
    rintro e w3 ⟨rfl, hk⟩
    have HK3 := Lib.hid (HK.out.trans hk)
    clear hk
    go_wp2_with fail
    go_ret
    exact ⟨ret_bool (by unfold bigRow; rw [HQ.out, Bool.eq_iff_iff]; simp; omega), HK3.out⟩

/-- Nothing is so large that it could not be counted. -/
structure Fine (t : Tbl) : Prop where
  cols : t.cols.length ≤ 1000000
  rows : t.rows.length ≤ 1000000
  name : (t.name.size : Int) ≤ 140737488355328
  colName : ∀ c ∈ t.cols, (c.name.size : Int) ≤ 140737488355328
  row : ∀ r ∈ t.rows, r.length ≤ 1000000

def tblOk (t : Tbl) : Bool :=
  nameB t.name && decide (1 ≤ t.cols.length) && decide (t.cols.length ≤ 16) && decide (t.rows.length ≤ 4096) && t.cols.all colOk && distinctS (t.cols.map (·.name)) && t.rows.all (fun r => !bigRow t.cols r)
def tblErr (t : Tbl) : Int := if tblOk t then 0 else 130

theorem tblOk_iff {t : Tbl} : tblOk t = true ↔ nameB t.name = true ∧ 1 ≤ t.cols.length ∧ t.cols.length ≤ 16 ∧ t.rows.length ≤ 4096 ∧ t.cols.all colOk = true ∧ distinctS (t.cols.map (·.name)) = true ∧ t.rows.all (fun r => !bigRow t.cols r) = true := by
  unfold tblOk
  simp only [Bool.and_eq_true, decide_eq_true_eq, and_assoc]
theorem tblErr_of {t : Tbl} (h : ¬(nameB t.name = true ∧ 1 ≤ t.cols.length ∧ t.cols.length ≤ 16 ∧ t.rows.length ≤ 4096 ∧ t.cols.all colOk = true ∧ distinctS (t.cols.map (·.name)) = true ∧ t.rows.all (fun r => !bigRow t.cols r) = true)) : tblErr t = 130 := by
  unfold tblErr
  rw [if_neg (fun e => h (tblOk_iff.1 e))]

theorem all_not {α : Type} (p : α → Bool) (l : List α) : l.any (fun x => !p x) = !l.all p := by
  induction l with
  | nil => rfl
  | cons a l ih => simp only [List.any_cons, List.all_cons, ih]; cases p a <;> rfl
theorem any_not {α : Type} (p : α → Bool) (l : List α) : l.all (fun x => !p x) = !l.any p := by
  induction l with
  | nil => rfl
  | cons a l ih => simp only [List.any_cons, List.all_cons, ih]; cases p a <;> rfl

set_option maxHeartbeats 6400000 in
theorem catalog_table (w : World) (t : Tbl) (ca : Option Addr) (cn cc : Nat) (ra : Option Addr) (rn rc : Nat) (hc : kcol.At w Any (.slice ca cn cc) t.cols) (hr : krow.At w Any (.slice ra rn rc) t.rows) (hm : ML w) (hf : Fine t) : Calls Tryz.prog 72 #[.agg #[.string t.name, .slice ca cn cc, .slice ra rn rc]] w (IntPost (tblErr t) w) := by
  obtain rfl := at_len hc
  obtain rfl := at_len hr
  have HF := Lib.hid hf
  have h1 : (t.cols.length : Int) ≤ 1000000 := by have := hf.cols; omega
  have h2 : (t.rows.length : Int) ≤ 1000000 := by have := hf.rows; omega
  have K0 : Kept [] w (w.alloc (.cells #[.string t.name, .slice ca t.cols.length cc, .slice ra t.rows.length rc] 53)) := Kept.alloc (Kept.refl [] w) _
  have A := Arr.new w #[.string t.name, .slice ca t.cols.length cc, .slice ra t.rows.length rc] 53
  have HA := Lib.hid A
  have HK0 := Lib.hid K0
  have HM := Lib.hid (ML.kept hm K0)
  have HC := Lib.hid (hc.kept K0)
  have HR := Lib.hid (hr.kept K0)
  clear hc hr hm hf K0 A
  go_enter Tryz.func72, Tryz.ntmps72
  go_wp2_with fail
  refine (lex_name _ t.name HM.out HF.out.name).mono ?_
  rintro e w2 ⟨rfl, hk⟩
  have c1 := (HA.out.kept hk (by simp)).cell (i := 1) rfl
  have c2 := (HA.out.kept hk (by simp)).cell (i := 2) rfl
  have HK := Lib.hid hk
  clear hk
  cases hq : nameB t.name
  · have HQ := Lib.hid hq
    clear hq
    go_wp2_with fail
    go_ret
    exact ⟨ret_int (by unfold tblErr tblOk; rw [HQ.out]; rfl), HK0.out.trans HK.out⟩
  · have HQ := Lib.hid hq
    clear hq
    have HKW := Lib.hid (HK0.out.trans HK.out)
    have HM2 := Lib.hid (ML.kept HM.out HK.out)
    by_cases hz1 : (t.cols.length : Int) < 1
    · go_wp2_with fail
      go_ret
      exact ⟨ret_int (tblErr_of (fun h => by omega)).symm, HKW.out⟩
    by_cases hz2 : (16 : Int) < t.cols.length
    · go_wp2_with fail
      go_ret
      exact ⟨ret_int (tblErr_of (fun h => by omega)).symm, HKW.out⟩
    by_cases hz3 : (4096 : Int) < t.rows.length
    · go_wp2_with fail
      go_ret
      exact ⟨ret_int (tblErr_of (fun h => by omega)).symm, HKW.out⟩
    go_wp2_with fail
    refine (has_col90 (fun c => !colOk c) _ _ t.cols (HC.out.kept HK.out) HF.out.cols (fun x hx w' k' => odd_column w' x (ML.kept HM2.out k') (HF.out.colName x hx))).mono ?_
    rw [all_not]
    rintro e w3 ⟨rfl, hk⟩
    have c1 := ((HA.out.kept HK.out (by simp)).kept hk (by simp)).cell (i := 1) rfl
    have c2 := ((HA.out.kept HK.out (by simp)).kept hk (by simp)).cell (i := 2) rfl
    have HK3 := Lib.hid (HK.out.trans hk)
    clear hk
    cases hq2 : t.cols.all colOk
    · have HQ2 := Lib.hid hq2
      clear hq2
      go_wp2_with fail
      go_ret
      exact ⟨ret_int (tblErr_of (fun h => by have := HQ2.out; rw [h.2.2.2.2.1] at this; cases this)).symm, HK0.out.trans HK3.out⟩
    have HQ2 := Lib.hid hq2
    clear hq2
    go_wp2_with fail
    refine (col_unlike _ _ t.cols (HC.out.kept HK3.out) HF.out.cols HF.out.colName).mono ?_
    rintro e w4 ⟨rfl, hk⟩
    have hA4 := (HA.out.kept HK3.out (by simp)).kept hk (by simp)
    have c1 := hA4.cell (i := 1) rfl
    have c2 := hA4.cell (i := 2) rfl
    have HA4 := Lib.hid hA4
    have HK4 := Lib.hid (HK3.out.trans hk)
    clear hk hA4
    cases hq3 : distinctS (t.cols.map (·.name))
    · have HQ3 := Lib.hid hq3
      clear hq3
      go_wp2_with fail
      go_ret
      exact ⟨ret_int (tblErr_of (fun h => by have := HQ3.out; rw [h.2.2.2.2.2.1] at this; cases this)).symm, HK0.out.trans HK4.out⟩
    have HQ3 := Lib.hid hq3
    clear hq3
    go_wp2_with fail
    refine (has_row85 _ (bigRow t.cols) _ _ t.rows (HR.out.kept HK4.out) HF.out.rows (fun x hx w' k' ra rc hr => table_row w' _ _ _ _ _ t.cols ra rc x (HA4.out.kept k' (by simp)) ((HC.out.kept HK4.out).kept k') hr (HF.out.row x hx) HF.out.cols)).mono ?_
    rintro e w5 ⟨rfl, hk⟩
    have HK5 := Lib.hid (HK0.out.trans (HK4.out.trans hk))
    clear hk
    cases hq4 : t.rows.any (bigRow t.cols)
    · have HQ4 := Lib.hid hq4
      clear hq4
      go_wp2_with fail
      go_ret
      refine ⟨ret_int ?_, HK5.out⟩
      unfold tblErr
      rw [if_pos (tblOk_iff.2 ⟨HQ.out, by omega, by omega, by omega, HQ2.out, HQ3.out, by rw [any_not, HQ4.out]; rfl⟩)]
    · have HQ4 := Lib.hid hq4
      clear hq4
      go_wp2_with fail
      go_ret
      exact ⟨ret_int (tblErr_of (fun h => by have := h.2.2.2.2.2.2; rw [any_not, HQ4.out] at this; cases this)).symm, HK5.out⟩
end Go.Proofs.YtkodiogkldboiaaGreatDoor
/- The reference's tables: ref13.Table, ref13.Check. -/
namespace Go.Proofs.YtkodiogkldboiaaGreatDoor
open Go.RowKit

theorem fits_ref' (b : Bool) (w : World) (cv rv : Value) (cols : List Col) (r : List Val) (hq : fitB cols r = b) (hc : kcol.At w Any cv cols) (hr : kval.At w Any rv r) (hb : r.length ≤ 1000000) (hbc : cols.length ≤ 1000000) : Calls Tryz.prog 83 #[cv, rv] w (BoolPost b w) := hq ▸ fits_ref w cv rv cols r hc hr hb hbc
theorem ref_may' (n : Int) (w : World) (v : Value) (r : List Val) (hq : mayErr r = n) (h : kval.At w Any v r) (hb : r.length ≤ 1000000) : Calls Tryz.prog 84 #[v] w (IntPost n w) := hq ▸ ref_may w v r h hb

theorem names_snoc (ns : List ByteArray) (s : ByteArray) : distinctS (ns ++ [s]) = (distinctS ns && decide (∀ y ∈ namesL ns, y ≠ s.data.toList)) := by
  unfold distinctS namesL
  rw [Bool.eq_iff_iff]
  simp only [List.map_append, List.map_cons, List.map_nil, Bool.and_eq_true, decide_eq_true_eq, List.nodup_append]
  constructor
  · intro ⟨h1, _, h3⟩
    exact ⟨h1, fun y hy => h3 y hy _ (by simp)⟩
  · intro ⟨h1, h3⟩
    exact ⟨h1, by simp, fun y hy z hz => by simp at hz; subst hz; exact h3 y hy⟩
theorem names_pre (ns ms : List ByteArray) (h : distinctS (ns ++ ms) = true) : distinctS ns = true := by
  unfold distinctS namesL at *
  simp only [List.map_append, decide_eq_true_eq, List.nodup_append] at *
  exact h.1
theorem names_bad {α : Type} (f : α → ByteArray) (xs : List α) (k : Nat) (x : α) (hx : xs[k]? = some x) (y : α) (hy : y ∈ xs.take k) (he : (f y).data.toList = (f x).data.toList) : distinctS (xs.map f) = false := by
  apply Bool.eq_false_iff.2
  intro h
  have h1 : xs.map f = (xs.take (k + 1)).map f ++ (xs.drop (k + 1)).map f := by rw [← List.map_append, List.take_append_drop]
  rw [h1] at h
  have h2 := names_pre _ _ h
  rw [take_snoc xs k x hx, List.map_append, List.map_singleton, names_snoc] at h2
  simp only [Bool.and_eq_true, decide_eq_true_eq] at h2
  exact h2.2 (f y).data.toList (List.mem_map.2 ⟨f y, List.mem_map.2 ⟨y, hy, rfl⟩, rfl⟩) he
theorem names_good {α : Type} (f : α → ByteArray) (xs : List α) (k : Nat) (x : α) (hx : xs[k]? = some x) (h0 : distinctS ((xs.take k).map f) = true) (h : ∀ y ∈ xs.take k, (f y).data.toList ≠ (f x).data.toList) : distinctS ((xs.take (k + 1)).map f) = true := by
  rw [take_snoc xs k x hx, List.map_append, List.map_singleton, names_snoc, h0, Bool.true_and]
  simp only [decide_eq_true_eq]
  intro y hy
  obtain ⟨s, hs, rfl⟩ := List.mem_map.1 hy
  obtain ⟨z, hz, rfl⟩ := List.mem_map.1 hs
  exact h z hz
theorem tblOk_not {t : Tbl} (h : ¬(nameB t.name = true ∧ 1 ≤ t.cols.length ∧ t.cols.length ≤ 16 ∧ t.rows.length ≤ 4096 ∧ t.cols.all colOk = true ∧ distinctS (t.cols.map (·.name)) = true ∧ t.rows.all (fun r => !bigRow t.cols r) = true)) : tblOk t = false :=
  Bool.eq_false_iff.2 (fun e => h (tblOk_iff.1 e))
theorem fit_ok {cols : List Col} {r : List Val} (h : fitB cols r = true) : rowOk r = true := by
  unfold fitB at h
  simp only [Bool.and_eq_true] at h
  exact h.1.2

set_option maxHeartbeats 12800000 in
theorem ref_table (w : World) (t : Tbl) (ca : Option Addr) (cn cc : Nat) (ra : Option Addr) (rn rc : Nat) (hc : kcol.At w Any (.slice ca cn cc) t.cols) (hr : krow.At w Any (.slice ra rn rc) t.rows) (hf : Fine t) : Calls Tryz.prog 70 #[.agg #[.string t.name, .slice ca cn cc, .slice ra rn rc]] w (BoolPost (tblOk t) w) := by
  obtain rfl := at_len hc
  obtain rfl := at_len hr
  have HF := Lib.hid hf
  have h1 : (t.cols.length : Int) ≤ 1000000 := by have := hf.cols; omega
  have h2 : (t.rows.length : Int) ≤ 1000000 := by have := hf.rows; omega
  have K0 : Kept [] w (w.alloc (.cells #[.string t.name, .slice ca t.cols.length cc, .slice ra t.rows.length rc] 53)) := Kept.alloc (Kept.refl [] w) _
  have A := Arr.new w #[.string t.name, .slice ca t.cols.length cc, .slice ra t.rows.length rc] 53
  have HA0 := Lib.hid A
  have HK0 := Lib.hid K0
  have HC0 := Lib.hid (hc.kept K0)
  have HR0 := Lib.hid (hr.kept K0)
  clear hc hr hf K0 A
  go_enter Tryz.func70, Tryz.ntmps70
  go_wp2_with fail
  refine (ref_name _ t.name).mono ?_
  rintro e w2 ⟨rfl, hk⟩
  have HA := Lib.hid (HA0.out.kept hk (by simp))
  have c1 := HA.out.cell (i := 1) rfl
  have c2 := HA.out.cell (i := 2) rfl
  have HK := Lib.hid (HK0.out.trans hk)
  have HC := Lib.hid (HC0.out.kept hk)
  have HR := Lib.hid (HR0.out.kept hk)
  clear hk HA0 HK0 HC0 HR0
  cases hq : nameB t.name
  · have HQ := Lib.hid hq
    clear hq
    go_wp2_with fail
    go_ret
    exact ⟨ret_bool (tblOk_not (fun h => by have := HQ.out; rw [h.1] at this; cases this)).symm, HK.out⟩
  have HQ := Lib.hid hq
  clear hq
  by_cases hz1 : (t.cols.length : Int) < 1
  · go_wp2_with fail
    go_ret
    exact ⟨ret_bool (tblOk_not (fun h => by omega)).symm, HK.out⟩
  by_cases hz2 : (16 : Int) < t.cols.length
  · go_wp2_with fail
    go_ret
    exact ⟨ret_bool (tblOk_not (fun h => by omega)).symm, HK.out⟩
  by_cases hz3 : (4096 : Int) < t.rows.length
  · go_wp2_with fail
    go_ret
    exact ⟨ret_bool (tblOk_not (fun h => by omega)).symm, HK.out⟩
  go_wp2_with fail
  clear c1 c2
  go_loopg [3] t.cols.length (fun g i wr => ∃ k : Nat, k + g = t.cols.length ∧ i = .int .i64 k ∧ Hid (Kept [] w2 wr) ∧ Hid ((t.cols.take k).all colOk = true ∧ distinctS ((t.cols.take k).map (·.name)) = true))
  case atStart => exact ⟨0, by omega, rfl, Lib.hid (Kept.refl _ _), Lib.hid ⟨by simp, by simp [distinctS, namesL]⟩⟩
  case round =>
    obtain ⟨k, hk, rfl, hkp, hall⟩ := hrel
    obtain ⟨wo, hwo⟩ : ∃ wo : World, wo = wr := ⟨_, rfl⟩
    subst hwo
    have c1 := (HA.out.kept hkp.out (by simp)).cell (i := 1) rfl
    have c2 := (HA.out.kept hkp.out (by simp)).cell (i := 2) rfl
    by_cases hlt : k < t.cols.length
    · obtain ⟨x, hx⟩ : ∃ x, t.cols[k]? = some x := ⟨t.cols[k], by simp [hlt]⟩
      obtain ⟨b0, o0, cap', he, _, hbs, x0, x1, x2⟩ := col_at (HC.out.kept hkp.out) hx
      simp only [Value.slice.injEq, true_and] at he
      obtain ⟨rfl, rfl⟩ := he
      have hk0 : (0 : Int) ≤ (k : Int) := by omega
      have hk1 : (k : Int) < (t.cols.length : Int) := by omega
      have HX := Lib.hid hx
      have HM := Lib.hid (List.mem_of_getElem? hx)
      have A := Arr.new wo #[.string x.tab, .string x.name, .int .i64 x.type] 85
      have HA1 := Lib.hid A
      have HKA := Lib.hid (Kept.alloc (Kept.refl [] wo) (.cells #[.string x.tab, .string x.name, .int .i64 x.type] 85))
      clear hx A
      cases ht : x.tab.toList.isEmpty
      · have HTB := Lib.hid ht
        go_wp2_with fail
        go_ret
        refine ⟨ret_bool (tblOk_not (fun h => ?_)).symm, HK.out.trans (hkp.out.trans HKA.out)⟩
        have := List.all_eq_true.1 h.2.2.2.2.1 x HM.out
        unfold colOk at this
        rw [HTB.out] at this
        cases this
      have HTB := Lib.hid ht
      go_wp2_with fail
      refine (ref_name _ x.name).mono ?_
      rintro e w3 ⟨rfl, hk3⟩
      have hA3 := HA1.out.kept hk3 (by simp)
      have d2 := hA3.cell (i := 2) rfl
      have HA3 := Lib.hid hA3
      have HK3 := Lib.hid (hkp.out.trans (HKA.out.trans hk3))
      clear hk3 hA3 ht x0 x1 x2 c1 c2 HA1 HKA
      cases hq : nameB x.name
      · have HQX := Lib.hid hq
        clear hq
        go_wp2_with fail
        go_ret
        refine ⟨ret_bool (tblOk_not (fun h => ?_)).symm, HK.out.trans HK3.out⟩
        have := List.all_eq_true.1 h.2.2.2.2.1 x HM.out
        unfold colOk at this
        rw [HTB.out, HQX.out] at this
        cases this
      have HQX := Lib.hid hq
      clear hq
      by_cases hy1 : x.type < 1
      · go_wp2_with fail
        go_ret
        refine ⟨ret_bool (tblOk_not (fun h => ?_)).symm, HK.out.trans HK3.out⟩
        have := List.all_eq_true.1 h.2.2.2.2.1 x HM.out
        unfold colOk at this
        rw [HTB.out, HQX.out, decide_eq_false (by omega)] at this
        cases this
      by_cases hy2 : 3 < x.type
      · go_wp2_with fail
        go_ret
        refine ⟨ret_bool (tblOk_not (fun h => ?_)).symm, HK.out.trans HK3.out⟩
        have := List.all_eq_true.1 h.2.2.2.2.1 x HM.out
        unfold colOk at this
        rw [HTB.out, HQX.out, decide_eq_false (by omega)] at this
        cases this
      go_wp2_with fail
      have HCO : Hid (colOk x = true) := Lib.hid (by unfold colOk; rw [HTB.out, HQX.out, decide_eq_true (by omega)]; rfl)
      clear d2 hy1 hy2
      go_loopg [5] k (fun g i wr => ∃ j : Nat, j + g = k ∧ i = .int .i64 j ∧ Hid (Kept [] w3 wr) ∧ Hid (∀ y ∈ t.cols.take j, y.name.data.toList ≠ x.name.data.toList))
      case atStart => exact ⟨0, by omega, rfl, Lib.hid (Kept.refl _ _), Lib.hid (by simp)⟩
      case round =>
        obtain ⟨j, hj, rfl, hkq, hne⟩ := hrel
        obtain ⟨wn, hwn⟩ : ∃ wn : World, wn = wr := ⟨_, rfl⟩
        subst hwn
        have c1 := (HA.out.kept (HK3.out.trans hkq.out) (by simp)).cell (i := 1) rfl
        have d1 := (HA3.out.kept hkq.out (by simp)).cell (i := 1) rfl
        by_cases hjl : j < k
        · obtain ⟨y, hy⟩ : ∃ y, t.cols[j]? = some y := ⟨t.cols[j]'(by omega), by simp [show j < t.cols.length by omega]⟩
          obtain ⟨b1, o1, cap1, he, _, hbs1, y0, y1, y2⟩ := col_at (HC.out.kept (HK3.out.trans hkq.out)) hy
          simp only [Value.slice.injEq, true_and] at he
          obtain ⟨he, rfl⟩ := he
          simp only [Option.some.injEq, Addr.mk.injEq, and_true] at he
          obtain ⟨rfl, rfl⟩ := he
          have hj0 : (0 : Int) ≤ (j : Int) := by omega
          have hj1 : (j : Int) < (t.cols.length : Int) := by omega
          have hj2 : (j : Int) < (k : Int) := by omega
          have HY := Lib.hid hy
          clear hy y0 y2
          cases hq : (y.name.toList == x.name.toList)
          · have HE := Lib.hid hq
            go_wp2_with fail
            go_quiet (fail)
            go_wp2_with fail
            go_roundg (k - (j + 1))
            case measure => omega
            case rel => exact ⟨j + 1, by omega, by go_num, Lib.hid (hkq.out.drewN _), Lib.hid (by
              rw [take_snoc t.cols j y HY.out]
              intro z hz
              rcases List.mem_append.1 hz with hz | hz
              · exact hne.out z hz
              · rw [List.mem_singleton] at hz
                subst hz
                have := HE.out
                rw [ByteArray.toList_eq, ByteArray.toList_eq] at this
                simpa using this)⟩
          · have HE := Lib.hid hq
            go_wp2_with fail
            go_quiet (fail)
            go_wp2_with fail
            go_ret
            refine ⟨ret_bool (tblOk_not (fun h => ?_)).symm, HK.out.trans (HK3.out.trans (hkq.out.drewN _))⟩
            have h3 := names_bad (fun c => c.name) t.cols k x HX.out y (by
              rw [List.mem_take_iff_getElem]
              exact ⟨j, by omega, by have := HY.out; rw [List.getElem?_eq_getElem (by omega)] at this; exact Option.some.inj this⟩) (by
              have := HE.out
              rw [ByteArray.toList_eq, ByteArray.toList_eq] at this
              simpa using this)
            rw [h3] at h
            exact absurd h.2.2.2.2.2.1 (by simp)
        · obtain rfl : j = k := by omega
          go_wp2_with fail
          go_roundg (t.cols.length - (j + 1))
          case measure => omega
          case rel => exact ⟨j + 1, by omega, by go_num, Lib.hid (HK3.out.trans hkq.out), Lib.hid ⟨by rw [any_take_all colOk t.cols j x HX.out, hall.out.1, HCO.out]; rfl, names_good _ t.cols j x HX.out hall.out.2 hne.out⟩⟩
    · obtain rfl : k = t.cols.length := by omega
      rw [List.take_length] at *
      go_wp2_with fail
      clear c1 c2
      go_loopg [6] t.rows.length (fun g i wr => ∃ k : Nat, k + g = t.rows.length ∧ i = .int .i64 k ∧ Hid (Kept [] w2 wr) ∧ Hid ((t.rows.take k).all (fun r => !bigRow t.cols r) = true))
      case atStart => exact ⟨0, by omega, rfl, hkp, Lib.hid (by simp)⟩
      case round =>
        obtain ⟨k, hk, rfl, hkp, hrows⟩ := hrel
        obtain ⟨wo, hwo⟩ : ∃ wo : World, wo = wr := ⟨_, rfl⟩
        subst hwo
        have c1 := (HA.out.kept hkp.out (by simp)).cell (i := 1) rfl
        have c2 := (HA.out.kept hkp.out (by simp)).cell (i := 2) rfl
        have lP := (HA.out.kept hkp.out (by simp)).lt
        by_cases hlt : k < t.rows.length
        · obtain ⟨x, hx⟩ : ∃ x, t.rows[k]? = some x := ⟨t.rows[k], by simp [hlt]⟩
          obtain ⟨b0, o0, cap', xa, xc, he, _, hbs, x0, hxr⟩ := row_at (HR.out.kept hkp.out) hx
          simp only [Value.slice.injEq, true_and] at he
          obtain ⟨rfl, rfl⟩ := he
          have hk0 : (0 : Int) ≤ (k : Int) := by omega
          have hk1 : (k : Int) < (t.rows.length : Int) := by omega
          have HX := Lib.hid hx
          have HM := Lib.hid (List.mem_of_getElem? hx)
          have HXR := Lib.hid hxr
          have HXL := Lib.hid (HF.out.row x (List.mem_of_getElem? hx))
          clear hx hxr
          cases hq : fitB t.cols x
          · have HQF := Lib.hid hq
            clear hq
            go_wp2_with fail
            have sk := Kept.refl [] wo
            first | (go_region_with (go_at_call 83; refine (fits_ref' false _ _ _ t.cols x HQF.out ((HC.out.kept hkp.out).kept (by first | exact sk | exact sk.drew | exact sk.drewN _)) (HXR.out.kept (by first | exact sk | exact sk.drew | exact sk.drewN _)) HXL.out HF.out.cols).mono ?_; rintro e w' ⟨rfl, hk⟩; have HSK := Lib.hid (hkp.out.trans (Kept.trans (by first | exact sk | exact sk.drew | exact sk.drewN _) hk)); clear hk)) | fail "with"
            all_goals
              clear sk
              go_wp2_with fail
              go_ret
              refine ⟨ret_bool (tblOk_not (fun h => ?_)).symm, HK.out.trans HSK.out⟩
              have := List.all_eq_true.1 h.2.2.2.2.2.2 x HM.out
              unfold bigRow at this
              rw [HQF.out] at this
              cases this
          have HQF := Lib.hid hq
          clear hq
          by_cases hz : 253 < rowSize x
          · have HQM : Hid (mayErr x = 3) := Lib.hid (by unfold mayErr; rw [if_pos (fit_ok HQF.out), if_pos (by omega)])
            go_wp2_with fail
            have sk := Kept.refl [] wo
            have s1 := c1
            have s2 := c2
            have s3 := x0
            go_region_held3 (fun w' => w'.cell? ⟨w.heap.size, 1, none⟩ = some (.slice ca t.cols.length cc) ∧ w'.cell? ⟨w.heap.size, 2, none⟩ = some (.slice (some ⟨b0, o0, none⟩) t.rows.length rc) ∧ w'.cell? ⟨b0, o0 + k, none⟩ = some (.slice xa x.length xc))
              (first | exact ⟨s1, s2, s3⟩ | go_keep)
              (first | (go_at_call 83; refine (fits_ref' true _ _ _ t.cols x HQF.out ((HC.out.kept hkp.out).kept (by first | exact sk | exact sk.drew | exact sk.drewN _)) (HXR.out.kept (by first | exact sk | exact sk.drew | exact sk.drewN _)) HXL.out HF.out.cols).mono ?_; rintro e w' ⟨rfl, hk⟩; have sk := Kept.trans (by first | exact sk | exact sk.drew | exact sk.drewN _) hk; have s1 := (sk.cell lP (by simp)).trans c1; have s2 := (sk.cell lP (by simp)).trans c2; have s3 := (sk.cell hbs (by simp)).trans x0) | (go_at_call 84; refine (ref_may' 3 _ _ x HQM.out (HXR.out.kept (by first | exact sk | exact sk.drew | exact sk.drewN _)) HXL.out).mono ?_; rintro e w' ⟨rfl, hk⟩; have sk := Kept.trans (by first | exact sk | exact sk.drew | exact sk.drewN _) hk; have s1 := (sk.cell lP (by simp)).trans c1; have s2 := (sk.cell lP (by simp)).trans c2; have s3 := (sk.cell hbs (by simp)).trans x0))
            rename_i hHeld
            have HSK := Lib.hid (hkp.out.trans sk)
            clear hHeld sk s1 s2 s3 hk
            go_wp2_with fail
            go_ret
            refine ⟨ret_bool (tblOk_not (fun h => ?_)).symm, HK.out.trans HSK.out⟩
            have := List.all_eq_true.1 h.2.2.2.2.2.2 x HM.out
            unfold bigRow at this
            rw [HQF.out, decide_eq_true (by omega)] at this
            cases this
          have HQM : Hid (mayErr x = 0) := Lib.hid (by unfold mayErr; rw [if_pos (fit_ok HQF.out), if_neg (by omega)])
          go_wp2_with fail
          have sk := Kept.refl [] wo
          have s1 := c1
          have s2 := c2
          have s3 := x0
          go_region_held3 (fun w' => w'.cell? ⟨w.heap.size, 1, none⟩ = some (.slice ca t.cols.length cc) ∧ w'.cell? ⟨w.heap.size, 2, none⟩ = some (.slice (some ⟨b0, o0, none⟩) t.rows.length rc) ∧ w'.cell? ⟨b0, o0 + k, none⟩ = some (.slice xa x.length xc))
            (first | exact ⟨s1, s2, s3⟩ | go_keep)
            (first | (go_at_call 83; refine (fits_ref' true _ _ _ t.cols x HQF.out ((HC.out.kept hkp.out).kept (by first | exact sk | exact sk.drew | exact sk.drewN _)) (HXR.out.kept (by first | exact sk | exact sk.drew | exact sk.drewN _)) HXL.out HF.out.cols).mono ?_; rintro e w' ⟨rfl, hk⟩; have sk := Kept.trans (by first | exact sk | exact sk.drew | exact sk.drewN _) hk; have s1 := (sk.cell lP (by simp)).trans c1; have s2 := (sk.cell lP (by simp)).trans c2; have s3 := (sk.cell hbs (by simp)).trans x0) | (go_at_call 84; refine (ref_may' 0 _ _ x HQM.out (HXR.out.kept (by first | exact sk | exact sk.drew | exact sk.drewN _)) HXL.out).mono ?_; rintro e w' ⟨rfl, hk⟩; have sk := Kept.trans (by first | exact sk | exact sk.drew | exact sk.drewN _) hk; have s1 := (sk.cell lP (by simp)).trans c1; have s2 := (sk.cell lP (by simp)).trans c2; have s3 := (sk.cell hbs (by simp)).trans x0))
          rename_i hHeld
          have HSK := Lib.hid (hkp.out.trans sk)
          clear hHeld sk s1 s2 s3 hk
          go_wp2_with fail
          go_roundg (t.rows.length - (k + 1))
          case measure => omega
          case rel => exact ⟨k + 1, by omega, by go_num, HSK, Lib.hid (by rw [any_take_all (fun r => !bigRow t.cols r) t.rows k x HX.out, hrows.out]; unfold bigRow; rw [HQF.out, decide_eq_false (by omega)]; rfl)⟩
        · obtain rfl : k = t.rows.length := by omega
          rw [List.take_length] at *
          go_wp2_with fail
          go_ret
          exact ⟨ret_bool (tblOk_iff.2 ⟨HQ.out, by omega, by omega, by omega, hall.out.1, hall.out.2, hrows.out⟩).symm, HK.out.trans hkp.out⟩
end Go.Proofs.YtkodiogkldboiaaGreatDoor
/- catalog.Check, session.Check, script.Check. -/
namespace Go.Proofs.YtkodiogkldboiaaGreatDoor
open Go.RowKit

theorem odd_table (w : World) (t : Tbl) (ca : Option Addr) (cn cc : Nat) (ra : Option Addr) (rn rc : Nat) (hc : kcol.At w Any (.slice ca cn cc) t.cols) (hr : krow.At w Any (.slice ra rn rc) t.rows) (hm : ML w) (hf : Fine t) : Calls Tryz.prog 71 #[.agg #[.string t.name, .slice ca cn cc, .slice ra rn rc]] w (BoolPost (!tblOk t) w) := by
  have K0 : Kept [] w (w.alloc (.cells #[.string t.name, .slice ca cn cc, .slice ra rn rc] 53)) := Kept.alloc (Kept.refl [] w) _
  have HK0 := Lib.hid K0
  have HM := Lib.hid (ML.kept hm K0)
  have HC := Lib.hid (hc.kept K0)
  have HR := Lib.hid (hr.kept K0)
  have HF := Lib.hid hf
  clear hc hr hm hf K0
  go_enter Tryz.func71, Tryz.ntmps71
  go_wp2_with fail
  refine (catalog_table _ t _ _ _ _ _ _ HC.out HR.out HM.out HF.out).mono ?_
  rintro e w2 ⟨rfl, hk⟩
  have HK := Lib.hid (HK0.out.trans hk)
  clear hk
  cases hq : tblOk t
  all_goals
    have HQ := Lib.hid hq
    have he : tblErr t = if tblOk t then 0 else 130 := rfl
    rw [hq] at he
    simp only [if_true, if_false, Bool.false_eq_true, reduceIte] at he
    rw [he]
    clear hq he
    go_wp2_with fail
    go_ret
    exact ⟨ret_bool (by rw [HQ.out]; rfl), HK.out⟩

def catOk (ts : List Tbl) : Bool := decide (ts.length ≤ 16) && ts.all tblOk && distinctS (ts.map (·.name))
def catErr (ts : List Tbl) : Int := if catOk ts then 0 else 130

set_option maxHeartbeats 3200000 in
theorem catalog_check (w : World) (v : Value) (ts : List Tbl) (h : ktbl.At w Any v ts) (hb : ts.length ≤ 1000000) (hm : ML w) (hf : ∀ t ∈ ts, Fine t) : Calls Tryz.prog 54 #[v] w (IntPost (catErr ts) w) := by
  have H := Lib.hid h
  obtain ⟨a, cap, rfl, _⟩ := h.form
  have HF := Lib.hid hf
  have HM := Lib.hid hm
  clear h hf hm
  have h1 : (ts.length : Int) ≤ 1000000 := by omega
  by_cases hz : (16 : Int) < ts.length
  · have he : Hid (catErr ts = 130) := Lib.hid (by unfold catErr catOk; rw [decide_eq_false (by omega)]; rfl)
    go_enter Tryz.func54, Tryz.ntmps54
    go_wp2_with fail
    go_ret
    exact ⟨ret_int he.out.symm, Kept.refl [] w⟩
  · have he : Hid (catErr ts = if ts.all tblOk && distinctS (ts.map (·.name)) then 0 else 130) := Lib.hid (by unfold catErr catOk; rw [decide_eq_true (by omega), Bool.true_and])
    go_enter Tryz.func54, Tryz.ntmps54
    go_wp2_with fail
    refine (has_tbl71 (fun t => !tblOk t) _ _ ts H.out hb (fun x hx w' k' ca cn cc ra rn rc hc hr => odd_table w' x ca cn cc ra rn rc hc hr (ML.kept HM.out k') (HF.out x hx))).mono ?_
    rw [all_not]
    rintro e w2 ⟨rfl, hk⟩
    have HK := Lib.hid hk
    clear hk
    cases hq : ts.all tblOk
    · have HQ := Lib.hid hq
      clear hq
      go_wp2_with fail
      go_ret
      exact ⟨ret_int (by rw [he.out, HQ.out]; rfl), HK.out⟩
    · have HQ := Lib.hid hq
      clear hq
      go_wp2_with fail
      refine (tbl_unlike _ _ ts (H.out.kept HK.out) hb (fun x hx => (HF.out x hx).name)).mono ?_
      rintro e w3 ⟨rfl, hk⟩
      have HK3 := Lib.hid (HK.out.trans hk)
      clear hk
      cases hq : distinctS (ts.map (·.name))
      all_goals
        have HQ3 := Lib.hid hq
        clear hq
        go_wp2_with fail
        go_ret
        exact ⟨ret_int (by rw [he.out, HQ.out, HQ3.out]; rfl), HK3.out⟩

theorem within (w : World) (n most : Int) : Calls Tryz.prog 55 #[.int .i64 n, .int .i64 most] w (SameB (decide (0 ≤ n) && decide (n ≤ most)) w) := by
  go_enter Tryz.func55, Tryz.ntmps55
  go_wp2
  all_goals
    go_ret
    refine ⟨ret_bool ?_, rfl⟩
    first | (simp; done) | (simp; omega) | (rw [Bool.eq_iff_iff]; simp; done) | (rw [Bool.eq_iff_iff]; simp; omega)

def argsOk (s : Scr) : Bool := (decide (0 ≤ s.budget) && decide (s.budget ≤ 16384)) && (decide (0 ≤ s.room) && decide (s.room ≤ 16384)) && (decide (0 ≤ s.seed) && decide (s.seed ≤ 9007199254740991)) && decide (s.faults.length ≤ 64)
def sessErr (s : Scr) : Int := if catOk s.tables then (if argsOk s then 0 else 1) else 130

/-- Nothing is so large that it could not be counted. -/
structure FineS (s : Scr) : Prop where
  tables : s.tables.length ≤ 1000000
  faults : s.faults.length ≤ 1000000
  query : (s.query.size : Int) ≤ 140737488355328
  table : ∀ t ∈ s.tables, Fine t

set_option maxHeartbeats 6400000 in
theorem session_check (w : World) (t : Value) (fa : Option Addr) (fc : Nat) (s : Scr) (ht : ktbl.At w Any t s.tables) (hm : ML w) (hf : FineS s) : Calls Tryz.prog 30 #[.agg #[t, .string s.query, .int .i64 s.budget, .int .i64 s.room, .int .i64 s.seed, .slice fa s.faults.length fc]] w (IntPost (sessErr s) w) := by
  obtain ⟨ta, tc, rfl, _⟩ := ht.form
  have K0 : Kept [] w (w.alloc (.cells #[.slice ta s.tables.length tc, .string s.query, .int .i64 s.budget, .int .i64 s.room, .int .i64 s.seed, .slice fa s.faults.length fc] 25)) := Kept.alloc (Kept.refl [] w) _
  have A := Arr.new w #[.slice ta s.tables.length tc, .string s.query, .int .i64 s.budget, .int .i64 s.room, .int .i64 s.seed, .slice fa s.faults.length fc] 25
  have HA := Lib.hid A
  have HK0 := Lib.hid K0
  have HM := Lib.hid (ML.kept hm K0)
  have HT := Lib.hid (ht.kept K0)
  have HF := Lib.hid hf
  have h1 : (s.faults.length : Int) ≤ 1000000 := by have := hf.faults; omega
  clear ht hm hf K0 A
  go_enter Tryz.func30, Tryz.ntmps30
  go_wp2_with fail
  refine (catalog_check _ _ s.tables HT.out HF.out.tables HM.out HF.out.table).mono ?_
  rintro e w2 ⟨rfl, hk⟩
  have hA2 := HA.out.kept hk (by simp)
  have c2 := hA2.cell (i := 2) rfl
  have c3 := hA2.cell (i := 3) rfl
  have c4 := hA2.cell (i := 4) rfl
  have c5 := hA2.cell (i := 5) rfl
  have HK := Lib.hid (HK0.out.trans hk)
  clear hk hA2
  cases hq : catOk s.tables
  · have he : Hid (sessErr s = 130) := Lib.hid (by unfold sessErr; rw [hq]; rfl)
    have he2 : catErr s.tables = 130 := by unfold catErr; rw [hq]; rfl
    rw [he2]
    clear hq he2
    go_wp2_with fail
    go_ret
    exact ⟨ret_int he.out.symm, HK.out⟩
  · have he : Hid (sessErr s = if argsOk s then 0 else 1) := Lib.hid (by unfold sessErr; rw [hq]; rfl)
    have he2 : catErr s.tables = 0 := by unfold catErr; rw [hq]; rfl
    rw [he2]
    clear hq he2
    go_wp2_with fail
    refine (within _ _ _).mono ?_
    rintro e w3 ⟨rfl, rfl⟩
    cases hq : (decide (0 ≤ s.budget) && decide (s.budget ≤ 16384))
    · have HQ := Lib.hid hq
      clear hq
      go_wp2_with fail
      go_ret
      exact ⟨ret_int (by rw [he.out]; unfold argsOk; rw [HQ.out]; rfl), HK.out⟩
    have HQ := Lib.hid hq
    clear hq
    go_wp2_with fail
    refine (within _ _ _).mono ?_
    rintro e w4 ⟨rfl, rfl⟩
    cases hq : (decide (0 ≤ s.room) && decide (s.room ≤ 16384))
    · have HQ2 := Lib.hid hq
      clear hq
      go_wp2_with fail
      go_ret
      exact ⟨ret_int (by rw [he.out]; unfold argsOk; rw [HQ.out, HQ2.out]; rfl), HK.out⟩
    have HQ2 := Lib.hid hq
    clear hq
    go_wp2_with fail
    refine (within _ _ _).mono ?_
    rintro e w5 ⟨rfl, rfl⟩
    cases hq : (decide (0 ≤ s.seed) && decide (s.seed ≤ 9007199254740991))
    · have HQ3 := Lib.hid hq
      clear hq
      go_wp2_with fail
      go_ret
      exact ⟨ret_int (by rw [he.out]; unfold argsOk; rw [HQ.out, HQ2.out, HQ3.out]; rfl), HK.out⟩
    have HQ3 := Lib.hid hq
    clear hq
    by_cases hl : (64 : Int) < s.faults.length
    · go_wp2_with fail
      go_ret
      exact ⟨ret_int (by rw [he.out]; unfold argsOk; rw [HQ.out, HQ2.out, HQ3.out, decide_eq_false (by omega)]; rfl), HK.out⟩
    · go_wp2_with fail
      go_ret
      exact ⟨ret_int (by rw [he.out]; unfold argsOk; rw [HQ.out, HQ2.out, HQ3.out, decide_eq_true (by omega)]; rfl), HK.out⟩

def oddFault (n : Int) : Bool := decide (n < 0) || decide (9007199254740991 < n)
theorem fault_odd (w : World) (n : Int) : Calls Tryz.prog 29 #[.int .i64 n] w (BoolPost (oddFault n) w) := by
  go_enter Tryz.func29, Tryz.ntmps29
  go_wp2
  all_goals
    go_ret
    refine ⟨ret_bool ?_, Kept.refl [] w⟩
    unfold oddFault
    first | (simp; done) | (simp; omega) | (rw [Bool.eq_iff_iff]; simp; done) | (rw [Bool.eq_iff_iff]; simp; omega)

def scrOk (s : Scr) : Bool := decide (sessErr s = 0) && decide (s.query.size ≤ 16384) && !s.faults.any oddFault
def scrErr (s : Scr) : Int := if scrOk s then 0 else 300

set_option maxHeartbeats 6400000 in
theorem script_check (w : World) (v : Value) (s : Scr) (h : ScrAt w Any s v) (hm : ML w) (hf : FineS s) : Calls Tryz.prog 11 #[v] w (IntPost (scrErr s) w) := by
  obtain ⟨t, f, rfl, ht, hfl⟩ := h
  obtain ⟨ta, tc, rfl, _⟩ := ht.form
  obtain ⟨fa, fc, rfl, _⟩ := hfl.form
  have K0 : Kept [] w (w.alloc (.cells #[.slice ta s.tables.length tc, .string s.query, .int .i64 s.budget, .int .i64 s.room, .int .i64 s.seed, .slice fa s.faults.length fc] 25)) := Kept.alloc (Kept.refl [] w) _
  have A := Arr.new w #[.slice ta s.tables.length tc, .string s.query, .int .i64 s.budget, .int .i64 s.room, .int .i64 s.seed, .slice fa s.faults.length fc] 25
  have HA := Lib.hid A
  have HK0 := Lib.hid K0
  have HM := Lib.hid (ML.kept hm K0)
  have HT := Lib.hid (ht.kept K0)
  have HFL := Lib.hid (hfl.kept K0)
  have HF := Lib.hid hf
  have h1 : (s.query.size : Int) ≤ 140737488355328 := hf.query
  clear ht hm hf K0 A hfl
  go_enter Tryz.func11, Tryz.ntmps11
  go_wp2_with fail
  refine (session_check _ _ _ _ s HT.out HM.out HF.out).mono ?_
  rintro e w2 ⟨rfl, hk⟩
  have hA2 := HA.out.kept hk (by simp)
  have c1 := hA2.cell (i := 1) rfl
  have c5 := hA2.cell (i := 5) rfl
  have HFL2 := Lib.hid (HFL.out.kept hk)
  have HK := Lib.hid (HK0.out.trans hk)
  clear hk hA2
  by_cases hq : sessErr s = 0
  · rw [hq]
    have HQ := Lib.hid hq
    clear hq
    by_cases hz : (16384 : Int) < s.query.size
    · go_wp2_with fail
      go_ret
      exact ⟨ret_int (by unfold scrErr scrOk; rw [decide_eq_true HQ.out, decide_eq_false (by omega)]; rfl), HK.out⟩
    go_wp2_with fail
    refine (has_int29 oddFault _ _ s.faults HFL2.out HF.out.faults (fun x _ w' _ => fault_odd w' x)).mono ?_
    rintro e w3 ⟨rfl, hk⟩
    have HK3 := Lib.hid (HK.out.trans hk)
    clear hk
    cases hq : s.faults.any oddFault
    all_goals
      have HQ3 := Lib.hid hq
      clear hq
      go_wp2_with fail
      go_ret
      exact ⟨ret_int (by unfold scrErr scrOk; rw [decide_eq_true HQ.out, decide_eq_true (by omega), HQ3.out]; rfl), HK3.out⟩
  · have HQ := Lib.hid hq
    go_wp2_with fail
    go_ret
    exact ⟨ret_int (by unfold scrErr scrOk; rw [decide_eq_false HQ.out]; rfl), HK.out⟩
end Go.Proofs.YtkodiogkldboiaaGreatDoor
/- The reference's checks: ref13.Check, ref29.Check, ref30.Check. -/
namespace Go.Proofs.YtkodiogkldboiaaGreatDoor
open Go.RowKit

theorem catOk_iff {ts : List Tbl} : catOk ts = true ↔ ts.length ≤ 16 ∧ ts.all tblOk = true ∧ distinctS (ts.map (·.name)) = true := by
  unfold catOk
  simp only [Bool.and_eq_true, decide_eq_true_eq, and_assoc]
theorem catOk_not {ts : List Tbl} (h : ¬(ts.length ≤ 16 ∧ ts.all tblOk = true ∧ distinctS (ts.map (·.name)) = true)) : catOk ts = false := Bool.eq_false_iff.2 (fun e => h (catOk_iff.1 e))

set_option maxHeartbeats 6400000 in
theorem ref_catalog (w : World) (v : Value) (ts : List Tbl) (h : ktbl.At w Any v ts) (hb : ts.length ≤ 1000000) (hf : ∀ t ∈ ts, Fine t) : Calls Tryz.prog 53 #[v] w (BoolPost (catOk ts) w) := by
  have H := Lib.hid h
  obtain ⟨a, cap, rfl, _⟩ := h.form
  have HF := Lib.hid hf
  clear h hf
  have h1 : (ts.length : Int) ≤ 1000000 := by omega
  go_enter Tryz.func53, Tryz.ntmps53
  go_wp2_with fail
  go_loopg [3] ts.length (fun g i wr => ∃ k : Nat, k + g = ts.length ∧ i = .int .i64 k ∧ Hid (Kept [] w wr) ∧ Hid ((ts.take k).all tblOk = true ∧ distinctS ((ts.take k).map (·.name)) = true))
  case atStart => exact ⟨0, by omega, rfl, Lib.hid (Kept.refl _ _), Lib.hid ⟨by simp, by simp [distinctS, namesL]⟩⟩
  case round =>
    obtain ⟨k, hk, rfl, hkp, hall⟩ := hrel
    obtain ⟨wo, hwo⟩ : ∃ wo : World, wo = wr := ⟨_, rfl⟩
    subst hwo
    by_cases hlt : k < ts.length
    · obtain ⟨x, hx⟩ : ∃ x, ts[k]? = some x := ⟨ts[k], by simp [hlt]⟩
      obtain ⟨b0, o0, cap', ca, cn, cc, ra, rn, rc, he, _, hbs, x0, x1, x2, hE1, hE2⟩ := tbl_at (H.out.kept hkp.out) hx
      simp only [Value.slice.injEq, true_and] at he
      obtain ⟨rfl, rfl⟩ := he
      have hk0 : (0 : Int) ≤ (k : Int) := by omega
      have hk1 : (k : Int) < (ts.length : Int) := by omega
      have HX := Lib.hid hx
      have HM := Lib.hid (List.mem_of_getElem? hx)
      have HE1 := Lib.hid hE1
      have HE2 := Lib.hid hE2
      clear hx hE1 hE2
      go_wp2_with fail
      refine (ref_table _ x _ _ _ _ _ _ HE1.out HE2.out (HF.out x HM.out)).mono ?_
      rintro e w3 ⟨rfl, hk3⟩
      have HK3 := Lib.hid (hkp.out.trans hk3)
      have y0 := (hk3.cell hbs (by simp)).trans x0
      have hbs := Nat.lt_of_lt_of_le hbs hk3.size
      clear hk3 x0 x1 x2
      cases hq : tblOk x
      · have HQX := Lib.hid hq
        clear hq
        go_wp2_with fail
        go_ret
        refine ⟨ret_bool (catOk_not (fun h => ?_)).symm, HK3.out⟩
        have := List.all_eq_true.1 h.2.1 x HM.out
        rw [HQX.out] at this
        cases this
      have HQX := Lib.hid hq
      clear hq
      go_wp2_with fail
      go_loopg [4] k (fun g i wr => ∃ j : Nat, j + g = k ∧ i = .int .i64 j ∧ Hid (Kept [] w3 wr) ∧ Hid (∀ y ∈ ts.take j, y.name.data.toList ≠ x.name.data.toList))
      case atStart => exact ⟨0, by omega, rfl, Lib.hid (Kept.refl _ _), Lib.hid (by simp)⟩
      case round =>
        obtain ⟨j, hj, rfl, hkq, hne⟩ := hrel
        obtain ⟨wn, hwn⟩ : ∃ wn : World, wn = wr := ⟨_, rfl⟩
        subst hwn
        have z0 := (hkq.out.cell hbs (by simp)).trans y0
        by_cases hjl : j < k
        · obtain ⟨y, hy⟩ : ∃ y, ts[j]? = some y := ⟨ts[j]'(by omega), by simp [show j < ts.length by omega]⟩
          obtain ⟨b1, o1, cap1, _, _, _, _, _, _, he, _, hbs1, y0', _, _, _, _⟩ := tbl_at (H.out.kept (HK3.out.trans hkq.out)) hy
          simp only [Value.slice.injEq, true_and] at he
          obtain ⟨he, rfl⟩ := he
          simp only [Option.some.injEq, Addr.mk.injEq, and_true] at he
          obtain ⟨rfl, rfl⟩ := he
          have hj0 : (0 : Int) ≤ (j : Int) := by omega
          have hj1 : (j : Int) < (ts.length : Int) := by omega
          have hj2 : (j : Int) < (k : Int) := by omega
          have HY := Lib.hid hy
          clear hy
          cases hq : (y.name.toList == x.name.toList)
          · have HE := Lib.hid hq
            go_wp2_with fail
            go_quiet (fail)
            go_wp2_with fail
            go_roundg (k - (j + 1))
            case measure => omega
            case rel => exact ⟨j + 1, by omega, by go_num, Lib.hid (hkq.out.drewN _), Lib.hid (by
              rw [take_snoc ts j y HY.out]
              intro z hz
              rcases List.mem_append.1 hz with hz | hz
              · exact hne.out z hz
              · rw [List.mem_singleton] at hz
                subst hz
                have := HE.out
                rw [ByteArray.toList_eq, ByteArray.toList_eq] at this
                simpa using this)⟩
          · have HE := Lib.hid hq
            go_wp2_with fail
            go_quiet (fail)
            go_wp2_with fail
            go_ret
            refine ⟨ret_bool (catOk_not (fun h => ?_)).symm, HK3.out.trans (hkq.out.drewN _)⟩
            have h3 := names_bad (fun c => c.name) ts k x HX.out y (by
              rw [List.mem_take_iff_getElem]
              exact ⟨j, by omega, by have := HY.out; rw [List.getElem?_eq_getElem (by omega)] at this; exact Option.some.inj this⟩) (by
              have := HE.out
              rw [ByteArray.toList_eq, ByteArray.toList_eq] at this
              simpa using this)
            rw [h3] at h
            exact absurd h.2.2 (by simp)
        · obtain rfl : j = k := by omega
          go_wp2_with fail
          go_roundg (ts.length - (j + 1))
          case measure => omega
          case rel => exact ⟨j + 1, by omega, by go_num, Lib.hid (HK3.out.trans hkq.out), Lib.hid ⟨by rw [any_take_all tblOk ts j x HX.out, hall.out.1, HQX.out]; rfl, names_good _ ts j x HX.out hall.out.2 hne.out⟩⟩
    · obtain rfl : k = ts.length := by omega
      rw [List.take_length] at *
      go_wp2_with fail
      go_ret
      exact ⟨ret_bool (by unfold catOk; rw [hall.out.1, hall.out.2]; simp; omega), hkp.out⟩

set_option maxHeartbeats 6400000 in
theorem ref_session (w : World) (t : Value) (fa : Option Addr) (fc : Nat) (s : Scr) (ht : ktbl.At w Any t s.tables) (hf : FineS s) : Calls Tryz.prog 28 #[.agg #[t, .string s.query, .int .i64 s.budget, .int .i64 s.room, .int .i64 s.seed, .slice fa s.faults.length fc]] w (IntPost (sessErr s) w) := by
  obtain ⟨ta, tc, rfl, _⟩ := ht.form
  have K0 : Kept [] w (w.alloc (.cells #[.slice ta s.tables.length tc, .string s.query, .int .i64 s.budget, .int .i64 s.room, .int .i64 s.seed, .slice fa s.faults.length fc] 25)) := Kept.alloc (Kept.refl [] w) _
  have A := Arr.new w #[.slice ta s.tables.length tc, .string s.query, .int .i64 s.budget, .int .i64 s.room, .int .i64 s.seed, .slice fa s.faults.length fc] 25
  have HA := Lib.hid A
  have HK0 := Lib.hid K0
  have HT := Lib.hid (ht.kept K0)
  have HF := Lib.hid hf
  have h1 : (s.faults.length : Int) ≤ 1000000 := by have := hf.faults; omega
  clear ht hf K0 A
  go_enter Tryz.func28, Tryz.ntmps28
  go_wp2_with fail
  refine (ref_catalog _ _ s.tables HT.out HF.out.tables HF.out.table).mono ?_
  rintro e w2 ⟨rfl, hk⟩
  have hA2 := HA.out.kept hk (by simp)
  have c2 := hA2.cell (i := 2) rfl
  have c3 := hA2.cell (i := 3) rfl
  have c4 := hA2.cell (i := 4) rfl
  have c5 := hA2.cell (i := 5) rfl
  have HK := Lib.hid (HK0.out.trans hk)
  clear hk hA2
  cases hq : catOk s.tables
  · have he : Hid (sessErr s = 130) := Lib.hid (by unfold sessErr; rw [hq]; rfl)
    clear hq
    go_wp2_with fail
    go_ret
    exact ⟨ret_int he.out.symm, HK.out⟩
  have he : Hid (sessErr s = if argsOk s then 0 else 1) := Lib.hid (by unfold sessErr; rw [hq]; rfl)
  clear hq
  by_cases z1 : s.budget < 0
  · go_wp2_with fail
    go_ret
    exact ⟨ret_int (by rw [he.out]; unfold argsOk; rw [decide_eq_false (show ¬ 0 ≤ s.budget by omega)]; rfl), HK.out⟩
  by_cases z2 : 16384 < s.budget
  · go_wp2_with fail
    go_ret
    exact ⟨ret_int (by rw [he.out]; unfold argsOk; rw [decide_eq_false (show ¬ s.budget ≤ 16384 by omega), Bool.and_false]; rfl), HK.out⟩
  by_cases z3 : s.room < 0
  · go_wp2_with fail
    go_ret
    exact ⟨ret_int (by rw [he.out]; unfold argsOk; rw [decide_eq_false (show ¬ 0 ≤ s.room by omega), Bool.false_and, Bool.and_false]; rfl), HK.out⟩
  by_cases z4 : 16384 < s.room
  · go_wp2_with fail
    go_ret
    exact ⟨ret_int (by rw [he.out]; unfold argsOk; rw [decide_eq_false (show ¬ s.room ≤ 16384 by omega), Bool.and_false, Bool.and_false]; rfl), HK.out⟩
  by_cases z5 : s.seed < 0
  · go_wp2_with fail
    go_ret
    exact ⟨ret_int (by rw [he.out]; unfold argsOk; rw [decide_eq_false (show ¬ 0 ≤ s.seed by omega), Bool.false_and, Bool.and_false]; rfl), HK.out⟩
  by_cases z6 : 9007199254740991 < s.seed
  · go_wp2_with fail
    go_ret
    exact ⟨ret_int (by rw [he.out]; unfold argsOk; rw [decide_eq_false (show ¬ s.seed ≤ 9007199254740991 by omega), Bool.and_false, Bool.and_false]; rfl), HK.out⟩
  by_cases z7 : (64 : Int) < s.faults.length
  · go_wp2_with fail
    go_ret
    exact ⟨ret_int (by rw [he.out]; unfold argsOk; rw [decide_eq_false (show ¬ s.faults.length ≤ 64 by omega), Bool.and_false]; rfl), HK.out⟩
  go_wp2_with fail
  go_ret
  refine ⟨ret_int ?_, HK.out⟩
  rw [he.out, if_pos]
  unfold argsOk
  simp only [Bool.and_eq_true, decide_eq_true_eq]
  omega

set_option maxHeartbeats 6400000 in
theorem ref_script (w : World) (v : Value) (s : Scr) (h : ScrAt w Any s v) (hf : FineS s) : Calls Tryz.prog 10 #[v] w (BoolPost (scrOk s) w) := by
  obtain ⟨t, f, rfl, ht, hfl⟩ := h
  obtain ⟨ta, tc, rfl, _⟩ := ht.form
  obtain ⟨fa, fc, rfl, _⟩ := hfl.form
  have K0 : Kept [] w (w.alloc (.cells #[.slice ta s.tables.length tc, .string s.query, .int .i64 s.budget, .int .i64 s.room, .int .i64 s.seed, .slice fa s.faults.length fc] 25)) := Kept.alloc (Kept.refl [] w) _
  have A := Arr.new w #[.slice ta s.tables.length tc, .string s.query, .int .i64 s.budget, .int .i64 s.room, .int .i64 s.seed, .slice fa s.faults.length fc] 25
  have HA := Lib.hid A
  have HK0 := Lib.hid K0
  have HT := Lib.hid (ht.kept K0)
  have HFL := Lib.hid (hfl.kept K0)
  have HF := Lib.hid hf
  have h1 : (s.query.size : Int) ≤ 140737488355328 := hf.query
  have h2 : (s.faults.length : Int) ≤ 1000000 := by have := hf.faults; omega
  clear ht hf K0 A hfl
  go_enter Tryz.func10, Tryz.ntmps10
  go_wp2_with fail
  refine (ref_session _ _ _ _ s HT.out HF.out).mono ?_
  rintro e w2 ⟨rfl, hk⟩
  have hA2 := HA.out.kept hk (by simp)
  have c1 := hA2.cell (i := 1) rfl
  have c5 := hA2.cell (i := 5) rfl
  have HFL2 := Lib.hid (HFL.out.kept hk)
  have HA2 := Lib.hid hA2
  have HK := Lib.hid (HK0.out.trans hk)
  clear hk hA2
  by_cases hq : sessErr s = 0
  · rw [hq]
    have HQ := Lib.hid hq
    clear hq
    by_cases hz : (16384 : Int) < s.query.size
    · go_wp2_with fail
      go_ret
      exact ⟨ret_bool (by unfold scrOk; rw [decide_eq_true HQ.out, decide_eq_false (by omega)]; rfl), HK.out⟩
    go_wp2_with fail
    clear c1 c5
    have he : Hid (scrOk s = !s.faults.any oddFault) := Lib.hid (by unfold scrOk; rw [decide_eq_true HQ.out, decide_eq_true (by omega)]; rfl)
    go_loopg [3] s.faults.length (fun g i wr => ∃ k : Nat, k + g = s.faults.length ∧ i = .int .i64 k ∧ Hid (Kept [] w2 wr) ∧ Hid ((s.faults.take k).any oddFault = false))
    case atStart => exact ⟨0, by omega, rfl, Lib.hid (Kept.refl _ _), Lib.hid (by simp)⟩
    case round =>
      obtain ⟨k, hk, rfl, hkp, hall⟩ := hrel
      obtain ⟨wo, hwo⟩ : ∃ wo : World, wo = wr := ⟨_, rfl⟩
      subst hwo
      have c5 := (HA2.out.kept hkp.out (by simp)).cell (i := 5) rfl
      by_cases hlt : k < s.faults.length
      · obtain ⟨x, hx⟩ : ∃ x, s.faults[k]? = some x := ⟨s.faults[k], by simp [hlt]⟩
        obtain ⟨b0, o0, cap', he2, _, hbs, x0⟩ := int_at (HFL2.out.kept hkp.out) hx
        simp only [Value.slice.injEq, true_and] at he2
        obtain ⟨rfl, rfl⟩ := he2
        have hk0 : (0 : Int) ≤ (k : Int) := by omega
        have hk1 : (k : Int) < (s.faults.length : Int) := by omega
        have HT2 := Lib.hid (take_snoc s.faults k x hx)
        have HM := Lib.hid (List.mem_of_getElem? hx)
        clear hx
        by_cases y1 : x < 0
        · go_wp2_with fail
          go_ret
          refine ⟨ret_bool ?_, HK.out.trans hkp.out⟩
          rw [he.out, List.any_eq_true.2 ⟨x, HM.out, by unfold oddFault; rw [decide_eq_true y1]; rfl⟩]
          rfl
        by_cases y2 : 9007199254740991 < x
        · go_wp2_with fail
          go_ret
          refine ⟨ret_bool ?_, HK.out.trans hkp.out⟩
          rw [he.out, List.any_eq_true.2 ⟨x, HM.out, by unfold oddFault; rw [decide_eq_true y2, Bool.or_true]⟩]
          rfl
        go_wp2_with fail
        go_roundg (s.faults.length - (k + 1))
        case measure => omega
        case rel => exact ⟨k + 1, by omega, by go_num, hkp, Lib.hid (by rw [HT2.out, List.any_append, hall.out]; simp [oddFault]; omega)⟩
      · obtain rfl : k = s.faults.length := by omega
        rw [List.take_length] at *
        go_wp2_with fail
        go_ret
        exact ⟨ret_bool (by rw [he.out, hall.out]; rfl), HK.out.trans hkp.out⟩
  · have HQ := Lib.hid hq
    go_wp2_with fail
    go_ret
    exact ⟨ret_bool (by unfold scrOk; rw [decide_eq_false HQ.out]; rfl), HK.out⟩
end Go.Proofs.YtkodiogkldboiaaGreatDoor
