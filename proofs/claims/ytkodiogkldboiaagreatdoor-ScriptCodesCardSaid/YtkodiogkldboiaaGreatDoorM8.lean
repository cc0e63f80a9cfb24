/- Equality of tables and scripts: slices.EqualFunc, script.Same. -/
import Derived.OwnWalk
import Derived.Test.YtkodiogkldboiaaGreatDoorM7
set_option linter.unusedVariables false
set_option linter.unusedSimpArgs false
namespace Go.Proofs.YtkodiogkldboiaaGreatDoor
open Go.RowKit

set_option maxRecDepth 100000 in
set_option maxHeartbeats 3200000 in
theorem eqf_tbls (w : World) (u v : Value) (xs ys : List Tbl) (hx : ktbl.At w Any u xs) (hy : ktbl.At w Any v ys) (hb : (xs.length : Int) ≤ 16777216) (hr : ∀ t ∈ xs, Fine t) : Calls Tryz.prog 24 #[u, v, .func (.func 25) #[] #[]] w (BoolPost (decide (xs = ys)) w) := by
  have HX := Lib.hid hx
  have HY := Lib.hid hy
  have HR := Lib.hid hr
  obtain ⟨a, ca, rfl, _⟩ := hx.form
  obtain ⟨b, cb, rfl, _⟩ := hy.form
  clear hx hy hr
  by_cases hl : xs.length = ys.length
  · have HL := Lib.hid hl
    rw [← hl]
    clear hl
    go_enter Tryz.func24, Tryz.ntmps24
    go_wp2
    go_loopg [7, 8, 9, 17] xs.length (fun g v7 v8 v9 i wr => ∃ k : Nat, k + g = xs.length ∧ i = .int .i64 k ∧ Hid (Kept [] w wr) ∧ Hid (xs.take k = ys.take k))
    case atStart => exact ⟨0, by omega, rfl, Lib.hid (Kept.refl _ _), Lib.hid rfl⟩
    case round =>
      obtain ⟨k, hk, rfl, HK, HT⟩ := hrel
      obtain ⟨wo, hwo⟩ : ∃ wo : World, wo = wr := ⟨_, rfl⟩
      subst hwo
      have hk0 : (0 : Int) ≤ (k : Int) := by omega
      by_cases hlt : k < xs.length
      · obtain ⟨x, hx⟩ : ∃ x, xs[k]? = some x := ⟨xs[k], List.getElem?_eq_getElem hlt⟩
        obtain ⟨y, hy⟩ : ∃ y, ys[k]? = some y := ⟨ys[k]'(by rw [← HL.out]; exact hlt), List.getElem?_eq_getElem _⟩
        obtain ⟨b1, o1, c1, xca, xcn, xcc, xra, xrn, xrc, he, _, hbs1, x0, x1, x2, hxc, hxr⟩ := tbl_at (HX.out.kept HK.out) hx
        simp only [Value.slice.injEq, true_and] at he
        obtain ⟨rfl, rfl⟩ := he
        obtain ⟨b2, o2, c2, yca, ycn, ycc, yra, yrn, yrc, he, _, hbs2, y0, y1, y2, hyc, hyr⟩ := tbl_at (HY.out.kept HK.out) hy
        rw [← HL.out] at he
        simp only [Value.slice.injEq, true_and] at he
        obtain ⟨rfl, rfl⟩ := he
        have hk1 : (k : Int) < (xs.length : Int) := by omega
        have HXY := Lib.hid (And.intro hx hy)
        have HC : Hid (∀ wx, Kept [] wo wx → Calls Tryz.prog 25 #[.agg #[.string x.name, .slice xca xcn xcc, .slice xra xrn xrc], .agg #[.string y.name, .slice yca ycn ycc, .slice yra yrn yrc]] wx (BoolPost (decide (x = y)) wx)) := Lib.hid (fun wx kx => same_table wx _ _ _ _ x y (hxc.kept kx) (hxr.kept kx) (hyc.kept kx) (hyr.kept kx) (HR.out x (List.mem_of_getElem? hx)))
        clear hx hy hxc hxr hyc hyr
        go_wp2_with fail
        refine (HC.out _ (((Kept.refl [] wo).alloc _).alloc _)).mono ?_
        rintro e w2 ⟨rfl, hk2⟩
        have HK2 := Lib.hid (((HK.out.alloc _).alloc _).trans hk2)
        clear hk2 x0 y0 x1 x2 y1 y2
        by_cases hxy : x = y
        · have HE := Lib.hid (take_eq HXY.out.1 HXY.out.2 HT.out hxy)
          rw [decide_eq_true hxy]
          clear hxy
          go_wp2_with fail
          go_roundg (xs.length - (k + 1))
          case measure => omega
          case rel => exact ⟨k + 1, by omega, by go_num, HK2, HE⟩
        · have HE := Lib.hid (ne_of_at HXY.out.1 HXY.out.2 hxy)
          rw [decide_eq_false hxy]
          clear hxy
          go_wp2_with fail
          go_ret
          exact ⟨by rw [decide_eq_false HE.out]; rfl, HK2.out⟩
      · obtain rfl : k = xs.length := by omega
        have HE := Lib.hid (eq_of_take HL.out HT.out)
        go_wp2_with fail
        go_ret
        exact ⟨by rw [decide_eq_true HE.out]; rfl, HK.out⟩
  · have hlI : ¬ (xs.length : Int) = (ys.length : Int) := by omega
    have HE : Hid (¬ xs = ys) := Lib.hid (fun e => hl (by rw [e]))
    go_enter Tryz.func24, Tryz.ntmps24
    go_wp2
    go_ret
    exact ⟨by rw [decide_eq_false HE.out]; rfl, Kept.refl _ _⟩

instance : DecidableEq Scr := fun a b => decidable_of_iff (a.tables = b.tables ∧ a.query = b.query ∧ a.budget = b.budget ∧ a.room = b.room ∧ a.seed = b.seed ∧ a.faults = b.faults) (by cases a; cases b; simp)
theorem scr_eq {x y : Scr} : x = y ↔ x.tables = y.tables ∧ x.query = y.query ∧ x.budget = y.budget ∧ x.room = y.room ∧ x.seed = y.seed ∧ x.faults = y.faults := by cases x; cases y; simp

set_option maxRecDepth 100000 in
set_option maxHeartbeats 6400000 in
theorem script_same (w : World) (u v : Value) (x y : Scr) (hx : ScrAt w Any x u) (hy : ScrAt w Any y v) (hf : FineS x) : Calls Tryz.prog 8 #[u, v] w (BoolPost (decide (x = y)) w) := by
  obtain ⟨xt, xf, rfl, hxt, hxf⟩ := hx
  obtain ⟨yt, yf, rfl, hyt, hyf⟩ := hy
  obtain ⟨xta, xtc, rfl, _⟩ := hxt.form
  obtain ⟨xfa, xfc, rfl, _⟩ := hxf.form
  obtain ⟨yta, ytc, rfl, _⟩ := hyt.form
  obtain ⟨yfa, yfc, rfl, _⟩ := hyf.form
  obtain ⟨D, hD⟩ : ∃ D : Bool, D = decide (x = y) := ⟨_, rfl⟩
  have hQ : D = decide (x.tables = y.tables ∧ x.query = y.query ∧ x.budget = y.budget ∧ x.room = y.room ∧ x.seed = y.seed ∧ x.faults = y.faults) := hD.trans (decide_eq_decide.2 (@scr_eq x y))
  rw [← hD]
  have HQ := Lib.hid hQ
  clear hD hQ
  have HF := Lib.hid hf
  have HXT := Lib.hid hxt
  have HXF := Lib.hid hxf
  have HYT := Lib.hid hyt
  have HYF := Lib.hid hyf
  clear hf hxt hxf hyt hyf
  obtain ⟨xts, xq, xb, xr, xs, xfs⟩ := x
  obtain ⟨yts, yq, yb, yr, ys, yfs⟩ := y
  simp only at *
  go_enter Tryz.func8, Tryz.ntmps8
  go_upto_region 1 with fail
  have K0 : Kept [] w ((w.alloc (.cells #[.slice xta xts.length xtc, .string xq, .int .i64 xb, .int .i64 xr, .int .i64 xs, .slice xfa xfs.length xfc] 25)).alloc (.cells #[.slice yta yts.length ytc, .string yq, .int .i64 yb, .int .i64 yr, .int .i64 ys, .slice yfa yfs.length yfc] 25)) := ((Kept.refl [] w).alloc _).alloc _
  have A1 : Arr ((w.alloc (.cells #[.slice xta xts.length xtc, .string xq, .int .i64 xb, .int .i64 xr, .int .i64 xs, .slice xfa xfs.length xfc] 25)).alloc (.cells #[.slice yta yts.length ytc, .string yq, .int .i64 yb, .int .i64 yr, .int .i64 ys, .slice yfa yfs.length yfc] 25)) w.heap.size 25 [.slice xta xts.length xtc, .string xq, .int .i64 xb, .int .i64 xr, .int .i64 xs, .slice xfa xfs.length xfc] := (Arr.new' rfl rfl : Arr (w.alloc (.cells #[.slice xta xts.length xtc, .string xq, .int .i64 xb, .int .i64 xr, .int .i64 xs, .slice xfa xfs.length xfc] 25)) w.heap.size 25 [.slice xta xts.length xtc, .string xq, .int .i64 xb, .int .i64 xr, .int .i64 xs, .slice xfa xfs.length xfc]).alloc _
  have A2 : Arr ((w.alloc (.cells #[.slice xta xts.length xtc, .string xq, .int .i64 xb, .int .i64 xr, .int .i64 xs, .slice xfa xfs.length xfc] 25)).alloc (.cells #[.slice yta yts.length ytc, .string yq, .int .i64 yb, .int .i64 yr, .int .i64 ys, .slice yfa yfs.length yfc] 25)) (w.heap.size + 1) 25 [.slice yta yts.length ytc, .string yq, .int .i64 yb, .int .i64 yr, .int .i64 ys, .slice yfa yfs.length yfc] := Arr.new' (by simp) rfl
  have HK0 := Lib.hid K0
  have HA1 := Lib.hid A1
  have HA2 := Lib.hid A2
  have HC1 := Lib.hid (eq_ints _ _ _ xfs yfs (HXF.out.kept K0) (HYF.out.kept K0) (by have := HF.out.faults; simp only at this; omega))
  clear K0 A1 A2
  generalize (w.alloc (.cells #[.slice xta xts.length xtc, .string xq, .int .i64 xb, .int .i64 xr, .int .i64 xs, .slice xfa xfs.length xfc] 25)).alloc (.cells #[.slice yta yts.length ytc, .string yq, .int .i64 yb, .int .i64 yr, .int .i64 ys, .slice yfa yfs.length yfc] 25) = w1 at *
  have c2 := HA1.out.cell (i := 2) rfl
  have c3 := HA1.out.cell (i := 3) rfl
  have c4 := HA1.out.cell (i := 4) rfl
  have c5 := HA1.out.cell (i := 5) rfl
  have d2 := HA2.out.cell (i := 2) rfl
  have d3 := HA2.out.cell (i := 3) rfl
  have d4 := HA2.out.cell (i := 4) rfl
  have d5 := HA2.out.cell (i := 5) rfl
  obtain ⟨N, hN⟩ : ∃ N : Bool, N = decide (xb = yb ∧ xr = yr ∧ xs = ys ∧ xfs = yfs) := ⟨_, rfl⟩
  have HN := Lib.hid hN
  clear hN
  go_cut [5] (fun b wx => b = .bool N ∧ Hid (Kept [] w1 wx))
  case first =>
    by_cases h1 : xb = yb
    · by_cases h2 : xr = yr
      · by_cases h3 : xs = ys
        · have HD : Hid (N = decide (xfs = yfs)) := Lib.hid (HN.out.trans (decide_eq_decide.2 ⟨fun h => h.2.2.2, fun h => ⟨h1, h2, h3, h⟩⟩))
          clear HN HQ
          subst h1 h2 h3
          go_wp2_with fail
          refine HC1.out.mono ?_
          rintro e w2 ⟨rfl, hk2⟩
          have HK2 := Lib.hid hk2
          clear hk2 HC1
          generalize decide (xfs = yfs) = c at *
          go_wp2_with fail
          go_meet
          case rel => exact ⟨by rw [HD.out], HK2⟩
        · have HD : Hid (N = false) := Lib.hid (HN.out.trans (decide_eq_false (fun h => h3 h.2.2.1)))
          clear HN HQ
          subst h1 h2
          go_wp2_with fail
          go_meet
          case rel => exact ⟨by rw [HD.out], Lib.hid (Kept.refl _ _)⟩
      · have HD : Hid (N = false) := Lib.hid (HN.out.trans (decide_eq_false (fun h => h2 h.2.1)))
        clear HN HQ
        subst h1
        go_wp2_with fail
        go_meet
        case rel => exact ⟨by rw [HD.out], Lib.hid (Kept.refl _ _)⟩
    · have HD : Hid (N = false) := Lib.hid (HN.out.trans (decide_eq_false (fun h => h1 h.1)))
      clear HN HQ
      go_wp2_with fail
      go_meet
      case rel => exact ⟨by rw [HD.out], Lib.hid (Kept.refl _ _)⟩
  case rest =>
    obtain ⟨rfl, HK2⟩ := hcut
    have HA3 := Lib.hid (HA1.out.kept HK2.out (by simp))
    have HA4 := Lib.hid (HA2.out.kept HK2.out (by simp))
    have HKW := Lib.hid (HK0.out.trans HK2.out)
    have HC2 := Lib.hid (eqf_tbls wc _ _ xts yts (HXT.out.kept HKW.out) (HYT.out.kept HKW.out) (by have := HF.out.tables; simp only at this; omega) HF.out.table)
    clear c2 c3 c4 c5 d2 d3 d4 d5 HC1
    have c0 := HA3.out.cell (i := 0) rfl
    have c1 := HA3.out.cell (i := 1) rfl
    have d0 := HA4.out.cell (i := 0) rfl
    have d1 := HA4.out.cell (i := 1) rfl
    cases hNb : N
    · have HE : Hid (D = false) := Lib.hid (HQ.out.trans (decide_eq_false (fun h => by
        have := HN.out
        rw [hNb] at this
        exact absurd ⟨h.2.2.1, h.2.2.2.1, h.2.2.2.2.1, h.2.2.2.2.2⟩ (of_decide_eq_false this.symm))))
      clear hNb HN HQ
      go_wp2_with fail
      go_ret
      exact ⟨by rw [HE.out]; rfl, HKW.out⟩
    · have hn : xb = yb ∧ xr = yr ∧ xs = ys ∧ xfs = yfs := of_decide_eq_true (by have := HN.out; rw [hNb] at this; exact this.symm)
      have HNN := Lib.hid hn
      clear hNb HN hn
      by_cases hq : xq = yq
      · have HE : Hid (D = decide (xts = yts)) := Lib.hid (HQ.out.trans (decide_eq_decide.2 ⟨fun h => h.1, fun h => ⟨h, hq, HNN.out⟩⟩))
        clear HQ HNN
        subst hq
        go_wp2_with fail
        refine HC2.out.mono ?_
        rintro e w2 ⟨rfl, hk2⟩
        have HK3 := Lib.hid (HKW.out.trans hk2)
        clear hk2 HC2
        generalize decide (xts = yts) = c at *
        go_wp2_with fail
        go_ret
        exact ⟨by rw [HE.out]; rfl, HK3.out⟩
      · have hq' : ¬ xq.toList = yq.toList := fun e => hq (bytes_eq e)
        have HE : Hid (D = false) := Lib.hid (HQ.out.trans (decide_eq_false (fun h => hq h.2.1)))
        clear HQ HNN hq
        go_wp2_with fail
        go_ret
        exact ⟨by rw [HE.out]; rfl, HKW.out⟩
end Go.Proofs.YtkodiogkldboiaaGreatDoor
/- The references' Compare, Same, SameList. -/
namespace Go.Proofs.YtkodiogkldboiaaGreatDoor
open Go.RowKit

def CmpPost (p : Prop) (w : World) (en : Ending) (w' : World) : Prop := ∃ c : Int, en = .returned (.int .i64 c) ∧ (c = 0 ↔ p) ∧ Kept [] w w'

theorem bytesLess_self : ∀ l : List UInt8, Op.bytesLess l l = false
  | [] => rfl
  | a :: l => by simp [Op.bytesLess, bytesLess_self l]

set_option maxRecDepth 100000 in
set_option maxHeartbeats 3200000 in
theorem ref01_cmp (w : World) (x y : Val) : Calls Tryz.prog 81 #[.agg #[.int .i64 x.k, .int .i64 x.n, .string x.s], .agg #[.int .i64 y.k, .int .i64 y.n, .string y.s]] w (CmpPost (x = y) w) := by
  obtain ⟨k, n, s⟩ := x
  obtain ⟨k', n', s'⟩ := y
  simp only
  obtain ⟨P, hP⟩ : ∃ P : Prop, P = ((⟨k, n, s⟩ : Val) = ⟨k', n', s'⟩) := ⟨_, rfl⟩
  rw [← hP]
  have HP : Hid (P ↔ k = k' ∧ n = n' ∧ s = s') := Lib.hid (by rw [hP]; simp)
  clear hP
  by_cases h1 : k = k'
  · by_cases h2 : n = n'
    · subst h1 h2
      by_cases h3 : s = s'
      · subst h3
        have hyes : Hid P := Lib.hid (HP.out.2 ⟨rfl, rfl, rfl⟩)
        have hb := bytesLess_self s.toList
        clear HP
        go_enter Tryz.func81, Tryz.ntmps81
        go_wp2
        go_ret
        exact ⟨_, rfl, ⟨fun _ => hyes.out, fun _ => rfl⟩, ((Kept.refl [] w).alloc _).alloc _⟩
      · have h3' : ¬ s.toList = s'.toList := fun e => h3 (bytes_eq e)
        have hno : Hid (¬ P) := Lib.hid (fun h => h3 (HP.out.1 h).2.2)
        clear HP h3
        go_enter Tryz.func81, Tryz.ntmps81
        go_wp2
        all_goals
          go_ret
          exact ⟨_, rfl, ⟨fun h => by simp at h, fun h => (hno.out h).elim⟩, ((Kept.refl [] w).alloc _).alloc _⟩
    · subst h1
      have hno : Hid (¬ P) := Lib.hid (fun h => h2 (HP.out.1 h).2.1)
      clear HP
      go_enter Tryz.func81, Tryz.ntmps81
      go_wp2
      all_goals
        go_ret
        exact ⟨_, rfl, ⟨fun h => by simp at h, fun h => (hno.out h).elim⟩, ((Kept.refl [] w).alloc _).alloc _⟩
  · have hno : Hid (¬ P) := Lib.hid (fun h => h1 (HP.out.1 h).1)
    clear HP
    go_enter Tryz.func81, Tryz.ntmps81
    go_wp2
    all_goals
      go_ret
      exact ⟨_, rfl, ⟨fun h => by simp at h, fun h => (hno.out h).elim⟩, ((Kept.refl [] w).alloc _).alloc _⟩

set_option maxRecDepth 100000 in
set_option maxHeartbeats 6400000 in
theorem ref02_cmp (w : World) (u v : Value) (xs ys : List Val) (hx : kval.At w Any u xs) (hy : kval.At w Any v ys) (hb : (xs.length : Int) ≤ 16777216) : Calls Tryz.prog 69 #[u, v] w (CmpPost (xs = ys) w) := by
  have HX := Lib.hid hx
  have HY := Lib.hid hy
  obtain ⟨a, ca, rfl, _⟩ := hx.form
  obtain ⟨b, cb, rfl, _⟩ := hy.form
  clear hx hy
  obtain ⟨P, hP⟩ : ∃ P : Prop, P = (xs = ys) := ⟨_, rfl⟩
  rw [← hP]
  have HP := Lib.hid hP
  clear hP
  go_enter Tryz.func69, Tryz.ntmps69
  go_wp2
  go_loopg [5, 6] xs.length (fun g i v6 wr => ∃ k : Nat, k + g = xs.length ∧ k ≤ ys.length ∧ i = .int .i64 k ∧ Hid (Kept [] w wr) ∧ Hid (xs.take k = ys.take k))
  case atStart => exact ⟨0, by omega, by omega, rfl, Lib.hid (Kept.refl _ _), Lib.hid rfl⟩
  case round =>
    obtain ⟨k, hk, hky, rfl, HK, HT⟩ := hrel
    obtain ⟨wo, hwo⟩ : ∃ wo : World, wo = wr := ⟨_, rfl⟩
    subst hwo
    have hk0 : (0 : Int) ≤ (k : Int) := by omega
    by_cases hlt : k < xs.length
    · have hk1 : (k : Int) < (xs.length : Int) := by omega
      by_cases hly : k < ys.length
      · have hk2 : (k : Int) < (ys.length : Int) := by omega
        obtain ⟨x, hx⟩ : ∃ x, xs[k]? = some x := ⟨xs[k], List.getElem?_eq_getElem hlt⟩
        obtain ⟨y, hy⟩ : ∃ y, ys[k]? = some y := ⟨ys[k], List.getElem?_eq_getElem hly⟩
        obtain ⟨b1, o1, c1, he, _, hbs1, x0, x1, x2⟩ := val_at (HX.out.kept HK.out) hx
        simp only [Value.slice.injEq, true_and] at he
        obtain ⟨rfl, rfl⟩ := he
        obtain ⟨b2, o2, c2, he, _, hbs2, y0, y1, y2⟩ := val_at (HY.out.kept HK.out) hy
        simp only [Value.slice.injEq, true_and] at he
        obtain ⟨rfl, rfl⟩ := he
        have HXY := Lib.hid (And.intro hx hy)
        clear hx hy
        go_wp2_with fail
        go_cut [6] (fun v wx => ∃ c : Int, v = .int .i64 c ∧ Hid (c = 0 ↔ x = y) ∧ Hid (Kept [] wo wx))
        case first =>
          have s1 := x0
          have s2 := x1
          have s3 := x2
          have s4 := y0
          have s5 := y1
          have s6 := y2
          go_region_held3 (fun w' => w'.cell? ⟨b1, o1 + k * 3, none⟩ = some (.int .i64 x.k) ∧ w'.cell? ⟨b1, o1 + k * 3 + 1, none⟩ = some (.int .i64 x.n) ∧ w'.cell? ⟨b1, o1 + k * 3 + 2, none⟩ = some (.string x.s) ∧ w'.cell? ⟨b2, o2 + k * 3, none⟩ = some (.int .i64 y.k) ∧ w'.cell? ⟨b2, o2 + k * 3 + 1, none⟩ = some (.int .i64 y.n) ∧ w'.cell? ⟨b2, o2 + k * 3 + 2, none⟩ = some (.string y.s))
            (first | with_reducible exact ⟨s1, s2, s3, s4, s5, s6⟩ | go_keep)
            (first | (go_at_call 81; refine (ref01_cmp _ x y).mono ?_; rintro e w2 ⟨c, rfl, hc, hk3⟩; have s1 := (hk3.cell hbs1 (by simp)).trans x0; have s2 := (hk3.cell hbs1 (by simp)).trans x1; have s3 := (hk3.cell hbs1 (by simp)).trans x2; have s4 := (hk3.cell hbs2 (by simp)).trans y0; have s5 := (hk3.cell hbs2 (by simp)).trans y1; have s6 := (hk3.cell hbs2 (by simp)).trans y2; have HC := Lib.hid hc; have HK3 := Lib.hid hk3; clear hc hk3))
          all_goals
            go_wp2_with fail
            go_meet
            case rel => exact ⟨c, rfl, HC, Lib.hid (Kept.trans ((Kept.refl [] wo).drew) HK3.out)⟩
        case rest =>
          obtain ⟨c, rfl, HC, HK3⟩ := hcut
          have HK4 := Lib.hid (HK.out.trans HK3.out)
          by_cases hc : c = 0
          · have HE := Lib.hid (take_eq HXY.out.1 HXY.out.2 HT.out (HC.out.1 hc))
            subst hc
            clear x0 x1 x2 y0 y1 y2
            go_wp2_with fail
            go_roundg (xs.length - (k + 1))
            case measure => omega
            case rel => exact ⟨k + 1, by omega, by omega, by go_num, HK4, HE⟩
          · have hno : Hid (¬ P) := Lib.hid (fun h => ne_of_at HXY.out.1 HXY.out.2 (fun e => hc (HC.out.2 e)) (by rw [HP.out] at h; exact h))
            have hc' : ¬ c = 0 := hc
            have HCN := Lib.hid hc
            clear x0 x1 x2 y0 y1 y2
            go_wp2_with fail
            go_ret
            exact ⟨c, rfl, ⟨fun h => (HCN.out h).elim, fun h => (hno.out h).elim⟩, HK4.out⟩
      · obtain rfl : k = ys.length := by omega
        have hno : Hid (¬ P) := Lib.hid (fun h => by rw [HP.out] at h; rw [h] at hlt; omega)
        have hl2 : (ys.length : Int) < (xs.length : Int) := by omega
        have hl3 : ¬ (xs.length : Int) < (ys.length : Int) := by omega
        clear hk
        go_wp2_with fail
        go_ret
        exact ⟨1, rfl, ⟨fun h => by simp at h, fun h => (hno.out h).elim⟩, HK.out⟩
    · obtain rfl : k = xs.length := by omega
      rcases Nat.lt_or_ge xs.length ys.length with hl | hl
      · have hno : Hid (¬ P) := Lib.hid (fun h => by rw [HP.out] at h; rw [h] at hl; omega)
        have hl2 : (xs.length : Int) < (ys.length : Int) := by omega
        clear hk
        go_wp2_with fail
        go_ret
        exact ⟨-1, rfl, ⟨fun h => by simp at h, fun h => (hno.out h).elim⟩, HK.out⟩
      · have hll : xs.length = ys.length := by omega
        have hyes : Hid P := Lib.hid (by rw [HP.out]; exact eq_of_take hll HT.out)
        have hl2 : ¬ (xs.length : Int) < (ys.length : Int) := by omega
        have hl3 : ¬ (ys.length : Int) < (xs.length : Int) := by omega
        clear hk hll
        go_wp2_with fail
        go_ret
        exact ⟨0, rfl, ⟨fun _ => hyes.out, fun _ => rfl⟩, HK.out⟩

theorem ref02_same (w : World) (u v : Value) (xs ys : List Val) (hx : kval.At w Any u xs) (hy : kval.At w Any v ys) (hb : (xs.length : Int) ≤ 16777216) : Calls Tryz.prog 52 #[u, v] w (BoolPost (decide (xs = ys)) w) := by
  have HC := Lib.hid (ref02_cmp w u v xs ys hx hy hb)
  clear hx hy
  obtain ⟨D, hD⟩ : ∃ D : Bool, D = decide (xs = ys) := ⟨_, rfl⟩
  rw [← hD]
  have HD := Lib.hid hD
  clear hD
  go_enter Tryz.func52, Tryz.ntmps52
  go_wp2_with fail
  refine HC.out.mono ?_
  rintro e w2 ⟨c, rfl, hc, hk⟩
  have HK := Lib.hid hk
  have HDE : Hid (D = (c == 0)) := Lib.hid (by rw [HD.out, Bool.eq_iff_iff]; simp [hc])
  clear hk hc HC HD
  go_wp2_with fail
  go_ret
  exact ⟨by rw [HDE.out]; rfl, HK.out⟩
end Go.Proofs.YtkodiogkldboiaaGreatDoor
/- The references' SameList, Same of scripts. -/
namespace Go.Proofs.YtkodiogkldboiaaGreatDoor
open Go.RowKit

set_option maxRecDepth 100000 in
set_option maxHeartbeats 6400000 in
theorem ref02_list (w : World) (u v : Value) (xs ys : List (List Val)) (hx : krow.At w Any u xs) (hy : krow.At w Any v ys) (hb : (xs.length : Int) ≤ 16777216) (hr : ∀ r ∈ xs, r.length ≤ 1000000) : Calls Tryz.prog 27 #[u, v] w (BoolPost (decide (xs = ys)) w) := by
  have HX := Lib.hid hx
  have HY := Lib.hid hy
  have HR := Lib.hid hr
  obtain ⟨a, ca, rfl, _⟩ := hx.form
  obtain ⟨b, cb, rfl, _⟩ := hy.form
  clear hx hy hr
  obtain ⟨D, hD⟩ : ∃ D : Bool, D = decide (xs = ys) := ⟨_, rfl⟩
  rw [← hD]
  have HD := Lib.hid hD
  clear hD
  by_cases hl : xs.length = ys.length
  · have HL := Lib.hid hl
    rw [← hl]
    clear hl
    go_enter Tryz.func27, Tryz.ntmps27
    go_wp2
    go_loopg [5] xs.length (fun g i wr => ∃ k : Nat, k + g = xs.length ∧ i = .int .i64 k ∧ Hid (Kept [] w wr) ∧ Hid (xs.take k = ys.take k))
    case atStart => exact ⟨0, by omega, rfl, Lib.hid (Kept.refl _ _), Lib.hid rfl⟩
    case round =>
      obtain ⟨k, hk, rfl, HK, HT⟩ := hrel
      obtain ⟨wo, hwo⟩ : ∃ wo : World, wo = wr := ⟨_, rfl⟩
      subst hwo
      have hk0 : (0 : Int) ≤ (k : Int) := by omega
      by_cases hlt : k < xs.length
      · obtain ⟨x, hx⟩ : ∃ x, xs[k]? = some x := ⟨xs[k], List.getElem?_eq_getElem hlt⟩
        obtain ⟨y, hy⟩ : ∃ y, ys[k]? = some y := ⟨ys[k]'(by rw [← HL.out]; exact hlt), List.getElem?_eq_getElem _⟩
        obtain ⟨b1, o1, c1, xa, xc, he, _, hbs1, x0, hxa⟩ := row_at (HX.out.kept HK.out) hx
        simp only [Value.slice.injEq, true_and] at he
        obtain ⟨rfl, rfl⟩ := he
        obtain ⟨b2, o2, c2, ya, yc, he, _, hbs2, y0, hya⟩ := row_at (HY.out.kept HK.out) hy
        rw [← HL.out] at he
        simp only [Value.slice.injEq, true_and] at he
        obtain ⟨rfl, rfl⟩ := he
        have hk1 : (k : Int) < (xs.length : Int) := by omega
        have HXY := Lib.hid (And.intro hx hy)
        have HC : Hid (∀ wx, Kept [] wo wx → Calls Tryz.prog 52 #[.slice xa x.length xc, .slice ya y.length yc] wx (BoolPost (decide (x = y)) wx)) := Lib.hid (fun wx kx => ref02_same wx _ _ x y (hxa.kept kx) (hya.kept kx) (by have := HR.out x (List.mem_of_getElem? hx); omega))
        clear hx hy hxa hya
        obtain ⟨E, hE⟩ : ∃ E : Bool, E = decide (x = y) := ⟨_, rfl⟩
        rw [← hE] at HC
        have HE := Lib.hid hE
        clear hE
        go_wp2_with fail
        go_cut [26] (fun v wx => v = .bool (!E) ∧ Hid (Kept [] wo wx))
        case first =>
          have s1 := x0
          have s2 := y0
          go_region_held3 (fun w' => w'.cell? ⟨b1, o1 + k, none⟩ = some (.slice xa x.length xc) ∧ w'.cell? ⟨b2, o2 + k, none⟩ = some (.slice ya y.length yc))
            (first | with_reducible exact ⟨s1, s2⟩ | go_keep)
            (first | (go_at_call 52; refine (HC.out _ (by first | exact (Kept.refl [] wo).drew | exact (Kept.refl [] wo).drewN _ | exact Kept.refl [] wo)).mono ?_; rintro e w2 ⟨rfl, hk3⟩; have s1 := (hk3.cell hbs1 (by simp)).trans x0; have s2 := (hk3.cell hbs2 (by simp)).trans y0; have HK3 := Lib.hid hk3; clear hk3))
          all_goals
            go_wp2_with fail
            go_meet
            case rel => exact ⟨rfl, Lib.hid (Kept.trans ((Kept.refl [] wo).drew) HK3.out)⟩
        case rest =>
          obtain ⟨rfl, HK3⟩ := hcut
          have HK4 := Lib.hid (HK.out.trans HK3.out)
          cases hEb : E
          · have hne : ¬ x = y := of_decide_eq_false (by rw [← HE.out, hEb])
            have hno : Hid (D = false) := Lib.hid (HD.out.trans (decide_eq_false (ne_of_at HXY.out.1 HXY.out.2 hne)))
            clear hEb x0 y0 hne
            go_wp2_with fail
            go_ret
            exact ⟨by rw [hno.out]; rfl, HK4.out⟩
          · have heq : x = y := of_decide_eq_true (by rw [← HE.out, hEb])
            have HTT := Lib.hid (take_eq HXY.out.1 HXY.out.2 HT.out heq)
            clear hEb x0 y0 heq
            go_wp2_with fail
            go_roundg (xs.length - (k + 1))
            case measure => omega
            case rel => exact ⟨k + 1, by omega, by go_num, HK4, HTT⟩
      · obtain rfl : k = xs.length := by omega
        have HE : Hid (D = true) := Lib.hid (HD.out.trans (decide_eq_true (eq_of_take HL.out HT.out)))
        go_wp2_with fail
        go_ret
        exact ⟨by rw [HE.out]; rfl, HK.out⟩
  · have hlI : ¬ (xs.length : Int) = (ys.length : Int) := by omega
    have HE : Hid (D = false) := Lib.hid (HD.out.trans (decide_eq_false (fun e => hl (by rw [e]))))
    go_enter Tryz.func27, Tryz.ntmps27
    go_wp2
    go_ret
    exact ⟨by rw [HE.out]; rfl, Kept.refl _ _⟩
end Go.Proofs.YtkodiogkldboiaaGreatDoor
/- The reference's Same of scripts. -/
namespace Go.Proofs.YtkodiogkldboiaaGreatDoor
open Go.RowKit

set_option maxRecDepth 100000 in
set_option maxHeartbeats 12800000 in
theorem ref30_same (w : World) (u v : Value) (x y : Scr) (hx : ScrAt w Any x u) (hy : ScrAt w Any y v) (hf : FineS x) : Calls Tryz.prog 9 #[u, v] w (BoolPost (decide (x = y)) w) := by
  obtain ⟨xt, xf, rfl, hxt, hxf⟩ := hx
  obtain ⟨yt, yf, rfl, hyt, hyf⟩ := hy
  obtain ⟨xta, xtc, rfl, _⟩ := hxt.form
  obtain ⟨xfa, xfc, rfl, _⟩ := hxf.form
  obtain ⟨yta, ytc, rfl, _⟩ := hyt.form
  obtain ⟨yfa, yfc, rfl, _⟩ := hyf.form
  obtain ⟨D, hD⟩ : ∃ D : Bool, D = decide (x = y) := ⟨_, rfl⟩
  have hQ : D = decide (x.tables = y.tables ∧ x.query = y.query ∧ x.budget = y.budget ∧ x.room = y.room ∧ x.seed = y.seed ∧ x.faults = y.faults) := hD.trans (decide_eq_decide.2 (@scr_eq x y))
  rw [← hD]
  have HQ := Lib.hid hQ
  clear hD hQ
  have HF := Lib.hid hf
  have HXT := Lib.hid hxt
  have HXF := Lib.hid hxf
  have HYT := Lib.hid hyt
  have HYF := Lib.hid hyf
  clear hf hxt hxf hyt hyf
  obtain ⟨xts, xq, xb, xr, xs, xfs⟩ := x
  obtain ⟨yts, yq, yb, yr, ys, yfs⟩ := y
  simp only at *
  go_enter Tryz.func9, Tryz.ntmps9
  go_upto_region 1 with fail
  have K0 : Kept [] w ((w.alloc (.cells #[.slice xta xts.length xtc, .string xq, .int .i64 xb, .int .i64 xr, .int .i64 xs, .slice xfa xfs.length xfc] 25)).alloc (.cells #[.slice yta yts.length ytc, .string yq, .int .i64 yb, .int .i64 yr, .int .i64 ys, .slice yfa yfs.length yfc] 25)) := ((Kept.refl [] w).alloc _).alloc _
  have A1 : Arr ((w.alloc (.cells #[.slice xta xts.length xtc, .string xq, .int .i64 xb, .int .i64 xr, .int .i64 xs, .slice xfa xfs.length xfc] 25)).alloc (.cells #[.slice yta yts.length ytc, .string yq, .int .i64 yb, .int .i64 yr, .int .i64 ys, .slice yfa yfs.length yfc] 25)) w.heap.size 25 [.slice xta xts.length xtc, .string xq, .int .i64 xb, .int .i64 xr, .int .i64 xs, .slice xfa xfs.length xfc] := (Arr.new' rfl rfl : Arr (w.alloc (.cells #[.slice xta xts.length xtc, .string xq, .int .i64 xb, .int .i64 xr, .int .i64 xs, .slice xfa xfs.length xfc] 25)) w.heap.size 25 [.slice xta xts.length xtc, .string xq, .int .i64 xb, .int .i64 xr, .int .i64 xs, .slice xfa xfs.length xfc]).alloc _
  have A2 : Arr ((w.alloc (.cells #[.slice xta xts.length xtc, .string xq, .int .i64 xb, .int .i64 xr, .int .i64 xs, .slice xfa xfs.length xfc] 25)).alloc (.cells #[.slice yta yts.length ytc, .string yq, .int .i64 yb, .int .i64 yr, .int .i64 ys, .slice yfa yfs.length yfc] 25)) (w.heap.size + 1) 25 [.slice yta yts.length ytc, .string yq, .int .i64 yb, .int .i64 yr, .int .i64 ys, .slice yfa yfs.length yfc] := Arr.new' (by simp) rfl
  have HK0 := Lib.hid K0
  have HA1 := Lib.hid A1
  have HA2 := Lib.hid A2
  clear K0 A1 A2
  generalize (w.alloc (.cells #[.slice xta xts.length xtc, .string xq, .int .i64 xb, .int .i64 xr, .int .i64 xs, .slice xfa xfs.length xfc] 25)).alloc (.cells #[.slice yta yts.length ytc, .string yq, .int .i64 yb, .int .i64 yr, .int .i64 ys, .slice yfa yfs.length yfc] 25) = w1 at *
  have c0 := HA1.out.cell (i := 0) rfl
  have c1 := HA1.out.cell (i := 1) rfl
  have d0 := HA2.out.cell (i := 0) rfl
  have d1 := HA2.out.cell (i := 1) rfl
  have c2 := HA1.out.cell (i := 2) rfl
  have c3 := HA1.out.cell (i := 3) rfl
  have c4 := HA1.out.cell (i := 4) rfl
  have c5 := HA1.out.cell (i := 5) rfl
  have d2 := HA2.out.cell (i := 2) rfl
  have d3 := HA2.out.cell (i := 3) rfl
  have d4 := HA2.out.cell (i := 4) rfl
  have d5 := HA2.out.cell (i := 5) rfl
  obtain ⟨N, hN⟩ : ∃ N : Bool, N = decide (xq = yq ∧ xb = yb ∧ xr = yr ∧ xs = ys ∧ xfs.length = yfs.length ∧ xts.length = yts.length) := ⟨_, rfl⟩
  have HN := Lib.hid hN
  clear hN
  go_cut [52] (fun b wx => b = .bool (!N) ∧ wx = w1)
  case first =>
    by_cases h0 : xq = yq
    · by_cases h1 : xb = yb
      · by_cases h2 : xr = yr
        · by_cases h3 : xs = ys
          · by_cases h4 : xfs.length = yfs.length
            · by_cases h5 : xts.length = yts.length
              · have HD : Hid (N = true) := Lib.hid (HN.out.trans (decide_eq_true ⟨h0, h1, h2, h3, h4, h5⟩))
                have hI4 : (xfs.length : Int) = (yfs.length : Int) := by omega
                have hI5 : (xts.length : Int) = (yts.length : Int) := by omega
                clear HN HQ
                subst h0 h1 h2 h3
                go_wp2_with fail
                go_meet
                case rel => exact ⟨by rw [HD.out]; first | rfl | (simp <;> omega), rfl⟩
              · have HD : Hid (N = false) := Lib.hid (HN.out.trans (decide_eq_false (fun h => h5 h.2.2.2.2.2)))
                have hI : ¬ (xts.length : Int) = (yts.length : Int) := by omega
                clear HN HQ
                subst h0 h1 h2 h3
                go_wp2_with fail
                go_meet
                case rel => exact ⟨by rw [HD.out]; first | rfl | (simp <;> omega), rfl⟩
            · have HD : Hid (N = false) := Lib.hid (HN.out.trans (decide_eq_false (fun h => h4 h.2.2.2.2.1)))
              have hI : ¬ (xfs.length : Int) = (yfs.length : Int) := by omega
              clear HN HQ
              subst h0 h1 h2 h3
              go_wp2_with fail
              go_meet
              case rel => exact ⟨by rw [HD.out]; first | rfl | (simp <;> omega), rfl⟩
          · have HD : Hid (N = false) := Lib.hid (HN.out.trans (decide_eq_false (fun h => h3 h.2.2.2.1)))
            clear HN HQ
            subst h0 h1 h2
            go_wp2_with fail
            go_meet
            case rel => exact ⟨by rw [HD.out]; first | rfl | (simp <;> omega), rfl⟩
        · have HD : Hid (N = false) := Lib.hid (HN.out.trans (decide_eq_false (fun h => h2 h.2.2.1)))
          clear HN HQ
          subst h0 h1
          go_wp2_with fail
          go_meet
          case rel => exact ⟨by rw [HD.out]; first | rfl | (simp <;> omega), rfl⟩
      · have HD : Hid (N = false) := Lib.hid (HN.out.trans (decide_eq_false (fun h => h1 h.2.1)))
        clear HN HQ
        subst h0
        go_wp2_with fail
        go_meet
        case rel => exact ⟨by rw [HD.out]; first | rfl | (simp <;> omega), rfl⟩
    · have HD : Hid (N = false) := Lib.hid (HN.out.trans (decide_eq_false (fun h => h0 h.1)))
      have h0' : ¬ xq.toList = yq.toList := fun e => h0 (bytes_eq e)
      clear HN HQ h0
      go_wp2_with fail
      go_meet
      case rel => exact ⟨by rw [HD.out]; first | rfl | (simp <;> omega), rfl⟩
  case rest =>
    obtain ⟨rfl, hwc⟩ := hcut
    obtain ⟨w1, hw1⟩ : ∃ w1 : World, w1 = wc := ⟨_, rfl⟩
    subst hw1
    subst hwc
    cases hNb : N
    · have HE : Hid (D = false) := Lib.hid (HQ.out.trans (decide_eq_false (fun h => by
        have := HN.out
        rw [hNb] at this
        exact absurd ⟨h.2.1, h.2.2.1, h.2.2.2.1, h.2.2.2.2.1, by rw [h.2.2.2.2.2], by rw [h.1]⟩ (of_decide_eq_false this.symm))))
      clear hNb HN HQ c0 c1 c2 c3 c4 c5 d0 d1 d2 d3 d4 d5
      go_wp2_with fail
      go_ret
      exact ⟨by rw [HE.out]; rfl, HK0.out⟩
    · have hn : xq = yq ∧ xb = yb ∧ xr = yr ∧ xs = ys ∧ xfs.length = yfs.length ∧ xts.length = yts.length := of_decide_eq_true (by have := HN.out; rw [hNb] at this; exact this.symm)
      have HQ2 : Hid (D = decide (xts = yts ∧ xfs = yfs)) := Lib.hid (HQ.out.trans (decide_eq_decide.2 ⟨fun h => ⟨h.1, h.2.2.2.2.2⟩, fun h => ⟨h.1, hn.1, hn.2.1, hn.2.2.1, hn.2.2.2.1, h.2⟩⟩))
      have HFL := Lib.hid hn.2.2.2.2.1
      have HTL := Lib.hid hn.2.2.2.2.2
      clear hNb HN HQ hn c0 c1 c2 c3 c4 c5 d0 d1 d2 d3 d4 d5
      rw [← HFL.out] at HA2
      rw [← HTL.out] at HA2
      have hfl : (xfs.length : Int) ≤ 1000000 := by have := HF.out.faults; simp only at this; omega
      have htl : (xts.length : Int) ≤ 1000000 := by have := HF.out.tables; simp only at this; omega
      go_upto_block 0 with fail
      go_cut [5] (fun _ wx => Hid (xfs = yfs) ∧ Hid (Kept [] w1 wx))
      case first =>
        go_wp2_with fail
        go_loopg [5] xfs.length (fun g i wr => ∃ k : Nat, k + g = xfs.length ∧ i = .int .i64 k ∧ Hid (Kept [] w1 wr) ∧ Hid (xfs.take k = yfs.take k))
        case atStart => exact ⟨0, by omega, rfl, Lib.hid (Kept.refl _ _), Lib.hid rfl⟩
        case round =>
          obtain ⟨k, hk, rfl, HK, HT⟩ := hrel
          obtain ⟨wo, hwo⟩ : ∃ wo : World, wo = wr := ⟨_, rfl⟩
          subst hwo
          have hk0 : (0 : Int) ≤ (k : Int) := by omega
          have c5 := (HA1.out.kept HK.out (by simp)).cell (i := 5) rfl
          have d5 := (HA2.out.kept HK.out (by simp)).cell (i := 5) rfl
          by_cases hlt : k < xfs.length
          · obtain ⟨x, hx⟩ : ∃ x, xfs[k]? = some x := ⟨xfs[k], List.getElem?_eq_getElem hlt⟩
            obtain ⟨y, hy⟩ : ∃ y, yfs[k]? = some y := ⟨yfs[k]'(by rw [← HFL.out]; exact hlt), List.getElem?_eq_getElem _⟩
            obtain ⟨b1, o1, c1, he, _, _, x0⟩ := int_at ((HXF.out.kept HK0.out).kept HK.out) hx
            simp only [Value.slice.injEq, true_and] at he
            obtain ⟨rfl, rfl⟩ := he
            obtain ⟨b2, o2, c2, he, _, _, y0⟩ := int_at ((HYF.out.kept HK0.out).kept HK.out) hy
            rw [← HFL.out] at he
            simp only [Value.slice.injEq] at he
            obtain ⟨rfl, e7, rfl⟩ := he
            clear e7
            have hk1 : (k : Int) < (xfs.length : Int) := by omega
            have HXY := Lib.hid (And.intro hx hy)
            clear hx hy
            by_cases hxy : x = y
            · have HE := Lib.hid (take_eq HXY.out.1 HXY.out.2 HT.out hxy)
              subst hxy
              go_wp2_with fail
              go_quiet (fail)
              go_wp2_with fail
              go_roundg (xfs.length - (k + 1))
              case measure => omega
              case rel => exact ⟨k + 1, by omega, by go_num, Lib.hid (HK.out.drewN _), HE⟩
            · have HE : Hid (D = false) := Lib.hid (HQ2.out.trans (decide_eq_false (fun h => ne_of_at HXY.out.1 HXY.out.2 hxy h.2)))
              have hxy' : ¬ x = y := hxy
              go_wp2_with fail
              go_quiet (fail)
              go_wp2_with fail
              go_ret
              exact ⟨by rw [HE.out]; rfl, (HK0.out.trans HK.out).drewN _⟩
          · obtain rfl : k = xfs.length := by omega
            have HE := Lib.hid (eq_of_take HFL.out HT.out)
            clear hk hlt
            go_wp2_with fail
            go_meet
            case rel => exact ⟨HE, HK⟩
      case rest =>
        obtain ⟨HFE, HKF⟩ := hcut
        have HA3 := Lib.hid (HA1.out.kept HKF.out (by simp))
        have HA4 := Lib.hid (HA2.out.kept HKF.out (by simp))
        have HKW := Lib.hid (HK0.out.trans HKF.out)
        clear HA1 HA2 HK0 HKF
        have HQ3 : Hid (D = decide (xts = yts)) := Lib.hid (HQ2.out.trans (decide_eq_decide.2 ⟨fun h => h.1, fun h => ⟨h, HFE.out⟩⟩))
        clear HQ2
        obtain ⟨w2, hw2⟩ : ∃ w2 : World, w2 = wc := ⟨_, rfl⟩
        subst hw2
        go_wp2_with fail
        go_loopg [6, 7, 8] xts.length (fun g i v7 v8 wr => ∃ k : Nat, k + g = xts.length ∧ i = .int .i64 k ∧ Hid (Kept [] w2 wr) ∧ Hid (xts.take k = yts.take k))
        case atStart => exact ⟨0, by omega, rfl, Lib.hid (Kept.refl _ _), Lib.hid rfl⟩
        case round =>
          obtain ⟨k, hk, rfl, HK, HT⟩ := hrel
          obtain ⟨wo, hwo⟩ : ∃ wo : World, wo = wr := ⟨_, rfl⟩
          subst hwo
          have hk0 : (0 : Int) ≤ (k : Int) := by omega
          have hA5 := HA3.out.kept HK.out (by simp)
          have hA6 := HA4.out.kept HK.out (by simp)
          have c0 := hA5.cell (i := 0) rfl
          have d0 := hA6.cell (i := 0) rfl
          have hla := hA5.lt
          have hlb := hA6.lt
          clear hA5 hA6
          by_cases hlt : k < xts.length
          · obtain ⟨x, hx⟩ : ∃ x, xts[k]? = some x := ⟨xts[k], List.getElem?_eq_getElem hlt⟩
            obtain ⟨y, hy⟩ : ∃ y, yts[k]? = some y := ⟨yts[k]'(by rw [← HTL.out]; exact hlt), List.getElem?_eq_getElem _⟩
            obtain ⟨b1, o1, c1, xca, xcn, xcc, xra, xrn, xrc, he, _, hbs1, x0, x1, x2, hxc, hxr⟩ := tbl_at ((HXT.out.kept HKW.out).kept HK.out) hx
            simp only [Value.slice.injEq, true_and] at he
            obtain ⟨rfl, rfl⟩ := he
            obtain ⟨b2, o2, c2, yca, ycn, ycc, yra, yrn, yrc, he, _, hbs2, y0, y1, y2, hyc, hyr⟩ := tbl_at ((HYT.out.kept HKW.out).kept HK.out) hy
            rw [← HTL.out] at he
            simp only [Value.slice.injEq] at he
            obtain ⟨rfl, e7, rfl⟩ := he
            clear e7
            have hk1 : (k : Int) < (xts.length : Int) := by omega
            have HXY := Lib.hid (And.intro hx hy)
            have HFX := Lib.hid (HF.out.table x (List.mem_of_getElem? hx))
            have HXC := Lib.hid hxc
            have HXR := Lib.hid hxr
            have HYC := Lib.hid hyc
            have HYR := Lib.hid hyr
            clear hx hy hxc hxr hyc hyr
            go_wp2_with fail
            go_cut [7, 8] (fun v7 v8 wx => ∃ p7 p8 : Nat, v7 = .pointer (some ⟨p7, 0, none⟩) ∧ v8 = .pointer (some ⟨p8, 0, none⟩) ∧ Hid (Arr wx p7 53 [.string x.name, .slice xca xcn xcc, .slice xra xrn xrc]) ∧ Hid (Arr wx p8 53 [.string y.name, .slice yca ycn ycc, .slice yra yrn yrc]) ∧ Hid (Kept [] wo wx))
            case first =>
              have e1 : ¬ b1 = wo.heap.size := by omega
              have e2 : ¬ b2 = wo.heap.size := by omega
              have e3 : b1 < wo.heap.size + 1 := by omega
              have e4 : b2 < wo.heap.size + 1 := by omega
              go_region_held3 (fun w' => w'.cell? ⟨w.heap.size, 0, none⟩ = some (.slice (some ⟨b1, o1, none⟩) xts.length xtc) ∧ w'.cell? ⟨w.heap.size + 1, 0, none⟩ = some (.slice (some ⟨b2, o2, none⟩) xts.length ytc) ∧ w'.cell? ⟨b1, o1 + k * 3, none⟩ = some (.string x.name) ∧ w'.cell? ⟨b1, o1 + k * 3 + 1, none⟩ = some (.slice xca xcn xcc) ∧ w'.cell? ⟨b1, o1 + k * 3 + 2, none⟩ = some (.slice xra xrn xrc) ∧ w'.cell? ⟨b2, o2 + k * 3, none⟩ = some (.string y.name) ∧ w'.cell? ⟨b2, o2 + k * 3 + 1, none⟩ = some (.slice yca ycn ycc) ∧ w'.cell? ⟨b2, o2 + k * 3 + 2, none⟩ = some (.slice yra yrn yrc))
                (first | with_reducible exact ⟨c0, d0, x0, x1, x2, y0, y1, y2⟩ | go_keep)
                (fail)
              · have kd : Kept [] wo ((wo.alloc (Obj.cells #[.string x.name, .slice xca xcn xcc, .slice xra xrn xrc] 53)).alloc (Obj.cells #[.string y.name, .slice yca ycn ycc, .slice yra yrn yrc] 53)).drew := (((Kept.refl [] wo).alloc _).alloc _).drew
                have ha : Arr ((wo.alloc (Obj.cells #[.string x.name, .slice xca xcn xcc, .slice xra xrn xrc] 53)).alloc (Obj.cells #[.string y.name, .slice yca ycn ycc, .slice yra yrn yrc] 53)).drew wo.heap.size 53 [.string x.name, .slice xca xcn xcc, .slice xra xrn xrc] := (Arr.new' rfl rfl : Arr (wo.alloc (Obj.cells #[.string x.name, .slice xca xcn xcc, .slice xra xrn xrc] 53)) wo.heap.size 53 [.string x.name, .slice xca xcn xcc, .slice xra xrn xrc]).alloc _
                have hb2 : Arr ((wo.alloc (Obj.cells #[.string x.name, .slice xca xcn xcc, .slice xra xrn xrc] 53)).alloc (Obj.cells #[.string y.name, .slice yca ycn ycc, .slice yra yrn yrc] 53)).drew (wo.heap.size + 1) 53 [.string y.name, .slice yca ycn ycc, .slice yra yrn yrc] := Arr.new' (by simp) rfl
                have HKD := Lib.hid kd
                have HAA := Lib.hid ha
                have HBB := Lib.hid hb2
                clear kd ha hb2
                go_wp2_with fail
                go_meet
                case rel => exact ⟨_, _, rfl, rfl, HAA, HBB, HKD⟩
              · have kd : Kept [] wo ((wo.alloc (Obj.cells #[.string y.name, .slice yca ycn ycc, .slice yra yrn yrc] 53)).alloc (Obj.cells #[.string x.name, .slice xca xcn xcc, .slice xra xrn xrc] 53)).drew := (((Kept.refl [] wo).alloc _).alloc _).drew
                have ha : Arr ((wo.alloc (Obj.cells #[.string y.name, .slice yca ycn ycc, .slice yra yrn yrc] 53)).alloc (Obj.cells #[.string x.name, .slice xca xcn xcc, .slice xra xrn xrc] 53)).drew wo.heap.size 53 [.string y.name, .slice yca ycn ycc, .slice yra yrn yrc] := (Arr.new' rfl rfl : Arr (wo.alloc (Obj.cells #[.string y.name, .slice yca ycn ycc, .slice yra yrn yrc] 53)) wo.heap.size 53 [.string y.name, .slice yca ycn ycc, .slice yra yrn yrc]).alloc _
                have hb2 : Arr ((wo.alloc (Obj.cells #[.string y.name, .slice yca ycn ycc, .slice yra yrn yrc] 53)).alloc (Obj.cells #[.string x.name, .slice xca xcn xcc, .slice xra xrn xrc] 53)).drew (wo.heap.size + 1) 53 [.string x.name, .slice xca xcn xcc, .slice xra xrn xrc] := Arr.new' (by simp) rfl
                have HKD := Lib.hid kd
                have HAA := Lib.hid ha
                have HBB := Lib.hid hb2
                clear kd ha hb2
                go_wp2_with fail
                go_meet
                case rel => exact ⟨_, _, rfl, rfl, HBB, HAA, HKD⟩
            case rest =>
              obtain ⟨p7, p8, rfl, rfl, H7, H8, HK3⟩ := hcut
              have HK4 := Lib.hid (HK.out.trans HK3.out)
              clear c0 d0 x0 x1 x2 y0 y1 y2
              have c0 := H7.out.cell (i := 0) rfl
              have c1 := H7.out.cell (i := 1) rfl
              have d0 := H8.out.cell (i := 0) rfl
              have d1 := H8.out.cell (i := 1) rfl
              have hno : ¬ x = y → D = false := fun hne => HQ3.out.trans (decide_eq_false (ne_of_at HXY.out.1 HXY.out.2 hne))
              have HNO := Lib.hid hno
              clear hno
              by_cases hnm : x.name = y.name
              · have HNM := Lib.hid hnm
                have hnl : x.name.toList = y.name.toList := by rw [hnm]
                have hcc : Calls Tryz.prog 26 #[.slice xca xcn xcc, .slice yca ycn ycc] wc (BoolPost (decide (x.cols = y.cols)) wc) := ref13_cols wc _ _ x.cols y.cols (HXC.out.kept HK3.out) (HYC.out.kept HK3.out) (by have := HFX.out.cols; omega)
                have HCC := Lib.hid hcc
                clear hcc hnm
                go_wp2_with fail
                refine HCC.out.mono ?_
                rintro e w3 ⟨rfl, hk3⟩
                have HK5 := Lib.hid (HK4.out.trans hk3)
                have hcr : Calls Tryz.prog 27 #[.slice xra xrn xrc, .slice yra yrn yrc] w3 (BoolPost (decide (x.rows = y.rows)) w3) := ref02_list w3 _ _ x.rows y.rows ((HXR.out.kept HK3.out).kept hk3) ((HYR.out.kept HK3.out).kept hk3) (by have := HFX.out.rows; omega) HFX.out.row
                have HCR := Lib.hid hcr
                have c2 := (H7.out.kept hk3 (by simp)).cell (i := 2) rfl
                have d2 := (H8.out.kept hk3 (by simp)).cell (i := 2) rfl
                clear hcr hk3 c0 c1 d0 d1 HCC
                by_cases hcl : x.cols = y.cols
                · have HCL := Lib.hid hcl
                  rw [decide_eq_true hcl]
                  clear hcl
                  go_wp2_with fail
                  refine HCR.out.mono ?_
                  rintro e w4 ⟨rfl, hk4⟩
                  have HK6 := Lib.hid (HK5.out.trans hk4)
                  clear hk4 c2 d2 HCR
                  by_cases hrw : x.rows = y.rows
                  · have HTT := Lib.hid (take_eq HXY.out.1 HXY.out.2 HT.out (tbl_eq.2 ⟨HNM.out, HCL.out, hrw⟩))
                    rw [decide_eq_true hrw]
                    clear hrw hnl
                    go_wp2_with fail
                    go_roundg (xts.length - (k + 1))
                    case measure => omega
                    case rel => exact ⟨k + 1, by omega, by go_num, HK6, HTT⟩
                  · have HE := Lib.hid (HNO.out (fun h => hrw (tbl_eq.1 h).2.2))
                    rw [decide_eq_false hrw]
                    clear hrw hnl
                    go_wp2_with fail
                    go_ret
                    exact ⟨by rw [HE.out]; rfl, HKW.out.trans HK6.out⟩
                · have HE := Lib.hid (HNO.out (fun h => hcl (tbl_eq.1 h).2.1))
                  rw [decide_eq_false hcl]
                  clear hcl hnl
                  go_wp2_with fail
                  go_ret
                  exact ⟨by rw [HE.out]; rfl, HKW.out.trans HK5.out⟩
              · have hnl : ¬ x.name.toList = y.name.toList := fun e => hnm (bytes_eq e)
                have HE := Lib.hid (HNO.out (fun h => hnm (tbl_eq.1 h).1))
                clear hnm
                go_wp2_with fail
                go_ret
                exact ⟨by rw [HE.out]; rfl, HKW.out.trans HK4.out⟩
          · obtain rfl : k = xts.length := by omega
            have HE : Hid (D = true) := Lib.hid (HQ3.out.trans (decide_eq_true (eq_of_take HTL.out HT.out)))
            clear hk hlt
            go_wp2_with fail
            go_ret
            exact ⟨by rw [HE.out]; rfl, HKW.out.trans HK.out⟩
end Go.Proofs.YtkodiogkldboiaaGreatDoor
/- row.reader: next. -/
namespace Go.Proofs.YtkodiogkldboiaaGreatDoor
open Go.RowKit

/-- A slice value reads as bytes; P is asked of its block. -/
def BAt (w : World) (P : Nat → Prop) (v : Value) (l : List UInt8) : Prop := (kint .u8).At w P v (l.map (fun c => (c.toNat : Int)))

/-- A reader of rows in memory. -/
def RdAt (w : World) (p : Nat) (ba : Option Addr) (bc : Nat) (B : List UInt8) (at_ : Nat) (bad : Bool) : Prop :=
  Arr w p 127 [.slice ba B.length bc, .int .i64 (at_ : Int), .bool bad]

def NextPost (p : Nat) (ba : Option Addr) (bc : Nat) (B : List UInt8) (at_ n : Nat) (ok : Bool) (w : World) (en : Ending) (w' : World) : Prop :=
  ∃ v, en = .returned v ∧ BAt w' (fun b => b ≠ p) v (if ok then (B.drop at_).take n else List.replicate n 0) ∧ RdAt w' p ba bc B (if ok then at_ + n else at_) (!ok) ∧ Kept [p] w w'

theorem zeros_at {w : World} {base b n P : Nat} (h : w.ownsRow base 5 1 (.slice (some ⟨b, 0, none⟩) n n) n (madeCells (Value.int .u8 0).cells (n * 1)).toList) (hp : b ≠ P) : BAt w (fun c => c ≠ P) (.slice (some ⟨b, 0, none⟩) n n) (List.replicate n 0) := by
  refine ⟨some ⟨b, 0, none⟩, n, by simp, by simp, fun j x hx => ?_⟩
  have hj : j < n := by have := get_lt hx; simpa using this
  have hx0 : x = 0 := by simpa [List.getElem?_map, hj] using hx.symm
  subst hx0
  refine ⟨b, 0, [.int .u8 0], rfl, hp, (own_base h rfl).2, rfl, fun i u hu => ?_⟩
  match i, hu with
  | 0, hu =>
    simp at hu; subst hu
    have := own_cell h j (.int .u8 0) (by simp [madeCells, Value.cells, hj, Nat.mod_one])
    simpa [kint] using this
  | i + 1, hu => simp at hu

set_option maxRecDepth 100000 in
set_option maxHeartbeats 3200000 in
theorem rd_next_bad (w : World) (p : Nat) (ba : Option Addr) (bc at_ n : Nat) (B : List UInt8) (h : RdAt w p ba bc B at_ true) (hn : (n : Int) ≤ 255) : Calls Tryz.prog 108 #[.pointer (some ⟨p, 0, none⟩), .int .i64 (n : Int)] w (NextPost p ba bc B at_ n false w) := by
  have H := Lib.hid h
  have c0 := Arr.cell h (i := 0) rfl
  have c1 := Arr.cell h (i := 1) rfl
  have c2 := Arr.cell h (i := 2) rfl
  have f2 := Arr.free h 2
  have hlt := Arr.lt h
  have hn0 : (0 : Int) ≤ (n : Int) := by omega
  clear h
  go_enter Tryz.func108, Tryz.ntmps108
  go_wp2_with fail
  go_quiet (fail)
  obtain ⟨i0, hi0, hz0, hz1, hz2⟩ := info_parts Tryz.info5
  go_wp2_with (at_make; refine wpList_make_full _ rfl _ _ 28 rfl w.heap.size 5 i0 (.int .u8 0) 1 Tryz.underlying28 hi0 hz0 hz1 .i64 .i64 _ _ n rfl rfl rfl rfl (by rw [hz2]; omega) (by unfold maxLen; omega) (by simp) ?_; intro w3 ho hg)
  go_ret
  have KS : Kept [p] w ((w.drewN nq).setCell ⟨p, 2, none⟩ (.bool true)) := (Kept.drewN (Kept.refl [p] w) nq).setCell (.inl (by simp)) _
  have kg := grown_kept hg
  have hA : Arr ((w.drewN nq).setCell ⟨p, 2, none⟩ (.bool true)) p 127 [.slice ba B.length bc, .int .i64 (at_ : Int), .bool true] := Arr.set (show Arr (w.drewN nq) p 127 _ from H.out) 2 (.bool true)
  have hsz : ((w.drewN nq).setCell ⟨p, 2, none⟩ (.bool true)).heap.size = w.heap.size := by simp
  rw [hsz] at ho
  exact ⟨_, rfl, zeros_at ho (by omega), hA.kept kg (by simp), KS.trans (kg.mono (by simp))⟩

set_option maxRecDepth 100000 in
set_option maxHeartbeats 3200000 in
theorem rd_next_far (w : World) (p : Nat) (ba : Option Addr) (bc at_ n : Nat) (B : List UInt8) (h : RdAt w p ba bc B at_ false) (hn : (n : Int) ≤ 255) (hb : (B.length : Int) ≤ 16777216) (hat : at_ ≤ B.length) (hf : ¬ at_ + n ≤ B.length) : Calls Tryz.prog 108 #[.pointer (some ⟨p, 0, none⟩), .int .i64 (n : Int)] w (NextPost p ba bc B at_ n false w) := by
  have H := Lib.hid h
  have c0 := Arr.cell h (i := 0) rfl
  have c1 := Arr.cell h (i := 1) rfl
  have c2 := Arr.cell h (i := 2) rfl
  have f2 := Arr.free h 2
  have hlt := Arr.lt h
  have hn0 : (0 : Int) ≤ (n : Int) := by omega
  have ha0 : (at_ : Int) ≤ (B.length : Int) := by omega
  have hd : (B.length : Int) - (at_ : Int) < (n : Int) := by omega
  clear h hf hat
  go_enter Tryz.func108, Tryz.ntmps108
  go_wp2_with fail
  go_quiet (fail)
  obtain ⟨i0, hi0, hz0, hz1, hz2⟩ := info_parts Tryz.info5
  go_wp2_with (at_make; refine wpList_make_full _ rfl _ _ 28 rfl w.heap.size 5 i0 (.int .u8 0) 1 Tryz.underlying28 hi0 hz0 hz1 .i64 .i64 _ _ n rfl rfl rfl rfl (by rw [hz2]; omega) (by unfold maxLen; omega) (by simp) ?_; intro w3 ho hg)
  go_ret
  have KS : Kept [p] w ((w.drewN nq).setCell ⟨p, 2, none⟩ (.bool true)) := (Kept.drewN (Kept.refl [p] w) nq).setCell (.inl (by simp)) _
  have kg := grown_kept hg
  have hA : Arr ((w.drewN nq).setCell ⟨p, 2, none⟩ (.bool true)) p 127 [.slice ba B.length bc, .int .i64 (at_ : Int), .bool true] := Arr.set (show Arr (w.drewN nq) p 127 _ from H.out) 2 (.bool true)
  have hsz : ((w.drewN nq).setCell ⟨p, 2, none⟩ (.bool true)).heap.size = w.heap.size := by simp
  rw [hsz] at ho
  exact ⟨_, rfl, zeros_at ho (by omega), hA.kept kg (by simp), KS.trans (kg.mono (by simp))⟩

theorem BAt.sub {w : World} {P : Nat → Prop} {b o cap at_ n c : Nat} {l : List UInt8} (h : BAt w P (.slice (some ⟨b, o, none⟩) l.length cap) l) (hn : at_ + n ≤ l.length) (hc : n ≤ c) : BAt w P (.slice (some ⟨b, o + at_, none⟩) n c) ((l.drop at_).take n) := by
  have hl : ((l.drop at_).take n).length = n := by simp; omega
  refine ⟨_, c, by rw [List.length_map, hl], by rw [List.length_map, hl]; exact hc, fun j x hx => ?_⟩
  have hj : j < n := by have := get_lt hx; rw [List.length_map, hl] at this; exact this
  have hx2 : (l.map (fun c => (c.toNat : Int)))[at_ + j]? = some x := by
    rw [List.getElem?_map] at hx ⊢
    rw [List.getElem?_take_of_lt hj, List.getElem?_drop] at hx
    exact hx
  obtain ⟨b1, o1, c1, he, hp, hb, hcell⟩ := int_at h hx2
  simp only [List.length_map, Value.slice.injEq, Option.some.injEq, Addr.mk.injEq, and_true, true_and] at he
  obtain ⟨⟨rfl, rfl⟩, rfl⟩ := he
  refine ⟨b, o + at_, [.int .u8 x], rfl, hp, hb, rfl, fun i u hu => ?_⟩
  match i, hu with
  | 0, hu =>
    simp at hu; subst hu
    rw [show o + at_ + j * (kint .u8).sz + 0 = o + (at_ + j) by simp [kint]; omega]
    exact hcell
  | i + 1, hu => simp at hu

set_option maxRecDepth 100000 in
set_option maxHeartbeats 3200000 in
theorem rd_next_ok (w : World) (p : Nat) (ba : Option Addr) (bc at_ n : Nat) (B : List UInt8) (h : RdAt w p ba bc B at_ false) (hba : BAt w (fun b => b ≠ p) (.slice ba B.length bc) B) (h0 : 0 < B.length) (hn : (n : Int) ≤ 255) (hb : (B.length : Int) ≤ 16777216) (hf : at_ + n ≤ B.length) : Calls Tryz.prog 108 #[.pointer (some ⟨p, 0, none⟩), .int .i64 (n : Int)] w (NextPost p ba bc B at_ n true w) := by
  have H := Lib.hid h
  have HB := Lib.hid hba
  obtain ⟨x0, hx0⟩ : ∃ x, (B.map (fun c => (c.toNat : Int)))[0]? = some x := ⟨_, List.getElem?_eq_getElem (by simpa using h0)⟩
  obtain ⟨b, o, cap', he, hp, hbs, _⟩ := int_at hba hx0
  simp only [List.length_map, Value.slice.injEq, true_and] at he
  obtain ⟨rfl, rfl⟩ := he
  have c0 := Arr.cell h (i := 0) rfl
  have c1 := Arr.cell h (i := 1) rfl
  have c2 := Arr.cell h (i := 2) rfl
  have f1 := Arr.free h 1
  have hlt := Arr.lt h
  obtain ⟨_, _, he, hcap⟩ := hba.form
  simp only [List.length_map, Value.slice.injEq, true_and] at he hcap
  obtain ⟨rfl, rfl⟩ := he
  have hn0 : (0 : Int) ≤ (n : Int) := by omega
  have d1 : ¬ (B.length : Int) - (at_ : Int) < (n : Int) := by omega
  have d2 : (at_ : Int) + (n : Int) - (n : Int) = (at_ : Int) := by omega
  have d3 : (at_ : Int) + (n : Int) ≤ (bc : Int) := by omega
  have d4 : (at_ : Int) ≤ (at_ : Int) + (n : Int) := by omega
  have d5 : (0 : Int) ≤ (at_ : Int) := by omega
  have d6 : ((at_ : Int) + (n : Int)).toNat = at_ + n := by omega
  have d7 : (at_ : Int) + (n : Int) ≤ 16777216 := by omega
  clear h hba hx0
  go_enter Tryz.func108, Tryz.ntmps108
  go_wp2_with fail
  go_quiet (fail)
  go_wp2_with fail
  have KS : Kept [p] w ((w.drewN nq).setCell ⟨p, 1, none⟩ (.int .i64 ((at_ : Int) + (n : Int)))) := (Kept.drewN (Kept.refl [p] w) nq).setCell (.inl (by simp)) _
  have hA : Arr ((w.drewN nq).setCell ⟨p, 1, none⟩ (.int .i64 ((at_ : Int) + (n : Int)))) p 127 [.slice (some ⟨b, o, none⟩) B.length bc, .int .i64 ((at_ : Int) + (n : Int)), .bool false] := Arr.set (show Arr (w.drewN nq) p 127 _ from H.out) 1 _
  generalize (w.drewN nq).setCell ⟨p, 1, none⟩ (.int .i64 ((at_ : Int) + (n : Int))) = wS at *
  have HKS := Lib.hid KS
  have HAS : Hid (RdAt wS p (some ⟨b, o, none⟩) bc B (at_ + n) false) := Lib.hid (by unfold RdAt; rw [Int.natCast_add]; exact hA)
  have g0 := hA.cell (i := 0) rfl
  have g1 := hA.cell (i := 1) rfl
  have HBS := Lib.hid (HB.out.next (Q := fun b => b ≠ p) KS (by simp) (fun _ h _ => h))
  clear KS hA c0 c1 c2 f1 hlt
  rcases Nat.eq_zero_or_pos n with hz | hz
  · subst hz
    go_quiet (fail)
    go_wp2_with fail
    all_goals
      go_ret
      refine ⟨_, rfl, ?_, (by first | exact HAS.out | (have hh := HAS.out; have e : bc = at_ := by omega
                                                       rw [e] at hh; exact hh)), HKS.out.drewN _⟩
      rw [if_pos rfl, List.take_zero]
      exact ⟨_, _, rfl, Nat.zero_le _, fun j x h => by simp at h⟩
  · have e1 : ¬ n = 0 := by omega
    have e2 : 0 < n := hz
    go_quiet (fail)
    go_wp2_with fail
    all_goals
      go_ret
      refine ⟨_, rfl, ?_, HAS.out, HKS.out.drewN _⟩
      rw [if_pos rfl]
      exact BAt.sub (show BAt (wS.drewN _) _ _ _ from HBS.out) hf (by omega)

/-- Are there so many bytes left? -/
def okN (bad : Bool) (at_ n len : Nat) : Bool := !bad && decide (at_ + n ≤ len)
theorem rd_next (w : World) (p : Nat) (ba : Option Addr) (bc at_ n : Nat) (B : List UInt8) (bad : Bool) (h : RdAt w p ba bc B at_ bad) (hba : BAt w (fun b => b ≠ p) (.slice ba B.length bc) B) (hat : at_ ≤ B.length) (h0 : 0 < B.length ∨ 0 < n) (hn : (n : Int) ≤ 255) (hb : (B.length : Int) ≤ 16777216) : Calls Tryz.prog 108 #[.pointer (some ⟨p, 0, none⟩), .int .i64 (n : Int)] w (NextPost p ba bc B at_ n (okN bad at_ n B.length) w) := by
  cases bad with
  | true => exact rd_next_bad w p ba bc at_ n B h hn
  | false =>
    by_cases hf : at_ + n ≤ B.length
    · rw [show okN false at_ n B.length = true by unfold okN; rw [decide_eq_true hf]; rfl]
      exact rd_next_ok w p ba bc at_ n B h hba (by omega) hn hb hf
    · rw [show okN false at_ n B.length = false by unfold okN; rw [decide_eq_false hf]; rfl]
      exact rd_next_far w p ba bc at_ n B h hn hb hat hf

/-- The byte that is read; 0 where there is none. -/
def byteM (B : List UInt8) (at_ : Nat) (bad : Bool) : Nat := if okN bad at_ 1 B.length then (B.getD at_ 0).toNat else 0
def BytePost (p : Nat) (ba : Option Addr) (bc : Nat) (B : List UInt8) (at_ : Nat) (bad : Bool) (w : World) (en : Ending) (w' : World) : Prop :=
  en = .returned (.int .i64 (byteM B at_ bad : Int)) ∧ RdAt w' p ba bc B (if okN bad at_ 1 B.length then at_ + 1 else at_) (!okN bad at_ 1 B.length) ∧ Kept [p] w w'
set_option maxRecDepth 100000 in
set_option maxHeartbeats 1600000 in
theorem rd_byte (w : World) (p : Nat) (ba : Option Addr) (bc at_ : Nat) (B : List UInt8) (bad : Bool) (h : RdAt w p ba bc B at_ bad) (hba : BAt w (fun b => b ≠ p) (.slice ba B.length bc) B) (hat : at_ ≤ B.length) (hb : (B.length : Int) ≤ 16777216) : Calls Tryz.prog 95 #[.pointer (some ⟨p, 0, none⟩)] w (BytePost p ba bc B at_ bad w) := by
  have HN : Hid (Calls Tryz.prog 108 #[.pointer (some ⟨p, 0, none⟩), .int .i64 1] w (NextPost p ba bc B at_ 1 (okN bad at_ 1 B.length) w)) := Lib.hid (rd_next w p ba bc at_ 1 B bad h hba hat (.inr (by decide)) (by decide) hb)
  clear h hba
  go_enter Tryz.func95, Tryz.ntmps95
  go_wp2_with fail
  refine HN.out.mono ?_
  rintro e w2 ⟨v, rfl, hv, hr, hk⟩
  have hx : ((if okN bad at_ 1 B.length then (B.drop at_).take 1 else List.replicate 1 0).map (fun c => (c.toNat : Int)))[0]? = some (byteM B at_ bad : Int) := by
    unfold byteM
    cases hq : okN bad at_ 1 B.length with
    | false => simp
    | true =>
      have : at_ + 1 ≤ B.length := by unfold okN at hq; simp at hq; exact hq.2
      simp only [if_true, List.getElem?_map]
      rw [List.getElem?_take_of_lt (by decide), List.getElem?_drop, List.getElem?_eq_getElem (by omega)]
      simp [List.getD, show at_ < B.length by omega]
  obtain ⟨b, o, cap, he, _, _, c0⟩ := int_at hv hx
  have hl : ((if okN bad at_ 1 B.length then (B.drop at_).take 1 else List.replicate 1 0).map (fun c => (c.toNat : Int))).length = 1 := by
    cases hq : okN bad at_ 1 B.length with
    | false => simp
    | true =>
      have : at_ + 1 ≤ B.length := by unfold okN at hq; simp at hq; exact hq.2
      simp; omega
  rw [hl] at he
  subst he
  have HR := Lib.hid hr
  have HK := Lib.hid hk
  have hm : byteM B at_ bad < 256 := by unfold byteM; split; exact UInt8.toNat_lt _; omega
  have hm1 : (byteM B at_ bad : Int) < 256 := by omega
  clear hr hk hv hx hl
  rw [Nat.add_zero] at c0
  generalize hmm : byteM B at_ bad = mm at *
  have HMM := Lib.hid hmm
  clear hmm
  go_wp2_with fail
  go_ret
  exact ⟨ret_int (by rw [HMM.out]), HR.out, HK.out⟩
end Go.Proofs.YtkodiogkldboiaaGreatDoor
