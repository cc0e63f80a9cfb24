/- Rows: what may be, how many bytes, whether they fit columns; the references'. -/
import Derived.Shelf.Strings.Split
import Derived.Test.YtkodiogkldboiaaGreatDoorProg
import Derived.Test.YtkodiogkldboiaaGreatDoorM1
set_option linter.unusedVariables false
set_option linter.unusedSimpArgs false
namespace Go.Proofs.YtkodiogkldboiaaGreatDoor
open Go.RowKit

def rowErr (r : List Val) : Int := if rowOk r then 0 else 20

theorem any_odd (r : List Val) : r.any oddVal = !r.all valOk := by
  induction r with
  | nil => rfl
  | cons a r ih => simp only [List.any_cons, List.all_cons, ih, oddVal]; cases valOk a <;> rfl

set_option maxHeartbeats 1600000 in
theorem row_check (w : World) (v : Value) (r : List Val) (h : kval.At w Any v r) (hb : r.length ≤ 1000000) : Calls Tryz.prog 66 #[v] w (IntPost (rowErr r) w) := by
  have H := Lib.hid h
  obtain ⟨a, cap, rfl, _⟩ := h.form
  clear h
  by_cases hl : (32 : Int) < (r.length : Int)
  · have he : rowErr r = 20 := by unfold rowErr rowOk; rw [decide_eq_false (by omega)]; rfl
    rw [he]
    clear he
    go_enter Tryz.func66, Tryz.ntmps66
    go_wp2
    go_ret
    exact ⟨rfl, Kept.refl [] w⟩
  · cases hq : r.any oddVal
    all_goals
      have he : rowErr r = if r.any oddVal then 20 else 0 := by unfold rowErr rowOk; rw [decide_eq_true (by omega), any_odd]; cases r.all valOk <;> rfl
      rw [hq] at he
      have HE := Lib.hid he
      have HQ := Lib.hid hq
      clear he hq
      go_enter Tryz.func66, Tryz.ntmps66
      go_wp2_with fail
      refine (has_val79 oddVal _ _ _ H.out hb (fun x _ w' _ => row_odd w' x)).mono ?_
      rw [HQ.out]
      rintro e w2 ⟨rfl, hk⟩
      have HK := Lib.hid hk
      clear hk
      go_wp2_with fail
      go_ret
      exact ⟨ret_int (by rw [HE.out]; rfl), HK.out⟩

theorem any_take_all {α : Type} (p : α → Bool) (l : List α) (k : Nat) (x : α) (h : l[k]? = some x) : (l.take (k + 1)).all p = ((l.take k).all p && p x) := by
  rw [take_snoc l k x h, List.all_append]; simp

set_option maxHeartbeats 1600000 in
theorem ref02_check (w : World) (v : Value) (r : List Val) (h : kval.At w Any v r) (hb : r.length ≤ 1000000) : Calls Tryz.prog 101 #[v] w (BoolPost (rowOk r) w) := by
  have H := Lib.hid h
  obtain ⟨a, cap, rfl, _⟩ := h.form
  clear h
  go_enter Tryz.func101, Tryz.ntmps101
  go_wp2
  go_loopg [3] r.length (fun g i wr => ∃ k : Nat, k + g = r.length ∧ i = .int .i64 k ∧ Hid (Kept [] w wr ∧ (r.take k).all valOk = true))
  case atStart => exact ⟨0, by omega, rfl, Kept.refl _ _, by simp⟩
  case round =>
    obtain ⟨k, hk, rfl, hkp⟩ := hrel
    obtain ⟨wo, hwo⟩ : ∃ wo : World, wo = wr := ⟨_, rfl⟩
    subst hwo
    by_cases hlt : k < r.length
    · obtain ⟨x, hx⟩ : ∃ x, r[k]? = some x := ⟨r[k], by simp [hlt]⟩
      obtain ⟨b0, o0, cap', he, _, hbs, x0, x1, x2⟩ := val_at (H.out.kept hkp.out.1) hx
      simp only [Value.slice.injEq, true_and] at he
      obtain ⟨rfl, rfl⟩ := he
      have hk0 : (0 : Int) ≤ (k : Int) := by omega
      have hk1 : (k : Int) < (r.length : Int) := by omega
      have HT := Lib.hid (any_take_all valOk r k x hx)
      have HM := Lib.hid (List.mem_of_getElem? hx)
      clear hx
      go_wp2_with fail
      refine (ref01_check _ x).mono ?_
      rintro e w1 ⟨rfl, hk1'⟩
      have HK1 := Lib.hid (hkp.out.1.trans hk1')
      clear hk1' x0 x1 x2
      cases hq : valOk x with
      | true =>
        have HQ := Lib.hid hq
        clear hq
        go_wp2_with fail
        go_roundg (r.length - (k + 1))
        case measure => omega
        case rel => exact ⟨k + 1, by omega, by go_num, HK1.out, by rw [HT.out, hkp.out.2, HQ.out]; rfl⟩
      | false =>
        have HQ := Lib.hid hq
        clear hq
        go_wp2_with fail
        go_ret
        refine ⟨ret_bool ?_, HK1.out⟩
        unfold rowOk
        rw [show r.all valOk = false from Bool.eq_false_iff.2 (fun e => by have := List.all_eq_true.1 e x HM.out; rw [HQ.out] at this; cases this), Bool.and_false]
    · obtain rfl : k = r.length := by omega
      rw [List.take_length] at *
      go_wp2
      go_ret
      exact ⟨ret_bool (by unfold rowOk; rw [hkp.out.2, Bool.and_true]; exact decide_eq_decide.2 (by omega)), hkp.out.1⟩

/-- How many bytes a value has. -/
def valSize (v : Val) : Nat := if v.k = 1 then 2 else if v.k = 2 then 8 else if v.k = 3 then 2 + v.s.size else 1
def sizes (r : List Val) : Nat := (r.map valSize).sum
def rowSize (r : List Val) : Nat := if rowOk r then 1 + sizes r else 0

set_option maxHeartbeats 800000 in
theorem row_size1 (w : World) (x : Val) (hx : x.s.size ≤ 64) : Calls Tryz.prog 102 #[.agg #[.int .i64 x.k, .int .i64 x.n, .string x.s]] w (IntPost (valSize x) w) := by
  obtain ⟨k, n, s⟩ := x
  simp only at hx
  have hx' : (s.size : Int) ≤ 64 := by omega
  go_enter Tryz.func102, Tryz.ntmps102
  go_wp2
  all_goals
    go_ret
    refine ⟨ret_int ?_, Kept.alloc (Kept.refl [] w) _⟩
    simp_all [valSize]

theorem valOk_size {x : Val} (h : valOk x = true) : x.s.size ≤ 64 := by
  have e0 : ∀ s : ByteArray, s.toList.isEmpty = true → s.size = 0 := by
    intro s hs
    rw [List.isEmpty_iff, ByteArray.toList_eq] at hs
    have := congrArg List.length hs
    show s.data.size = 0
    simpa using this
  unfold valOk at h
  split at h
  · simp only [Bool.and_eq_true] at h; have := e0 _ h.2; omega
  · split at h
    · simp only [Bool.and_eq_true] at h; have := e0 _ h.2; omega
    · split at h
      · simp only [Bool.and_eq_true] at h; have := e0 _ h.2; omega
      · split at h
        · simp only [Bool.and_eq_true, decide_eq_true_eq] at h; exact h.2
        · simp at h

theorem sizes_snoc (r : List Val) (k : Nat) (x : Val) (h : r[k]? = some x) : sizes (r.take (k + 1)) = sizes (r.take k) + valSize x := by
  unfold sizes; rw [take_snoc r k x h, List.map_append, List.sum_append]; simp
theorem valSize_le {x : Val} (h : valOk x = true) : valSize x ≤ 66 := by
  have := valOk_size h
  unfold valSize; split <;> (try split) <;> (try split) <;> omega
theorem sizes_le (r : List Val) (h : r.all valOk = true) : sizes r ≤ 66 * r.length := by
  induction r with
  | nil => simp [sizes]
  | cons a r ih =>
    simp only [List.all_cons, Bool.and_eq_true] at h
    have := ih h.2
    have := valSize_le h.1
    simp only [sizes, List.map_cons, List.sum_cons, List.length_cons] at *
    omega

set_option maxHeartbeats 1600000 in
theorem row_size (w : World) (v : Value) (r : List Val) (h : kval.At w Any v r) (hb : r.length ≤ 1000000) : Calls Tryz.prog 87 #[v] w (IntPost (rowSize r) w) := by
  have H := Lib.hid h
  obtain ⟨a, cap, rfl, _⟩ := h.form
  clear h
  go_enter Tryz.func87, Tryz.ntmps87
  go_wp2_with fail
  refine (row_check _ _ r H.out hb).mono ?_
  rintro e w2 ⟨rfl, hk⟩
  have HK := Lib.hid hk
  clear hk
  cases hok : rowOk r with
  | false =>
    have he : rowErr r = 20 := by simp [rowErr, hok]
    have hs : rowSize r = 0 := by simp [rowSize, hok]
    rw [he]
    have HS := Lib.hid hs
    clear he hs hok
    go_wp2_with fail
    go_ret
    exact ⟨ret_int (by rw [HS.out]; rfl), HK.out⟩
  | true =>
    have he : rowErr r = 0 := by simp [rowErr, hok]
    have hs : rowSize r = 1 + sizes r := by simp [rowSize, hok]
    rw [he]
    have HSZ := Lib.hid hs
    have hall : r.all valOk = true := by unfold rowOk at hok; simp only [Bool.and_eq_true] at hok; exact hok.2
    have hl : r.length ≤ 32 := by unfold rowOk at hok; simp only [Bool.and_eq_true, decide_eq_true_eq] at hok; exact hok.1
    have HALL := Lib.hid hall
    clear he hs hok hall hb
    go_wp2_with fail
    go_loopg [3, 11] r.length (fun g n i wr => ∃ k : Nat, k + g = r.length ∧ i = .int .i64 k ∧ n = .int .i64 ((1 + sizes (r.take k) : Nat) : Int) ∧ Hid (Kept [] w wr))
    case atStart => exact ⟨0, by omega, rfl, by simp [sizes], HK⟩
    case round =>
      obtain ⟨k, hk, rfl, rfl, hkp⟩ := hrel
      obtain ⟨wo, hwo⟩ : ∃ wo : World, wo = wr := ⟨_, rfl⟩
      subst hwo
      by_cases hlt : k < r.length
      · obtain ⟨x, hx⟩ : ∃ x, r[k]? = some x := ⟨r[k], by simp [hlt]⟩
        obtain ⟨b0, o0, cap', he, _, hbs, x0, x1, x2⟩ := val_at (H.out.kept hkp.out) hx
        simp only [Value.slice.injEq, true_and] at he
        obtain ⟨rfl, rfl⟩ := he
        have hk0 : (0 : Int) ≤ (k : Int) := by omega
        have hk1 : (k : Int) < (r.length : Int) := by omega
        have hxo : valOk x = true := List.all_eq_true.1 HALL.out x (List.mem_of_getElem? hx)
        have HS := Lib.hid (valOk_size hxo)
        have hsn := sizes_snoc r k x hx
        have hle := sizes_le (r.take k) (List.all_eq_true.2 fun y hy => List.all_eq_true.1 HALL.out y (List.mem_of_mem_take hy))
        have hvl := valSize_le hxo
        have htl : (r.take k).length ≤ k := List.length_take_le _ _
        have HSN := Lib.hid hsn
        generalize hZ : sizes (r.take k) = Z at *
        have hz : (Z : Int) ≤ 3000 := by omega
        have hv2 : (valSize x : Int) ≤ 66 := by omega
        clear hx hxo hsn hle hvl htl hZ
        go_wp2_with fail
        refine (row_size1 _ x HS.out).mono ?_
        rintro e w3 ⟨rfl, hk3⟩
        have HK3 := Lib.hid (hkp.out.trans ((Kept.alloc (Kept.refl [] wo) _).trans hk3))
        clear hk3 x0 x1 x2
        go_wp2_with fail
        go_roundg (r.length - (k + 1))
        case measure => omega
        case rel => exact ⟨k + 1, by omega, by go_num, by rw [HSN.out]; go_num, HK3⟩
      · obtain rfl : k = r.length := by omega
        rw [List.take_length] at *
        go_wp2
        go_ret
        exact ⟨ret_int (by rw [HSZ.out]), hkp.out⟩
end Go.Proofs.YtkodiogkldboiaaGreatDoor
/- Whether a row fits columns: the package's, and the reference's. -/
namespace Go.Proofs.YtkodiogkldboiaaGreatDoor
open Go.RowKit

def fitAt (cols : List Col) (r : List Val) (j : Nat) : Bool :=
  match r[j]?, cols[j]? with
  | some x, some c => decide (x.k = 0 ∨ x.k = c.type)
  | _, _ => true
def fitB (cols : List Col) (r : List Val) : Bool := decide (r.length = cols.length) && rowOk r && (List.range r.length).all (fitAt cols r)

theorem Kept.drewN {S : List Nat} {a w : World} (h : Kept S a w) (n : Nat) : Kept S a (w.drewN n) := ⟨h.os, h.tape, h.output, h.size, h.block⟩
theorem range_all (p : Nat → Bool) (k : Nat) : (List.range (k + 1)).all p = ((List.range k).all p && p k) := by
  rw [List.range_succ, List.all_append]; simp
theorem range_false (p : Nat → Bool) (n k : Nat) (h : k < n) (hp : p k = false) : (List.range n).all p = false := by
  rw [Bool.eq_false_iff]; intro e
  have := List.all_eq_true.1 e k (by simpa using h)
  rw [hp] at this; cases this

set_option maxHeartbeats 3200000 in
theorem fits_any (w : World) (cv rv : Value) (cols : List Col) (r : List Val) (hc : kcol.At w Any cv cols) (hr : kval.At w Any rv r) (hb : r.length ≤ 1000000) (hbc : cols.length ≤ 1000000) : Calls Tryz.prog 86 #[cv, rv] w (BoolPost (fitB cols r) w) := by
  have HC := Lib.hid hc
  have HR := Lib.hid hr
  obtain ⟨a, cap, rfl, _⟩ := hc.form
  obtain ⟨a', cap', rfl, _⟩ := hr.form
  clear hc hr
  by_cases hl : r.length = cols.length
  · have hF : fitB cols r = (rowOk r && (List.range r.length).all (fitAt cols r)) := by unfold fitB; rw [decide_eq_true hl, Bool.true_and]
    have HF := Lib.hid hF
    have HL := Lib.hid hl
    have hl1 : ((r.length : Int) == (cols.length : Int)) = true := by rw [hl]; simp
    have hl2 : ((r.length : Int) != (cols.length : Int)) = false := by rw [hl]; simp
    have hl3 : (cols.length : Int) ≤ (r.length : Int) := by omega
    have hl4 : (r.length : Int) ≤ (cols.length : Int) := by omega
    clear hF hl
    go_enter Tryz.func86, Tryz.ntmps86
    go_wp2_with fail
    refine (row_check _ _ r HR.out hb).mono ?_
    rintro e w2 ⟨rfl, hk⟩
    have HK := Lib.hid hk
    clear hk
    cases hok : rowOk r with
    | false =>
      have he : rowErr r = 20 := by simp [rowErr, hok]
      rw [he]
      clear he
      rw [hok] at HF
      clear hok
      go_wp2_with fail
      go_ret
      exact ⟨ret_bool (by rw [HF.out]; rfl), HK.out⟩
    | true =>
      have he : rowErr r = 0 := by simp [rowErr, hok]
      rw [he]
      clear he
      rw [hok] at HF
      clear hok
      go_wp2_with fail
      go_loopg [19] r.length (fun g i wr => ∃ k : Nat, k + g = r.length ∧ i = .int .i64 k ∧ Hid (Kept [] w wr) ∧ Hid ((List.range k).all (fitAt cols r) = true))
      case atStart => exact ⟨0, by omega, rfl, HK, Lib.hid (by simp)⟩
      case round =>
        obtain ⟨k, hk, rfl, hkp, hall⟩ := hrel
        obtain ⟨wo, hwo⟩ : ∃ wo : World, wo = wr := ⟨_, rfl⟩
        subst hwo
        by_cases hlt : k < r.length
        · obtain ⟨x, hx⟩ : ∃ x, r[k]? = some x := ⟨r[k], by simp [hlt]⟩
          obtain ⟨c, hc⟩ : ∃ c, cols[k]? = some c := ⟨cols[k]'(by rw [← HL.out]; exact hlt), by simp [← HL.out, hlt]⟩
          obtain ⟨b0, o0, cap1, he, _, hbs, x0, x1, x2⟩ := val_at (HR.out.kept hkp.out) hx
          simp only [Value.slice.injEq, true_and] at he
          obtain ⟨rfl, rfl⟩ := he
          obtain ⟨b1, o1, cap2, he, _, hbs1, y0, y1, y2⟩ := col_at (HC.out.kept hkp.out) hc
          simp only [Value.slice.injEq, true_and] at he
          obtain ⟨rfl, rfl⟩ := he
          have hk0 : (0 : Int) ≤ (k : Int) := by omega
          have hk1 : (k : Int) < (r.length : Int) := by omega
          have hk2 : (k : Int) < (cols.length : Int) := by omega
          have hfit : fitAt cols r k = decide (x.k = 0 ∨ x.k = c.type) := by unfold fitAt; rw [hx, hc]
          have HT := Lib.hid (range_all (fitAt cols r) k)
          have HFIT := Lib.hid hfit
          have HX := Lib.hid hx
          have HCX := Lib.hid hc
          clear hx hc hfit y0 y1
          by_cases hz : x.k = 0
          · have hz1 : (x.k == 0) = true := by simpa using hz
            have hz2 : (x.k != 0) = false := by simpa using hz
            have HZ := Lib.hid hz
            rw [hz] at x0
            clear hz hz1 hz2
            go_wp2_with fail
            go_quiet (fail)
            go_wp2_with fail
            go_roundg (r.length - (k + 1))
            case measure => omega
            case rel => exact ⟨k + 1, by omega, by go_num, Lib.hid ((hkp.out.alloc _).drewN _), Lib.hid (by rw [HT.out, hall.out, HFIT.out, decide_eq_true (.inl HZ.out)]; rfl)⟩
          · have hz1 : (x.k == 0) = false := by simpa using hz
            have hz2 : (x.k != 0) = true := by simpa using hz
            by_cases ht : x.k = c.type
            · have ht1 : (x.k == c.type) = true := by simpa using ht
              have ht2 : (x.k != c.type) = false := by simpa using ht
              have HZ := Lib.hid ht
              clear hz ht
              go_wp2_with fail
              go_quiet (fail)
              go_wp2_with fail
              go_roundg (r.length - (k + 1))
              case measure => omega
              case rel => exact ⟨k + 1, by omega, by go_num, Lib.hid ((hkp.out.alloc _).drewN _), Lib.hid (by rw [HT.out, hall.out, HFIT.out, decide_eq_true (.inr HZ.out)]; rfl)⟩
            · have ht1 : (x.k == c.type) = false := by simpa using ht
              have ht2 : (x.k != c.type) = true := by simpa using ht
              have HF2 := Lib.hid (range_false (fitAt cols r) r.length k hlt (by rw [HFIT.out]; exact decide_eq_false (by omega)))
              clear hz ht
              go_wp2_with fail
              go_quiet (fail)
              go_wp2_with fail
              go_ret
              exact ⟨ret_bool (by rw [HF.out, HF2.out]; rfl), ((hkp.out.alloc _).drewN _)⟩
        · obtain rfl : k = r.length := by omega
          go_wp2_with fail
          go_ret
          exact ⟨ret_bool (by rw [HF.out, hall.out]; rfl), hkp.out⟩
  · have hF : fitB cols r = false := by unfold fitB; rw [decide_eq_false hl]; rfl
    have HF := Lib.hid hF
    have hl1 : ((r.length : Int) != (cols.length : Int)) = true := by rw [bne_iff_ne]; omega
    have hl2 : ((r.length : Int) == (cols.length : Int)) = false := by rw [beq_eq_false_iff_ne]; omega
    clear hF
    go_enter Tryz.func86, Tryz.ntmps86
    go_wp2
    go_ret
    exact ⟨ret_bool (by rw [HF.out]), Kept.refl [] w⟩
set_option maxHeartbeats 3200000 in
theorem fits_ref (w : World) (cv rv : Value) (cols : List Col) (r : List Val) (hc : kcol.At w Any cv cols) (hr : kval.At w Any rv r) (hb : r.length ≤ 1000000) (hbc : cols.length ≤ 1000000) : Calls Tryz.prog 83 #[cv, rv] w (BoolPost (fitB cols r) w) := by
  have HC := Lib.hid hc
  have HR := Lib.hid hr
  obtain ⟨a, cap, rfl, _⟩ := hc.form
  obtain ⟨a', cap', rfl, _⟩ := hr.form
  clear hc hr
  by_cases hl : r.length = cols.length
  · have hF : fitB cols r = (rowOk r && (List.range r.length).all (fitAt cols r)) := by unfold fitB; rw [decide_eq_true hl, Bool.true_and]
    have HF := Lib.hid hF
    have HL := Lib.hid hl
    have hl1 : ((r.length : Int) == (cols.length : Int)) = true := by rw [hl]; simp
    have hl2 : ((r.length : Int) != (cols.length : Int)) = false := by rw [hl]; simp
    have hl3 : (cols.length : Int) ≤ (r.length : Int) := by omega
    have hl4 : (r.length : Int) ≤ (cols.length : Int) := by omega
    clear hF hl
    go_enter Tryz.func83, Tryz.ntmps83
    go_wp2_with fail
    refine (ref02_check _ _ r HR.out hb).mono ?_
    rintro e w2 ⟨rfl, hk⟩
    have HK := Lib.hid hk
    clear hk
    cases hok : rowOk r with
    | false =>
      rw [hok] at HF
      clear hok
      go_wp2_with fail
      go_ret
      exact ⟨ret_bool (by rw [HF.out]; rfl), HK.out⟩
    | true =>
      rw [hok] at HF
      clear hok
      go_wp2_with fail
      go_loopg [5] r.length (fun g i wr => ∃ k : Nat, k + g = r.length ∧ i = .int .i64 k ∧ Hid (Kept [] w wr) ∧ Hid ((List.range k).all (fitAt cols r) = true))
      case atStart => exact ⟨0, by omega, rfl, HK, Lib.hid (by simp)⟩
      case round =>
        obtain ⟨k, hk, rfl, hkp, hall⟩ := hrel
        obtain ⟨wo, hwo⟩ : ∃ wo : World, wo = wr := ⟨_, rfl⟩
        subst hwo
        by_cases hlt : k < r.length
        · obtain ⟨x, hx⟩ : ∃ x, r[k]? = some x := ⟨r[k], by simp [hlt]⟩
          obtain ⟨c, hc⟩ : ∃ c, cols[k]? = some c := ⟨cols[k]'(by rw [← HL.out]; exact hlt), by simp [← HL.out, hlt]⟩
          obtain ⟨b0, o0, cap1, he, _, hbs, x0, x1, x2⟩ := val_at (HR.out.kept hkp.out) hx
          simp only [Value.slice.injEq, true_and] at he
          obtain ⟨rfl, rfl⟩ := he
          obtain ⟨b1, o1, cap2, he, _, hbs1, y0, y1, y2⟩ := col_at (HC.out.kept hkp.out) hc
          simp only [Value.slice.injEq, true_and] at he
          obtain ⟨rfl, rfl⟩ := he
          have hk0 : (0 : Int) ≤ (k : Int) := by omega
          have hk1 : (k : Int) < (r.length : Int) := by omega
          have hk2 : (k : Int) < (cols.length : Int) := by omega
          have hfit : fitAt cols r k = decide (x.k = 0 ∨ x.k = c.type) := by unfold fitAt; rw [hx, hc]
          have HT := Lib.hid (range_all (fitAt cols r) k)
          have HFIT := Lib.hid hfit
          have HX := Lib.hid hx
          have HCX := Lib.hid hc
          clear hx hc hfit y0 y1
          by_cases hz : x.k = 0
          · have hz1 : (x.k == 0) = true := by simpa using hz
            have hz2 : (x.k != 0) = false := by simpa using hz
            have HZ := Lib.hid hz
            rw [hz] at x0
            clear hz hz1 hz2
            go_wp2_with fail
            go_quiet (fail)
            go_wp2_with fail
            go_roundg (r.length - (k + 1))
            case measure => omega
            case rel => exact ⟨k + 1, by omega, by go_num, Lib.hid (hkp.out.drewN _), Lib.hid (by rw [HT.out, hall.out, HFIT.out, decide_eq_true (.inl HZ.out)]; rfl)⟩
          · have hz1 : (x.k == 0) = false := by simpa using hz
            have hz2 : (x.k != 0) = true := by simpa using hz
            by_cases ht : x.k = c.type
            · have ht1 : (x.k == c.type) = true := by simpa using ht
              have ht2 : (x.k != c.type) = false := by simpa using ht
              have HZ := Lib.hid ht
              clear hz ht
              go_wp2_with fail
              go_quiet (fail)
              go_wp2_with fail
              go_roundg (r.length - (k + 1))
              case measure => omega
              case rel => exact ⟨k + 1, by omega, by go_num, Lib.hid (hkp.out.drewN _), Lib.hid (by rw [HT.out, hall.out, HFIT.out, decide_eq_true (.inr HZ.out)]; rfl)⟩
            · have ht1 : (x.k == c.type) = false := by simpa using ht
              have ht2 : (x.k != c.type) = true := by simpa using ht
              have HF2 := Lib.hid (range_false (fitAt cols r) r.length k hlt (by rw [HFIT.out]; exact decide_eq_false (by omega)))
              clear hz ht
              go_wp2_with fail
              go_quiet (fail)
              go_wp2_with fail
              go_ret
              exact ⟨ret_bool (by rw [HF.out, HF2.out]; rfl), (hkp.out.drewN _)⟩
        · obtain rfl : k = r.length := by omega
          go_wp2_with fail
          go_ret
          exact ⟨ret_bool (by rw [HF.out, hall.out]; rfl), hkp.out⟩
  · have hF : fitB cols r = false := by unfold fitB; rw [decide_eq_false hl]; rfl
    have HF := Lib.hid hF
    have hl1 : ((r.length : Int) != (cols.length : Int)) = true := by rw [bne_iff_ne]; omega
    have hl2 : ((r.length : Int) == (cols.length : Int)) = false := by rw [beq_eq_false_iff_ne]; omega
    clear hF
    go_enter Tryz.func83, Tryz.ntmps83
    go_wp2
    go_ret
    exact ⟨ret_bool (by rw [HF.out]), Kept.refl [] w⟩
end Go.Proofs.YtkodiogkldboiaaGreatDoor
/-
  DERIVED: THE SHELF's CONTRACTS AT THIS DUMP, IN PLAIN WORDS (tools/lay-plain.mjs out of 'YtkodiogkldboiaaGreatDoorShelf.lean', which tools/lay-shelf.mjs wrote): THE SAME DECLARATIONS UNDER THE SAME NAMES: 'import', 'namespace', 'open', 'def', 'theorem' AND NOTHING ELSE: no command of the shelf's: FOR A HAND-IN. Each laying: the table of numbers ('.._ren') and one theorem, a field a fact of the dump's own or the kernel's comparison; each contract: ONE APPLICATION.
-/
namespace Go.Proofs
open Go.Shelf
def Tryz.lays146_ren : Go.Shelf.Ren := ⟨fun | 146 => 115 | 221 => 116 | 268 => 117 | 138 => 118 | 143 => 119 | 195 => 120 | 197 => 121 | 218 => 122 | 219 => 123 | 260 => 124 | 217 => 125 | 225 => 126 | 224 => 127 | 267 => 128 | 266 => 129 | 314 => 130 | n => n, fun | 9 => 9 | 31 => 139 | 3 => 3 | 4 => 4 | 0 => 0 | 105 => 148 | 21 => 21 | 5 => 5 | 46 => 129 | 119 => 152 | 139 => 155 | 138 => 154 | 146 => 157 | 51 => 156 | n => n, fun | 1 => 0 | 3 => 1 | 4 => 2 | n => n⟩
theorem Tryz.lays146 : Go.Proofs.Lays.n146 Tryz.prog Tryz.lays146_ren := {
  mixed := by kernel_rfl
  f138 := Tryz.func118.trans (congrArg some (by kernel_rfl))
  f143 := Tryz.func119.trans (congrArg some (by kernel_rfl))
  f146 := Tryz.func115.trans (congrArg some (by kernel_rfl))
  f195 := Tryz.func120.trans (congrArg some (by kernel_rfl))
  f197 := Tryz.func121.trans (congrArg some (by kernel_rfl))
  f217 := Tryz.func125.trans (congrArg some (by kernel_rfl))
  f218 := Tryz.func122.trans (congrArg some (by kernel_rfl))
  f219 := Tryz.func123.trans (congrArg some (by kernel_rfl))
  f221 := Tryz.func116.trans (congrArg some (by kernel_rfl))
  f224 := Tryz.func127.trans (congrArg some (by kernel_rfl))
  f225 := Tryz.func126.trans (congrArg some (by kernel_rfl))
  f260 := Tryz.func124.trans (congrArg some (by kernel_rfl))
  f266 := Tryz.func129.trans (congrArg some (by kernel_rfl))
  f267 := Tryz.func128.trans (congrArg some (by kernel_rfl))
  f268 := Tryz.func117.trans (congrArg some (by kernel_rfl))
  f314 := Tryz.func130.trans (congrArg some (by kernel_rfl))
  t0 := Tryz.underlying0
  a0 := Tryz.isAgg0
  z0 := Tryz.sizeOf0
  v0 := Tryz.zeroValue0
  t3 := Tryz.underlying3
  a3 := Tryz.isAgg3
  z3 := Tryz.sizeOf3
  v3 := Tryz.zeroValue3
  t4 := Tryz.underlying4
  a4 := Tryz.isAgg4
  z4 := Tryz.sizeOf4
  v4 := Tryz.zeroValue4
  t5 := Tryz.underlying5
  a5 := Tryz.isAgg5
  z5 := Tryz.sizeOf5
  v5 := Tryz.zeroValue5
  t9 := Tryz.underlying9
  a9 := Tryz.isAgg9
  z9 := Tryz.sizeOf9
  v9 := Tryz.zeroValue9
  t21 := Tryz.underlying21
  a21 := Tryz.isAgg21
  z21 := Tryz.sizeOf21
  v21 := Tryz.zeroValue21
  t31 := Tryz.underlying139
  a31 := Tryz.isAgg139
  z31 := Tryz.sizeOf139
  v31 := Tryz.zeroValue139
  t46 := Tryz.underlying129
  a46 := Tryz.isAgg129
  z46 := Tryz.sizeOf129
  v46 := Tryz.zeroValue129
  t51 := Tryz.underlying156
  a51 := Tryz.isAgg156
  z51 := Tryz.sizeOf156
  v51 := Tryz.zeroValue156
  t105 := Tryz.underlying148
  a105 := Tryz.isAgg148
  z105 := Tryz.sizeOf148
  v105 := Tryz.zeroValue148
  t119 := Tryz.underlying152
  a119 := Tryz.isAgg152
  z119 := Tryz.sizeOf152
  t138 := Tryz.underlying154
  a138 := Tryz.isAgg154
  z138 := Tryz.sizeOf154
  v138 := Tryz.zeroValue154
  t139 := Tryz.underlying155
  a139 := Tryz.isAgg155
  z139 := Tryz.sizeOf155
  v139 := Tryz.zeroValue155
  t146 := Tryz.underlying157
  a146 := Tryz.isAgg157
  z146 := Tryz.sizeOf157
  v146 := Tryz.zeroValue157
  g1 := by kernel_rfl
  g3 := by kernel_rfl
  g4 := by kernel_rfl }
open Go.RowKit Go.Lib in
/-- strings.Split. (LAID: no walk: one application.) -/
theorem Tryz.strings_Split (s sep : ByteArray) (m : Int) (w : World) (hs : s.size < 4294967281) (hm : w.cell? ⟨0, 0, none⟩ = some (.int .i64 m)) (h1 : 1 ≤ sep.size) :
    Calls Tryz.prog 115 #[.string s, .string sep] w fun e w' =>
      e = .returned (.slice (some ⟨w.heap.size, 0, none⟩) (Lib.countB s sep + 1) (Lib.countB s sep + 1)) ∧ w' = w.alloc (.cells ((Lib.splitB sep 0 (Lib.countB s sep) s).map Value.string).toArray 9) := Any.strings_Split Tryz.lays146 (by kernel_rfl) s sep m w hs hm h1
end Go.Proofs
/- Names: letters, digits, reserved words; the reference's. -/
namespace Go.Proofs.YtkodiogkldboiaaGreatDoor
open Go.RowKit

def letterN (c : Nat) : Bool := (decide (97 ≤ c ||| 32) && decide (c ||| 32 ≤ 122)) || decide (c = 95)
def digitN (c : Nat) : Bool := decide (48 ≤ c) && decide (c ≤ 57)
def wordN (c : Nat) : Bool := letterN c || digitN c

theorem or32 : ∀ c : Nat, c < 256 → bits BinOp.or IntKind.u8 (c : Int) 32 = ((c ||| 32 : Nat) : Int) := by decide +kernel

def SameB (b : Bool) (w : World) (en : Ending) (w' : World) : Prop := en = .returned (.bool b) ∧ w' = w

set_option maxHeartbeats 800000 in
theorem lex_letter (w : World) (c : Nat) (hc : c < 256) : Calls Tryz.prog 103 #[.int .u8 c] w (SameB (letterN c) w) := by
  have h := or32 c hc
  unfold letterN
  generalize c ||| 32 = d at *
  go_enter Tryz.func103, Tryz.ntmps103
  go_wp2
  all_goals
    go_ret
    refine ⟨ret_bool ?_, rfl⟩
    clear h
    rw [Bool.eq_iff_iff]
    simp
    try omega

set_option maxHeartbeats 800000 in
theorem lex_digit (w : World) (c : Nat) : Calls Tryz.prog 111 #[.int .u8 c] w (SameB (digitN c) w) := by
  unfold digitN
  go_enter Tryz.func111, Tryz.ntmps111
  go_wp2
  all_goals
    go_ret
    refine ⟨ret_bool ?_, rfl⟩
    rw [Bool.eq_iff_iff]
    simp
    try omega

set_option maxHeartbeats 800000 in
theorem ref_digit (w : World) (c : Nat) : Calls Tryz.prog 98 #[.int .u8 c] w (SameB (digitN c) w) := by
  unfold digitN
  go_enter Tryz.func98, Tryz.ntmps98
  go_wp2
  all_goals
    go_ret
    refine ⟨ret_bool ?_, rfl⟩
    rw [Bool.eq_iff_iff]
    simp
    try omega

theorem letter_alt : ∀ c : Nat, c < 256 → letterN c = ((decide (97 ≤ c) && decide (c ≤ 122)) || (decide (65 ≤ c) && decide (c ≤ 90)) || decide (c = 95)) := by decide +kernel

set_option maxHeartbeats 800000 in
theorem ref_letter (w : World) (c : Nat) (hc : c < 256) : Calls Tryz.prog 100 #[.int .u8 c] w (SameB (letterN c) w) := by
  have h := letter_alt c hc
  have H := Lib.hid h
  clear h
  go_enter Tryz.func100, Tryz.ntmps100
  go_wp2
  all_goals
    go_ret
    refine ⟨ret_bool ?_, rfl⟩
    rw [H.out, Bool.eq_iff_iff]
    simp
    try omega

/-- The reserved words. -/
def keys : List ByteArray := [⟨#[65, 76, 76]⟩, ⟨#[65, 78, 68]⟩, ⟨#[65, 78, 84, 73]⟩, ⟨#[65, 83]⟩, ⟨#[66, 89]⟩, ⟨#[67, 79, 85, 78, 84]⟩, ⟨#[68, 69, 83, 67]⟩, ⟨#[68, 73, 83, 84, 73, 78, 67, 84]⟩, ⟨#[70, 65, 76, 83, 69]⟩, ⟨#[70, 82, 79, 77]⟩, ⟨#[71, 82, 79, 85, 80]⟩, ⟨#[73, 83]⟩, ⟨#[74, 79, 73, 78]⟩, ⟨#[76, 69, 70, 84]⟩, ⟨#[76, 73, 77, 73, 84]⟩, ⟨#[77, 65, 88]⟩, ⟨#[77, 73, 78]⟩, ⟨#[78, 79, 84]⟩, ⟨#[78, 85, 76, 76]⟩, ⟨#[79, 78]⟩, ⟨#[79, 82]⟩, ⟨#[79, 82, 68, 69, 82]⟩, ⟨#[83, 69, 76, 69, 67, 84]⟩, ⟨#[83, 69, 77, 73]⟩, ⟨#[83, 85, 77]⟩, ⟨#[84, 82, 85, 69]⟩, ⟨#[85, 78, 73, 79, 78]⟩, ⟨#[87, 72, 69, 82, 69]⟩]

def keysText : ByteArray := ⟨#[65, 76, 76, 32, 65, 78, 68, 32, 65, 78, 84, 73, 32, 65, 83, 32, 66, 89, 32, 67, 79, 85, 78, 84, 32, 68, 69, 83, 67, 32, 68, 73, 83, 84, 73, 78, 67, 84, 32, 70, 65, 76, 83, 69, 32, 70, 82, 79, 77, 32, 71, 82, 79, 85, 80, 32, 73, 83, 32, 74, 79, 73, 78, 32, 76, 69, 70, 84, 32, 76, 73, 77, 73, 84, 32, 77, 65, 88, 32, 77, 73, 78, 32, 78, 79, 84, 32, 78, 85, 76, 76, 32, 79, 78, 32, 79, 82, 32, 79, 82, 68, 69, 82, 32, 83, 69, 76, 69, 67, 84, 32, 83, 69, 77, 73, 32, 83, 85, 77, 32, 84, 82, 85, 69, 32, 85, 78, 73, 79, 78, 32, 87, 72, 69, 82, 69]⟩
/-- The library's variable is a number. -/
def ML (w : World) : Prop := ∃ m : Int, w.cell? ⟨0, 0, none⟩ = some (.int .i64 m)
theorem ML.kept {w w' : World} (h : ML w) (k : Kept [] w w') : ML w' := by
  obtain ⟨m, hm⟩ := h
  exact ⟨m, (k.cell (World.block_lt_of_cell? w _ hm) (by simp)).trans hm⟩

/-- A new row of texts. -/
def KeysPost (w : World) (en : Ending) (w' : World) : Prop := ∃ v, en = .returned v ∧ kstr.At w' Any v keys ∧ Kept [] w w'

theorem strs_new {w : World} {b n : Nat} {xs : List ByteArray} {T : TypeId} (h : Arr w b T (xs.map Value.string)) (hn : xs.length ≤ n) : kstr.At w Any (.slice (some ⟨b, 0, none⟩) xs.length n) xs := by
  refine ⟨_, n, rfl, hn, fun j x hx => ⟨b, 0, [.string x], rfl, trivial, h.lt, rfl, fun i u hu => ?_⟩⟩
  match i, hu with
  | 0, hu =>
    simp at hu; subst hu
    refine h.cell ?_
    have : (0 + j * kstr.sz + 0) = j := by simp [kstr]
    rw [this, List.getElem?_map, hx]; rfl

theorem ref_keys (w : World) : Calls Tryz.prog 109 #[] w (KeysPost w) := by
  go_enter Tryz.func109, Tryz.ntmps109
  go_wp2
  go_ret
  exact ⟨_, rfl, strs_new (n := 28) (xs := keys) (Arr.new' rfl rfl) (by decide), Kept.alloc (Kept.refl [] w) _⟩

theorem split_count : Lib.countB keysText ⟨#[32]⟩ = 27 := by kernel_rfl
theorem split_keys : (Lib.splitB ⟨#[32]⟩ 0 (Lib.countB keysText ⟨#[32]⟩) keysText).map Value.string = keys.map Value.string := by kernel_rfl
theorem keys_small : keysText.size < 4294967281 := Nat.lt_of_lt_of_le (m := 200) (by decide +kernel) (by omega)
theorem split_at (w : World) (m : Int) (hm : w.cell? ⟨0, 0, none⟩ = some (.int .i64 m)) : Calls Tryz.prog 115 #[.string keysText, .string ⟨#[32]⟩] w (KeysPost w) := by
  refine (Tryz.strings_Split keysText ⟨#[32]⟩ m w keys_small hm (by decide)).mono ?_
  rintro e w' ⟨rfl, rfl⟩
  rw [split_keys, split_count]
  exact ⟨_, rfl, strs_new (n := 28) (xs := keys) (Arr.new' rfl rfl) (by decide), Kept.alloc (Kept.refl [] w) _⟩
theorem lex_keys (w : World) (h : ML w) : Calls Tryz.prog 113 #[] w (KeysPost w) := by
  obtain ⟨m, hm⟩ := h
  have HM := Lib.hid hm
  clear hm
  go_enter Tryz.func113, Tryz.ntmps113
  go_wp2_with fail
  refine (split_at _ m HM.out).mono ?_
  rintro e w2 ⟨v, rfl, hv, hk⟩
  obtain ⟨a, cap, rfl, _⟩ := hv.form
  have HV := Lib.hid hv
  have HK := Lib.hid hk
  clear hv hk
  go_wp2_with fail
  go_ret
  exact ⟨_, rfl, HV.out, HK.out⟩

theorem str_at {w : World} {P : Nat → Prop} {v : Value} {xs : List ByteArray} (h : kstr.At w P v xs) {j : Nat} {x : ByteArray} (hx : xs[j]? = some x) :
    ∃ b o cap, v = .slice (some ⟨b, o, none⟩) xs.length cap ∧ P b ∧ b < w.heap.size ∧ w.cell? ⟨b, o + j, none⟩ = some (.string x) := by
  obtain ⟨a, cap, rfl, _, h⟩ := h
  obtain ⟨b, o, cs, rfl, hp, hb, rfl, hc⟩ := h j x hx
  refine ⟨b, o, cap, rfl, hp, hb, ?_⟩
  have := hc 0 _ rfl
  simpa [kstr] using this

/-- Two texts are the same. -/
def eqS (a b : ByteArray) : Bool := a.toList == b.toList
def isKey (s : ByteArray) : Bool := keys.any (eqS s)

def IxPost' (b : Bool) (w : World) (en : Ending) (w' : World) : Prop := ∃ r : Int, en = .returned (.int .i64 r) ∧ decide (0 ≤ r) = b ∧ w' = w

set_option maxHeartbeats 1600000 in
theorem index_str (w : World) (v : Value) (xs : List ByteArray) (s : ByteArray) (h : kstr.At w Any v xs) (hb : xs.length ≤ 1000000) : Calls Tryz.prog 114 #[v, .string s] w (IxPost' (xs.any (eqS s)) w) := by
  have HA := Lib.hid h
  obtain ⟨a0, cap, rfl, _⟩ := h.form
  clear h
  go_enter Tryz.func114, Tryz.ntmps114
  go_wp2
  go_loopg [5, 8] xs.length (fun g i5 i wr => ∃ k : Nat, k + g = xs.length ∧ i = .int .i64 k ∧ Hid (wr = w ∧ (xs.take k).any (eqS s) = false))
  case atStart => exact ⟨0, by omega, rfl, rfl, by simp⟩
  case round =>
    obtain ⟨k, hk, rfl, hkp⟩ := hrel
    by_cases hlt : k < xs.length
    · obtain ⟨x, hx⟩ : ∃ x, xs[k]? = some x := ⟨xs[k], by simp [hlt]⟩
      obtain ⟨b0, o0, cap', he, _, hbs, x0⟩ := str_at HA.out hx
      simp only [Value.slice.injEq, true_and] at he
      obtain ⟨rfl, rfl⟩ := he
      rw [← hkp.out.1] at x0
      have hk0 : (0 : Int) ≤ (k : Int) := by omega
      have hk1 : (k : Int) < (xs.length : Int) := by omega
      have HT := Lib.hid (take_snoc xs k x hx)
      have HM := Lib.hid (List.mem_of_getElem? hx)
      clear hx
      cases hq : eqS s x with
      | true =>
        have HQ := Lib.hid hq
        unfold eqS at hq
        go_wp2_with fail
        go_ret
        refine ⟨_, rfl, ?_, hkp.out.1⟩
        rw [show xs.any (eqS s) = true from List.any_eq_true.mpr ⟨x, HM.out, HQ.out⟩]
        simp
      | false =>
        have HQ := Lib.hid hq
        unfold eqS at hq
        go_wp2_with fail
        go_roundg (xs.length - (k + 1))
        case measure => omega
        case rel => exact ⟨k + 1, by omega, by go_num, hkp.out.1, by rw [HT.out, List.any_append, hkp.out.2]; simp [HQ.out]⟩
    · obtain rfl : k = xs.length := by omega
      rw [List.take_length] at *
      go_wp2
      go_ret
      exact ⟨_, rfl, by rw [hkp.out.2]; rfl, hkp.out.1⟩

theorem has_str (w : World) (v : Value) (xs : List ByteArray) (s : ByteArray) (h : kstr.At w Any v xs) (hb : xs.length ≤ 1000000) : Calls Tryz.prog 112 #[v, .string s] w (SameB (xs.any (eqS s)) w) := by
  have H := Lib.hid (index_str w v xs s h hb)
  obtain ⟨a0, cap, rfl, _⟩ := h.form
  clear h
  go_enter Tryz.func112, Tryz.ntmps112
  go_wp2_with fail
  refine H.out.mono ?_
  rintro e w1 ⟨r, rfl, hr, rfl⟩
  have HR := Lib.hid hr
  clear hr
  go_wp2_with fail
  go_ret
  exact ⟨by rw [← HR.out]; rfl, rfl⟩

theorem lex_key (w : World) (s : ByteArray) (h : ML w) : Calls Tryz.prog 105 #[.string s] w (BoolPost (isKey s) w) := by
  have HM := Lib.hid h
  clear h
  go_enter Tryz.func105, Tryz.ntmps105
  go_wp2_with fail
  refine (lex_keys _ HM.out).mono ?_
  rintro e w2 ⟨v, rfl, hv, hk⟩
  obtain ⟨a, cap, rfl, _⟩ := hv.form
  have HV := Lib.hid hv
  have HK := Lib.hid hk
  clear hv hk
  go_wp2_with fail
  refine (has_str _ _ keys s HV.out (by decide)).mono ?_
  rintro e w3 ⟨rfl, rfl⟩
  go_wp2_with fail
  go_ret
  exact ⟨rfl, HK.out⟩

set_option maxHeartbeats 1600000 in
theorem ref_key (w : World) (s : ByteArray) : Calls Tryz.prog 99 #[.string s] w (BoolPost (isKey s) w) := by
  go_enter Tryz.func99, Tryz.ntmps99
  go_wp2_with fail
  refine (ref_keys _).mono ?_
  rintro e w2 ⟨v, rfl, hv, hk⟩
  obtain ⟨a, cap, rfl, _⟩ := hv.form
  have HV := Lib.hid hv
  have HK := Lib.hid hk
  have hkl : keys.length = 28 := by decide
  have hI : isKey s = keys.any (eqS s) := rfl
  have HI := Lib.hid hI
  generalize keys = xs at *
  have hb : xs.length ≤ 28 := by omega
  clear hv hk hkl hI
  go_wp2_with fail
  go_loopg [4] xs.length (fun g i wr => ∃ k : Nat, k + g = xs.length ∧ i = .int .i64 k ∧ Hid (wr = w2 ∧ (xs.take k).any (eqS s) = false))
  case atStart => exact ⟨0, by omega, rfl, rfl, by simp⟩
  case round =>
    obtain ⟨k, hk, rfl, hkp⟩ := hrel
    by_cases hlt : k < xs.length
    · obtain ⟨x, hx⟩ : ∃ x, xs[k]? = some x := ⟨xs[k], by simp [hlt]⟩
      obtain ⟨b0, o0, cap', he, _, hbs, x0⟩ := str_at HV.out hx
      simp only [Value.slice.injEq, true_and] at he
      obtain ⟨rfl, rfl⟩ := he
      rw [← hkp.out.1] at x0
      have hk0 : (0 : Int) ≤ (k : Int) := by omega
      have hk1 : (k : Int) < (xs.length : Int) := by omega
      have HT := Lib.hid (take_snoc xs k x hx)
      have HM := Lib.hid (List.mem_of_getElem? hx)
      clear hx
      cases hq : eqS s x with
      | true =>
        have HQ := Lib.hid hq
        have hq' : (x.toList == s.toList) = true := by unfold eqS at hq; rw [beq_iff_eq] at hq ⊢; exact hq.symm
        clear hq
        go_wp2_with fail
        go_ret
        refine ⟨ret_bool ?_, by rw [hkp.out.1]; exact HK.out⟩
        rw [HI.out, show xs.any (eqS s) = true from List.any_eq_true.mpr ⟨x, HM.out, HQ.out⟩]
      | false =>
        have HQ := Lib.hid hq
        have hq' : (x.toList == s.toList) = false := by unfold eqS at hq; rw [beq_eq_false_iff_ne] at hq ⊢; exact fun e => hq e.symm
        clear hq
        go_wp2_with fail
        go_roundg (xs.length - (k + 1))
        case measure => omega
        case rel => exact ⟨k + 1, by omega, by go_num, hkp.out.1, by rw [HT.out, List.any_append, hkp.out.2]; simp [HQ.out]⟩
    · obtain rfl : k = xs.length := by omega
      rw [List.take_length] at *
      go_wp2
      go_ret
      exact ⟨ret_bool (by rw [HI.out, hkp.out.2]), by rw [hkp.out.1]; exact HK.out⟩
end Go.Proofs.YtkodiogkldboiaaGreatDoor
/- Names: lex.Name, and the reference's. -/
namespace Go.Proofs.YtkodiogkldboiaaGreatDoor
open Go.RowKit

def QuietB (b : Bool) (w : World) (en : Ending) (w' : World) : Prop := en = .returned (.bool b) ∧ ∃ n, w' = w.drewN n

set_option maxHeartbeats 800000 in
theorem scan_left (w : World) (p : Nat) (s : ByteArray) (at_ : Nat) (h : Arr w p 134 [.string s, .int .i64 at_]) : Calls Tryz.prog 110 #[.pointer (some ⟨p, 0, none⟩)] w (QuietB (decide (at_ < s.size)) w) := by
  have c0 := h.cell (i := 0) rfl
  have c1 := h.cell (i := 1) rfl
  clear h
  go_enter Tryz.func110, Tryz.ntmps110
  go_wp2_with fail
  go_quiet (fail)
  go_wp2_with fail
  go_ret
  first | exact ⟨rfl, _, rfl⟩ | exact ⟨ret_bool (by rw [Bool.eq_iff_iff]; simp), _, rfl⟩ | exact ⟨ret_bool (by simp), _, rfl⟩

theorem quiet_same {f : FuncId} {args : Array Value} {w : World} {n : Nat} {b : Bool} (h : Calls Tryz.prog f args (w.drewN n) (SameB b (w.drewN n))) : Calls Tryz.prog f args (w.drewN n) fun e w'' => e = .returned (.bool b) ∧ ∃ m, w'' = w.drewN m :=
  h.mono fun _ _ ⟨he, hm⟩ => ⟨he, n, hm⟩
theorem quiet_draw {f : FuncId} {args : Array Value} {w : World} {n : Nat} {b : Bool} (h : Calls Tryz.prog f args (w.drewN n) (QuietB b (w.drewN n))) : Calls Tryz.prog f args (w.drewN n) fun e w'' => e = .returned (.bool b) ∧ ∃ m, w'' = w.drewN m :=
  h.mono fun _ _ ⟨he, m, hm⟩ => ⟨he, n + m, by rw [hm, World.drewN_drewN]⟩

def RunPost (s : ByteArray) (p at0 : Nat) (w : World) (en : Ending) (w' : World) : Prop :=
  ∃ j : Nat, en = .returned (.string (s.extract at0 j)) ∧ at0 ≤ j ∧ j ≤ s.size ∧ (∀ i c, at0 ≤ i → i < j → s.data.toList[i]? = some c → wordN c.toNat = true) ∧ (∀ c, s.data.toList[j]? = some c → wordN c.toNat = false) ∧ Arr w' p 134 [.string s, .int .i64 j] ∧ Kept [p] w w'

set_option maxHeartbeats 3200000 in
theorem scan_run (w : World) (p : Nat) (s : ByteArray) (at0 : Nat) (h : Arr w p 134 [.string s, .int .i64 at0]) (h0 : at0 ≤ s.size) (hs : (s.size : Int) ≤ 140737488355328) : Calls Tryz.prog 104 #[.pointer (some ⟨p, 0, none⟩)] w (RunPost s p at0 w) := by
  have H := Lib.hid h
  have c1 := h.cell (i := 1) rfl
  clear h
  go_enter Tryz.func104, Tryz.ntmps104
  go_wp2_with fail
  go_loopg [8] (s.size - at0) (fun g v8 wr => Hid (∃ j : Nat, j + g = s.size ∧ at0 ≤ j ∧ (∀ i c, at0 ≤ i → i < j → s.data.toList[i]? = some c → wordN c.toNat = true) ∧ Arr wr p 134 [.string s, .int .i64 j] ∧ Kept [p] w wr))
  case atStart => exact Lib.hid ⟨at0, by omega, Nat.le_refl _, fun i c h1 h2 => by omega, H.out, Kept.refl _ _⟩
  case round =>
    obtain ⟨j, hj, hj0, hall, hA, hkp⟩ := hrel.out
    clear hrel
    obtain ⟨wo, hwo⟩ : ∃ wo : World, wo = wr := ⟨_, rfl⟩
    subst hwo
    have HA := Lib.hid hA
    have HALL := Lib.hid hall
    have HK := Lib.hid hkp
    have x0 := hA.cell (i := 0) rfl
    have x1 := hA.cell (i := 1) rfl
    have f1 := hA.free 1
    clear hA hall hkp c1
    by_cases hlt : j < s.size
    · have hl : decide (j < s.size) = true := decide_eq_true hlt
      have hj1 : (j : Int) < (s.size : Int) := by omega
      have hj2 : (0 : Int) ≤ (j : Int) := by omega
      have hc : s.data.toList[j]? = some s[j] := by
        rw [Array.getElem?_toList]; exact Array.getElem?_eq_getElem hlt
      have HC := Lib.hid hc
      have hc256 : s[j].toNat < 256 := UInt8.toNat_lt _
      have HC2 := Lib.hid hc256
      clear hc hc256
      have HLet := Lib.hid (fun w' : World => lex_letter w' s[j].toNat HC2.out)
      have HDig := Lib.hid (fun w' : World => lex_digit w' s[j].toNat)
      have HLeft := Lib.hid (fun n : Nat => scan_left (wo.drewN n) p s j HA.out)
      rw [hl] at HLeft
      have HW : Hid (wordN s[j].toNat = (letterN s[j].toNat || digitN s[j].toNat)) := rfl
      clear hl
      cases hL : letterN s[j].toNat with
      | true =>
        rw [hL] at HLet HW
        clear hL
        go_wp2_with fail
        go_quiet ((first | (go_at_call 110; exact quiet_draw (HLeft.out _)) | (go_at_call 103; exact quiet_same (HLet.out _))))
        go_wp2_with fail
        go_roundg (s.size - (j + 1))
        case measure => omega
        case rel => exact Lib.hid ⟨j + 1, by omega, by omega, fun i c h1 h2 h3 => by
            rcases Nat.lt_or_ge i j with h | h
            · exact HALL.out i c h1 h h3
            · obtain rfl : i = j := by omega
              rw [HC.out] at h3
              simp only [Option.some.injEq] at h3
              subst h3
              rw [HW.out]; rfl, (HA.out.kept ((Kept.refl [] wo).drewN nq) (by simp)).set 1 _, (HK.out.drewN nq).setCell (.inl (by simp)) _⟩
      | false =>
        rw [hL] at HLet HW
        clear hL
        cases hD : digitN s[j].toNat with
        | true =>
          rw [hD] at HDig HW
          clear hD
          go_wp2_with fail
          go_quiet ((first | (go_at_call 110; exact quiet_draw (HLeft.out _)) | (go_at_call 103; exact quiet_same (HLet.out _)) | (go_at_call 111; exact quiet_same (HDig.out _))))
          go_wp2_with fail
          go_roundg (s.size - (j + 1))
          case measure => omega
          case rel => exact Lib.hid ⟨j + 1, by omega, by omega, fun i c h1 h2 h3 => by
              rcases Nat.lt_or_ge i j with h | h
              · exact HALL.out i c h1 h h3
              · obtain rfl : i = j := by omega
                rw [HC.out] at h3
                simp only [Option.some.injEq] at h3
                subst h3
                rw [HW.out]; rfl, (HA.out.kept ((Kept.refl [] wo).drewN nq) (by simp)).set 1 _, (HK.out.drewN nq).setCell (.inl (by simp)) _⟩
        | false =>
          rw [hD] at HDig HW
          clear hD
          go_wp2_with fail
          go_quiet ((first | (go_at_call 110; exact quiet_draw (HLeft.out _)) | (go_at_call 103; exact quiet_same (HLet.out _)) | (go_at_call 111; exact quiet_same (HDig.out _))))
          have hEnd : ∀ c, s.data.toList[j]? = some c → wordN c.toNat = false := fun c hc => by
            rw [HC.out] at hc
            simp only [Option.some.injEq] at hc
            subst hc
            rw [HW.out]; rfl
          have HEnd := Lib.hid hEnd
          clear hEnd
          go_wp2_with fail
          go_quiet (fail)
          go_wp2_with fail
          go_ret
          exact ⟨j, rfl, hj0, by omega, HALL.out, HEnd.out, HA.out.kept (((Kept.refl [] wo).drewN _).drewN _) (by simp), (HK.out.drewN _).drewN _⟩
    · have hl : decide (j < s.size) = false := decide_eq_false hlt
      obtain rfl : j = s.size := by omega
      have HLeft := Lib.hid (fun n : Nat => scan_left (wo.drewN n) p s s.size HA.out)
      rw [hl] at HLeft
      clear hl
      go_wp2_with fail
      go_quiet ((first | (go_at_call 110; exact quiet_draw (HLeft.out _))))
      go_wp2_with fail
      go_quiet (fail)
      go_wp2_with fail
      go_ret
      exact ⟨s.size, rfl, hj0, Nat.le_refl _, HALL.out, (fun c hc => by rw [List.getElem?_eq_none (by simp)] at hc; cases hc), HA.out.kept (((Kept.refl [] wo).drewN _).drewN _) (by simp), (HK.out.drewN _).drewN _⟩

def headN (s : ByteArray) : Nat := (s.data.toList.headD 0).toNat
def wordsB (s : ByteArray) : Bool := s.data.toList.all fun c => wordN c.toNat
/-- Is a text a name? -/
def nameB (s : ByteArray) : Bool := decide (s.size ≠ 0) && letterN (headN s) && wordsB s && decide (s.size ≤ 24) && !isKey s

theorem extract_all (s : ByteArray) : s.extract 0 s.size = s := by
  apply ByteArray.ext
  simp
theorem extract_len (s : ByteArray) (j : Nat) (h : j ≤ s.size) : (s.extract 0 j).toList.length = j := by
  rw [ByteArray.toList_eq]
  have : (s.extract 0 j).data.toList.length = (s.extract 0 j).size := by simp
  rw [this, ByteArray.size_extract]
  omega
theorem toList_len (s : ByteArray) : s.toList.length = s.size := by rw [ByteArray.toList_eq]; rfl
theorem head_at (s : ByteArray) (h : 0 < s.size) : headN s = s[0].toNat := by
  unfold headN
  have : s.data.toList[0]? = some s[0] := by rw [Array.getElem?_toList]; exact Array.getElem?_eq_getElem h
  cases hl : s.data.toList with
  | nil => rw [hl] at this; cases this
  | cons a r => rw [hl] at this; simp at this; simp [this]

set_option maxHeartbeats 1600000 in
theorem lex_name (w : World) (s : ByteArray) (hm : ML w) (hs : (s.size : Int) ≤ 140737488355328) : Calls Tryz.prog 88 #[.string s] w (BoolPost (nameB s) w) := by
  have HM := Lib.hid hm
  clear hm
  by_cases h0 : s.size = 0
  · have hN : nameB s = false := by unfold nameB; simp [h0]
    have HN := Lib.hid hN
    have hl : s.toList = [] := List.eq_nil_of_length_eq_zero (by rw [toList_len]; exact h0)
    have hl2 : s.toList.isEmpty = true := by rw [hl]; rfl
    clear hN h0
    go_enter Tryz.func88, Tryz.ntmps88
    go_wp2
    go_ret
    exact ⟨ret_bool (by rw [HN.out]), Kept.refl [] w⟩
  · have hpos : 0 < s.size := by omega
    have hl : ¬ s.toList = [] := fun e => by have := toList_len s; rw [e] at this; simp at this; omega
    have hl2 : s.toList.isEmpty = false := by cases h : s.toList with | nil => exact absurd h hl | cons a r => rfl
    have hp1 : (0 : Int) < (s.size : Int) := by omega
    have hh := head_at s hpos
    have HH := Lib.hid hh
    have hc256 : s[0].toNat < 256 := UInt8.toNat_lt _
    have HC := Lib.hid hc256
    clear h0 hl hh hc256
    cases hL : letterN s[0].toNat with
    | false =>
      have hN : nameB s = false := by unfold nameB; rw [HH.out, hL]; simp
      have HN := Lib.hid hN
      have HLet := Lib.hid (fun w' : World => lex_letter w' s[0].toNat HC.out)
      rw [hL] at HLet
      clear hN hL
      go_enter Tryz.func88, Tryz.ntmps88
      go_wp2_with fail
      refine (HLet.out _).mono ?_
      rintro e w2 ⟨rfl, rfl⟩
      go_wp2_with fail
      go_ret
      exact ⟨ret_bool (by rw [HN.out]), Kept.refl [] _⟩
    | true =>
      have hN : nameB s = (wordsB s && decide (s.size ≤ 24) && !isKey s) := by unfold nameB; rw [HH.out, hL, decide_eq_true (show s.size ≠ 0 by omega)]; simp
      have HN := Lib.hid hN
      have HLet := Lib.hid (fun w' : World => lex_letter w' s[0].toNat HC.out)
      rw [hL] at HLet
      clear hN hL
      go_enter Tryz.func88, Tryz.ntmps88
      go_wp2_with fail
      refine (HLet.out _).mono ?_
      rintro e w2 ⟨rfl, rfl⟩
      go_wp2_with fail
      refine (scan_run _ _ s 0 (Arr.new' rfl rfl) (Nat.zero_le _) hs).mono ?_
      rintro e w3 ⟨j, rfl, _, hjs, hall, hend, hA, hk⟩
      have hk' := (Kept.alloc (Kept.refl [] w2) (Obj.cells #[.string s, .int .i64 0] 134)).fresh hk (by intro x hx hlt; simp at hx; omega)
      have HK := Lib.hid hk'
      have HALL := Lib.hid hall
      have HEND := Lib.hid hend
      clear hk hk' hall hend hA
      by_cases hj : j = s.size
      · have hw : wordsB s = true := by
          unfold wordsB
          rw [List.all_eq_true]
          intro c hc
          obtain ⟨i, hi⟩ := List.getElem?_of_mem hc
          exact HALL.out i c (Nat.zero_le _) (by rw [hj]; have := get_lt hi; simpa using this) hi
        have HW := Lib.hid hw
        rw [hj, extract_all]
        clear hw hj
        by_cases h24 : (s.size : Int) ≤ 24
        · go_wp2_with fail
          refine (lex_key _ s (HM.out.kept HK.out)).mono ?_
          rintro e w4 ⟨rfl, hk4⟩
          have HK4 := Lib.hid (HK.out.trans hk4)
          have hd : decide (s.size ≤ 24) = true := decide_eq_true (by omega)
          have HD := Lib.hid hd
          clear hk4 hd
          go_wp2_with fail
          go_ret
          exact ⟨ret_bool (by rw [HN.out, HW.out, HD.out]; simp), HK4.out⟩
        · have hd : decide (s.size ≤ 24) = false := decide_eq_false (by omega)
          have HD := Lib.hid hd
          clear hd
          go_wp2_with fail
          go_ret
          exact ⟨ret_bool (by rw [HN.out, HW.out, HD.out]; simp), HK.out⟩
      · have hw : wordsB s = false := by
          rw [Bool.eq_false_iff]; intro e
          have hlt : j < s.size := by omega
          have hc : s.data.toList[j]? = some s[j] := by rw [Array.getElem?_toList]; exact Array.getElem?_eq_getElem hlt
          have := List.all_eq_true.1 e _ (List.mem_of_getElem? hc)
          rw [HEND.out _ hc] at this; cases this
        have hne : ((s.extract 0 j).toList == s.toList) = false := by
          rw [beq_eq_false_iff_ne]; intro e
          have := congrArg List.length e
          rw [extract_len s j hjs, toList_len] at this
          exact hj this
        have HW := Lib.hid hw
        clear hw hj
        go_wp2_with fail
        go_ret
        exact ⟨ret_bool (by rw [HN.out, HW.out]; simp), HK.out⟩
end Go.Proofs.YtkodiogkldboiaaGreatDoor
/- Names: the reference's. -/
namespace Go.Proofs.YtkodiogkldboiaaGreatDoor
open Go.RowKit

theorem digit_not : ∀ c : Nat, c < 256 → digitN c = true → letterN c = false := by decide +kernel

theorem words_snoc (s : ByteArray) (k : Nat) (c : UInt8) (h : s.data.toList[k]? = some c) : (s.data.toList.take (k + 1)).all (fun c => wordN c.toNat) = ((s.data.toList.take k).all (fun c => wordN c.toNat) && wordN c.toNat) := any_take_all _ _ _ _ h

set_option maxHeartbeats 3200000 in
theorem ref_name (w : World) (s : ByteArray) : Calls Tryz.prog 82 #[.string s] w (BoolPost (nameB s) w) := by
  by_cases h0 : s.size = 0
  · have hN : nameB s = false := by unfold nameB; simp [h0]
    have HN := Lib.hid hN
    have h1 : (s.size : Int) < 1 := by omega
    have h2 : ¬ 0 < s.size := by omega
    clear hN h0
    go_enter Tryz.func82, Tryz.ntmps82
    go_wp2
    go_ret
    exact ⟨ret_bool (by rw [HN.out]), Kept.refl [] w⟩
  by_cases h24 : (24 : Int) < (s.size : Int)
  · have hN : nameB s = false := by unfold nameB; rw [decide_eq_false (show ¬ s.size ≤ 24 by omega)]; simp
    have HN := Lib.hid hN
    have h2 : 0 < s.size := by omega
    clear hN h0
    go_enter Tryz.func82, Tryz.ntmps82
    go_wp2
    go_ret
    exact ⟨ret_bool (by rw [HN.out]), Kept.refl [] w⟩
  have hpos : 0 < s.size := by omega
  have hp1 : (0 : Int) < (s.size : Int) := by omega
  have hh := head_at s hpos
  have HH := Lib.hid hh
  have hc256 : s[0].toNat < 256 := UInt8.toNat_lt _
  have HC := Lib.hid hc256
  have HDig := Lib.hid (fun w' : World => ref_digit w' s[0].toNat)
  clear h0 hh hc256
  cases hD : digitN s[0].toNat with
  | true =>
    have hN : nameB s = false := by unfold nameB; rw [HH.out, digit_not _ HC.out hD]; simp
    have HN := Lib.hid hN
    rw [hD] at HDig
    clear hN hD
    go_enter Tryz.func82, Tryz.ntmps82
    go_wp2_with fail
    refine (HDig.out _).mono ?_
    rintro e w2 ⟨rfl, rfl⟩
    go_wp2_with fail
    go_ret
    exact ⟨ret_bool (by rw [HN.out]), Kept.refl [] _⟩
  | false =>
    cases hK : isKey s with
    | true =>
      have hN : nameB s = false := by unfold nameB; rw [hK]; simp
      have HN := Lib.hid hN
      have HKey := Lib.hid (fun w' : World => ref_key w' s)
      rw [hD] at HDig
      rw [hK] at HKey
      clear hN hD hK
      go_enter Tryz.func82, Tryz.ntmps82
      go_wp2_with fail
      refine (HDig.out _).mono ?_
      rintro e w2 ⟨rfl, rfl⟩
      go_wp2_with fail
      refine (HKey.out _).mono ?_
      rintro e w3 ⟨rfl, hk⟩
      have HK := Lib.hid hk
      clear hk
      go_wp2_with fail
      go_ret
      exact ⟨ret_bool (by rw [HN.out]), HK.out⟩
    | false =>
      have hN : nameB s = wordsB s := by
        unfold nameB
        rw [hK, decide_eq_true (show s.size ≠ 0 by omega), decide_eq_true (show s.size ≤ 24 by omega)]
        cases hw : wordsB s with
        | false => simp
        | true =>
          have hc : s.data.toList[0]? = some s[0] := by rw [Array.getElem?_toList]; exact Array.getElem?_eq_getElem hpos
          have := List.all_eq_true.1 hw _ (List.mem_of_getElem? hc)
          unfold wordN at this
          rw [hD, Bool.or_false] at this
          rw [HH.out, this]; simp
      have HN := Lib.hid hN
      have HKey := Lib.hid (fun w' : World => ref_key w' s)
      rw [hD] at HDig
      rw [hK] at HKey
      clear hN hD hK
      go_enter Tryz.func82, Tryz.ntmps82
      go_wp2_with fail
      refine (HDig.out _).mono ?_
      rintro e w2 ⟨rfl, rfl⟩
      go_wp2_with fail
      refine (HKey.out _).mono ?_
      rintro e w3 ⟨rfl, hk⟩
      have HK := Lib.hid hk
      clear hk
      go_wp2_with fail
      go_loopg [3] s.size (fun g i wr => ∃ k : Nat, k + g = s.size ∧ i = .int .i64 k ∧ Hid (wr = w3 ∧ (s.data.toList.take k).all (fun c => wordN c.toNat) = true))
      case atStart => exact ⟨0, by omega, rfl, rfl, by simp⟩
      case round =>
        obtain ⟨k, hk, rfl, hkp⟩ := hrel
        obtain ⟨wo, hwo⟩ : ∃ wo : World, wo = wr := ⟨_, rfl⟩
        subst hwo
        by_cases hlt : k < s.size
        · have hk0 : (0 : Int) ≤ (k : Int) := by omega
          have hk1 : (k : Int) < (s.size : Int) := by omega
          have hc : s.data.toList[k]? = some s[k] := by rw [Array.getElem?_toList]; exact Array.getElem?_eq_getElem hlt
          have HT := Lib.hid (words_snoc s k _ hc)
          have HMem := Lib.hid (List.mem_of_getElem? hc)
          have hc256 : s[k].toNat < 256 := UInt8.toNat_lt _
          have HLt := Lib.hid (fun w' : World => ref_letter w' s[k].toNat hc256)
          have HDg := Lib.hid (fun w' : World => ref_digit w' s[k].toNat)
          have HW : Hid (wordN s[k].toNat = (letterN s[k].toNat || digitN s[k].toNat)) := rfl
          clear hc hc256
          cases hL : letterN s[k].toNat with
          | true =>
            rw [hL] at HLt HW
            clear hL
            go_wp2_with fail
            refine (HLt.out _).mono ?_
            rintro e w4 ⟨rfl, rfl⟩
            go_wp2_with fail
            go_roundg (s.size - (k + 1))
            case measure => omega
            case rel => exact ⟨k + 1, by omega, by go_num, hkp.out.1, by rw [HT.out, hkp.out.2, HW.out]; rfl⟩
          | false =>
            cases hDg : digitN s[k].toNat with
            | true =>
              rw [hL] at HLt HW
              rw [hDg] at HDg HW
              clear hL hDg
              go_wp2_with fail
              refine (HLt.out _).mono ?_
              rintro e w4 ⟨rfl, rfl⟩
              go_wp2_with fail
              refine (HDg.out _).mono ?_
              rintro e w5 ⟨rfl, rfl⟩
              go_wp2_with fail
              go_roundg (s.size - (k + 1))
              case measure => omega
              case rel => exact ⟨k + 1, by omega, by go_num, hkp.out.1, by rw [HT.out, hkp.out.2, HW.out]; rfl⟩
            | false =>
              rw [hL] at HLt HW
              rw [hDg] at HDg HW
              clear hL hDg
              go_wp2_with fail
              refine (HLt.out _).mono ?_
              rintro e w4 ⟨rfl, rfl⟩
              go_wp2_with fail
              refine (HDg.out _).mono ?_
              rintro e w5 ⟨rfl, rfl⟩
              go_wp2_with fail
              go_ret
              refine ⟨ret_bool ?_, by rw [hkp.out.1]; exact HK.out⟩
              rw [HN.out]
              symm
              rw [Bool.eq_false_iff]
              intro e
              have := List.all_eq_true.1 e _ HMem.out
              rw [HW.out] at this; cases this
        · obtain rfl : k = s.size := by omega
          have hall : wordsB s = true := by
            have := hkp.out.2
            rw [List.take_of_length_le (by simp)] at this
            exact this
          have HALL := Lib.hid hall
          clear hall
          go_wp2_with fail
          go_ret
          exact ⟨ret_bool (by rw [HN.out, HALL.out]), by rw [hkp.out.1]; exact HK.out⟩
end Go.Proofs.YtkodiogkldboiaaGreatDoor
