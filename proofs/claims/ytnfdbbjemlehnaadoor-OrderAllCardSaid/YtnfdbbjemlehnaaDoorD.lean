/- The library's search in a list, for the three tests of this package. -/
import Derived.Test.YtnfdbbjemlehnaaDoorC
namespace Go.Proofs.YtnfdbbjemlehnaaDoor
open Go.RowKit


set_option maxHeartbeats 800000 in
theorem ix26 (w : World) (v : Value) (es : List Pr) (hP : PairsAt w v es) (hb : es.length ≤ 1000)  :
    Calls Tryd.prog 35 #[v, .func (.func 26) #[] #[]] w fun en w' => ∃ r : Int, en = .returned (.int .i64 r) ∧ decide (0 ≤ r) = es.any (oddG) ∧ Kept [] w w' := by
  obtain ⟨a0, cap, rfl, h⟩ := hP
  have H := Lib.hid h

  clear h
  go_enter Tryd.func35, Tryd.ntmps35
  go_wp2
  go_loopg [5, 8] es.length (fun g i5 i wr => ∃ k : Nat, k + g = es.length ∧ i = .int .i64 k ∧ Hid (Kept [] w wr ∧ (es.take k).any (oddG) = false))
  case atStart => exact ⟨0, by omega, rfl, Kept.refl _ _, by simp⟩
  case round =>
    obtain ⟨k, hk, rfl, hkp⟩ := hrel
    obtain ⟨wo, hwo⟩ : ∃ wo : World, wo = wr := ⟨_, rfl⟩
    subst hwo
    by_cases hlt : k < es.length
    · obtain ⟨p, hp⟩ : ∃ p, es[k]? = some p := ⟨es[k], by simp [hlt]⟩
      obtain ⟨b0, o0, rfl, hbs, x0, x1⟩ := H.out k p hp
      have x0 := (hkp.out.1.cell hbs (by simp)).trans x0
      have x1 := (hkp.out.1.cell hbs (by simp)).trans x1
      have hk0 : (0 : Int) ≤ (k : Int) := by omega
      have hk1 : (k : Int) < (es.length : Int) := by omega
      have htk : es.take (k + 1) = es.take k ++ [p] := by rw [List.take_add_one, hp]; rfl
      have HT := Lib.hid htk
      have HM := Lib.hid (List.mem_of_getElem? hp)
      clear hp htk
      cases hq : (oddG) p with
      | true =>
        have HQ := Lib.hid hq
        clear hq
        go_wp2_with (first | (go_at_call 26; refine (odd_any _ p).mono ?_; rw [HQ.out]; rintro e w1 ⟨rfl, hk1'⟩; have hk1'' := Lib.hid hk1'; clear hk1'))
        go_ret
        refine ⟨_, rfl, ?_, hkp.out.1.trans hk1''.out⟩
        rw [show es.any (oddG) = true from List.any_eq_true.mpr ⟨p, HM.out, HQ.out⟩]
        simp
      | false =>
        have HQ := Lib.hid hq
        clear hq
        go_wp2_with (first | (go_at_call 26; refine (odd_any _ p).mono ?_; rw [HQ.out]; rintro e w1 ⟨rfl, hk1'⟩; have hk1'' := Lib.hid hk1'; clear hk1'))
        go_roundg (es.length - (k + 1))
        case measure => omega
        case rel => exact ⟨k + 1, by omega, by go_num, hkp.out.1.trans hk1''.out, by rw [HT.out, List.any_append, hkp.out.2]; simp [HQ.out]⟩
    · obtain rfl : k = es.length := by omega
      rw [List.take_length] at *
      go_wp2
      go_ret
      exact ⟨_, rfl, by rw [hkp.out.2]; rfl, hkp.out.1⟩

set_option maxHeartbeats 400000 in
theorem any26 (w : World) (v : Value) (es : List Pr) (hP : PairsAt w v es) (hb : es.length ≤ 1000)  :
    Calls Tryd.prog 25 #[v, .func (.func 26) #[] #[]] w fun en w' => en = .returned (.bool (es.any (oddG))) ∧ Kept [] w w' := by
  have H := Lib.hid (ix26 w v es hP hb )

  clear hP
  go_enter Tryd.func25, Tryd.ntmps25
  go_wp2_with (go_at_call 35; refine H.out.mono ?_; rintro e w1 ⟨r, rfl, hr, hk1⟩; have HR := Lib.hid hr; have hk1' := Lib.hid hk1; clear hr hk1)
  go_ret
  exact ⟨by rw [← HR.out]; rfl, hk1'.out⟩


set_option maxHeartbeats 800000 in
theorem ix41 (w : World) (v : Value) (es : List Pr) (hP : PairsAt w v es) (hb : es.length ≤ 1000) (ba bb a b : Nat) (ha : a < 64) (hb2 : b < 64) (h1 : Arr w ba 3 [.int .i64 a]) (h2 : Arr w bb 3 [.int .i64 b]) :
    Calls Tryd.prog 37 #[v, .func (.func 41) #[] #[.pointer (some ⟨ba, 0, none⟩), .pointer (some ⟨bb, 0, none⟩)]] w fun en w' => ∃ r : Int, en = .returned (.int .i64 r) ∧ decide (0 ≤ r) = es.any (hit a b) ∧ Kept [] w w' := by
  obtain ⟨a0, cap, rfl, h⟩ := hP
  have H := Lib.hid h
  have H1 := Lib.hid h1; have H2 := Lib.hid h2; clear h1 h2
  clear h
  go_enter Tryd.func37, Tryd.ntmps37
  go_wp2
  go_loopg [5, 8] es.length (fun g i5 i wr => ∃ k : Nat, k + g = es.length ∧ i = .int .i64 k ∧ Hid (Kept [] w wr ∧ (es.take k).any (hit a b) = false))
  case atStart => exact ⟨0, by omega, rfl, Kept.refl _ _, by simp⟩
  case round =>
    obtain ⟨k, hk, rfl, hkp⟩ := hrel
    obtain ⟨wo, hwo⟩ : ∃ wo : World, wo = wr := ⟨_, rfl⟩
    subst hwo
    by_cases hlt : k < es.length
    · obtain ⟨p, hp⟩ : ∃ p, es[k]? = some p := ⟨es[k], by simp [hlt]⟩
      obtain ⟨b0, o0, rfl, hbs, x0, x1⟩ := H.out k p hp
      have x0 := (hkp.out.1.cell hbs (by simp)).trans x0
      have x1 := (hkp.out.1.cell hbs (by simp)).trans x1
      have hk0 : (0 : Int) ≤ (k : Int) := by omega
      have hk1 : (k : Int) < (es.length : Int) := by omega
      have htk : es.take (k + 1) = es.take k ++ [p] := by rw [List.take_add_one, hp]; rfl
      have HT := Lib.hid htk
      have HM := Lib.hid (List.mem_of_getElem? hp)
      clear hp htk
      cases hq : (hit a b) p with
      | true =>
        have HQ := Lib.hid hq
        clear hq
        go_wp2_with (first | (go_at_call 41; refine (edge1_any _ ba bb a b ha hb2 (H1.out.kept hkp.out.1 (by simp)) (H2.out.kept hkp.out.1 (by simp)) p).mono ?_; rw [HQ.out]; rintro e w1 ⟨rfl, hk1'⟩; have hk1'' := Lib.hid hk1'; clear hk1'))
        go_ret
        refine ⟨_, rfl, ?_, hkp.out.1.trans hk1''.out⟩
        rw [show es.any (hit a b) = true from List.any_eq_true.mpr ⟨p, HM.out, HQ.out⟩]
        simp
      | false =>
        have HQ := Lib.hid hq
        clear hq
        go_wp2_with (first | (go_at_call 41; refine (edge1_any _ ba bb a b ha hb2 (H1.out.kept hkp.out.1 (by simp)) (H2.out.kept hkp.out.1 (by simp)) p).mono ?_; rw [HQ.out]; rintro e w1 ⟨rfl, hk1'⟩; have hk1'' := Lib.hid hk1'; clear hk1'))
        go_roundg (es.length - (k + 1))
        case measure => omega
        case rel => exact ⟨k + 1, by omega, by go_num, hkp.out.1.trans hk1''.out, by rw [HT.out, List.any_append, hkp.out.2]; simp [HQ.out]⟩
    · obtain rfl : k = es.length := by omega
      rw [List.take_length] at *
      go_wp2
      go_ret
      exact ⟨_, rfl, by rw [hkp.out.2]; rfl, hkp.out.1⟩

set_option maxHeartbeats 400000 in
theorem any41 (w : World) (v : Value) (es : List Pr) (hP : PairsAt w v es) (hb : es.length ≤ 1000) (ba bb a b : Nat) (ha : a < 64) (hb2 : b < 64) (h1 : Arr w ba 3 [.int .i64 a]) (h2 : Arr w bb 3 [.int .i64 b]) :
    Calls Tryd.prog 27 #[v, .func (.func 41) #[] #[.pointer (some ⟨ba, 0, none⟩), .pointer (some ⟨bb, 0, none⟩)]] w fun en w' => en = .returned (.bool (es.any (hit a b))) ∧ Kept [] w w' := by
  have H := Lib.hid (ix41 w v es hP hb ba bb a b ha hb2 h1 h2)
  have H1 := Lib.hid h1; have H2 := Lib.hid h2; clear h1 h2
  clear hP
  go_enter Tryd.func27, Tryd.ntmps27
  go_wp2_with (go_at_call 37; refine H.out.mono ?_; rintro e w1 ⟨r, rfl, hr, hk1⟩; have HR := Lib.hid hr; have hk1' := Lib.hid hk1; clear hr hk1)
  go_ret
  exact ⟨by rw [← HR.out]; rfl, hk1'.out⟩


set_option maxHeartbeats 800000 in
theorem ix24 (w : World) (v : Value) (es : List Pr) (hP : PairsAt w v es) (hb : es.length ≤ 1000) (bn n : Nat) (h1 : Arr w bn 3 [.int .i64 n]) :
    Calls Tryd.prog 37 #[v, .func (.func 24) #[] #[.pointer (some ⟨bn, 0, none⟩)]] w fun en w' => ∃ r : Int, en = .returned (.int .i64 r) ∧ decide (0 ≤ r) = es.any (oddE n) ∧ Kept [] w w' := by
  obtain ⟨a0, cap, rfl, h⟩ := hP
  have H := Lib.hid h
  have H1 := Lib.hid h1; clear h1
  clear h
  go_enter Tryd.func37, Tryd.ntmps37
  go_wp2
  go_loopg [5, 8] es.length (fun g i5 i wr => ∃ k : Nat, k + g = es.length ∧ i = .int .i64 k ∧ Hid (Kept [] w wr ∧ (es.take k).any (oddE n) = false))
  case atStart => exact ⟨0, by omega, rfl, Kept.refl _ _, by simp⟩
  case round =>
    obtain ⟨k, hk, rfl, hkp⟩ := hrel
    obtain ⟨wo, hwo⟩ : ∃ wo : World, wo = wr := ⟨_, rfl⟩
    subst hwo
    by_cases hlt : k < es.length
    · obtain ⟨p, hp⟩ : ∃ p, es[k]? = some p := ⟨es[k], by simp [hlt]⟩
      obtain ⟨b0, o0, rfl, hbs, x0, x1⟩ := H.out k p hp
      have x0 := (hkp.out.1.cell hbs (by simp)).trans x0
      have x1 := (hkp.out.1.cell hbs (by simp)).trans x1
      have hk0 : (0 : Int) ≤ (k : Int) := by omega
      have hk1 : (k : Int) < (es.length : Int) := by omega
      have htk : es.take (k + 1) = es.take k ++ [p] := by rw [List.take_add_one, hp]; rfl
      have HT := Lib.hid htk
      have HM := Lib.hid (List.mem_of_getElem? hp)
      clear hp htk
      cases hq : (oddE n) p with
      | true =>
        have HQ := Lib.hid hq
        clear hq
        go_wp2_with (first | (go_at_call 24; refine (check1_any _ bn n (H1.out.kept hkp.out.1 (by simp)) p).mono ?_; rw [HQ.out]; rintro e w1 ⟨rfl, hk1'⟩; have hk1'' := Lib.hid hk1'; clear hk1'))
        go_ret
        refine ⟨_, rfl, ?_, hkp.out.1.trans hk1''.out⟩
        rw [show es.any (oddE n) = true from List.any_eq_true.mpr ⟨p, HM.out, HQ.out⟩]
        simp
      | false =>
        have HQ := Lib.hid hq
        clear hq
        go_wp2_with (first | (go_at_call 24; refine (check1_any _ bn n (H1.out.kept hkp.out.1 (by simp)) p).mono ?_; rw [HQ.out]; rintro e w1 ⟨rfl, hk1'⟩; have hk1'' := Lib.hid hk1'; clear hk1'))
        go_roundg (es.length - (k + 1))
        case measure => omega
        case rel => exact ⟨k + 1, by omega, by go_num, hkp.out.1.trans hk1''.out, by rw [HT.out, List.any_append, hkp.out.2]; simp [HQ.out]⟩
    · obtain rfl : k = es.length := by omega
      rw [List.take_length] at *
      go_wp2
      go_ret
      exact ⟨_, rfl, by rw [hkp.out.2]; rfl, hkp.out.1⟩

set_option maxHeartbeats 400000 in
theorem any24 (w : World) (v : Value) (es : List Pr) (hP : PairsAt w v es) (hb : es.length ≤ 1000) (bn n : Nat) (h1 : Arr w bn 3 [.int .i64 n]) :
    Calls Tryd.prog 27 #[v, .func (.func 24) #[] #[.pointer (some ⟨bn, 0, none⟩)]] w fun en w' => en = .returned (.bool (es.any (oddE n))) ∧ Kept [] w w' := by
  have H := Lib.hid (ix24 w v es hP hb bn n h1)
  have H1 := Lib.hid h1; clear h1
  clear hP
  go_enter Tryd.func27, Tryd.ntmps27
  go_wp2_with (go_at_call 37; refine H.out.mono ?_; rintro e w1 ⟨r, rfl, hr, hk1⟩; have HR := Lib.hid hr; have hk1' := Lib.hid hk1; clear hr hk1)
  go_ret
  exact ⟨by rw [← HR.out]; rfl, hk1'.out⟩

end Go.Proofs.YtnfdbbjemlehnaaDoor
