/- What a shape of two parts costs. -/
import Derived.Test.YtnfdbbjemlehnaaDoorN
namespace Go.Proofs.YtnfdbbjemlehnaaDoor
open Go.RowKit

set_option maxHeartbeats 6400000 in
set_option maxRecDepth 100000 in
theorem shape_pair (w0 w : World) (lv ev v : Value) (gs es : List Pr) (h : Join w0 lv ev gs es) (hk0 : Kept [] w0 w) (p q : Sh) (hv : ShAt w 0 (.node (-1) [p, q]) v)
    (ihp : ∀ (w : World) (v : Value), Kept [] w0 w → ShAt w 0 p v → Calls Tryd.prog 21 #[.agg #[lv, ev], v] w (ShapePost gs es p w))
    (ihq : ∀ (w : World) (v : Value), Kept [] w0 w → ShAt w 0 q v → Calls Tryd.prog 21 #[.agg #[lv, ev], v] w (ShapePost gs es q w)) :
    Calls Tryd.prog 21 #[.agg #[lv, ev], v] w (ShapePost gs es (.node (-1) [p, q]) w) := by
  obtain ⟨b, o, cp, x0, x1, y0, y1, rfl, hb, q0, q1, q2, q3, hp, hq⟩ := hv.kids
  have H := Lib.hid h
  have HK0 := Lib.hid hk0
  have n6 := h.ok.n6
  have hlb := h.lb
  have HIP := Lib.hid ihp
  have HIQ := Lib.hid ihq
  obtain ⟨⟨al, cl, rfl, _⟩, ⟨ae, ce, rfl, _⟩⟩ := h.at_
  have K : Kept [] w ((w.alloc (Obj.cells #[.slice al gs.length cl, .slice ae es.length ce] 49)).alloc (Obj.cells #[.int .i64 (-1), .slice (some ⟨b, o, none⟩) 2 cp] 26)) := Kept.alloc (Kept.alloc (Kept.refl [] w) _) _
  have HP := Lib.hid (hp.kept K (by simp))
  have HQ := Lib.hid (hq.kept K (by simp))
  have AJ : Arr ((w.alloc (Obj.cells #[.slice al gs.length cl, .slice ae es.length ce] 49)).alloc (Obj.cells #[.int .i64 (-1), .slice (some ⟨b, o, none⟩) 2 cp] 26)) w.heap.size 49 [.slice al gs.length cl, .slice ae es.length ce] := Arr.alloc (Arr.new' rfl rfl) _
  have AS : Arr ((w.alloc (Obj.cells #[.slice al gs.length cl, .slice ae es.length ce] 49)).alloc (Obj.cells #[.int .i64 (-1), .slice (some ⟨b, o, none⟩) 2 cp] 26)) (w.heap.size + 1) 26 [.int .i64 (-1), .slice (some ⟨b, o, none⟩) 2 cp] := Arr.new' (by simp) rfl
  have q0 := (K.cell hb (by simp)).trans q0
  have q1 := (K.cell hb (by simp)).trans q1
  have q2 := (K.cell hb (by simp)).trans q2
  have q3 := (K.cell hb (by simp)).trans q3
  have hb := Nat.lt_of_lt_of_le hb K.size
  have HK := Lib.hid K
  have HAJ := Lib.hid AJ
  have HAS := Lib.hid AS
  have lJ := AJ.lt
  have lS := AS.lt
  have c0 := AJ.cell (i := 0) rfl
  have c1 := AJ.cell (i := 1) rfl
  have d0 := AS.cell (i := 0) rfl
  have d1 := AS.cell (i := 1) rfl
  clear hv hp hq h hk0 ihp ihq K AJ AS
  go_enter Tryd.func21, Tryd.ntmps21
  go_wp2_with fail
  generalize hw1 : (w.alloc (Obj.cells #[.slice al gs.length cl, .slice ae es.length ce] 49)).alloc (Obj.cells #[.int .i64 (-1), .slice (some ⟨b, o, none⟩) 2 cp] 26) = w1 at *
  clear hw1
  have sk := Kept.refl [] w1
  go_region_held3 (fun w' => w'.cell? ⟨w.heap.size, 0, none⟩ = some (.slice al gs.length cl) ∧ w'.cell? ⟨w.heap.size, 1, none⟩ = some (.slice ae es.length ce) ∧ w'.cell? ⟨w.heap.size + 1, 1, none⟩ = some (.slice (some ⟨b, o, none⟩) 2 cp) ∧ w'.cell? ⟨b, o, none⟩ = some x0 ∧ w'.cell? ⟨b, o + 1, none⟩ = some x1)
    (first | exact ⟨s1, s2, s3, s4, s5⟩ | go_keep)
    ((go_at_call 21; refine (HIP.out _ _ (HK0.out.trans (HK.out.trans (by first | exact sk | exact sk.drew | exact sk.drewN _))) (HP.out.kept (by first | exact sk | exact sk.drew | exact sk.drewN _) (by simp))).mono ?_; rintro e w' ⟨A, x, okA, hFA, rfl, hokA, hk⟩; have sk := Kept.trans (by first | exact sk | exact sk.drew | exact sk.drewN _) hk; have s1 := (sk.cell lJ (by simp)).trans c0; have s2 := (sk.cell lJ (by simp)).trans c1; have s3 := (sk.cell lS (by simp)).trans d1; have s4 := (sk.cell hb (by simp)).trans q0; have s5 := (sk.cell hb (by simp)).trans q1))
  rename_i hHeld
  have q2 := (sk.cell hb (by simp)).trans q2
  have q3 := (sk.cell hb (by simp)).trans q3
  have d0 := (sk.cell lS (by simp)).trans d0
  have HK2 := Lib.hid (HK.out.trans sk)
  have HQ := Lib.hid (HQ.out.kept sk (by simp))
  have lJ := Nat.lt_of_lt_of_le lJ sk.size
  have lS := Nat.lt_of_lt_of_le lS sk.size
  have hb := Nat.lt_of_lt_of_le hb sk.size
  have c0 := s1
  have c1 := s2
  have d1 := s3
  have HFA := Lib.hid hFA
  have HOA := Lib.hid hokA
  clear hHeld s1 s2 s3 s4 s5 sk hk hFA hokA
  go_wp2_with fail
  have sk := Kept.refl [] w'
  go_region_held3 (fun w' => w'.cell? ⟨w.heap.size, 0, none⟩ = some (.slice al gs.length cl) ∧ w'.cell? ⟨w.heap.size, 1, none⟩ = some (.slice ae es.length ce) ∧ w'.cell? ⟨w.heap.size + 1, 1, none⟩ = some (.slice (some ⟨b, o, none⟩) 2 cp) ∧ w'.cell? ⟨b, o + 2, none⟩ = some y0 ∧ w'.cell? ⟨b, o + 3, none⟩ = some y1)
    (first | exact ⟨s1, s2, s3, s4, s5⟩ | go_keep)
    ((go_at_call 21; refine (HIQ.out _ _ (HK0.out.trans (HK2.out.trans (by first | exact sk | exact sk.drew | exact sk.drewN _))) (HQ.out.kept (by first | exact sk | exact sk.drew | exact sk.drewN _) (by simp))).mono ?_; rintro e w' ⟨B, y, okB, hFB, rfl, hokB, hk⟩; have sk := Kept.trans (by first | exact sk | exact sk.drew | exact sk.drewN _) hk; have s1 := (sk.cell lJ (by simp)).trans c0; have s2 := (sk.cell lJ (by simp)).trans c1; have s3 := (sk.cell lS (by simp)).trans d1; have s4 := (sk.cell hb (by simp)).trans q2; have s5 := (sk.cell hb (by simp)).trans q3))
  rename_i hHeld
  have HK3 := Lib.hid (HK2.out.trans sk)
  have lJ := Nat.lt_of_lt_of_le lJ sk.size
  have c0 := s1
  have c1 := s2
  have HFB := Lib.hid hFB
  have HOB := Lib.hid hokB
  clear hHeld s1 s2 s3 s4 s5 sk hk hFB hokB q0 q1 q2 q3 d0 d1 HP HQ
  have hS : shapeF gs es (.node (-1) [p, q]) = if !okA || !okB || (A &&& B) != 0 || !mayF es A B then (0, 0, false) else (A ||| B, cap (x + (y + stepF gs es A B)), true) := by
    rw [shapeF, if_neg (by simp)]; simp only [HFA.out, HFB.out]
  have HS := Lib.hid hS
  clear hS
  cases okA with
  | false =>
    go_wp2_with fail
    exact bodyPost_ret (v := .tuple #[.int .i64 0, .int .i64 0, .bool false]) (by simp [results, Tryd.results21, go_sem]) rfl ⟨0, 0, false, by rw [HS.out]; rfl, rfl, by simp, HK3.out⟩
  | true =>
  cases okB with
  | false =>
    go_wp2_with fail
    exact bodyPost_ret (v := .tuple #[.int .i64 0, .int .i64 0, .bool false]) (by simp [results, Tryd.results21, go_sem]) rfl ⟨0, 0, false, by rw [HS.out]; rfl, rfl, by simp, HK3.out⟩
  | true =>
  obtain ⟨a1, a2, a3⟩ := HOA.out rfl
  obtain ⟨b1, b2, b3⟩ := HOB.out rfl
  have h6 : 2 ^ gs.length ≤ 2 ^ 6 := Nat.pow_le_pow_right (by decide) n6
  have a6 : A < 64 := by omega
  have b6 : B < 64 := by omega
  have hor := or_lt a1 b1
  have HAL := Lib.hid a1
  have HBL := Lib.hid b1
  have HOR := Lib.hid hor
  have z1 := and_test A B (by omega) (by omega)
  have z2 := or_nat A B (by omega) (by omega)
  clear hor h6 a1 b1
  cases hAB : (A &&& B == 0) with
  | false =>
    rw [hAB] at z1
    have z3 : ¬ (bits BinOp.and IntKind.i64 (A : Int) (B : Int) = 0) := by simpa using z1
    have z4 : (bits BinOp.and IntKind.i64 (A : Int) (B : Int) != 0) = true := by simpa using z1
    have hS := HS.out
    rw [show ((A &&& B) != 0) = true from by simp only [bne, hAB]; rfl] at hS
    have HS := Lib.hid hS
    clear hAB hS
    go_wp2_with fail
    exact bodyPost_ret (v := .tuple #[.int .i64 0, .int .i64 0, .bool false]) (by simp [results, Tryd.results21, go_sem]) rfl ⟨0, 0, false, by rw [HS.out]; rfl, rfl, by simp, HK3.out⟩
  | true =>
  rw [hAB] at z1
  have z3 : bits BinOp.and IntKind.i64 (A : Int) (B : Int) = 0 := by simpa using z1
  clear z1
  have hS := HS.out
  rw [show ((A &&& B) != 0) = false from by simp only [bne, hAB]; rfl] at hS
  have J := Lib.hid (H.out.kept (HK0.out.trans HK3.out))
  cases hM : mayF es A B with
  | false =>
    rw [hM] at hS
    have HS := Lib.hid hS
    have HM := Lib.hid hM
    clear hAB hS hM
    go_wp2_with (go_at_call 28; refine (may_any _ _ _ es J.out.at_.e hlb A B a6 b6).mono ?_; rw [HM.out]; rintro e w4 ⟨rfl, hk4⟩; have HK4 := Lib.hid hk4; clear hk4)
    exact bodyPost_ret (v := .tuple #[.int .i64 0, .int .i64 0, .bool false]) (by simp [results, Tryd.results21, go_sem]) rfl ⟨0, 0, false, by rw [HS.out]; rfl, rfl, by simp, HK3.out.trans HK4.out⟩
  | true =>
    rw [hM] at hS
    have HS := Lib.hid hS
    have HM := Lib.hid hM
    clear hAB hS hM
    go_wp2_with (go_at_call 28; refine (may_any _ _ _ es J.out.at_.e hlb A B a6 b6).mono ?_; rw [HM.out]; rintro e w4 ⟨rfl, hk4⟩; have c0 := (hk4.cell lJ (by simp)).trans c0; have c1 := (hk4.cell lJ (by simp)).trans c1; have HK4 := Lib.hid hk4; clear hk4)
    refine (step_any _ _ _ gs es (J.out.kept HK4.out) A B HAL.out HBL.out).mono ?_
    rintro e w5 ⟨rfl, hs0, hs1, hk5⟩
    have HK5 := Lib.hid hk5
    clear hk5
    go_wp2_with (go_at_call 29; refine (plus_any _ _ [_, _, _] (by first | exact ints3 (Arr.new' (by simp) rfl) | exact ints3 (Arr.drew (Arr.new' (by simp) rfl))) (by simp) (by intro n hn; simp at hn; omega)).mono ?_; rintro e w' ⟨rfl, rfl⟩)
    have hsum : [x, y, stepF gs es A B].sum = x + (y + stepF gs es A B) := by simp
    have HSUM := Lib.hid hsum
    clear hsum
    refine bodyPost_ret (v := .tuple #[.int .i64 (A ||| B : Nat), .int .i64 (cap (x + (y + stepF gs es A B))), .bool true]) (by simp [results, Tryd.results21, go_sem]) rfl ⟨A ||| B, _, true, by rw [HS.out]; rfl, rfl, fun _ => ⟨HOR.out, ?_, ?_⟩, (HK3.out.trans (HK4.out.trans HK5.out)).alloc _⟩
    · unfold cap maxCost; omega
    · unfold cap maxCost; omega

theorem shape_any (w0 : World) (lv ev : Value) (gs es : List Pr) (h : Join w0 lv ev gs es) : ∀ (s : Sh) (w : World) (v : Value), Kept [] w0 w → ShAt w 0 s v → Calls Tryd.prog 21 #[.agg #[lv, ev], v] w (ShapePost gs es s w) := by
  intro s
  refine Sh.ind (P := fun s => ∀ (w : World) (v : Value), Kept [] w0 w → ShAt w 0 s v → Calls Tryd.prog 21 #[.agg #[lv, ev], v] w (ShapePost gs es s w)) ?_ s
  intro lf l ih w v hk hv
  obtain ⟨⟨al, cl, hlv, _⟩, _⟩ := h.at_
  by_cases h0 : l.length = 0
  · obtain rfl := List.eq_nil_of_length_eq_zero h0
    cases hv
    subst hlv
    exact shape_leaf w al cl ev gs es lf _ _ h.ok.n6
  · by_cases h2 : l.length ≠ 2 ∨ lf ≠ -1
    · cases hv
      subst hlv
      exact shape_other w al cl ev gs es lf l _ _ h0 h2
    · have h3 : l.length = 2 := by omega
      have h4 : lf = -1 := by omega
      subst h4
      match l, h3, ih, hv with
      | [p, q], _, ih, hv => exact shape_pair w0 w lv ev v gs es h hk p q hv (ih p (by simp)) (ih q (by simp))
end Go.Proofs.YtnfdbbjemlehnaaDoor
