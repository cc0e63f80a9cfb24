/- What a step costs. -/
import Derived.Test.YtnfdbbjemlehnaaDoorG
namespace Go.Proofs.YtnfdbbjemlehnaaDoor
open Go.RowKit

theorem ints2 {w : World} {b : Nat} {x y : Int} (h : Arr w b 3 [.int .i64 x, .int .i64 y]) : IntsAt w (.slice (some ⟨b, 0, none⟩) 2 2) [x, y] := by
  refine ⟨some ⟨b, 0, none⟩, 2, rfl, fun j n hj => ⟨b, 0, rfl, h.lt, ?_⟩⟩
  match j with
  | 0 => simp at hj; subst hj; exact h.cell (i := 0) rfl
  | 1 => simp at hj; subst hj; exact h.cell (i := 1) rfl
  | (k + 2) => simp at hj

theorem ints3 {w : World} {b : Nat} {x y z : Int} (h : Arr w b 3 [.int .i64 x, .int .i64 y, .int .i64 z]) : IntsAt w (.slice (some ⟨b, 0, none⟩) 3 3) [x, y, z] := by
  refine ⟨some ⟨b, 0, none⟩, 3, rfl, fun j n hj => ⟨b, 0, rfl, h.lt, ?_⟩⟩
  match j with
  | 0 => simp at hj; subst hj; exact h.cell (i := 0) rfl
  | 1 => simp at hj; subst hj; exact h.cell (i := 1) rfl
  | 2 => simp at hj; subst hj; exact h.cell (i := 2) rfl
  | (k + 3) => simp at hj

/-- What two parts cost together. -/
def stepF (gs es : List Pr) (a b : Nat) : Int :=
  let x := pagesF gs es a
  let y := pagesF gs es b
  let c := cap (cap (3 * (x + y)) + pagesF gs es (a ||| b))
  if edgeF es a b then c else cap (c + cap (x * y))

theorem or_lt {a b n : Nat} (ha : a < 2 ^ n) (hb : b < 2 ^ n) : a ||| b < 2 ^ n := Nat.or_lt_two_pow ha hb

set_option maxHeartbeats 3200000 in
theorem step_any (w : World) (lv ev : Value) (gs es : List Pr) (h : Join w lv ev gs es) (a b : Nat) (ha : a < 2 ^ gs.length) (hb : b < 2 ^ gs.length) :
    Calls Tryd.prog 30 #[.agg #[lv, ev], .int .i64 a, .int .i64 b] w fun en w' => en = .returned (.int .i64 (stepF gs es a b)) ∧ 0 ≤ stepF gs es a b ∧ stepF gs es a b ≤ 9007199254740991 ∧ Kept [] w w' := by
  have h6 : 2 ^ gs.length ≤ 2 ^ 6 := Nat.pow_le_pow_right (by decide) h.ok.n6
  have hor := or_lt ha hb
  have a6 : a < 64 := by omega
  have b6 : b < 64 := by omega
  have hlb := h.lb
  have y1 := or_nat a b (by omega) (by omega)
  have HA := Lib.hid ha
  have HB := Lib.hid hb
  have HOR := Lib.hid hor
  have HJ := Lib.hid h
  have hS : stepF gs es a b = (if edgeF es a b then cap (cap (3 * (pagesF gs es a + pagesF gs es b)) + pagesF gs es (a ||| b)) else cap (cap (cap (3 * (pagesF gs es a + pagesF gs es b)) + pagesF gs es (a ||| b)) + cap (pagesF gs es a * pagesF gs es b))) := rfl
  have HS := Lib.hid hS
  generalize stepF gs es a b = S at *
  clear h ha hb hor h6 hS
  go_enter Tryd.func30, Tryd.ntmps30
  go_wp2
  have A1 : Arr (w.alloc (Obj.cells #[lv, ev] 49)) w.heap.size 49 [lv, ev] := Arr.new _ _ _
  have K1 := Kept.alloc (Kept.refl [] w) (Obj.cells #[lv, ev] 49)
  generalize hw1 : w.alloc (Obj.cells #[lv, ev] 49) = w1 at *
  generalize hbx : w.heap.size = bx at A1 ⊢
  have A := Lib.hid A1
  have K := Lib.hid K1
  have J := Lib.hid (HJ.out.kept K1)
  have hbx := A1.lt
  have c0 := A1.cell (i := 0) rfl
  have c1 := A1.cell (i := 1) rfl
  clear A1 K1 hw1
  have sk := Kept.refl [] w1
  go_region_held3 (fun w' => w'.cell? ⟨bx, 0, none⟩ = some lv ∧ w'.cell? ⟨bx, 1, none⟩ = some ev)
    (first | go_keep | exact ⟨s1, s2⟩)
    ((go_at_call 38; refine (pages_any _ lv ev gs es (J.out.kept (by first | exact sk | exact sk.drew | exact sk.drewN _)) _ (by first | exact HA.out | exact HB.out)).mono ?_; rintro e w' ⟨rfl, hx0, hx1, hk⟩; have sk := Kept.trans (by first | exact sk | exact sk.drew | exact sk.drewN _) hk; have s1 := (sk.cell hbx (by simp)).trans c0; have s2 := (sk.cell hbx (by simp)).trans c1))
  have bx0 : 0 ≤ pagesF gs es a := by omega
  have bx1 : pagesF gs es a ≤ 1099511627776 := by omega
  have by0 : 0 ≤ pagesF gs es b := by omega
  have by1 : pagesF gs es b ≤ 1099511627776 := by omega
  have c0 := s1
  have c1 := s2
  have HK1 := Lib.hid sk
  have hbx := Nat.lt_of_lt_of_le hbx sk.size
  clear hx0 hx1 s1 s2 hk
  have J := Lib.hid (J.out.kept HK1.out)
  clear sk
  have sk := Kept.refl [] w'
  have hwr : IntKind.i64.wrap (pagesF gs es a + pagesF gs es b) = pagesF gs es a + pagesF gs es b := IntWalk.i64_in _ (by omega)
  go_wp2
  go_region_held3 (fun w' => w'.cell? ⟨bx, 0, none⟩ = some lv ∧ w'.cell? ⟨bx, 1, none⟩ = some ev)
    (first | go_keep | exact ⟨s1, s2⟩)
    (first | (go_at_call 38; refine (pages_any _ lv ev gs es (J.out.kept (by first | exact sk | exact sk.drew | exact sk.drewN _)) _ HOR.out).mono ?_; rintro e w' ⟨rfl, hx0, hx1, hk⟩; have sk := Kept.trans (by first | exact sk | exact sk.drew | exact sk.drewN _) hk; have s1 := (sk.cell hbx (by simp)).trans c0; have s2 := (sk.cell hbx (by simp)).trans c1) | (go_at_call 33; (try rw [hwr]); refine (times_any _ _ _ _ (by omega) (by omega) (by omega) (by omega) (by omega) (by omega)).mono ?_; rintro e w' ⟨rfl, rfl⟩) | (go_at_call 29; refine (plus_any _ _ [_, _] (by first | exact ints2 (Arr.new' (by simp) rfl) | exact ints2 (Arr.drew (Arr.new' (by simp) rfl))) (by simp) (by intro n hn; simp at hn; omega)).mono ?_; rintro e w' ⟨rfl, rfl⟩))
  have K3 := Kept.alloc sk (Obj.cells #[Value.int IntKind.i64 (min (3 * (pagesF gs es a + pagesF gs es b)) 9007199254740991), Value.int IntKind.i64 (pagesF gs es (a ||| b))] 3)
  have HK3 := Lib.hid (HK1.out.trans K3)
  have J3 := Lib.hid (J.out.kept K3)
  have c0 := (K3.cell hbx (by simp)).trans c0
  have c1 := (K3.cell hbx (by simp)).trans c1
  have hC0 : 0 ≤ cap (min (3 * (pagesF gs es a + pagesF gs es b)) 9007199254740991 + pagesF gs es (a ||| b)) := by unfold cap maxCost; omega
  have hC1 : cap (min (3 * (pagesF gs es a + pagesF gs es b)) 9007199254740991 + pagesF gs es (a ||| b)) ≤ 9007199254740991 := by unfold cap maxCost; omega
  have hS2 := HS.out
  have hCC : cap (cap (3 * (pagesF gs es a + pagesF gs es b)) + pagesF gs es (a ||| b)) = cap (min (3 * (pagesF gs es a + pagesF gs es b)) 9007199254740991 + pagesF gs es (a ||| b)) := rfl
  rw [hCC] at hS2
  rename_i hHeld
  clear hHeld
  generalize w'.alloc (Obj.cells #[Value.int IntKind.i64 (min (3 * (pagesF gs es a + pagesF gs es b)) 9007199254740991), Value.int IntKind.i64 (pagesF gs es (a ||| b))] 3) = w3 at *
  generalize cap (min (3 * (pagesF gs es a + pagesF gs es b)) 9007199254740991 + pagesF gs es (a ||| b)) = C at *
  have hnn : 0 ≤ pagesF gs es a * pagesF gs es b := Int.mul_nonneg bx0 by0
  clear hk sk s1 s2 HS K3 hCC hwr hbx
  cases hed : edgeF es a b with
  | true =>
    rw [hed, if_pos rfl] at hS2
    have HE := Lib.hid hed
    clear hed
    go_wp2_with (first | (go_at_call 34; refine (edge_any _ lv ev es J3.out.at_.e hlb a b a6 b6).mono ?_; rw [HE.out]; rintro e w4 ⟨rfl, hk4⟩; have HK4 := Lib.hid hk4; clear hk4))
    go_ret
    exact ⟨by rw [hS2]; rfl, by omega, by omega, K.out.trans (HK3.out.trans HK4.out)⟩
  | false =>
    rw [hed, if_neg (by simp)] at hS2
    have HE := Lib.hid hed
    have HS2 := Lib.hid hS2
    clear hed hS2
    go_wp2_with (first | (go_at_call 34; refine (edge_any _ lv ev es J3.out.at_.e hlb a b a6 b6).mono ?_; rw [HE.out]; rintro e w4 ⟨rfl, hk4⟩; have HK4 := Lib.hid hk4; clear hk4) | (go_at_call 33; refine (times_any _ _ _ _ (by omega) (by omega) (by omega) (by omega) (by omega) (by omega)).mono ?_; rintro e w' ⟨rfl, rfl⟩) | (go_at_call 29; refine (plus_any _ _ [_, _] (by first | exact ints2 (Arr.new' (by simp) rfl) | exact ints2 (Arr.drew (Arr.new' (by simp) rfl))) (by simp) (by intro n hn; simp at hn; omega)).mono ?_; rintro e w' ⟨rfl, rfl⟩))
    go_ret
    refine ⟨?_, ?_, ?_, K.out.trans (HK3.out.trans (HK4.out.alloc _))⟩
    · rw [HS2.out]; simp [cap, maxCost]
    · rw [HS2.out]; unfold cap maxCost; omega
    · rw [HS2.out]; unfold cap maxCost; omega
end Go.Proofs.YtnfdbbjemlehnaaDoor
