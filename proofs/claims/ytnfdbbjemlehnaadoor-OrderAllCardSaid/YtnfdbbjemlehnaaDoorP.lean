/- The cost of a shape, as the package tells it. -/
import Derived.Test.YtnfdbbjemlehnaaDoorO
namespace Go.Proofs.YtnfdbbjemlehnaaDoor
open Go.RowKit

/-- What 'Cost' tells: the cost, and the number of the error. -/
def costF (gs es : List Pr) (s : Sh) : Int × Int :=
  if okF gs es then
    if (shapeF gs es s).2.2 = true ∧ (shapeF gs es s).1 = 2 ^ gs.length - 1 then ((shapeF gs es s).2.1, 0) else (0, 4)
  else (0, 1)

set_option maxHeartbeats 3200000 in
theorem cost_any (w : World) (lv ev v : Value) (gs es : List Pr) (s : Sh) (h : JAt w lv ev gs es) (hl : gs.length ≤ 1000) (hlb : es.length ≤ 1000) (htab : Tab w) (hs : ShAt w 0 s v) :
    Calls Tryd.prog 9 #[lv, ev, v] w fun en w' => en = .returned (.tuple #[.int .i64 (costF gs es s).1, .int .i64 (costF gs es s).2]) ∧ Kept [] w w' := by
  have HJ := Lib.hid h
  have HTB := Lib.hid htab
  obtain ⟨⟨al, cl, rfl, _⟩, ⟨ae, ce, rfl, _⟩⟩ := h
  obtain ⟨lf, sa, sn, scp, rfl⟩ := hs.form
  have K : Kept [] w ((w.alloc (Obj.cells #[.int .i64 lf, .slice sa sn scp] 26)).alloc (Obj.cells #[.slice al gs.length cl, .slice ae es.length ce] 49)) := Kept.alloc (Kept.alloc (Kept.refl [] w) _) _
  have AS : Arr ((w.alloc (Obj.cells #[.int .i64 lf, .slice sa sn scp] 26)).alloc (Obj.cells #[.slice al gs.length cl, .slice ae es.length ce] 49)) w.heap.size 26 [.int .i64 lf, .slice sa sn scp] := Arr.alloc (Arr.new' rfl rfl) _
  have AJ : Arr ((w.alloc (Obj.cells #[.int .i64 lf, .slice sa sn scp] 26)).alloc (Obj.cells #[.slice al gs.length cl, .slice ae es.length ce] 49)) (w.heap.size + 1) 49 [.slice al gs.length cl, .slice ae es.length ce] := Arr.new' (by simp) rfl
  have HK := Lib.hid K
  have HAS := Lib.hid AS
  have HAJ := Lib.hid AJ
  have HS := Lib.hid hs
  clear hs htab K AS AJ
  cases hok : okF gs es with
  | false =>
    have hF : costF gs es s = (0, 1) := by simp [costF, hok]
    rw [hF]
    have HO := Lib.hid hok
    clear hok hF
    go_enter Tryd.func9, Tryd.ntmps9
    go_wp2_with (go_at_call 17; refine (check_any _ _ _ gs es (HJ.out.kept HK.out) hl hlb).mono ?_; rw [HO.out]; rintro e w2 ⟨rfl, hk2⟩; have HK2 := Lib.hid hk2; clear hk2)
    go_ret2
    exact ⟨rfl, HK.out.trans HK2.out⟩
  | true =>
    have ok := Ok.of hok
    have n6 := ok.n6
    have J0 := Lib.hid (Join.mk HJ.out ok hlb HTB.out)
    have HO := Lib.hid hok
    have hF : costF gs es s = if (shapeF gs es s).2.2 = true ∧ (shapeF gs es s).1 = 2 ^ gs.length - 1 then ((shapeF gs es s).2.1, 0) else (0, 4) := by simp [costF, hok]
    have HF := Lib.hid hF
    generalize costF gs es s = C at *
    clear hok hF ok
    go_enter Tryd.func9, Tryd.ntmps9
    go_wp2_with fail
    refine (check_any _ _ _ gs es (HJ.out.kept HK.out) hl hlb).mono ?_
    rw [HO.out]
    rintro e w2 ⟨rfl, hk2⟩
    have hs2 := (HS.out.kept HK.out (by simp)).kept hk2 (by simp)
    have AS2 := HAS.out.kept hk2 (by simp)
    have AJ2 := HAJ.out.kept hk2 (by simp)
    have c0 := AS2.cell (i := 0) rfl
    have c1 := AS2.cell (i := 1) rfl
    have d0 := AJ2.cell (i := 0) rfl
    have d1 := AJ2.cell (i := 1) rfl
    have lJ := AJ2.lt
    have HS2 := Lib.hid hs2
    have HK2 := Lib.hid (HK.out.trans hk2)
    clear hk2 hs2 AS2 AJ2
    go_wp2_with fail
    refine (shape_any w _ _ gs es J0.out s _ _ HK2.out HS2.out).mono ?_
    rintro e w3 ⟨A, x, okA, hFA, rfl, hokA, hk3⟩
    have d0 := (hk3.cell lJ (by simp)).trans d0
    have d1 := (hk3.cell lJ (by simp)).trans d1
    have HK3 := Lib.hid (HK2.out.trans hk3)
    have hC := HF.out
    rw [hFA] at hC
    clear hk3
    cases okA with
    | false =>
      rw [if_neg (by simp)] at hC
      have HC := Lib.hid hC
      clear hC
      go_wp2_with fail
      go_ret2
      exact ⟨by rw [HC.out]; rfl, HK3.out⟩
    | true =>
      obtain ⟨a1, a2, a3⟩ := hokA rfl
      by_cases hA : A = 2 ^ gs.length - 1
      · rw [if_pos ⟨rfl, hA⟩] at hC
        have HC := Lib.hid hC
        have HA := Lib.hid hA
        clear hC hA a1
        go_wp2_with (go_at_call 18; refine (all_any _ al gs.length cl _ n6).mono ?_; rw [← HA.out]; rintro e w4 ⟨rfl, hk4⟩; have HK4 := Lib.hid hk4; clear hk4)
        go_ret2
        exact ⟨by rw [HC.out]; rfl, HK3.out.trans HK4.out⟩
      · rw [if_neg (fun h => hA h.2)] at hC
        have HC := Lib.hid hC
        obtain ⟨N, hN⟩ : ∃ N, N = 2 ^ gs.length - 1 := ⟨_, rfl⟩
        have hne : ¬ A = N := by rw [hN]; exact hA
        have HN := Lib.hid hN
        clear hC hA a1 hN
        go_wp2_with (go_at_call 18; refine (all_any _ al gs.length cl _ n6).mono ?_; rw [← HN.out]; rintro e w4 ⟨rfl, hk4⟩; have HK4 := Lib.hid hk4; clear hk4)
        go_ret2
        exact ⟨by rw [HC.out]; rfl, HK3.out.trans HK4.out⟩
end Go.Proofs.YtnfdbbjemlehnaaDoor
