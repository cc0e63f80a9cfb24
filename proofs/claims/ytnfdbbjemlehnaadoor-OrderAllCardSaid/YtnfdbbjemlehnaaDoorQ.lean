/- Rows and Joined, as the package tells them. -/
import Derived.Test.YtnfdbbjemlehnaaDoorP
namespace Go.Proofs.YtnfdbbjemlehnaaDoor
open Go.RowKit

set_option maxHeartbeats 1600000 in
theorem joined_out (w : World) (n : Int) (ev : Value) (es : List Pr) (hP : PairsAt w ev es) (hlb : es.length ≤ 1000) (set : Nat) (hs : set < 64) :
    Calls Tryd.prog 16 #[.int .i64 n, ev, .int .i64 set] w fun en w' => en = .returned (.bool (joinedF es set)) ∧ Kept [] w w' := by
  have H := Lib.hid hP
  obtain ⟨ae, ce, rfl, _⟩ := hP
  go_enter Tryd.func16, Tryd.ntmps16
  go_wp2_with (go_at_call 23; refine (joined_any _ _ _ es H.out hlb set hs).mono ?_; rintro e w2 ⟨rfl, hk2⟩; have HK2 := Lib.hid hk2; clear hk2)
  go_ret
  exact ⟨rfl, HK2.out⟩

set_option maxHeartbeats 1600000 in
theorem rows_out (w : World) (lv ev : Value) (gs es : List Pr) (h : JAt w lv ev gs es) (hlb : es.length ≤ 1000) (hok : okF gs es = true) (set : Nat) (hs : set < 2 ^ gs.length) :
    Calls Tryd.prog 15 #[lv, ev, .int .i64 set] w fun en w' => en = .returned (.int .i64 (rowsF gs es set)) ∧ Kept [] w w' := by
  have ok := Ok.of hok
  have n6 := ok.n6
  have h6 : 2 ^ gs.length ≤ 2 ^ 6 := Nat.pow_le_pow_right (by decide) n6
  have s6 : set < 64 := by omega
  have HJ := Lib.hid h
  have HO := Lib.hid hok
  have HOK := Lib.hid ok
  obtain ⟨⟨al, cl, rfl, _⟩, ⟨ae, ce, rfl, _⟩⟩ := h
  have K : Kept [] w (w.alloc (Obj.cells #[.slice al gs.length cl, .slice ae es.length ce] 49)) := Kept.alloc (Kept.refl [] w) _
  have AJ : Arr (w.alloc (Obj.cells #[.slice al gs.length cl, .slice ae es.length ce] 49)) w.heap.size 49 [.slice al gs.length cl, .slice ae es.length ce] := Arr.new' rfl rfl
  have HK := Lib.hid K
  have HAJ := Lib.hid AJ
  obtain ⟨N, hN⟩ : ∃ N, N = 2 ^ gs.length - 1 := ⟨_, rfl⟩
  have hle : ¬ ((N : Int) < (set : Int)) := by omega
  have hle2 : ¬ (N < set) := by omega
  have HN := Lib.hid hN
  clear hok ok K AJ hN h6 hs
  go_enter Tryd.func15, Tryd.ntmps15
  go_wp2_with fail
  refine (check_any _ _ _ gs es (HJ.out.kept HK.out) (by omega) hlb).mono ?_
  rw [HO.out]
  rintro e w2 ⟨rfl, hk2⟩
  have A2 := HAJ.out.kept hk2 (by simp)
  have c0 := A2.cell (i := 0) rfl
  have c1 := A2.cell (i := 1) rfl
  have lJ := A2.lt
  have HK2 := Lib.hid (HK.out.trans hk2)
  clear hk2 A2
  go_wp2_with fail
  refine (all_any _ al gs.length cl _ n6).mono ?_
  rw [← HN.out]
  rintro e w3 ⟨rfl, hk3⟩
  have c0 := (hk3.cell lJ (by simp)).trans c0
  have c1 := (hk3.cell lJ (by simp)).trans c1
  have HK3 := Lib.hid (HK2.out.trans hk3)
  clear hk3
  go_wp2_with (go_at_call 22; refine (rows_any _ _ _ gs es (HJ.out.kept HK3.out) HOK.out hlb set s6).mono ?_; rintro e w4 ⟨rfl, _, _, hk4⟩; have HK4 := Lib.hid hk4; clear hk4)
  go_ret
  exact ⟨rfl, HK3.out.trans HK4.out⟩
end Go.Proofs.YtnfdbbjemlehnaaDoor
