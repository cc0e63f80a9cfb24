/- The living example. -/
import Derived.Test.YtnfdbbjemlehnaaDoorX
namespace Go.Proofs.YtnfdbbjemlehnaaDoor
open Go.RowKit

def BestPost (s : Sh) (c : Int) (w : World) (en : Ending) (w' : World) : Prop := ∃ v, en = .returned (.tuple #[v, .int .i64 c, .int .i64 0]) ∧ ShAt w' w.heap.size s v ∧ Kept [] w w'
def CostPost (c f : Int) (w : World) (en : Ending) (w' : World) : Prop := en = .returned (.tuple #[.int .i64 c, .int .i64 f]) ∧ Kept [] w w'
def NoPost (w : World) (en : Ending) (w' : World) : Prop := en = .returned (.tuple #[.agg #[.int .i64 0, .slice none 0 0], .int .i64 0, .int .i64 1]) ∧ Kept [] w w'
def IntPost (c : Int) (w : World) (en : Ending) (w' : World) : Prop := en = .returned (.int .i64 c) ∧ Kept [] w w'
def BoolPost (c : Bool) (w : World) (en : Ending) (w' : World) : Prop := en = .returned (.bool c) ∧ Kept [] w w'

theorem PairsAt.nil (w : World) : PairsAt w (.slice none 0 0) [] := ⟨none, 0, rfl, fun j p h => by simp at h⟩

theorem PairsAt.of_arr {w : World} {b T n : Nat} {xs : List Value} {ps : List Pr} (h : Arr w b T xs) (hx : xs = tcells ps) : PairsAt w (.slice (some ⟨b, 0, none⟩) ps.length n) ps := by
  subst hx
  refine ⟨some ⟨b, 0, none⟩, n, rfl, fun j p hp => ⟨b, 0, rfl, h.lt, ?_, ?_⟩⟩
  · rw [Nat.zero_add]; exact h.cell (tcells_at ps j p hp).1
  · rw [Nat.zero_add]; exact h.cell (tcells_at ps j p hp).2

theorem l_best (w : World) (lv ev : Value) (h : JAt w lv ev lG lE) (ht : Tab w) : Calls Tryd.prog 8 #[lv, ev] w (BestPost lB lC w) :=
  best_ok w lv ev lG lE h (by decide) ht l_ok
theorem l_none (w : World) : Calls Tryd.prog 8 #[.slice none 0 0, .slice none 0 0] w (NoPost w) :=
  best_no w _ _ [] [] ⟨PairsAt.nil w, PairsAt.nil w⟩ (by decide) (by decide) l_no
theorem l_cost (w : World) (lv ev v : Value) (s : Sh) (c f : Int) (hc : costF lG lE s = (c, f)) (h : JAt w lv ev lG lE) (ht : Tab w) (hs : ShAt w 0 s v) : Calls Tryd.prog 9 #[lv, ev, v] w (CostPost c f w) := by
  have := cost_any w lv ev v lG lE s h (by decide) (by decide) ht hs
  rw [hc] at this
  exact this
theorem l_rows (w : World) (lv ev : Value) (h : JAt w lv ev lG lE) : Calls Tryd.prog 15 #[lv, ev, .int .i64 3] w (IntPost 50 w) := by
  have := rows_out w lv ev lG lE h (by decide) l_ok 3 (by decide)
  rw [l_r] at this
  exact this
theorem l_joined (w : World) (ev : Value) (h : PairsAt w ev lE) (set : Nat) (b : Bool) (hb : joinedF lE set = b) (hs : set < 64) : Calls Tryd.prog 16 #[.int .i64 3, ev, .int .i64 set] w (BoolPost b w) := by
  have := joined_out w 3 ev lE h (by decide) set hs
  rw [hb] at this
  exact this

set_option maxHeartbeats 6400000 in
set_option maxRecDepth 100000 in
theorem lives_any (w : World) (htab : Tab w) : Calls Tryd.prog 7 #[] w (TruePost w) := by
  have HT0 := Lib.hid htab
  clear htab
  go_enter Tryd.func7, Tryd.ntmps7
  go_wp2_with fail
  have K0 : Kept [] w ((w.alloc (Obj.cells #[.int .i64 100, .int .i64 10, .int .i64 50, .int .i64 5, .int .i64 1000, .int .i64 90] 43)).alloc (Obj.cells #[.int .i64 0, .int .i64 1, .int .i64 1, .int .i64 2] 39)) := Kept.alloc (Kept.alloc (Kept.refl [] w) _) _
  have J0 : JAt ((w.alloc (Obj.cells #[.int .i64 100, .int .i64 10, .int .i64 50, .int .i64 5, .int .i64 1000, .int .i64 90] 43)).alloc (Obj.cells #[.int .i64 0, .int .i64 1, .int .i64 1, .int .i64 2] 39)) (.slice (some ⟨w.heap.size, 0, none⟩) 3 3) (.slice (some ⟨w.heap.size + 1, 0, none⟩) 2 2) lG lE :=
    ⟨PairsAt.of_arr (b := w.heap.size) (T := 43) (n := 3) (ps := lG) (xs := [.int .i64 100, .int .i64 10, .int .i64 50, .int .i64 5, .int .i64 1000, .int .i64 90]) (Arr.alloc (Arr.new' rfl rfl) _) rfl, PairsAt.of_arr (b := w.heap.size + 1) (T := 39) (n := 2) (ps := lE) (xs := [.int .i64 0, .int .i64 1, .int .i64 1, .int .i64 2]) (Arr.new' (w := w.alloc (Obj.cells #[.int .i64 100, .int .i64 10, .int .i64 50, .int .i64 5, .int .i64 1000, .int .i64 90] 43)) (by simp) rfl) rfl⟩
  obtain ⟨c, hc1, hc2, m, hc3, hc4⟩ : ∃ c, (∀ (w : World) (lv ev : Value) (h : JAt w lv ev lG lE) (ht : Tab w), Calls Tryd.prog 8 #[lv, ev] w (BestPost lB c w)) ∧ costF lG lE lB = (c, 0) ∧ ∃ m, costF lG lE lS2 = (m, 0) ∧ c ≤ m := ⟨lC, l_best, l_k, _, l_2.1, l_2.2⟩
  have HB := Lib.hid hc1
  have HC := Lib.hid (And.intro hc2 hc3)
  have HKK := Lib.hid K0
  have HJ := Lib.hid J0
  clear hc1 hc2 hc3 K0 J0
  generalize (w.alloc (Obj.cells #[.int .i64 100, .int .i64 10, .int .i64 50, .int .i64 5, .int .i64 1000, .int .i64 90] 43)).alloc (Obj.cells #[.int .i64 0, .int .i64 1, .int .i64 1, .int .i64 2] 39) = w0 at *
  refine (HB.out _ _ _ HJ.out (HT0.out.kept HKK.out)).mono ?_
  rintro e w1 ⟨v, rfl, hs1, hk1⟩
  obtain ⟨lf, a, n, cp, rfl⟩ := hs1.form
  have HS1 := Lib.hid (hs1.mono (Nat.zero_le _))
  have HK1 := Lib.hid hk1
  clear hs1 hk1
  go_wp2_with fail
  have k1 : Kept [] w0 (w1.alloc (Obj.cells #[.int .i64 lf, .slice a n cp] 26)) := HK1.out.alloc _
  have a1 : Arr (w1.alloc (Obj.cells #[.int .i64 lf, .slice a n cp] 26)) w1.heap.size 26 [.int .i64 lf, .slice a n cp] := Arr.new' rfl rfl
  have HK1 := Lib.hid k1
  have HS1 := Lib.hid (HS1.out.kept (Kept.alloc (Kept.refl [] w1) (Obj.cells #[.int .i64 lf, .slice a n cp] 26)) (by simp))
  have HA := Lib.hid a1
  clear k1 a1
  generalize hb1 : w1.heap.size = b1 at *
  clear hb1
  generalize w1.alloc (Obj.cells #[.int .i64 lf, .slice a n cp] 26) = w2 at *
  refine (l_cost _ _ _ _ lB c 0 HC.out.1 (HJ.out.kept HK1.out) (HT0.out.kept (HKK.out.trans HK1.out)) HS1.out).mono ?_
  rintro e w3 ⟨rfl, hk3⟩
  have HK3 := Lib.hid hk3
  clear hk3
  go_wp2_with fail
  refine (leaf_any _ _ 0).mono ?_
  rintro e w4 ⟨v4, rfl, hs4, hk4⟩
  have HS4 := Lib.hid hs4
  have HK4 := Lib.hid hk4
  clear hs4 hk4
  go_wp2_with fail
  refine (leaf_any _ _ 0).mono ?_
  rintro e w5 ⟨v5, rfl, hs5, hk5⟩
  have HS5 := Lib.hid hs5
  have HS4 := Lib.hid (HS4.out.kept hk5 (by simp))
  have HK5 := Lib.hid (HK4.out.trans hk5)
  clear hs5 hk5 HK4
  go_wp2_with fail
  refine (pair_any _ 0 (Nat.zero_le _) _ _ _ _ HS4.out HS5.out).mono ?_
  rintro e w6 ⟨v6, rfl, hs6, hk6⟩
  have HS6 := Lib.hid hs6
  have HK6 := Lib.hid (HK5.out.trans hk6)
  clear hs6 hk6 HK5 HS4 HS5
  go_wp2_with fail
  refine (leaf_any _ _ 0).mono ?_
  rintro e w7 ⟨v7, rfl, hs7, hk7⟩
  have HS7 := Lib.hid hs7
  have HS6 := Lib.hid (HS6.out.kept hk7 (by simp))
  have HK7 := Lib.hid (HK6.out.trans hk7)
  clear hs7 hk7 HK6
  go_wp2_with fail
  refine (pair_any _ 0 (Nat.zero_le _) _ _ _ _ HS6.out HS7.out).mono ?_
  rintro e w8 ⟨v8, rfl, hs8, hk8⟩
  have HS8 := Lib.hid hs8
  have HK8 := Lib.hid (HK1.out.trans (HK3.out.trans (HK7.out.trans hk8)))
  have HA := Lib.hid (HA.out.kept (HK3.out.trans (HK7.out.trans hk8)) (by simp))
  have HS1 := Lib.hid (HS1.out.kept (HK3.out.trans (HK7.out.trans hk8)) (by simp))
  clear hs8 hk8 HK7 HK3 HK1 HS6 HS7
  go_wp2_with fail
  refine (l_cost _ _ _ _ lS1 0 4 l_1 (HJ.out.kept HK8.out) (HT0.out.kept (HKK.out.trans HK8.out)) HS8.out).mono ?_
  rintro e w9 ⟨rfl, hk9⟩
  have HK9 := Lib.hid (HK8.out.trans hk9)
  have HA := Lib.hid (HA.out.kept hk9 (by simp))
  have HS1 := Lib.hid (HS1.out.kept hk9 (by simp))
  clear hk9 HK8 HS8
  go_wp2_with fail
  refine (leaf_any _ _ 0).mono ?_
  rintro e w4 ⟨v4, rfl, hs4, hk4⟩
  have HS4 := Lib.hid hs4
  have HK4 := Lib.hid hk4
  clear hs4 hk4
  go_wp2_with fail
  refine (leaf_any _ _ 0).mono ?_
  rintro e w5 ⟨v5, rfl, hs5, hk5⟩
  have HS5 := Lib.hid hs5
  have HS4 := Lib.hid (HS4.out.kept hk5 (by simp))
  have HK5 := Lib.hid (HK4.out.trans hk5)
  clear hs5 hk5 HK4
  go_wp2_with fail
  refine (pair_any _ 0 (Nat.zero_le _) _ _ _ _ HS4.out HS5.out).mono ?_
  rintro e w6 ⟨v6, rfl, hs6, hk6⟩
  have HS6 := Lib.hid hs6
  have HK6 := Lib.hid (HK5.out.trans hk6)
  clear hs6 hk6 HK5 HS4 HS5
  go_wp2_with fail
  refine (leaf_any _ _ 0).mono ?_
  rintro e w7 ⟨v7, rfl, hs7, hk7⟩
  have HS7 := Lib.hid hs7
  have HS6 := Lib.hid (HS6.out.kept hk7 (by simp))
  have HK7 := Lib.hid (HK6.out.trans hk7)
  clear hs7 hk7 HK6
  go_wp2_with fail
  refine (pair_any _ 0 (Nat.zero_le _) _ _ _ _ HS6.out HS7.out).mono ?_
  rintro e w8 ⟨v8, rfl, hs8, hk8⟩
  have HS8 := Lib.hid hs8
  have HK8 := Lib.hid (HK9.out.trans (HK7.out.trans hk8))
  have HA := Lib.hid (HA.out.kept (HK7.out.trans hk8) (by simp))
  have HS1 := Lib.hid (HS1.out.kept (HK7.out.trans hk8) (by simp))
  clear hs8 hk8 HK7 HK9 HS6 HS7
  go_wp2_with fail
  refine (l_cost _ _ _ _ lS2 m 0 HC.out.2 (HJ.out.kept HK8.out) (HT0.out.kept (HKK.out.trans HK8.out)) HS8.out).mono ?_
  rintro e w9 ⟨rfl, hk9⟩
  have HK9 := Lib.hid (HK8.out.trans hk9)
  have HA := Lib.hid (HA.out.kept hk9 (by simp))
  have HS1 := Lib.hid (HS1.out.kept hk9 (by simp))
  clear hk9 HK8 HS8
  go_wp2_with fail
  refine (l_none _).mono ?_
  rintro e w10 ⟨rfl, hk10⟩
  have HK10 := Lib.hid (HK9.out.trans (hk10.alloc (Obj.cells #[.int .i64 0, .slice none 0 0] 26)))
  have HA := Lib.hid (HA.out.kept (hk10.alloc (Obj.cells #[.int .i64 0, .slice none 0 0] 26)) (by simp))
  have HS1 := Lib.hid (HS1.out.kept (hk10.alloc (Obj.cells #[.int .i64 0, .slice none 0 0] 26)) (by simp))
  clear hk10 HK9
  go_wp2_with fail
  refine (l_rows _ _ _ (HJ.out.kept HK10.out)).mono ?_
  rintro e w11 ⟨rfl, hk11⟩
  have HK11 := Lib.hid (HK10.out.trans hk11)
  have HA := Lib.hid (HA.out.kept hk11 (by simp))
  have HS1 := Lib.hid (HS1.out.kept hk11 (by simp))
  clear hk11 HK10
  go_wp2_with fail
  refine (l_joined _ _ (HJ.out.e.kept HK11.out) 7 true l_j.1 (by decide)).mono ?_
  rintro e w12 ⟨rfl, hk12⟩
  have HK12 := Lib.hid (HK11.out.trans hk12)
  have HA := Lib.hid (HA.out.kept hk12 (by simp))
  have HS1 := Lib.hid (HS1.out.kept hk12 (by simp))
  clear hk12 HK11
  go_wp2_with fail
  refine (l_joined _ _ (HJ.out.e.kept HK12.out) 5 false l_j.2 (by decide)).mono ?_
  rintro e w13 ⟨rfl, hk13⟩
  have HK13 := Lib.hid (HK12.out.trans hk13)
  have HA := Lib.hid (HA.out.kept hk13 (by simp))
  have HS1 := Lib.hid (HS1.out.kept hk13 (by simp))
  have q0 := HA.out.cell (i := 0) rfl
  have q1 := HA.out.cell (i := 1) rfl
  clear hk13 HK12
  go_wp2_with fail
  refine (leaves_any lB _ _ (by rw [l_l]; decide) HS1.out).mono ?_
  rintro e w14 ⟨v14, rfl, ho, hk14⟩
  rw [l_l] at ho
  obtain ⟨g, cap, rfl, _, _⟩ := ho.form (by decide)
  have HK14 := Lib.hid (HKK.out.trans (HK13.out.trans hk14))
  clear ho hk14 HK13 q0 q1
  go_wp2_with fail
  go_ret
  exact ⟨rfl, HK14.out⟩
end Go.Proofs.YtnfdbbjemlehnaaDoor
