/- lives -/
import Derived.Test.YtjedpimoemapfaaK
namespace Go.Proofs.Ytjedpimoemapfaa
open Go.RowKit

def lv0 : List Lf := List.replicate 3 zeroLf
def lv1 : List Lf := lv0.set 1 ⟨5, 0, true⟩
def lv2 : List Lf := lv1.set 2 ⟨4, 0, true⟩
def lv3 : List Lf := lv2.set 2 ⟨0, 0, false⟩
theorem wv0 : winV lv0 = noWin := rfl
theorem wv2 : winV lv2 = someWin 2 ⟨4, 0, true⟩ := rfl
theorem wv3 : winV lv3 = someWin 1 ⟨5, 0, true⟩ := rfl
theorem gv2 : getV lv2 1 = .tuple #[.agg #[.int .i64 5, .int .i64 0], .bool true] := rfl
def lrows : List (List Pr) := [[⟨1, 0⟩, ⟨3, 1⟩], [⟨2, 0⟩, ⟨3, 2⟩]]
theorem lmerged : merged lrows = [⟨1, 0⟩, ⟨2, 0⟩, ⟨3, 1⟩, ⟨3, 2⟩] := rfl

theorem own_form {w : World} {base e size n : Nat} {v : Value} {xs : List Value} (h : w.ownsRow base e size v n xs) (hn : 0 < n) : ∃ g cap, v = .slice (some ⟨g, 0, none⟩) n cap ∧ base ≤ g ∧ g < w.heap.size ∧ ∀ (i : Nat) (x : Value), xs[i]? = some x → w.cell? ⟨g, i, none⟩ = some x := by
  obtain ⟨h1, h2⟩ := h
  rcases h2 with ⟨_, h2⟩ | ⟨g, cap, cur, hv, hg, hh, _, _, _, ht⟩
  · omega
  · refine ⟨g, cap, hv, hg, lt_of_block hh, ?_⟩
    intro i x hx
    rw [← ht, List.getElem?_take] at hx
    split at hx
    · simp [World.cell?, hh]; simpa using hx
    · simp at hx

theorem lives_rows (W : World) (N : Nat) (hN : N = W.heap.size) : RowsAt (((W.alloc (.cells #[.int .i64 1, .int .i64 0, .int .i64 3, .int .i64 1] 28)).alloc (.cells #[.int .i64 2, .int .i64 0, .int .i64 3, .int .i64 2] 28)).alloc (.cells #[.slice (some ⟨N, 0, none⟩) 2 2, .slice (some ⟨N + 1, 0, none⟩) 2 2] 42)) (.slice (some ⟨N + 1 + 1, 0, none⟩) 2 2) lrows := by
  have a1 : Arr (((W.alloc (.cells #[.int .i64 1, .int .i64 0, .int .i64 3, .int .i64 1] 28)).alloc (.cells #[.int .i64 2, .int .i64 0, .int .i64 3, .int .i64 2] 28)).alloc (.cells #[.slice (some ⟨N, 0, none⟩) 2 2, .slice (some ⟨N + 1, 0, none⟩) 2 2] 42)) N 28 [.int .i64 1, .int .i64 0, .int .i64 3, .int .i64 1] := ((Arr.new' hN rfl).alloc _).alloc _
  have a2 : Arr (((W.alloc (.cells #[.int .i64 1, .int .i64 0, .int .i64 3, .int .i64 1] 28)).alloc (.cells #[.int .i64 2, .int .i64 0, .int .i64 3, .int .i64 2] 28)).alloc (.cells #[.slice (some ⟨N, 0, none⟩) 2 2, .slice (some ⟨N + 1, 0, none⟩) 2 2] 42)) (N + 1) 28 [.int .i64 2, .int .i64 0, .int .i64 3, .int .i64 2] := (Arr.new' (by simp; exact hN) rfl).alloc _
  have a3 : Arr (((W.alloc (.cells #[.int .i64 1, .int .i64 0, .int .i64 3, .int .i64 1] 28)).alloc (.cells #[.int .i64 2, .int .i64 0, .int .i64 3, .int .i64 2] 28)).alloc (.cells #[.slice (some ⟨N, 0, none⟩) 2 2, .slice (some ⟨N + 1, 0, none⟩) 2 2] 42)) (N + 1 + 1) 42 [.slice (some ⟨N, 0, none⟩) 2 2, .slice (some ⟨N + 1, 0, none⟩) 2 2] := Arr.new' (by simp; exact hN) rfl
  generalize ((W.alloc (.cells #[.int .i64 1, .int .i64 0, .int .i64 3, .int .i64 1] 28)).alloc (.cells #[.int .i64 2, .int .i64 0, .int .i64 3, .int .i64 2] 28)).alloc (.cells #[.slice (some ⟨N, 0, none⟩) 2 2, .slice (some ⟨N + 1, 0, none⟩) 2 2] 42) = V at *
  refine ⟨_, _, rfl, ?_⟩
  intro r ps hr
  match r, hr with
  | 0, hr =>
    simp [lrows] at hr; subst hr
    refine ⟨_, _, _, rfl, a3.lt, a3.cell (i := 0) rfl, _, _, rfl, ?_⟩
    intro j p hj
    match j, hj with
    | 0, hj => simp at hj; subst hj; exact ⟨_, _, rfl, a1.lt, a1.cell (i := 0) rfl, a1.cell (i := 1) rfl⟩
    | 1, hj => simp at hj; subst hj; exact ⟨_, _, rfl, a1.lt, a1.cell (i := 2) rfl, a1.cell (i := 3) rfl⟩
  | 1, hr =>
    simp [lrows] at hr; subst hr
    refine ⟨_, _, _, rfl, a3.lt, a3.cell (i := 1) rfl, _, _, rfl, ?_⟩
    intro j p hj
    match j, hj with
    | 0, hj => simp at hj; subst hj; exact ⟨_, _, rfl, a2.lt, a2.cell (i := 0) rfl, a2.cell (i := 1) rfl⟩
    | 1, hj => simp at hj; subst hj; exact ⟨_, _, rfl, a2.lt, a2.cell (i := 2) rfl, a2.cell (i := 3) rfl⟩

set_option maxRecDepth 100000 in
set_option maxHeartbeats 1000000 in
theorem lives_any (w : World) : Calls Try.prog 10 #[] w fun e w' => e = .returned (.bool true) ∧ Kept [] w w' := by
  go_enter Try.func10, Try.ntmps10
  go_wp2_with fail
  refine (new_ok w none 0 trivial (by omega) 3 (by omega) (by omega)).mono ?_
  rintro e w1 ⟨bt, bl, bw, ws, m', rfl, hT, hk1, hb1, hb2, hb3, _, _⟩
  have HT : Hid (TOk w1 bt bl bw none 0 4 2 lv0 ws) := hT.zero
  have HK : Hid (Kept [] w w1) := hk1
  clear hT hk1
  go_wp2_with fail
  refine (win_ok _ bt bl bw none 0 4 2 lv0 ws HT.out).mono ?_
  rw [wv0]
  rintro e w2 ⟨rfl, hk2⟩
  simp only [noWin]
  have h64 : lv0.length = 3 := rfl
  have HT2 := Lib.hid ((HT.out.kept0 hk2).alloc (.cells #[.int .i64 0, .int .i64 0] 28))
  have HK2 := Lib.hid (HK.out.trans (hk2.alloc (.cells #[.int .i64 0, .int .i64 0] 28)))
  clear HT HK hk2
  go_wp2_with fail
  refine (set_ok _ bt bl bw none 0 4 2 lv0 ws HT2.out (by omega) 1 (by rw [h64]; omega) 5 0).mono ?_
  rintro e w3 ⟨rfl, ws3, m3, hT3, _, _, hk3⟩
  have HT3 : Hid (TOk w3 bt bl bw none 0 4 2 lv1 ws3) := hT3.zero
  have HK3 := Lib.hid (HK2.out.fresh hk3 (by intro x hx hlt; simp at hx; omega))
  clear HT2 HK2 hT3 hk3
  go_wp2_with fail
  refine (set_ok _ bt bl bw none 0 4 2 lv1 ws3 HT3.out (by omega) 2 (by show 2 < 3; omega) 4 0).mono ?_
  rintro e w4 ⟨rfl, ws4, m4, hT4, _, _, hk4⟩
  have HT4 : Hid (TOk w4 bt bl bw none 0 4 2 lv2 ws4) := hT4.zero
  have HK4 := Lib.hid (HK3.out.fresh hk4 (by intro x hx hlt; simp at hx; omega))
  clear HT3 HK3 hT4 hk4
  go_wp2_with fail
  refine (set_none _ bt bl bw none 0 4 2 lv2 ws4 HT4.out 3 (.inr (by show (3 : Int) ≤ 3; omega)) 0 0).mono ?_
  rintro e w5 ⟨rfl, hk5⟩
  have HT5 := Lib.hid (HT4.out.kept0 hk5)
  have HK5 := Lib.hid (HK4.out.trans hk5)
  clear HT4 HK4 hk5
  go_wp2_with fail
  refine (win_ok _ bt bl bw none 0 4 2 lv2 ws4 HT5.out).mono ?_
  rw [wv2]
  rintro e w6 ⟨rfl, hk6⟩
  simp only [someWin]
  have HT6 := Lib.hid ((HT5.out.kept0 hk6).alloc (.cells #[.int .i64 4, .int .i64 0] 28))
  have HK6 := Lib.hid (HK5.out.trans (hk6.alloc (.cells #[.int .i64 4, .int .i64 0] 28)))
  have HX6 := Lib.hid (show Arr (w6.alloc (.cells #[.int .i64 4, .int .i64 0] 28)) w6.heap.size 28 [.int .i64 4, .int .i64 0] from Arr.new' rfl rfl)
  clear HT5 HK5 hk6
  generalize hx6 : w6.heap.size = x6 at *
  go_wp2_with fail
  refine (get_ok _ bt bl bw none 4 lv2 ws4 _ HT6.out.t8 (by show 3 ≤ 64; omega) 1 (by show 1 < 3; omega)).mono ?_
  rw [gv2]
  rintro e w7 ⟨rfl, hk7⟩
  have HT7 := Lib.hid ((HT6.out.kept0 hk7).alloc (.cells #[.int .i64 5, .int .i64 0] 28))
  have HK7 := Lib.hid (HK6.out.trans (hk7.alloc (.cells #[.int .i64 5, .int .i64 0] 28)))
  have HX7 := Lib.hid ((HX6.out.kept hk7 (by simp)).alloc (.cells #[.int .i64 5, .int .i64 0] 28))
  have HY7 := Lib.hid (show Arr (w7.alloc (.cells #[.int .i64 5, .int .i64 0] 28)) w7.heap.size 28 [.int .i64 5, .int .i64 0] from Arr.new' rfl rfl)
  clear HT6 HK6 HX6 hk7 hx6
  generalize hy7 : w7.heap.size = y7 at *
  go_wp2_with fail
  refine (clear_ok _ bt bl bw none 0 4 2 lv2 ws4 HT7.out (by omega) 2 (by show 2 < 3; omega)).mono ?_
  rintro e w8 ⟨rfl, ws8, m8, hT8, _, _, hk8⟩
  have HT8 : Hid (TOk w8 bt bl bw none 0 4 2 lv3 ws8) := hT8.zero
  have HK8 := Lib.hid (HK7.out.fresh hk8 (by intro x hx hlt; simp at hx; omega))
  have nx : x6 ∉ [bt, bl, bw] := by
    have n1 := HX7.out.ne HT7.out.t8.t (by decide)
    have n2 := HX7.out.ne HT7.out.t8.l (by decide)
    have n3 := HX7.out.ne HT7.out.t8.w (by decide)
    simp [n1, n2, n3]
  have ny : y7 ∉ [bt, bl, bw] := by
    have n1 := HY7.out.ne HT7.out.t8.t (by decide)
    have n2 := HY7.out.ne HT7.out.t8.l (by decide)
    have n3 := HY7.out.ne HT7.out.t8.w (by decide)
    simp [n1, n2, n3]
  have HX8 := Lib.hid (HX7.out.kept hk8 nx)
  have HY8 := Lib.hid (HY7.out.kept hk8 ny)
  clear HT7 HK7 HX7 HY7 hT8 hk8 nx ny hy7
  go_wp2_with fail
  refine (win_ok _ bt bl bw none 0 4 2 lv3 ws8 HT8.out).mono ?_
  rw [wv3]
  rintro e w9 ⟨rfl, hk9⟩
  simp only [someWin]
  have HT9 := Lib.hid ((HT8.out.kept0 hk9).alloc (.cells #[.int .i64 5, .int .i64 0] 28))
  have HK9 := Lib.hid (HK8.out.trans (hk9.alloc (.cells #[.int .i64 5, .int .i64 0] 28)))
  have HX9 := Lib.hid ((HX8.out.kept hk9 (by simp)).alloc (.cells #[.int .i64 5, .int .i64 0] 28))
  have HY9 := Lib.hid ((HY8.out.kept hk9 (by simp)).alloc (.cells #[.int .i64 5, .int .i64 0] 28))
  clear HT8 HK8 HX8 HY8 hk9
  go_wp2_with fail
  refine (merge_ok _ _ lrows (lives_rows _ _ (by simp)) (by decide) (by decide) (by decide) (by decide)).mono ?_
  rw [lmerged]
  rintro e w10 ⟨mv, rfl, hown, hk10⟩
  obtain ⟨mg, mcap, rfl, _, hml, hmc⟩ := own_form hown (by decide)
  have m5 := hmc 5 (.int .i64 1) rfl
  have hk11 := (((Kept.refl [] _).alloc (.cells #[.int .i64 1, .int .i64 0, .int .i64 3, .int .i64 1] 28)).alloc (.cells #[.int .i64 2, .int .i64 0, .int .i64 3, .int .i64 2] 28)).alloc (.cells #[.slice (some ⟨w9.heap.size + 1, 0, none⟩) 2 2, .slice (some ⟨w9.heap.size + 1 + 1, 0, none⟩) 2 2] 42) |>.trans hk10
  have HT11 := Lib.hid (HT9.out.kept0 hk11)
  have HK11 := Lib.hid (HK9.out.trans hk11)
  have hx11 := HX9.out.kept hk11 (by simp)
  have hy11 := HY9.out.kept hk11 (by simp)
  have x0 := hx11.cell (i := 0) rfl
  have y0 := hy11.cell (i := 0) rfl
  have l3 : (3 : Nat) = lv3.length := rfl
  clear HT9 HK9 HX9 HY9 hk10 hk11 hx11 hy11 hown hmc
  have s5 : stepsF 5 = 3 := rfl
  have c3 : cntH lv3 = 1 := rfl
  have l33 : lv3.length = 3 := rfl
  clear l3 h64
  simp only [List.length_cons, List.length_nil]
  go_wp2_with (first | (go_at_call 8; refine (new_nil _ 3).mono ?_; rintro e w11 ⟨rfl, rfl⟩) | (go_at_call 23; refine (len_ok _ bt bl bw none 0 4 2 lv3 ws8 HT11.out).mono ?_; rw [c3]; rintro e w12 ⟨rfl, rfl⟩) | (go_at_call 24; refine (leaves_ok _ bt bl bw none 0 4 2 lv3 ws8 HT11.out).mono ?_; rw [l33]; rintro e w12 ⟨rfl, rfl⟩) | (go_at_call 18; refine (steps_any _ 5).mono ?_; rw [s5]; rintro e w12 ⟨rfl, rfl⟩))
  go_ret
  exact ⟨rfl, HK11.out⟩
end Go.Proofs.Ytjedpimoemapfaa
