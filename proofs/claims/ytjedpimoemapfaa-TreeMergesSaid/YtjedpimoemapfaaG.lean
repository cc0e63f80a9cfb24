/- alike -/
import Derived.Test.YtjedpimoemapfaaF
namespace Go.Proofs.Ytjedpimoemapfaa
open Go.RowKit

theorem TOk.drewN {w : World} {bt bl bw : Nat} {kd : Option Nat} {m base s : Nat} {ls : List Lf} {ws : List Nat} (h : TOk w bt bl bw kd m base s ls ws) (n : Nat) : TOk (w.drewN n) bt bl bw kd m base s ls ws :=
  h.kept0 ((Kept.refl _ _).drewN n)

theorem win_cases (ls : List Lf) : (winV ls = noWin ∧ scanI ls ls.length = -1) ∨ ∃ v y, winV ls = someWin v y ∧ scanI ls ls.length = (v : Nat) ∧ ls[v]? = some y := by
  unfold winV scanI
  cases hs : scan ls ls.length with
  | none => exact .inl ⟨rfl, rfl⟩
  | some v =>
    obtain ⟨_, y, hy, _⟩ := scan_some ls _ v hs
    exact .inr ⟨v, y, by simp [hy], rfl, hy⟩

theorem cntH_take_succ (ls : List Lf) (k : Nat) (x : Lf) (h : ls[k]? = some x) : cntH (ls.take (k + 1)) = cntH (ls.take k) + if x.h then 1 else 0 := by
  have hk : k < ls.length := by rcases Nat.lt_or_ge k ls.length with h' | h'; exact h'; simp [List.getElem?_eq_none h'] at h
  rw [List.take_add_one, h]
  simp only [cntH, List.filter_append, List.length_append, Option.toList, List.filter_cons, List.filter_nil]
  cases hx : x.h <;> simp

set_option maxHeartbeats 1000000 in
set_option maxRecDepth 100000 in
theorem alike_any (w : World) (bt bl bw bx : Nat) (kd : Option Nat) (m base s : Nat) (ls : List Lf) (ws : List Nat) (h : TOk w bt bl bw kd m base s ls ws) (hx : Arr w bx 36 (lcells ls)) (hz : ∀ (j : Nat) (y : Lf), ls[j]? = some y → y.h = false → y.k = 0 ∧ y.t = 0) (leaf : Int) :
   Calls Try.prog 13 #[.pointer (some ⟨bt, 0, none⟩), .slice (some ⟨bx, 0, none⟩) ls.length ls.length, .int .i64 leaf] w fun e w' => e = .returned (.bool true) ∧ Kept [] w w' := by
  have h64 := h.le64.2
  have H := Lib.hid h
  have HX := Lib.hid hx
  have HZ := Lib.hid hz
  clear h hx hz
  go_enter Try.func13, Try.ntmps13
  go_wp2
  go_loopg [7, 8] ls.length (fun g n i wr => ∃ k : Nat, k + g = ls.length ∧ i = .int .i64 k ∧ n = .int .i64 (cntH (ls.take k)) ∧ wr = w)
  case atStart => exact ⟨0, by omega, rfl, rfl, rfl⟩
  case round =>
    obtain ⟨k, hk, rfl, rfl, rfl⟩ := hrel
    by_cases hlt : k < ls.length
    · have hlt1 : (k : Int) < (ls.length : Int) := by omega
      obtain ⟨x, hx⟩ : ∃ x, ls[k]? = some x := ⟨ls[k], by simp [hlt]⟩
      have x2 := HX.out.cell (lcells_at ls k x hx).2.2
      have hc := cntH_take_succ ls k x hx
      have hcl := cntH_le (ls.take k)
      have hcl2 : (ls.take k).length ≤ k := List.length_take_le _ _
      have HC := Lib.hid hc
      generalize hN : cntH (ls.take k) = N at *
      clear hc hx hN
      cases hxh : x.h with
      | true =>
        rw [hxh] at x2
        go_wp2
        go_roundg (ls.length - (k + 1))
        case measure => omega
        case rel => exact ⟨k + 1, by omega, by go_num, by rw [HC.out, hxh]; go_num, rfl⟩
      | false =>
        rw [hxh] at x2
        go_wp2
        go_roundg (ls.length - (k + 1))
        case measure => omega
        case rel => exact ⟨k + 1, by omega, by go_num, by rw [HC.out, hxh]; simp, rfl⟩
    · obtain rfl : k = ls.length := by omega
      rw [List.take_length]
      have hc1 := cntH_le ls
      obtain ⟨A, p, q, is, hw, hs, hcase⟩ : ∃ A p q is, winV ls = .tuple #[.int .i64 A, .agg #[.int .i64 p, .int .i64 q], .bool is] ∧ scanI ls ls.length = A ∧
          ((A = -1 ∧ p = 0 ∧ q = 0 ∧ is = false) ∨ (∃ (v : Nat) (y : Lf), A = v ∧ ls[v]? = some y ∧ p = y.k ∧ q = y.t ∧ is = true)) := by
        rcases win_cases ls with ⟨hw, hs⟩ | ⟨v, y, hw, hs, hy⟩
        · exact ⟨-1, 0, 0, false, hw, hs, .inl ⟨rfl, rfl, rfl, rfl⟩⟩
        · exact ⟨v, y.k, y.t, true, hw, hs, .inr ⟨v, y, rfl, hy, rfl, rfl, rfl⟩⟩
      have HW := Lib.hid hw
      have HS := Lib.hid hs
      have HCA := Lib.hid hcase
      clear hw hs hcase
      go_wp2_with (first | (go_at_call 27; refine (rwin_any _ bx ls HX.out (by omega)).mono ?_; rw [HS.out]; rintro e w1 ⟨rfl, hk1⟩) | (go_at_call 21; refine (win_ok _ bt bl bw kd m base s ls ws (H.out.kept0 hk1)).mono ?_; rw [HW.out]; rintro e w2 ⟨rfl, hk2⟩))
      have hk3 := hk1.trans hk2
      have hk4 := Lib.hid ((hk3.alloc (.cells #[.int .i64 p, .int .i64 q] 28)))
      have H3 := Lib.hid (H.out.kept0 hk4.out)
      have HX3 := Lib.hid (HX.out.kept hk4.out (by simp))
      clear hk1 hk2 hk3
      have hd1 : (((cntH ls : Nat) : Int) != ((cntH ls : Nat) : Int)) = false := by simp
      have hd2 : (((ls.length : Nat) : Int) != ((ls.length : Nat) : Int)) = false := by simp
      have hd3 : (A != A) = false := by simp
      go_upto_region 9 with fail
      go_cut [78] (fun v wx => v = .bool false ∧ Hid (Kept [] wr wx))
      case first =>
        rcases HCA.out with ⟨rfl, rfl, rfl, rfl⟩ | ⟨v, y, rfl, hy, rfl, rfl, rfl⟩
        · go_quiet (first | (go_at_call 23; refine Calls.quiet_of_same ((len_ok _ bt bl bw kd m base s ls ws (H3.out.drewN _)).mono fun _ _ h => ⟨h.1, h.2.symm⟩)) | (go_at_call 24; refine Calls.quiet_of_same ((leaves_ok _ bt bl bw kd m base s ls ws (H3.out.drewN _)).mono fun _ _ h => ⟨h.1, h.2.symm⟩)))
          go_wp2
          go_meet
          case rel => exact ⟨rfl, hk4.out.drewN _⟩
        · have hvl : v < ls.length := by rcases Nat.lt_or_ge v ls.length with h | h; exact h; simp [List.getElem?_eq_none h] at hy
          have y0 := HX3.out.cell (lcells_at ls v y hy).1
          have y1 := HX3.out.cell (lcells_at ls v y hy).2.1
          have hv0 : (0 : Int) ≤ (v : Int) := by omega
          have hv1 : (v : Int) < (ls.length : Int) := by omega
          have hd4 : decide ((v : Int) ≥ 0) = true := by simp
          go_quiet (first | (go_at_call 23; refine Calls.quiet_of_same ((len_ok _ bt bl bw kd m base s ls ws (H3.out.drewN _)).mono fun _ _ h => ⟨h.1, h.2.symm⟩)) | (go_at_call 24; refine Calls.quiet_of_same ((leaves_ok _ bt bl bw kd m base s ls ws (H3.out.drewN _)).mono fun _ _ h => ⟨h.1, h.2.symm⟩)))
          go_wp2
          go_meet
          case rel => exact ⟨rfl, hk4.out.drewN _⟩
      case rest =>
        obtain ⟨rfl, hkc⟩ := hcut
        clear H3 HX3 hk4 hd1 hd2 hd3
        by_cases ho : leaf < 0
        · go_wp2_with (go_at_call 22; refine (get_out _ bt bl bw kd base ls ws _ (H.out.kept0 hkc.out).t8 leaf (.inl ho)).mono ?_; rintro e w1 ⟨rfl, hk1⟩)
          go_ret
          exact ⟨rfl, ((hkc.out.trans hk1).alloc _)⟩
        · by_cases ho2 : (ls.length : Int) ≤ leaf
          · go_wp2_with (go_at_call 22; refine (get_out _ bt bl bw kd base ls ws _ (H.out.kept0 hkc.out).t8 leaf (.inr ho2)).mono ?_; rintro e w1 ⟨rfl, hk1⟩)
            go_ret
            exact ⟨rfl, ((hkc.out.trans hk1).alloc _)⟩
          · obtain ⟨j, rfl⟩ := Int.eq_ofNat_of_zero_le (by omega : 0 ≤ leaf)
            have hj : j < ls.length := by omega
            have hj1 : (j : Int) < (ls.length : Int) := by omega
            have hj0 : (0 : Int) ≤ (j : Int) := by omega
            obtain ⟨y, hy⟩ : ∃ y, ls[j]? = some y := ⟨ls[j], by simp [hj]⟩
            have hg : getV ls j = if y.h then .tuple #[.agg #[.int .i64 y.k, .int .i64 y.t], .bool true] else .tuple #[.agg #[.int .i64 0, .int .i64 0], .bool false] := by simp [getV, hy]
            have hzy := HZ.out j y hy
            have HG := Lib.hid hg
            have HY := Lib.hid hy
            have HZY := Lib.hid hzy
            clear ho ho2 hg hy hzy
            cases hyh : y.h with
            | true =>
              have HYH := Lib.hid hyh
              clear hyh
              go_wp2_with (go_at_call 22; refine (get_ok _ bt bl bw kd base ls ws _ (H.out.kept0 hkc.out).t8 h64 j hj).mono ?_; rw [HG.out, if_pos HYH.out]; rintro e w1 ⟨rfl, hk1⟩)
              have hA := HX.out.kept (hkc.out.trans hk1) (by simp)
              have x0 := hA.cell (lcells_at ls j y HY.out).1
              have x1 := hA.cell (lcells_at ls j y HY.out).2.1
              have x2 := hA.cell (lcells_at ls j y HY.out).2.2
              rw [HYH.out] at x2
              have lx := hA.lt
              have hk4 := Lib.hid ((hkc.out.trans hk1).alloc (.cells #[.int .i64 y.k, .int .i64 y.t] 28))
              clear hA hk1
              go_quiet (fail)
              go_wp2
              go_ret
              exact ⟨rfl, hk4.out.drewN _⟩
            | false =>
              have HYH := Lib.hid hyh
              clear hyh
              go_wp2_with (go_at_call 22; refine (get_ok _ bt bl bw kd base ls ws _ (H.out.kept0 hkc.out).t8 h64 j hj).mono ?_; rw [HG.out, if_neg (by simp [HYH.out])]; rintro e w1 ⟨rfl, hk1⟩)
              have hA := HX.out.kept (hkc.out.trans hk1) (by simp)
              have x0 := hA.cell (lcells_at ls j y HY.out).1
              have x1 := hA.cell (lcells_at ls j y HY.out).2.1
              have x2 := hA.cell (lcells_at ls j y HY.out).2.2
              rw [HYH.out] at x2
              rw [(HZY.out HYH.out).1] at x0
              rw [(HZY.out HYH.out).2] at x1
              have lx := hA.lt
              have hk4 := Lib.hid ((hkc.out.trans hk1).alloc (.cells #[.int .i64 0, .int .i64 0] 28))
              clear hA hk1
              go_quiet (fail)
              go_wp2
              go_ret
              exact ⟨rfl, hk4.out.drewN _⟩

end Go.Proofs.Ytjedpimoemapfaa
