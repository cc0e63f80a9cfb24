/- OrderLeast, walked. -/
import Derived.Test.YtnfdbbjemlehnaaDoorZ
namespace Go.Proofs.YtnfdbbjemlehnaaDoor
open Go.RowKit

set_option maxHeartbeats 6400000 in
set_option maxRecDepth 100000 in
theorem least_any (w : World) (lv ev sv : Value) (gs es : List Pr) (s : Sh) (h : JAt w lv ev gs es) (ht : Tab w) (hs : ShAt w 0 s sv) : Calls Tryd.prog 3 #[lv, ev, sv] w (TruePost w) := by
  have HJ := Lib.hid h
  have HT := Lib.hid ht
  obtain ⟨⟨al, cl, rfl, _⟩, ⟨ae, ce, rfl, _⟩⟩ := h
  obtain ⟨lf, sa, sn, scp, rfl⟩ := hs.form
  have HS := Lib.hid hs
  have K : Kept [] w (w.alloc (Obj.cells #[.int .i64 lf, .slice sa sn scp] 26)) := Kept.alloc (Kept.refl [] w) _
  have AS : Arr (w.alloc (Obj.cells #[.int .i64 lf, .slice sa sn scp] 26)) w.heap.size 26 [.int .i64 lf, .slice sa sn scp] := Arr.new' rfl rfl
  have HK := Lib.hid K
  have HAS := Lib.hid AS
  clear hs ht K AS
  by_cases h1 : (20 : Int) < (gs.length : Int)
  · go_enter Tryd.func3, Tryd.ntmps3
    go_wp2_with fail
    refine (lives_any _ (HT.out.kept HK.out)).mono ?_
    rintro e w2 ⟨rfl, hk⟩
    have HK2 := Lib.hid (HK.out.trans hk)
    clear hk
    go_wp2_with fail
    go_ret
    exact ⟨rfl, HK2.out⟩
  by_cases h2 : (40 : Int) < (es.length : Int)
  · go_enter Tryd.func3, Tryd.ntmps3
    go_wp2_with fail
    refine (lives_any _ (HT.out.kept HK.out)).mono ?_
    rintro e w2 ⟨rfl, hk⟩
    have HK2 := Lib.hid (HK.out.trans hk)
    clear hk
    go_wp2_with fail
    go_ret
    exact ⟨rfl, HK2.out⟩
  go_enter Tryd.func3, Tryd.ntmps3
  go_wp2_with fail
  generalize hbx : w.heap.size = bx at *
  clear hbx
  generalize w.alloc (Obj.cells #[.int .i64 lf, .slice sa sn scp] 26) = w1 at *
  refine (large_any s _ _ 0 (by omega) (by omega) (HS.out.kept HK.out (by simp))).mono ?_
  rintro e w2 ⟨r, rfl, hk⟩
  have HK2 := Lib.hid (HK.out.trans hk)
  have HAS := Lib.hid (HAS.out.kept hk (by simp))
  clear hk HK
  cases r with
  | true =>
    go_wp2_with fail
    refine (lives_any _ (HT.out.kept HK2.out)).mono ?_
    rintro e w3 ⟨rfl, hk⟩
    have HK3 := Lib.hid (HK2.out.trans hk)
    clear hk
    go_wp2_with fail
    go_ret
    exact ⟨rfl, HK3.out⟩
  | false =>
    go_wp2_with fail
    have hl : gs.length ≤ 1000 := by omega
    have hlb : es.length ≤ 1000 := by omega
    have HL := Lib.hid (And.intro hl hlb)
    clear hl hlb
    cases hok : okF gs es with
    | false =>
      have HO := Lib.hid hok
      clear hok
      refine (best_out _ _ _ (HJ.out.kept HK2.out) HL.out.1 HL.out.2 HO.out).mono ?_
      rintro e w3 ⟨rfl, hk⟩
      have HK3 := Lib.hid (HK2.out.trans (hk.alloc (Obj.cells #[.int .i64 0, .slice none 0 0] 26)))
      clear hk
      go_wp2_with fail
      refine (lives_any _ (HT.out.kept HK3.out)).mono ?_
      rintro e w4 ⟨rfl, hk⟩
      have HK4 := Lib.hid (HK3.out.trans hk)
      clear hk
      go_wp2_with fail
      refine (lives_any _ (HT.out.kept HK4.out)).mono ?_
      rintro e w5 ⟨rfl, hk⟩
      have HK5 := Lib.hid (HK4.out.trans hk)
      clear hk
      go_wp2_with fail
      go_ret
      exact ⟨rfl, HK5.out⟩
    | true =>
      have HO := Lib.hid hok
      have n6 := (Ok.of hok).n6
      clear hok
      refine (best_in _ _ _ (HJ.out.kept HK2.out) HL.out.2 (HT.out.kept HK2.out) HO.out).mono ?_
      rintro e w3 ⟨v, rfl, hb, hk⟩
      obtain ⟨blf, ba, bn, bcp, rfl⟩ := hb.form
      have hb := hb.mono (Nat.zero_le _)
      have hk' := hk.alloc (Obj.cells #[.int .i64 blf, .slice ba bn bcp] 26)
      have HB := Lib.hid (hb.kept (Kept.alloc (Kept.refl [] w3) (Obj.cells #[.int .i64 blf, .slice ba bn bcp] 26)) (by simp))
      have HAB : Hid (Arr (w3.alloc (Obj.cells #[.int .i64 blf, .slice ba bn bcp] 26)) w3.heap.size 26 [.int .i64 blf, .slice ba bn bcp]) := Arr.new' rfl rfl
      have HAS := Lib.hid (HAS.out.kept hk' (by simp))
      have HK3 := Lib.hid (HK2.out.trans hk')
      clear hk hk' hb HK2
      go_wp2_with fail
      generalize hby : w3.heap.size = by1 at *
      clear hby
      generalize w3.alloc (Obj.cells #[.int .i64 blf, .slice ba bn bcp] 26) = w4 at *
      refine (lives_any _ (HT.out.kept HK3.out)).mono ?_
      rintro e w5 ⟨rfl, hk⟩
      have HAS := Lib.hid (HAS.out.kept hk (by simp))
      have HAB := Lib.hid (HAB.out.kept hk (by simp))
      have HB := Lib.hid (HB.out.kept hk (by simp))
      have HK5 := Lib.hid (HK3.out.trans hk)
      clear hk HK3
      have q0 := HAB.out.cell (i := 0) rfl
      have q1 := HAB.out.cell (i := 1) rfl
      go_wp2_with fail
      refine (cost_in _ _ _ _ _ (HJ.out.kept HK5.out) HL.out.1 HL.out.2 (HT.out.kept HK5.out) HB.out).mono ?_
      rintro e w6 ⟨rfl, hk⟩
      have HBC := Lib.hid (bestS_cost HO.out)
      rw [HBC.out]
      have HAS := Lib.hid (HAS.out.kept hk (by simp))
      have HAB := Lib.hid (HAB.out.kept hk (by simp))
      have HB := Lib.hid (HB.out.kept hk (by simp))
      have HK6 := Lib.hid (HK5.out.trans hk)
      clear hk HK5 q0 q1
      have q0 := HAS.out.cell (i := 0) rfl
      have q1 := HAS.out.cell (i := 1) rfl
      go_wp2_with fail
      refine (cost_in _ _ _ _ _ (HJ.out.kept HK6.out) HL.out.1 HL.out.2 (HT.out.kept HK6.out) (HS.out.kept HK6.out (by simp))).mono ?_
      rintro e w7 ⟨rfl, hk⟩
      have hge := cost_ge HO.out s
      generalize costF gs es s = mg at *
      obtain ⟨m, gg⟩ := mg
      generalize bestC gs es = c at *
      have HAB := Lib.hid (HAB.out.kept hk (by simp))
      have HB := Lib.hid (HB.out.kept hk (by simp))
      have HK7 := Lib.hid (HK6.out.trans hk)
      clear hk HK6 q0 q1
      have q0 := HAB.out.cell (i := 0) rfl
      have q1 := HAB.out.cell (i := 1) rfl
      have HN := Lib.hid n6
      have hge' : ((gg == 0) = false) ∨ (gg = 0 ∧ c ≤ m) := by
        rcases hge with h | h
        · left; simpa using h
        · by_cases e : gg = 0
          · exact .inr ⟨e, h⟩
          · left; simpa using e
      obtain ⟨hL, hT⟩ := bestS_leaves HO.out
      have n1 : 0 < gs.length := (Ok.of HO.out).n1
      have HL1 := Lib.hid hL
      have HT1 := Lib.hid hT
      have HN1 := Lib.hid n1
      clear hge n6 hL hT n1
      rcases hge' with hg0 | ⟨rfl, hle⟩
      all_goals
        go_wp2_with fail
        refine (leaves_any _ _ _ (by rw [HL1.out]; have := HN.out; omega) HB.out).mono ?_
        rintro e w8 ⟨v, rfl, ho, hk⟩
        obtain ⟨g, cap, hv, _, _⟩ := ho.form (by rw [HL1.out]; exact HN1.out)
        subst hv
        rw [HL1.out] at ho
        have HK8 := Lib.hid (HK7.out.trans hk)
        have hcell : ∀ (j : Nat) (x : Int), (leavesF (bestS gs es))[j]? = some x → w8.cell? ⟨g, j, none⟩ = some (.int .i64 x) := by
          intro j x hx
          exact own_cell ho j _ (by rw [List.getElem?_map, hx]; rfl)
        have HC := Lib.hid hcell
        generalize leavesF (bestS gs es) = L at *
        rw [HL1.out]
        have hn6 : (gs.length : Int) ≤ 6 := by have := HN.out; omega
        clear hk hcell ho HK7 q0 q1 HB HAB
        go_wp2_with fail
        go_loopg [15] gs.length (fun g v15 wr => ∃ k : Nat, k + g = gs.length ∧ v15 = .int .i64 k ∧ Hid (wr = w8))
        case atStart => exact ⟨0, by omega, rfl, Lib.hid rfl⟩
        case round =>
          obtain ⟨k, hk, rfl, hw⟩ := hrel
          obtain ⟨wo, hwo⟩ : ∃ wo : World, wo = wr := ⟨_, rfl⟩
          subst hwo
          by_cases hlt : k < gs.length
          · have hk1 : (k : Int) < (gs.length : Int) := by omega
            go_wp2_with fail
            go_loopg [16, 17] gs.length (fun g v16 v17 wi => ∃ j : Nat, j + g = gs.length ∧ v17 = .int .i64 j ∧ v16 = .int .i64 (times' k (L.take j) : Nat) ∧ Hid (wi = w8))
            case atStart => exact ⟨0, by omega, rfl, rfl, hw⟩
            case round =>
              obtain ⟨j, hj, rfl, rfl, hw2⟩ := hrel
              have tl := times_le k (L.take j)
              have tl2 : (L.take j).length ≤ j := List.length_take_le _ _
              by_cases hlj : j < gs.length
              · obtain ⟨x, hx⟩ : ∃ x, L[j]? = some x := ⟨L[j]'(by rw [HL1.out]; exact hlj), by simp⟩
                have q := HC.out j x hx
                have hst := times_take k L j x hx
                have hj0 : (0 : Int) ≤ (j : Int) := by omega
                have hj1 : (j : Int) < (gs.length : Int) := by omega
                rw [← hw2.out] at q
                by_cases e : x = (k : Int)
                · rw [if_pos e] at hst
                  subst e
                  have HST := Lib.hid hst
                  clear hst hx
                  go_wp2_with fail
                  go_roundg (gs.length - (j + 1))
                  case measure => omega
                  case rel => exact ⟨j + 1, by omega, by go_num, by rw [HST.out]; go_num, hw2⟩
                · rw [if_neg e] at hst
                  have he : (x == (k : Int)) = false := by simpa using e
                  have HST := Lib.hid hst
                  clear hst hx e
                  go_wp2_with fail
                  go_roundg (gs.length - (j + 1))
                  case measure => omega
                  case rel => exact ⟨j + 1, by omega, by go_num, by rw [HST.out, Nat.add_zero], hw2⟩
              · obtain rfl : j = gs.length := by omega
                have h1 : times' k (L.take gs.length) = 1 := by
                  rw [List.take_of_length_le (by rw [HL1.out]; omega)]; exact HT1.out k hlt
                rw [h1]
                clear h1 tl tl2
                go_wp2_with fail
                go_roundg (gs.length - (k + 1))
                case measure => omega
                case rel => exact ⟨k + 1, by omega, by go_num, hw2⟩
          · obtain rfl : k = gs.length := by omega
            go_wp2_with fail
            go_ret
            exact ⟨rfl, by rw [hw.out]; exact HK8.out⟩
end Go.Proofs.YtnfdbbjemlehnaaDoor
