/- OrderAll, walked. -/
import Derived.Test.YtnfdbbjemlehnaaDoorShapes
namespace Go.Proofs.YtnfdbbjemlehnaaDoor
open Go.RowKit

def hitB (gs es : List Pr) (s : Sh) : Bool := (costF gs es s).2 == 0 && (costF gs es s).1 == bestC gs es

theorem any_snoc (gs es : List Pr) (L : List Sh) (k : Nat) (s : Sh) (h : L[k]? = some s) : (L.take (k + 1)).any (hitB gs es) = ((L.take k).any (hitB gs es) || hitB gs es s) := by
  rw [take_snoc' L k s h, List.any_append]; simp

theorem all_hit {gs es : List Pr} (hok : okF gs es = true) (h4 : gs.length ≤ 4) : (shapesF 16 (2 ^ gs.length - 1)).any (hitB gs es) = true := by
  have ok := Ok.of hok
  obtain ⟨p1, p2, p3⟩ := pow_bounds ok.n1 ok.n6
  have p4 : 2 ^ gs.length ≤ 2 ^ 4 := Nat.pow_le_pow_right (by decide) h4
  rw [List.any_eq_true]
  refine ⟨bestS gs es, build_mem gs es ok.n6 16 63 _ p1 (by omega) p2 p3, ?_⟩
  unfold hitB
  rw [bestS_cost hok]
  simp

set_option maxHeartbeats 6400000 in
set_option maxRecDepth 100000 in
theorem orderAll_any (w : World) (lv ev : Value) (gs es : List Pr) (h : JAt w lv ev gs es) (ht : Tab w) : Calls Tryd.prog 4 #[lv, ev] w (TruePost w) := by
  have HJ := Lib.hid h
  have HT := Lib.hid ht
  obtain ⟨⟨al, cl, rfl, _⟩, ⟨ae, ce, rfl, _⟩⟩ := h
  clear ht
  by_cases h1 : (gs.length : Int) < 1
  · have h1' : ¬ 0 < gs.length := by omega
    go_enter Tryd.func4, Tryd.ntmps4
    go_wp2_with fail
    refine (lives_any _ HT.out).mono ?_
    rintro e w2 ⟨rfl, hk⟩
    have HK2 := Lib.hid hk
    clear hk
    go_wp2_with fail
    go_ret
    exact ⟨rfl, HK2.out⟩
  have h1' : 0 < gs.length := by omega
  by_cases h2 : (4 : Int) < (gs.length : Int)
  · go_enter Tryd.func4, Tryd.ntmps4
    go_wp2_with fail
    refine (lives_any _ HT.out).mono ?_
    rintro e w2 ⟨rfl, hk⟩
    have HK2 := Lib.hid hk
    clear hk
    go_wp2_with fail
    go_ret
    exact ⟨rfl, HK2.out⟩
  by_cases h3 : (20 : Int) < (es.length : Int)
  · go_enter Tryd.func4, Tryd.ntmps4
    go_wp2_with fail
    refine (lives_any _ HT.out).mono ?_
    rintro e w2 ⟨rfl, hk⟩
    have HK2 := Lib.hid hk
    clear hk
    go_wp2_with fail
    go_ret
    exact ⟨rfl, HK2.out⟩
  have hL : gs.length ≤ 1000 ∧ es.length ≤ 1000 := by omega
  have HL := Lib.hid hL
  clear hL
  go_enter Tryd.func4, Tryd.ntmps4
  go_wp2_with fail
  cases hok : okF gs es with
  | false =>
    have HO := Lib.hid hok
    clear hok
    refine (best_out _ _ _ HJ.out HL.out.1 HL.out.2 HO.out).mono ?_
    rintro e w3 ⟨rfl, hk⟩
    have HK3 := Lib.hid (hk.alloc (Obj.cells #[.int .i64 0, .slice none 0 0] 26))
    clear hk
    go_wp2_with fail
    refine (lives_any _ (HT.out.kept HK3.out)).mono ?_
    rintro e w4 ⟨rfl, hk⟩
    have HK4 := Lib.hid (HK3.out.trans hk)
    clear hk
    go_wp2_with fail
    refine (lives_any _ (HT.out.kept HK4.out)).mono ?_
    rintro e w5 ⟨rfl, hk⟩
    have HK5 := Lib.hid (HK4.out.trans hk)
    clear hk
    go_wp2_with fail
    go_ret
    exact ⟨rfl, HK5.out⟩
  | true =>
    have HO := Lib.hid hok
    clear hok
    refine (best_in _ _ _ HJ.out HL.out.2 HT.out HO.out).mono ?_
    rintro e w3 ⟨v, rfl, hb, hk⟩
    obtain ⟨blf, ba, bn, bcp, rfl⟩ := hb.form
    have HK3 := Lib.hid (hk.alloc (Obj.cells #[.int .i64 blf, .slice ba bn bcp] 26))
    clear hk hb
    go_wp2_with fail
    generalize hb3 : w3.heap.size = b3 at *
    clear hb3
    generalize w3.alloc (Obj.cells #[.int .i64 blf, .slice ba bn bcp] 26) = w4 at *
    refine (lives_any _ (HT.out.kept HK3.out)).mono ?_
    rintro e w5 ⟨rfl, hk⟩
    have HK5 := Lib.hid (HK3.out.trans hk)
    clear hk
    have hp4 : 2 ^ gs.length ≤ 2 ^ 4 := Nat.pow_le_pow_right (by decide) (by omega)
    have hp1 : 2 ^ 1 ≤ 2 ^ gs.length := Nat.pow_le_pow_right (by decide) h1'
    have hsh := shl_pow gs.length (by omega)
    have hM : ((2 ^ gs.length : Nat) : Int) - 1 = ((2 ^ gs.length - 1 : Nat) : Int) := by omega
    have hH := all_hit HO.out (by omega)
    have hln := shapes_len 16 (by decide) (2 ^ gs.length - 1) (by omega)
    have HM := Lib.hid hM
    have HH := Lib.hid hH
    have HLN := Lib.hid hln
    clear hM hH hln
    have hm0 : (0 : Int) ≤ ((2 ^ gs.length : Nat) : Int) := by omega
    have hm1 : ((2 ^ gs.length : Nat) : Int) ≤ 16 := by omega
    generalize hMM : 2 ^ gs.length = M at *
    clear hp4 hp1
    have HMM := Lib.hid hMM
    clear hMM
    go_wp2_with fail
    rw [HM.out]
    have hMM2 : 1 ≤ M - 1 ∧ M - 1 < 16 := by
      have h := HMM.out
      have hp1 : 2 ^ 1 ≤ 2 ^ gs.length := Nat.pow_le_pow_right (by decide) h1'
      omega
    refine (shapes_any 16 (by decide) (M - 1) hMM2.1 (by omega) hMM2.2 _).mono ?_
    rintro e w6 ⟨v, rfl, hr, hk⟩
    obtain ⟨xs, o1, o2⟩ := hr
    obtain ⟨a, cp, hv⟩ := own_slice o1
    subst hv
    have HR : Hid (RowSh w6 w5.heap.size (.slice a (shapesF 16 (M - 1)).length cp) (shapesF 16 (M - 1)) (fun b => w5.heap.size ≤ b)) := ⟨xs, o1, o2⟩
    have HK6 := Lib.hid (HK5.out.trans hk)
    have HGE := Lib.hid (fun s => cost_ge HO.out s)
    generalize shapesF 16 (M - 1) = L at *
    have hL : (L.length : Int) ≤ 120 := by have := HLN.out; omega
    generalize hc : bestC gs es = c at *
    have HC := Lib.hid hc
    clear hk o1 o2 hMM2 hsh hm0 hm1 hc HMM HM
    go_wp2_with fail
    go_loopg [9, 10] L.length (fun g v9 v10 wr => ∃ k : Nat, k + g = L.length ∧ v10 = .int .i64 k ∧ v9 = .bool ((L.take k).any (hitB gs es)) ∧ Hid (Kept [] w6 wr))
    case atStart => exact ⟨0, by omega, rfl, by simp, Lib.hid (Kept.refl _ _)⟩
    case round =>
      obtain ⟨k, hk, rfl, rfl, hkp⟩ := hrel
      obtain ⟨wo, hwo⟩ : ∃ wo : World, wo = wr := ⟨_, rfl⟩
      subst hwo
      by_cases hlt : k < L.length
      · obtain ⟨s, hs⟩ : ∃ s, L[k]? = some s := ⟨L[k], by simp [hlt]⟩
        have hk0 : (0 : Int) ≤ (k : Int) := by omega
        have hk1 : (k : Int) < (L.length : Int) := by omega
        have hsn := any_snoc gs es L k s hs
        obtain ⟨g1, cap1, lf1, a1, n1, cp1, e1, _, hg1, p0, p1, hs1⟩ := RowSh.at (RowSh.next HR.out hkp.out (by simp) (by simp) (fun _ h _ => h)) hs
        simp only [Value.slice.injEq, true_and] at e1
        obtain ⟨rfl, rfl⟩ := e1
        have HS1 := Lib.hid (hs1.sh (base := 0) (fun _ _ => Nat.zero_le _))
        have hge := HGE.out s
        have hhit : hitB gs es s = ((costF gs es s).2 == 0 && (costF gs es s).1 == c) := by unfold hitB; rw [HC.out]
        rw [hhit] at hsn
        have HSN := Lib.hid hsn
        have HGS := Lib.hid hge
        clear hs hs1 hsn hge hhit
        generalize (L.take k).any (hitB gs es) = b at *
        go_wp2_with fail
        refine (cost_in _ _ _ _ _ (HJ.out.kept (HK6.out.trans hkp.out)) HL.out.1 HL.out.2 (HT.out.kept (HK6.out.trans hkp.out)) HS1.out).mono ?_
        rintro e w7 ⟨rfl, hk7⟩
        have HK7 := Lib.hid (hkp.out.trans hk7)
        clear hk7 p0 p1
        generalize costF gs es s = mg at *
        obtain ⟨m, gg⟩ := mg
        have hge' : ((gg == 0) = false) ∨ (gg = 0 ∧ c < m ∧ (m == c) = false) ∨ (gg = 0 ∧ c = m) := by
          rcases HGS.out with h | h
          · left; simpa using h
          · by_cases e : gg = 0
            · simp only at h
              rcases Int.lt_or_eq_of_le h with h | h
              · exact .inr (.inl ⟨e, h, by rw [beq_eq_false_iff_ne]; omega⟩)
              · exact .inr (.inr ⟨e, h⟩)
            · left; simpa using e
        rcases hge' with hg0 | ⟨rfl, hle, hne⟩ | ⟨rfl, rfl⟩
        all_goals
          cases b
          all_goals
            go_wp2_with fail
            go_roundg (L.length - (k + 1))
            case measure => omega
            case rel => exact ⟨k + 1, by omega, by go_num, by rw [HSN.out]; simp [*], HK7⟩
      · obtain rfl : k = L.length := by omega
        rw [List.take_length, HH.out]
        go_wp2_with fail
        go_ret
        exact ⟨rfl, HK6.out.trans hkp.out⟩
end Go.Proofs.YtnfdbbjemlehnaaDoor
