/- The reference's Decode, the walk. -/
import Derived.Test.YtkodiogkldboiaaGreatDoorM8
import Derived.Test.YtkodiogkldboiaaGreatDoorM13
set_option linter.unusedVariables false
set_option linter.unusedSimpArgs false
namespace Go.Proofs.YtkodiogkldboiaaGreatDoor
open Go.RowKit

def RDecPost (g : Option Scr) (w : World) (en : Ending) (w' : World) : Prop :=
  ∃ v, en = .returned (.tuple #[v, .bool g.isSome]) ∧ ScrAt w' (Hi w.heap.size) (g.getD noScr) v ∧ Kept [] w w'
/-- Behind the query. -/
def RMid (p res : Nat) (a b c : Int) (q : List UInt8) (s : SR) (lb lo : Nat) (n4 n5 : Int) (w : World) (sb : Nat) (wx : World) : Prop :=
  Arr wx sb 25 [.slice none 0 0, .string ⟨q.toArray⟩, .int .i64 a, .int .i64 b, .int .i64 c, .slice none 0 0] ∧ SRd 80 wx p s ∧ Arr wx res 25 [.slice none 0 0, .string ⟨#[]⟩, .int .i64 0, .int .i64 0, .int .i64 0, .slice none 0 0] ∧ wx.cell? ⟨lb, lo + 4, none⟩ = some (.int .i64 n4) ∧ wx.cell? ⟨lb, lo + 5, none⟩ = some (.int .i64 n5) ∧ Kept [] w wx ∧ p < sb ∧ sb ≠ lb ∧ lb < wx.heap.size

theorem FJ.stepR {T : TypeId} {p q M : Nat} {c0 c1 c2 c3 c4 : Value} {w0 w w' : World} {x : SR × List Int} {rv : Value} (h : FJ T p q M c0 c1 c2 c3 c4 w0 x w) (hb : x.1.bad = false) (hok : faultOk (rowM x.1).1 = false) (hs : SRd T w' p ⟨(rowM x.1).2.rest, true⟩) (ha : Arr w' q 25 [c0, c1, c2, c3, c4, rv]) (hr : (kint .i64).Row 3 w' w0.heap.size NoB rv x.2) (hk : Kept [p, q] w0 w') : FJ T p q M c0 c1 c2 c3 c4 w0 (faultStepR x) w' := by
  obtain ⟨_, _, _, h4, h5, h6⟩ := h
  have := rowM_len x.1
  have e : faultStepR x = (⟨(rowM x.1).2.rest, true⟩, x.2) := by unfold faultStepR faultM; rw [hok]; rfl
  rw [e]
  exact ⟨hs, ⟨rv, ha, hr⟩, hk, by show (rowM x.1).2.rest.length ≤ M; omega, (fun hb2 => by cases hb2), h6⟩
theorem FJ.stepO {T : TypeId} {p q M : Nat} {c0 c1 c2 c3 c4 : Value} {w0 w' : World} {x : SR × List Int} (hok : faultOk (rowM x.1).1 = true) (h : FJ T p q M c0 c1 c2 c3 c4 w0 (faultStep x) w') : FJ T p q M c0 c1 c2 c3 c4 w0 (faultStepR x) w' := by
  have e : faultStepR x = faultStep x := by unfold faultStepR faultStep; rw [hok]; rfl
  rw [e]; exact h

set_option maxRecDepth 100000 in
set_option maxHeartbeats 12800000 in
theorem ref_decode (w : World) (ba : Option Addr) (bc : Nat) (B : List UInt8) (hba : BAt w Any (.slice ba B.length bc) B) (hb : (B.length : Int) ≤ 16000000) (hfn : l_at (intsV 6 ⟨B, false⟩) 3 ≤ 16384 → FineS (decScr ⟨B, false⟩)) : Calls Tryz.prog 15 #[.slice ba B.length bc] w (RDecPost (decodeM B) w) := by
  have K0 : Kept [] w ((w.alloc (Obj.cells #[.slice none 0 0, .string ⟨#[]⟩, .int .i64 0, .int .i64 0, .int .i64 0, .slice none 0 0] 25)).alloc (Obj.cells #[] 5)) := ((Kept.refl [] w).alloc _).alloc _
  have HA0 : Hid (Arr ((w.alloc (Obj.cells #[.slice none 0 0, .string ⟨#[]⟩, .int .i64 0, .int .i64 0, .int .i64 0, .slice none 0 0] 25)).alloc (Obj.cells #[] 5)) w.heap.size 25 [.slice none 0 0, .string ⟨#[]⟩, .int .i64 0, .int .i64 0, .int .i64 0, .slice none 0 0]) :=
    Lib.hid ((Arr.new' rfl rfl : Arr (w.alloc (Obj.cells #[.slice none 0 0, .string ⟨#[]⟩, .int .i64 0, .int .i64 0, .int .i64 0, .slice none 0 0] 25)) w.heap.size 25 [.slice none 0 0, .string ⟨#[]⟩, .int .i64 0, .int .i64 0, .int .i64 0, .slice none 0 0]).alloc _)
  have HN0 : Hid (Bytes ((w.alloc (Obj.cells #[.slice none 0 0, .string ⟨#[]⟩, .int .i64 0, .int .i64 0, .int .i64 0, .slice none 0 0] 25)).alloc (Obj.cells #[] 5)) (w.heap.size + 1) (.slice (some ⟨w.heap.size + 1, 0, none⟩) 0 0) []) := Lib.hid (own_new (b := w.heap.size + 1) (xs := []) (Arr.new' (by simp) rfl) rfl (Nat.le_refl _) (by unfold maxLen; omega))
  have HB0 := Lib.hid (hba.kept K0)
  have HK0 := Lib.hid K0
  clear hba K0
  go_enter Tryz.func15, Tryz.ntmps15
  go_upto_region 2 with (at_builtin; go_must (refine wpList_copyb rfl _ _ rfl (w.heap.size + 1) (.slice (some ⟨w.heap.size + 1, 0, none⟩) 0 0) [] rfl HN0.out _ B rfl HB0.out (by simp) (by omega) (by simp) ?_); intro ad cap w0 ho hk; have HO := Lib.hid ho; have HKB := Lib.hid hk; clear ho hk)
  have hszp : w.heap.size + 2 ≤ w0.heap.size := by have := HKB.out.size; simp at this; omega
  have HKW0 : Hid (Kept [] w w0) := Lib.hid (HK0.out.fresh HKB.out (by intro x hx hlt; simp [Value.ownBlock] at hx; omega))
  have HAW0 := Lib.hid (HA0.out.kept HKB.out (by simp [Value.ownBlock]))
  have HO2 : Hid (Bytes w0 (w.heap.size + 1) (.slice ad B.length cap) B) := Lib.hid (by simpa using HO.out)
  have HS0 : Hid (SRd 80 (w0.alloc (Obj.cells #[.slice ad B.length cap, .bool false] 80)) w0.heap.size ⟨B, false⟩) := Lib.hid ⟨ad, cap, Arr.new' rfl rfl, (Bytes.at (P := fun b => b < w0.heap.size) HO2.out (fun b _ h => h)).next ((Kept.refl [] w0).alloc _) (by simp) (fun _ h _ => h)⟩
  have HK1 : Hid (Kept [] w (w0.alloc (Obj.cells #[.slice ad B.length cap, .bool false] 80))) := Lib.hid (HKW0.out.alloc _)
  have HA1 := Lib.hid (HAW0.out.alloc (Obj.cells #[.slice ad B.length cap, .bool false] 80))
  have hw1 : w0.heap.size + 1 ≤ (w0.alloc (Obj.cells #[.slice ad B.length cap, .bool false] 80)).heap.size := by simp
  clear HA0 HN0 HB0 HK0 HO HO2 HKB HKW0 HAW0
  generalize (w0.alloc (Obj.cells #[.slice ad B.length cap, .bool false] 80)) = w1 at *
  generalize hpp : w0.heap.size = p at *
  clear hpp
  have HC : Hid (Calls Tryz.prog 41 #[.pointer (some ⟨p, 0, none⟩), .int .i64 6] w1 (SIntsPost 80 p 6 ⟨B, false⟩ w1)) := Lib.hid (rr_ints w1 p 6 ⟨B, false⟩ HS0.out (by show (B.length : Int) ≤ _; omega) (by decide))
  go_wp2_with fail
  refine HC.out.mono ?_
  rintro e w2 ⟨v, ns, rfl, hv, hl, hns, hsr, hk⟩
  obtain ⟨n0, n1, n2, n3, n4, n5, hn⟩ : ∃ n0 n1 n2 n3 n4 n5, ns = [n0, n1, n2, n3, n4, n5] := by
    match ns, hl with
    | [a, b, c, d, e, f], _ => exact ⟨a, b, c, d, e, f, rfl⟩
  have HNV : Hid ((intsS 6 ⟨B, false⟩).bad = false → intsV 6 ⟨B, false⟩ = [n0, n1, n2, n3, n4, n5]) := Lib.hid (fun hbd => by rw [← hns (.inl (intsS_ok 6 _ hbd)), hn])
  subst hn
  obtain ⟨b, o, cap, rfl, hbw, hbs, y0⟩ := int_at hv (j := 0) (x := n0) rfl
  obtain ⟨b', o', cap', he, _, _, y1⟩ := int_at hv (j := 1) (x := n1) rfl
  simp only [Value.slice.injEq, Option.some.injEq, Addr.mk.injEq, and_true, true_and] at he
  obtain ⟨⟨rfl, rfl⟩, rfl⟩ := he
  obtain ⟨b', o', cap', he, _, _, y2⟩ := int_at hv (j := 2) (x := n2) rfl
  simp only [Value.slice.injEq, Option.some.injEq, Addr.mk.injEq, and_true, true_and] at he
  obtain ⟨⟨rfl, rfl⟩, rfl⟩ := he
  obtain ⟨b', o', cap', he, _, _, y3⟩ := int_at hv (j := 3) (x := n3) rfl
  simp only [Value.slice.injEq, Option.some.injEq, Addr.mk.injEq, and_true, true_and] at he
  obtain ⟨⟨rfl, rfl⟩, rfl⟩ := he
  obtain ⟨b', o', cap', he, _, _, y4⟩ := int_at hv (j := 4) (x := n4) rfl
  simp only [Value.slice.injEq, Option.some.injEq, Addr.mk.injEq, and_true, true_and] at he
  obtain ⟨⟨rfl, rfl⟩, rfl⟩ := he
  obtain ⟨b', o', cap', he, _, _, y5⟩ := int_at hv (j := 5) (x := n5) rfl
  simp only [Value.slice.injEq, Option.some.injEq, Addr.mk.injEq, and_true, true_and] at he
  obtain ⟨⟨rfl, rfl⟩, rfl⟩ := he
  rw [Nat.add_zero] at y0
  simp only [List.length_cons, List.length_nil, Nat.zero_add, Nat.reduceAdd]
  have hbw2 : p + 1 ≤ b := by have h2 : w1.heap.size ≤ b := hbw; omega
  have HA2 := Lib.hid (HA1.out.kept hk (by simp; omega))
  have HS2 := Lib.hid hsr
  have HK2 : Hid (Kept [] w w2) := Lib.hid (HK1.out.fresh hk (by intro x hx hlt; simp at hx; omega))
  have hw2 : p + 1 ≤ w2.heap.size := Nat.le_trans hw1 hk.size
  clear hv hl hns hsr hbw HA1 HS0 HK1 HC hk
  obtain ⟨ra, rc, hra, _⟩ := HS2.out
  have r1 := hra.cell (i := 1) rfl
  clear hra
  have a0 := HA2.out.cell (i := 0) rfl
  have a1 := HA2.out.cell (i := 1) rfl
  have a2 := HA2.out.cell (i := 2) rfl
  have a3 := HA2.out.cell (i := 3) rfl
  have a4 := HA2.out.cell (i := 4) rfl
  have a5 := HA2.out.cell (i := 5) rfl
  have b0 := HA2.out.free 0
  have b1 := HA2.out.free 1
  have b2 := HA2.out.free 2
  have b3 := HA2.out.free 3
  have b4 := HA2.out.free 4
  have b5 := HA2.out.free 5
  have HBADE : Hid (markOk ⟨B, false⟩ = false → decodeM B = none) := Lib.hid (fun h => by unfold decodeM; rw [h]; rfl)
  by_cases hok : markOk ⟨B, false⟩ = true
  · have hbd : (intsS 6 ⟨B, false⟩).bad = false := by unfold markOk at hok; simp only [Bool.and_eq_true, Bool.not_eq_true'] at hok; exact hok.1
    have hnm : intsNm 6 ⟨B, false⟩ = ⟨#[83]⟩ := by unfold markOk at hok; simp only [Bool.and_eq_true, decide_eq_true_eq] at hok; exact hok.2.1
    have hn3 : l_at (intsV 6 ⟨B, false⟩) 3 ≤ 16384 := by unfold markOk at hok; simp only [Bool.and_eq_true, decide_eq_true_eq] at hok; exact hok.2.2
    have hv6 := HNV.out hbd
    have HV6 := Lib.hid hv6
    obtain rfl : n3 = (l_at (intsV 6 ⟨B, false⟩) 3 : Int) := l_at_eq 6 3 _ _ (by rw [hv6]; rfl)
    obtain rfl : n4 = (l_at (intsV 6 ⟨B, false⟩) 4 : Int) := l_at_eq 6 4 _ _ (by rw [hv6]; rfl)
    obtain rfl : n5 = (l_at (intsV 6 ⟨B, false⟩) 5 : Int) := l_at_eq 6 5 _ _ (by rw [hv6]; rfl)
    have hN4 := l_at_le 6 4 ⟨B, false⟩
    have hN5 := l_at_le 6 5 ⟨B, false⟩
    have hfine := hfn hn3
    have hdec : decodeM B = if (!(decF ⟨B, false⟩).1.bad && (decide ((decF ⟨B, false⟩).1.rest.length = 0) && scrOk (decScr ⟨B, false⟩))) then some (decScr ⟨B, false⟩) else none := by unfold decodeM; rw [hok, Bool.true_and]
    have HDEC := Lib.hid hdec
    have HFINE := Lib.hid hfine
    have hqd : decQ ⟨B, false⟩ = queryM (l_at (intsV 6 ⟨B, false⟩) 3) (intsS 6 ⟨B, false⟩) [] := rfl
    have htd : decT ⟨B, false⟩ = timesM sbad tblStep (l_at (intsV 6 ⟨B, false⟩) 4) ((decQ ⟨B, false⟩).2, []) := rfl
    have hfd : decF ⟨B, false⟩ = timesM sbad faultStep (l_at (intsV 6 ⟨B, false⟩) 5) ((decT ⟨B, false⟩).1, []) := rfl
    have hsd : decScr ⟨B, false⟩ = ⟨(decT ⟨B, false⟩).2, ⟨(decQ ⟨B, false⟩).1.toArray⟩, n0, n1, n2, (decF ⟨B, false⟩).2⟩ := by unfold decScr; rw [hv6]; rfl
    have HQD := Lib.hid hqd
    have HTD := Lib.hid htd
    have HFD := Lib.hid hfd
    have HSD := Lib.hid hsd
    have hql := decQ_rest ⟨B, false⟩
    have htl := decT_rest ⟨B, false⟩
    simp only at hql htl
    rw [hbd] at r1
    rw [hnm]
    have hi6 := intsS_len 6 ⟨B, false⟩
    simp only at hi6
    have HQ : Hid (∀ wx, Kept [] w2 wx → Calls Tryz.prog 42 #[.pointer (some ⟨p, 0, none⟩), .int .i64 (l_at (intsV 6 ⟨B, false⟩) 3 : Int)] wx (QryPost 80 p (l_at (intsV 6 ⟨B, false⟩) 3) (intsS 6 ⟨B, false⟩) wx)) := Lib.hid (fun wx kx => rr_query wx _ _ _ (HS2.out.kept kx) (by omega) hn3)
    clear hok hbd hnm hv6 hfine hdec hqd htd hfd hsd HBADE HNV
    generalize l_at (intsV 6 ⟨B, false⟩) 3 = N3 at *
    generalize l_at (intsV 6 ⟨B, false⟩) 4 = N4 at *
    generalize l_at (intsV 6 ⟨B, false⟩) 5 = N5 at *
    have hN3' : ¬ (16384 : Int) < (N3 : Int) := by omega
    have HY4 := Lib.hid y4
    have HY5 := Lib.hid y5
    clear y4 y5 a0 a1 a2 a3 a4 a5 b0 b1 b2 b3 b4 b5
    go_wp2_with fail
    go_cut [7] (fun v wx => ∃ sb, v = .pointer (some ⟨sb, 0, none⟩) ∧ RMid p w.heap.size n0 n1 n2 (decQ ⟨B, false⟩).1 (decQ ⟨B, false⟩).2 b o N4 N5 w sb wx)
    case first =>
      clear r1 HDEC HFINE HTD HFD HSD HV6 hql htl hN4 hN5 hn3 hN3' hw1
      have kd4 : Kept [p] w2 w2.drew := (Kept.refl _ _).drew
      have kd5 : Kept [p] w2 (w2.alloc (Obj.cells #[.slice none 0 0, .string ⟨#[]⟩, .int .i64 0, .int .i64 0, .int .i64 0, .slice none 0 0] 25)).drew := ((Kept.refl _ _).alloc _).drew
      have HZ5 : Hid (Arr (w2.alloc (Obj.cells #[.slice none 0 0, .string ⟨#[]⟩, .int .i64 0, .int .i64 0, .int .i64 0, .slice none 0 0] 25)).drew w2.heap.size 25 [.slice none 0 0, .string ⟨#[]⟩, .int .i64 0, .int .i64 0, .int .i64 0, .slice none 0 0]) := Lib.hid (Arr.new' rfl rfl)
      have hz1 : w2.heap.size ∉ [p] := by simp; omega
      have e1 : ¬ b = w2.heap.size := by omega
      have e2 : ¬ w2.heap.size = b := by omega
      have hb1 : b ∉ [p] := by simp; omega
      have s1 := y0
      have s2 := y1
      have s3 := y2
      have s4 := y3
      go_region_held3 (fun w' => w'.cell? ⟨b, o, none⟩ = some (.int .i64 n0) ∧ w'.cell? ⟨b, o + 1, none⟩ = some (.int .i64 n1) ∧ w'.cell? ⟨b, o + 2, none⟩ = some (.int .i64 n2) ∧ w'.cell? ⟨b, o + 3, none⟩ = some (.int .i64 (N3 : Int)))
        (first | with_reducible exact ⟨s1, s2, s3, s4⟩ | go_keep)
        (first | (go_at_call 42; refine (HQ.out _ (by first | exact (Kept.refl [] w2).drew | exact (Kept.refl [] w2).drewN _ | exact ((Kept.refl [] w2).drewN _).alloc _ | exact ((Kept.refl [] w2).drew).alloc _ | exact (Kept.refl [] w2).alloc _)).mono ?_; rintro e w4 ⟨rfl, hs4, hk4⟩; (first | (have kk4 : Kept [p] w2 w4 := kd4.trans hk4) | (have kk4 : Kept [p] w2 w4 := kd5.trans hk4; have hz5 := HZ5.out.kept hk4 hz1; have z0 := hz5.cell (i := 0) rfl; have z1 := hz5.cell (i := 1) rfl; have z2 := hz5.cell (i := 2) rfl; have z3 := hz5.cell (i := 3) rfl; have z4 := hz5.cell (i := 4) rfl; have z5 := hz5.cell (i := 5) rfl; have g0 := hz5.free 0; have g1 := hz5.free 1; have g2 := hz5.free 2; have g3 := hz5.free 3; have g4 := hz5.free 4; have g5 := hz5.free 5; have HZ6 := Lib.hid hz5; clear hz5)); have s1 := (kk4.cell hbs hb1).trans y0; have s2 := (kk4.cell hbs hb1).trans y1; have s3 := (kk4.cell hbs hb1).trans y2; have s4 := (kk4.cell hbs hb1).trans y3; have q1 := kk4.size; have q2 : b < w4.heap.size := Nat.lt_of_lt_of_le hbs q1; have q3 : ¬ b = w4.heap.size := Nat.ne_of_lt q2; have q4 : ¬ w4.heap.size = b := fun e => Nat.ne_of_lt q2 e.symm; have HS4 := Lib.hid hs4; have HK4 := Lib.hid kk4; clear q1; clear hs4 hk4 kk4))
      · have hF : RMid p w.heap.size n0 n1 n2 (decQ ⟨B, false⟩).1 (decQ ⟨B, false⟩).2 b o N4 N5 w w4.heap.size (w4.alloc (Obj.cells #[.slice none 0 0, .string ⟨(queryM N3 (intsS 6 ⟨B, false⟩) []).1.toArray⟩, .int .i64 n0, .int .i64 n1, .int .i64 n2, .slice none 0 0] 25)) := by
          have ka : Kept [] w4 (w4.alloc (Obj.cells #[.slice none 0 0, .string ⟨(queryM N3 (intsS 6 ⟨B, false⟩) []).1.toArray⟩, .int .i64 n0, .int .i64 n1, .int .i64 n2, .slice none 0 0] 25)) := (Kept.refl [] w4).alloc _
          rw [HQD.out]
          have kk := HK4.out.trans (ka.mono (by simp))
          exact ⟨Arr.new' rfl rfl, HS4.out.kept ka, HA2.out.kept kk (by simp; omega), (kk.cell hbs hb1).trans HY4.out, (kk.cell hbs hb1).trans HY5.out, HK2.out.fresh kk (by intro x hx hlt; simp at hx; omega), by have := HK4.out.size; omega, fun e => q3 e.symm, by have := ka.size; omega⟩
        go_wp2_with fail
        go_meet
        case rel => exact ⟨_, rfl, hF⟩
      · have KF : Kept [w2.heap.size] w4 ((((((w4.setCell ⟨w2.heap.size, 0, none⟩ (.slice none 0 0)).setCell ⟨w2.heap.size, 1, none⟩ (.string ⟨(queryM N3 (intsS 6 ⟨B, false⟩) []).1.toArray⟩)).setCell ⟨w2.heap.size, 2, none⟩ (.int .i64 n0)).setCell ⟨w2.heap.size, 3, none⟩ (.int .i64 n1)).setCell ⟨w2.heap.size, 4, none⟩ (.int .i64 n2)).setCell ⟨w2.heap.size, 5, none⟩ (.slice none 0 0)) := ((((((Kept.refl _ _).setCell (.inl (by simp)) _).setCell (.inl (by simp)) _).setCell (.inl (by simp)) _).setCell (.inl (by simp)) _).setCell (.inl (by simp)) _).setCell (.inl (by simp)) _
        have hF : RMid p w.heap.size n0 n1 n2 (decQ ⟨B, false⟩).1 (decQ ⟨B, false⟩).2 b o N4 N5 w w2.heap.size ((((((w4.setCell ⟨w2.heap.size, 0, none⟩ (.slice none 0 0)).setCell ⟨w2.heap.size, 1, none⟩ (.string ⟨(queryM N3 (intsS 6 ⟨B, false⟩) []).1.toArray⟩)).setCell ⟨w2.heap.size, 2, none⟩ (.int .i64 n0)).setCell ⟨w2.heap.size, 3, none⟩ (.int .i64 n1)).setCell ⟨w2.heap.size, 4, none⟩ (.int .i64 n2)).setCell ⟨w2.heap.size, 5, none⟩ (.slice none 0 0)) := by
          rw [HQD.out]
          have kw := HK2.out.fresh (HK4.out) (by intro x hx hlt; simp at hx; omega)
          exact ⟨(((((HZ6.out.set 0 _).set 1 _).set 2 _).set 3 _).set 4 _).set 5 _, HS4.out.next KF (by simp; omega), (HA2.out.kept HK4.out (by simp; omega)).kept KF (by simp; omega), ((KF.cell q2 (by simp; omega)).trans (HK4.out.cell hbs hb1)).trans HY4.out, ((KF.cell q2 (by simp; omega)).trans (HK4.out.cell hbs hb1)).trans HY5.out, kw.fresh KF (by intro x hx hlt; simp at hx; omega), by omega, e2, by have := KF.size; omega⟩
        go_wp2_with fail
        go_meet
        case rel => exact ⟨_, rfl, hF⟩
    case rest =>
      obtain ⟨sb, rfl, hmid⟩ := hcut
      obtain ⟨wc3, hw3⟩ : ∃ w3 : World, w3 = wc := ⟨_, rfl⟩
      subst hw3
      obtain ⟨m1, m2, m4, m5, m6, m7, m8, m9, m10⟩ := hmid
      have HSB := Lib.hid m1
      have HSR := Lib.hid m2
      have HRS := Lib.hid m4
      have HN5 := Lib.hid m6
      have HKW := Lib.hid m7
      have hsb := m1.lt
      have HN4' := Lib.hid m5
      clear HY4 HY5 y0 y1 y2 y3 r1 HQ HQD HS2 HA2 hbs m1 m2 m4 m5 m6 m7
      have HJ0 : Hid (TJ 80 p sb (decQ ⟨B, false⟩).2.rest.length (.string ⟨(decQ ⟨B, false⟩).1.toArray⟩) (.int .i64 n0) (.int .i64 n1) (.int .i64 n2) wc3 ((decQ ⟨B, false⟩).2, []) wc3) := Lib.hid ⟨HSR.out, ⟨_, HSB.out, Kd.Row.nil _ _ _ _ _⟩, Kept.refl _ wc3, Nat.le_refl _, fun _ => by simp, by simp⟩
      go_upto_block 0 with fail
      go_cut [8] (fun _ wx => TJ 80 p sb (decQ ⟨B, false⟩).2.rest.length (.string ⟨(decQ ⟨B, false⟩).1.toArray⟩) (.int .i64 n0) (.int .i64 n1) (.int .i64 n2) wc3 (decT ⟨B, false⟩) wx)
      case first =>
        go_wp2_with fail
        go_loopg [8] (N4 + 1) (fun g i wr => ∃ (k : Nat) (x : SR × List Tbl), k + g = N4 + 1 ∧ i = .int .i64 k ∧ Hid (TJ 80 p sb (decQ ⟨B, false⟩).2.rest.length (.string ⟨(decQ ⟨B, false⟩).1.toArray⟩) (.int .i64 n0) (.int .i64 n1) (.int .i64 n2) wc3 x wr) ∧ Hid (decT ⟨B, false⟩ = timesM sbad tblStep (N4 - k) x) ∧ k ≤ N4)
        case atStart => exact ⟨0, _, by omega, rfl, HJ0, HTD, Nat.zero_le _⟩
        case round =>
          obtain ⟨k, x, hk, rfl, H, HT, hkn⟩ := hrel
          obtain ⟨wo, hwo⟩ : ∃ wo : World, wo = wr := ⟨_, rfl⟩
          subst hwo
          obtain ⟨h1, ⟨rv, h2, h3⟩, h4, h5, h6, h7⟩ := H.out
          have y4 := (h4.cell m10 (by simp; omega)).trans HN4'.out
          obtain ⟨ra0, rc0, hra, _⟩ := h1
          have r1 := hra.cell (i := 1) rfl
          have hk0 : (0 : Int) ≤ (k : Int) := by omega
          cases hbad : x.1.bad
          · rw [hbad] at r1
            by_cases hlt : k < N4
            · have hlt' : (k : Int) < (N4 : Int) := by omega
              have HC : Hid (∀ n, Calls Tryz.prog 43 #[.pointer (some ⟨p, 0, none⟩)] (wo.drewN n) (TblPost 80 p x.1 (wo.drewN n))) := Lib.hid (fun n => rr_table (wo.drewN n) p x.1 (H.out.1.kept (Kept.drewN (Kept.refl [] wo) n)) (by omega))
              have HT2 : Hid (decT ⟨B, false⟩ = timesM sbad tblStep (N4 - (k + 1)) (tblStep x)) := Lib.hid (by rw [HT.out, show N4 - k = (N4 - (k + 1)) + 1 by omega, timesM, if_neg (by show ¬ x.1.bad = true; rw [hbad]; simp)])
              have HBAD := Lib.hid hbad
              have HA := Lib.hid h2
              have HRW := Lib.hid h3
              have HK := Lib.hid h4
              have HLEN := Lib.hid h7
              have hqw : sb < wo.heap.size := Arr.lt h2
              have c1 := h2.cell (i := 0) rfl
              have f1 := h2.free 0
              obtain ⟨ra, rc, hf, _⟩ := h3.form
              subst hf
              have HOFF : Hid (∀ g ∈ (Value.slice ra x.2.length rc).ownBlock.toList, wc3.heap.size ≤ g ∧ g < wo.heap.size) := Lib.hid (fun g hg => h3.block (g := g) (by simpa using hg))
              clear h2 h3 h4 h5 h6 h7 hra hbad
              go_upto_region 9 with fail
              clear r1 y4
              go_region_law (first
                | (rw [if_pos (by rfl)]; (refine wp_push 22 53 64 _ Tryz.underlying22 Tryz.info53 rfl (by decide) (by decide) _ _ (by rfl) wc3.heap.size (Hi wc3.heap.size) (.slice ra x.2.length rc) x.2 (by rfl) (HRW2.out.kept (by first | exact ((Kept.refl [] w2).drewN _).alloc _ | exact (Kept.refl [] w2).alloc _ | exact ((Kept.refl [] w2).drew).alloc _)) w2.heap.size [.string (tblM x.1).1.name, .slice va (tblM x.1).1.cols.length vc, .slice ua (tblM x.1).1.rows.length uc] (tblM x.1).1 (by rfl) (Arr.new' (by simp) rfl) (HEL.out _ (by first | exact ((Kept.refl [] w2).drewN _).alloc _ | exact (Kept.refl [] w2).alloc _ | exact ((Kept.refl [] w2).drew).alloc _)) (by have := HLEN.out; omega) (by have := HSZ.out; simp; omega) ?_); intro g cap2 w5 ho3 hk3; have kk := Kept.trans (Kept.mono (S' := (Value.slice ra x.2.length rc).ownBlock.toList) (show Kept [] w2 _ by first | exact ((Kept.refl [] w2).drewN _).alloc _ | exact (Kept.refl [] w2).alloc _ | exact ((Kept.refl [] w2).drew).alloc _) (by simp)) hk3; have c1' := (kk.cell hqw2 (fun hm => by have := HOFF.out _ hm; omega)).trans c1; have f1' := (kk.frozen hqw2 (fun hm => by have := HOFF.out _ hm; omega)).trans f1; have HO3 := Lib.hid ho3; have HK3' := Lib.hid kk; clear ho3 hk3 kk)
                | (rw [if_pos (by rfl)]; go_simp; refine (HC.out _).mono ?_; rintro e w2 ⟨v, u, rfl, hv, hu, hs, hk⟩; obtain ⟨va, vc, rfl, _⟩ := hv.form; obtain ⟨ua, uc, rfl, _⟩ := hu.form; have kk1 := Kept.trans ((Kept.refl [p] wo).drewN _) hk; have c1 := (kk1.cell hqw (by simp; omega)).trans c1; have f1 := (kk1.frozen hqw (by simp; omega)).trans f1; have HEL : Hid (∀ wx, Kept [] w2 wx → ktbl.E wx (Av (Hi wc3.heap.size) (.slice ra x.2.length rc)) (tblM x.1).1 [.string (tblM x.1).1.name, .slice va (tblM x.1).1.cols.length vc, .slice ua (tblM x.1).1.rows.length uc]) := Lib.hid (fun wx kx => ⟨_, _, rfl, hv.next kx (by simp) (fun b hb _ => av_from HRW.out (Nat.le_refl _) (by have := HK.out.size; have h2 : wo.heap.size ≤ b := hb; show wc3.heap.size ≤ b; omega) hb), hu.next kx (by simp) (fun b hb _ => av_from HRW.out (Nat.le_refl _) (by have := HK.out.size; have h2 : wo.heap.size ≤ b := hb; show wc3.heap.size ≤ b; omega) hb)⟩); have HRW2 := Lib.hid (HRW.out.next kk1 (fun g hg => by have := HRW.out.block hg; simp; omega) (fun b hb => by have h2 : wc3.heap.size ≤ b := hb; simp; omega) (fun _ h _ => h)); have hqw2 : sb < w2.heap.size := Nat.lt_of_lt_of_le hqw kk1.size; have HSZ : Hid (wc3.heap.size ≤ w2.heap.size) := Lib.hid (Nat.le_trans HK.out.size kk1.size); have HSR := Lib.hid hs; have HK1 := Lib.hid kk1; clear hv hu hs hk kk1))
              all_goals
                have hend := H.out.step HBAD.out (rv := .slice (some ⟨g, 0, none⟩) (x.2.length + 1) cap2) ((HSR.out.next HK3'.out (fun y hy => by have := HOFF.out y hy; omega)).next ((Kept.refl [sb] w5).setCell (p := ⟨sb, 0, none⟩) (.inl (by simp)) (.slice (some ⟨g, 0, none⟩) (x.2.length + 1) cap2)) (by simp; omega)) (((HA.out.kept HK1.out (by simp; omega)).kept HK3'.out (fun hm => by have := HOFF.out _ hm; omega)).set 0 _) (HO3.out.next ((Kept.refl [sb] w5).setCell (p := ⟨sb, 0, none⟩) (.inl (by simp)) _) (fun g hg => by have := HO3.out.block hg; simp; omega) (fun b hb => by have : wc3.heap.size ≤ b := hb; simp; omega) (fun _ h _ => h)) (((HK.out.trans (HK1.out.mono (by intro k _ h; simp at h; simp [h]))).fresh HK3'.out (fun y hy hlt => by have := HOFF.out y hy; omega)).setCell (p := ⟨sb, 0, none⟩) (.inl (by simp)) _)
                have HEND := Lib.hid hend
                clear hend
                go_wp2_with fail
                go_roundg (N4 + 1 - (k + 1))
                case measure => omega
                case rel => exact ⟨k + 1, tblStep x, by omega, by go_num, HEND, HT2, by omega⟩
            · have hlt' : ¬ (k : Int) < (N4 : Int) := by omega
              have HE : Hid (decT ⟨B, false⟩ = x) := Lib.hid (by rw [HT.out, show N4 - k = 0 by omega]; rfl)
              clear hbad
              go_wp2_with fail
              go_meet
              case rel => rw [HE.out]; exact H.out
          · rw [hbad] at r1
            have HE : Hid (decT ⟨B, false⟩ = x) := Lib.hid (by rw [HT.out, timesM_bad _ _ _ _ (show sbad x = true from hbad)])
            clear hbad
            by_cases hlt : (k : Int) < (N4 : Int)
            · go_wp2_with fail
              go_meet
              case rel => rw [HE.out]; exact H.out
            · go_wp2_with fail
              go_meet
              case rel => rw [HE.out]; exact H.out
      case rest =>
        obtain ⟨wc4, hw4⟩ : ∃ w4 : World, w4 = wc := ⟨_, rfl⟩
        subst hw4
        obtain ⟨hs4, ⟨tv, ha4, hr4⟩, hk4, h5, h6, h7⟩ := hcut
        have hw34 := hk4.size
        have HRS4 := Lib.hid (HRS.out.kept hk4 (by simp; omega))
        have HSB4 := Lib.hid ha4
        have HTR4 := Lib.hid hr4
        have HKW4 : Hid (Kept [] w wc4) := Lib.hid (HKW.out.fresh hk4 (by intro x hx hlt; simp at hx; omega))
        have HN5' := Lib.hid ((hk4.cell m10 (by simp; omega)).trans HN5.out)
        have HF0 : Hid (FJ 80 p sb (decT ⟨B, false⟩).1.rest.length tv (.string ⟨(decQ ⟨B, false⟩).1.toArray⟩) (.int .i64 n0) (.int .i64 n1) (.int .i64 n2) wc4 ((decT ⟨B, false⟩).1, []) wc4) := Lib.hid ⟨hs4, ⟨_, ha4, Kd.Row.nil _ _ _ _ _⟩, Kept.refl _ wc4, Nat.le_refl _, fun _ => by simp, by simp⟩
        clear hs4 ha4 hr4 hk4 h5 h6 h7 HRS HSR HSB HJ0 HN4' HN5
        have hfs := faults_same N5 ((decT ⟨B, false⟩).1, [])
        rw [← HFD.out] at hfs
        have HFS := Lib.hid hfs
        clear hfs
        obtain ⟨FR, hFR⟩ : ∃ FR, FR = timesM sbad faultStepR N5 ((decT ⟨B, false⟩).1, []) := ⟨_, rfl⟩
        rw [← hFR] at HFS
        have HFR := Lib.hid hFR
        clear hFR
        go_upto_block 2 with fail
        go_cut [9, 10] (fun _ _ wx => FJ 80 p sb (decT ⟨B, false⟩).1.rest.length tv (.string ⟨(decQ ⟨B, false⟩).1.toArray⟩) (.int .i64 n0) (.int .i64 n1) (.int .i64 n2) wc4 FR wx)
        case first =>
          go_wp2_with fail
          go_loopg [9, 10] (N5 + 1) (fun g i _v wr => ∃ (k : Nat) (x : SR × List Int), k + g = N5 + 1 ∧ i = .int .i64 k ∧ Hid (FJ 80 p sb (decT ⟨B, false⟩).1.rest.length tv (.string ⟨(decQ ⟨B, false⟩).1.toArray⟩) (.int .i64 n0) (.int .i64 n1) (.int .i64 n2) wc4 x wr) ∧ Hid (FR = timesM sbad faultStepR (N5 - k) x) ∧ k ≤ N5)
          case atStart => exact ⟨0, _, by omega, rfl, HF0, HFR, Nat.zero_le _⟩
          case round =>
            obtain ⟨k, x, hk, rfl, H, HT, hkn⟩ := hrel
            obtain ⟨wo, hwo⟩ : ∃ wo : World, wo = wr := ⟨_, rfl⟩
            subst hwo
            obtain ⟨h1, ⟨rv, h2, h3⟩, h4, h5, h6, h7⟩ := H.out
            have y5 := (h4.cell (Nat.lt_of_lt_of_le m10 hw34) (by simp; omega)).trans HN5'.out
            obtain ⟨ra0, rc0, hra, _⟩ := h1
            have r1 := hra.cell (i := 1) rfl
            have hk0 : (0 : Int) ≤ (k : Int) := by omega
            cases hbad : x.1.bad
            · rw [hbad] at r1
              by_cases hlt : k < N5
              · have hlt' : (k : Int) < (N5 : Int) := by omega
                have HC : Hid (Calls Tryz.prog 44 #[.pointer (some ⟨p, 0, none⟩)] wo (SRowPost 80 p x.1 wo)) := Lib.hid (rr_row wo p x.1 H.out.1 (by omega))
                have HT2 : Hid (FR = timesM sbad faultStepR (N5 - (k + 1)) (faultStepR x)) := Lib.hid (by rw [HT.out, show N5 - k = (N5 - (k + 1)) + 1 by omega, timesM, if_neg (by show ¬ x.1.bad = true; rw [hbad]; simp)])
                have HBAD := Lib.hid hbad
                have HA := Lib.hid h2
                have HRW := Lib.hid h3
                have HK := Lib.hid h4
                have HLEN := Lib.hid h7
                clear h2 h3 h4 h5 h6 h7 hra hbad
                go_wp2_with fail
                refine HC.out.mono ?_
                rintro e w2 ⟨v, rfl, hv, hsr, hk2⟩
                obtain ⟨va, vc, rfl, _⟩ := hv.form
                have HSR2 := Lib.hid hsr
                have HK2 := Lib.hid hk2
                have HA2 := Lib.hid (HA.out.kept hk2 (by simp; omega))
                have HRW2 := Lib.hid (HRW.out.next hk2 (fun g hg => by have := HRW.out.block hg; simp; omega) (fun _ h => h.elim) (fun _ h _ => h))
                obtain ⟨pa, pc, hpa, _⟩ := hsr
                have p1 := hpa.cell (i := 1) rfl
                have g1 := hpa.free 1
                have HBADE : Hid (faultOk (rowM x.1).1 = false → FR = faultStepR x ∧ FJ 80 p sb (decT ⟨B, false⟩).1.rest.length tv (.string ⟨(decQ ⟨B, false⟩).1.toArray⟩) (.int .i64 n0) (.int .i64 n1) (.int .i64 n2) wc4 (faultStepR x) (w2.setCell ⟨p, 1, none⟩ (.bool true))) := Lib.hid (fun hno => ⟨by rw [HT2.out, timesM_bad]; unfold sbad faultStepR faultM; rw [hno]; rfl, H.out.stepR HBAD.out hno (HSR2.out.mark true) (HA2.out.setOther (a := ⟨p, 1, none⟩) (by show sb ≠ p; omega) _) (HRW2.out.next ((Kept.refl [p] w2).setCell (.inl (by simp)) _) (fun g hg => by have := HRW2.out.block hg; simp; omega) (fun _ h => h.elim) (fun _ h _ => h)) ((HK.out.trans (HK2.out.mono (by intro k _ h; simp at h; simp [h]))).setCell (.inl (by simp)) _)⟩)
                clear hpa hk2 r1 y5
                by_cases hl : (rowM x.1).1.length = 1
                · obtain ⟨y, hy⟩ : ∃ y, (rowM x.1).1 = [y] := by
                    match hh : (rowM x.1).1, hl with
                    | [y], _ => exact ⟨y, rfl⟩
                  obtain ⟨b2, o2, cap2, he, hbw, hbs2, x0, x1, x2⟩ := val_at hv (j := 0) (x := y) (by rw [hy]; rfl)
                  simp only [Value.slice.injEq] at he
                  obtain ⟨rfl, e7, rfl⟩ := he
                  rw [Nat.zero_mul, Nat.add_zero] at x0 x1 x2
                  have HY := Lib.hid hy
                  have hbw3 : wo.heap.size ≤ b2 := hbw
                  rw [hl]
                  clear e7 hv hy hl hbw
                  by_cases hk2 : y.k = 2
                  · have HOK : Hid (faultOk (rowM x.1).1 = true) := Lib.hid (by unfold faultOk hd; rw [HY.out]; simp [hk2])
                    have HFM : Hid (faultM x.1 = (y.n, (rowM x.1).2)) := Lib.hid (by unfold faultM; rw [HOK.out, HY.out]; rfl)
                    have hk2' := hk2
                    have hqw : sb < w2.heap.size := Arr.lt HA2.out
                    obtain ⟨ra, rc, hf, _⟩ := HRW2.out.form
                    subst hf
                    have c1 := HA2.out.cell (i := 5) rfl
                    have f1 := HA2.out.free 5
                    have HOFF : Hid (∀ g ∈ (Value.slice ra x.2.length rc).ownBlock.toList, wc4.heap.size ≤ g ∧ g < w2.heap.size) := Lib.hid (fun g hg => HRW2.out.block (g := g) (by simpa using hg))
                    clear x2 p1 g1
                    go_wp2_with fail
                    go_region_law (rw [if_pos (by rfl)]; refine wp_push (K := kint .i64) 23 3 8 _ Tryz.underlying23 Tryz.info3 rfl (by decide) (by decide) _ _ (by rfl) wc4.heap.size NoB (.slice ra x.2.length rc) x.2 (by rfl) (HRW2.out.kept (by first | exact ((Kept.refl [] w2).drewN _).alloc _ | exact (Kept.refl [] w2).alloc _ | exact ((Kept.refl [] w2).drew).alloc _)) w2.heap.size [.int .i64 y.n] y.n (by rfl) (Arr.new' (by simp) rfl) rfl (by have := HLEN.out; omega) (by have := HK.out.size; have := HK2.out.size; simp; omega) ?_; intro g cap3 w5 ho3 hk3; have kk := Kept.trans (Kept.mono (S' := (Value.slice ra x.2.length rc).ownBlock.toList) (show Kept [] w2 _ by first | exact ((Kept.refl [] w2).drewN _).alloc _ | exact (Kept.refl [] w2).alloc _ | exact ((Kept.refl [] w2).drew).alloc _) (by simp)) hk3; have c1' := (kk.cell hqw (fun hm => by have := HOFF.out _ hm; omega)).trans c1; have f1' := (kk.frozen hqw (fun hm => by have := HOFF.out _ hm; omega)).trans f1; have HO3 := Lib.hid ho3; have HK3 := Lib.hid kk; clear ho3 hk3 kk)
                    all_goals
                      have hend := FJ.stepO HOK.out (H.out.step HBAD.out (w' := w5.setCell ⟨sb, 5, none⟩ (.slice (some ⟨g, 0, none⟩) (x.2.length + 1) cap3)) (rv := .slice (some ⟨g, 0, none⟩) (x.2.length + 1) cap3) (by rw [HFM.out]; exact (HSR2.out.next HK3.out (fun y hy => by have := HOFF.out y hy; omega)).next ((Kept.refl [sb] w5).setCell (p := ⟨sb, 5, none⟩) (.inl (by simp)) _) (by simp; omega)) ((HA2.out.kept HK3.out (fun hm => by have := HOFF.out _ hm; omega)).set 5 _) (by rw [HFM.out]; exact HO3.out.next ((Kept.refl [sb] w5).setCell (p := ⟨sb, 5, none⟩) (.inl (by simp)) _) (fun g hg => by have := HO3.out.block hg; simp; omega) (fun _ h => h.elim) (fun _ h _ => h)) (((HK.out.trans (HK2.out.mono (by intro k _ h; simp at h; simp [h]))).fresh HK3.out (fun y hy hlt => by have := HOFF.out y hy; omega)).setCell (p := ⟨sb, 5, none⟩) (.inl (by simp)) _))
                      have HEND := Lib.hid hend
                      clear hend
                      go_wp2_with fail
                      go_roundg (N5 + 1 - (k + 1))
                      case measure => omega
                      case rel => exact ⟨k + 1, faultStepR x, by omega, by go_num, HEND, HT2, by omega⟩
                  · have HE := Lib.hid (HBADE.out (by unfold faultOk hd; rw [HY.out]; simp [hk2]))
                    have hk2' : ¬ y.k = 2 := hk2
                    clear x1 x2
                    go_wp2_with fail
                    go_meet
                    case rel => rw [HE.out.1]; exact HE.out.2
                · have HE := Lib.hid (HBADE.out (by unfold faultOk; simp [hl]))
                  have hl' : ¬ ((rowM x.1).1.length : Int) = 1 := by omega
                  clear hv
                  go_wp2_with fail
                  go_meet
                  case rel => rw [HE.out.1]; exact HE.out.2
              · have hlt' : ¬ (k : Int) < (N5 : Int) := by omega
                have HE : Hid (FR = x) := Lib.hid (by rw [HT.out, show N5 - k = 0 by omega]; rfl)
                clear hbad
                go_wp2_with fail
                go_meet
                case rel => rw [HE.out]; exact H.out
            · rw [hbad] at r1
              have HE : Hid (FR = x) := Lib.hid (by rw [HT.out, timesM_bad _ _ _ _ (show sbad x = true from hbad)])
              clear hbad
              by_cases hlt : (k : Int) < (N5 : Int)
              · go_wp2_with fail
                go_meet
                case rel => rw [HE.out]; exact H.out
              · go_wp2_with fail
                go_meet
                case rel => rw [HE.out]; exact H.out
        case rest =>
          obtain ⟨hs5, ⟨fv, ha5, hr5⟩, hk5, h5, h6, h7⟩ := hcut
          have HTAT : Hid (ktbl.At wc (Hi (w.heap.size + 2)) tv (decT ⟨B, false⟩).2) := Lib.hid ((HTR4.out.next hk5 (fun g hg => by have := HTR4.out.block hg; simp; omega) (fun b hb => by have h2 : wc3.heap.size ≤ b := hb; simp; omega) (fun _ h _ => h)).at (fun b hb _ => by have h2 : wc3.heap.size ≤ b := hb; show w.heap.size + 2 ≤ b; omega) (fun g hg => by have := HTR4.out.block hg; show w.heap.size + 2 ≤ g; omega))
          have HFAT : Hid ((kint .i64).At wc (Hi (w.heap.size + 2)) fv FR.2) := Lib.hid (hr5.at (fun _ h _ => h.elim) (fun g hg => by have := hr5.block hg; show w.heap.size + 2 ≤ g; omega))
          have HRS5 := Lib.hid (HRS4.out.kept hk5 (by simp; omega))
          have HKW5 : Hid (Kept [] w wc) := Lib.hid (HKW4.out.fresh hk5 (by intro x hx hlt; simp at hx; omega))
          have HSB5 := Lib.hid ha5
          obtain ⟨pa, pc, hpa, _⟩ := hs5
          rw [HFS.out.1] at hpa
          have p0 := hpa.cell (i := 0) rfl
          have p1 := hpa.cell (i := 1) rfl
          obtain ⟨ta, tc, htv, _⟩ := HTAT.out.form
          obtain ⟨fa, fc, hfv, _⟩ := HFAT.out.form
          subst htv hfv
          clear ha5 hr5 hk5 h5 h6 h7 hpa
          have t0 := HSB5.out.cell (i := 0) rfl
          have t1 := HSB5.out.cell (i := 1) rfl
          have t2 := HSB5.out.cell (i := 2) rfl
          have t3 := HSB5.out.cell (i := 3) rfl
          have t4 := HSB5.out.cell (i := 4) rfl
          have t5 := HSB5.out.cell (i := 5) rfl
          cases hbd : (decF ⟨B, false⟩).1.bad
          · rw [hbd] at p1
            by_cases hl : (decF ⟨B, false⟩).1.rest.length = 0
            · have HFE : Hid (FR = decF ⟨B, false⟩) := Lib.hid (HFS.out.2 hbd)
              have HSCR : Hid (ScrAt wc Any (decScr ⟨B, false⟩) (.agg #[.slice ta (decT ⟨B, false⟩).2.length tc, .string ⟨(decQ ⟨B, false⟩).1.toArray⟩, .int .i64 n0, .int .i64 n1, .int .i64 n2, .slice fa FR.2.length fc])) := Lib.hid (by rw [HSD.out, ← HFE.out]; exact ⟨_, _, rfl, HTAT.out.any, HFAT.out.any⟩)
              have HCK := Lib.hid (ref_script wc _ _ HSCR.out HFINE.out)
              have HD2 : Hid (decodeM B = if scrOk (decScr ⟨B, false⟩) then some (decScr ⟨B, false⟩) else none) := Lib.hid (by rw [HDEC.out, hbd, decide_eq_true hl]; simp)
              rw [hl] at p0
              clear hbd hl
              go_wp2_with fail
              refine HCK.out.mono ?_
              rintro e w6 ⟨rfl, hk6⟩
              have HRS6 := Lib.hid (HRS5.out.kept hk6 (by simp))
              have HSB6 := Lib.hid (HSB5.out.kept hk6 (by simp))
              have HKW6 := Lib.hid (HKW5.out.trans hk6)
              have HT6 := Lib.hid (HTAT.out.next hk6 (by simp) (fun _ h _ => h))
              have HF6 := Lib.hid (HFAT.out.next hk6 (by simp) (fun _ h _ => h))
              clear hk6 p0 p1 t0 t1 t2 t3 t4 t5
              have t0 := HSB6.out.cell (i := 0) rfl
              have t1 := HSB6.out.cell (i := 1) rfl
              have t2 := HSB6.out.cell (i := 2) rfl
              have t3 := HSB6.out.cell (i := 3) rfl
              have t4 := HSB6.out.cell (i := 4) rfl
              have t5 := HSB6.out.cell (i := 5) rfl
              have a0 := HRS6.out.cell (i := 0) rfl
              have b0 := HRS6.out.free 0
              have a1 := HRS6.out.cell (i := 1) rfl
              have b1 := HRS6.out.free 1
              have a2 := HRS6.out.cell (i := 2) rfl
              have b2 := HRS6.out.free 2
              have a3 := HRS6.out.cell (i := 3) rfl
              have b3 := HRS6.out.free 3
              have a4 := HRS6.out.cell (i := 4) rfl
              have b4 := HRS6.out.free 4
              have a5 := HRS6.out.cell (i := 5) rfl
              have b5 := HRS6.out.free 5
              have hsr6 : ¬ sb = w.heap.size := by omega
              have hrs6 : ¬ w.heap.size = sb := by omega
              cases hq : scrOk (decScr ⟨B, false⟩)
              · skip
                have HE : Hid (decodeM B = none) := Lib.hid (by rw [HD2.out, hq]; rfl)
                skip
                skip
                go_wp2_with fail
                have AF := ((((((HRS6.out).set 0 (.slice none 0 0)).set 1 (.string ⟨#[]⟩)).set 2 (.int .i64 0)).set 3 (.int .i64 0)).set 4 (.int .i64 0)).set 5 (.slice none 0 0)
                have z0 := AF.cell (i := 0) rfl
                have z1 := AF.cell (i := 1) rfl
                have z2 := AF.cell (i := 2) rfl
                have z3 := AF.cell (i := 3) rfl
                have z4 := AF.cell (i := 4) rfl
                have z5 := AF.cell (i := 5) rfl
                exact bodyPost_ret (v := .tuple #[.agg #[.slice none 0 0, .string ⟨#[]⟩, .int .i64 0, .int .i64 0, .int .i64 0, .slice none 0 0], .bool false]) (by simp [results, Tryz.results15, go_sem, z0, z1, z2, z3, z4, z5]) rfl ⟨_, by rw [HE.out]; rfl, by rw [HE.out]; exact noScr_at _ _, (((((HKW6.out.setCell (.inr (Nat.le_refl _)) _).setCell (.inr (Nat.le_refl _)) _).setCell (.inr (Nat.le_refl _)) _).setCell (.inr (Nat.le_refl _)) _).setCell (.inr (Nat.le_refl _)) _).setCell (.inr (Nat.le_refl _)) _⟩
              · skip
                have HE : Hid (decodeM B = some (decScr ⟨B, false⟩)) := Lib.hid (by rw [HD2.out, hq]; rfl)
                skip
                skip
                go_wp2_with fail
                have AF := ((((((HRS6.out.set 0 (.slice ta (decT ⟨B, false⟩).2.length tc)).set 1 (.string ⟨(decQ ⟨B, false⟩).1.toArray⟩)).set 2 (.int .i64 n0)).set 3 (.int .i64 n1)).set 4 (.int .i64 n2)).set 5 (.slice fa FR.2.length fc))
                have z0 := AF.cell (i := 0) rfl
                have z1 := AF.cell (i := 1) rfl
                have z2 := AF.cell (i := 2) rfl
                have z3 := AF.cell (i := 3) rfl
                have z4 := AF.cell (i := 4) rfl
                have z5 := AF.cell (i := 5) rfl
                have KF : Kept [w.heap.size] w6 ((((((w6.setCell ⟨w.heap.size, 0, none⟩ (.slice ta (decT ⟨B, false⟩).2.length tc)).setCell ⟨w.heap.size, 1, none⟩ (.string ⟨(decQ ⟨B, false⟩).1.toArray⟩)).setCell ⟨w.heap.size, 2, none⟩ (.int .i64 n0)).setCell ⟨w.heap.size, 3, none⟩ (.int .i64 n1)).setCell ⟨w.heap.size, 4, none⟩ (.int .i64 n2)).setCell ⟨w.heap.size, 5, none⟩ (.slice fa FR.2.length fc)) := ((((((Kept.refl _ _).setCell (.inl (by simp)) _).setCell (.inl (by simp)) _).setCell (.inl (by simp)) _).setCell (.inl (by simp)) _).setCell (.inl (by simp)) _).setCell (.inl (by simp)) _
                exact bodyPost_ret (v := .tuple #[.agg #[.slice ta (decT ⟨B, false⟩).2.length tc, .string ⟨(decQ ⟨B, false⟩).1.toArray⟩, .int .i64 n0, .int .i64 n1, .int .i64 n2, .slice fa FR.2.length fc], .bool true]) (by simp [results, Tryz.results15, go_sem, z0, z1, z2, z3, z4, z5]) rfl ⟨.agg #[.slice ta (decT ⟨B, false⟩).2.length tc, .string ⟨(decQ ⟨B, false⟩).1.toArray⟩, .int .i64 n0, .int .i64 n1, .int .i64 n2, .slice fa FR.2.length fc], by rw [HE.out]; rfl, by rw [HE.out, Option.getD_some, HSD.out, ← HFE.out]; exact ⟨_, _, rfl, HT6.out.next KF (fun b hb => by have h2 : w.heap.size + 2 ≤ b := hb; simp; omega) (fun b hb _ => by have h2 : w.heap.size + 2 ≤ b := hb; show w.heap.size ≤ b; omega), HF6.out.next KF (fun b hb => by have h2 : w.heap.size + 2 ≤ b := hb; simp; omega) (fun b hb _ => by have h2 : w.heap.size + 2 ≤ b := hb; show w.heap.size ≤ b; omega)⟩, HKW6.out.fresh KF (by intro x hx hlt; simp at hx; omega)⟩
            · have HE : Hid (decodeM B = none) := Lib.hid (by rw [HDEC.out, hbd, decide_eq_false hl]; simp)
              have hl2 : 0 < (decF ⟨B, false⟩).1.rest.length := by omega
              have hl' : (0 : Int) < ((decF ⟨B, false⟩).1.rest.length : Int) := by omega
              have a0 := HRS5.out.cell (i := 0) rfl
              have b0 := HRS5.out.free 0
              have a1 := HRS5.out.cell (i := 1) rfl
              have b1 := HRS5.out.free 1
              have a2 := HRS5.out.cell (i := 2) rfl
              have b2 := HRS5.out.free 2
              have a3 := HRS5.out.cell (i := 3) rfl
              have b3 := HRS5.out.free 3
              have a4 := HRS5.out.cell (i := 4) rfl
              have b4 := HRS5.out.free 4
              have a5 := HRS5.out.cell (i := 5) rfl
              have b5 := HRS5.out.free 5
              clear hbd hl
              go_wp2_with fail
              have AF := ((((((HRS5.out).set 0 (.slice none 0 0)).set 1 (.string ⟨#[]⟩)).set 2 (.int .i64 0)).set 3 (.int .i64 0)).set 4 (.int .i64 0)).set 5 (.slice none 0 0)
              have z0 := AF.cell (i := 0) rfl
              have z1 := AF.cell (i := 1) rfl
              have z2 := AF.cell (i := 2) rfl
              have z3 := AF.cell (i := 3) rfl
              have z4 := AF.cell (i := 4) rfl
              have z5 := AF.cell (i := 5) rfl
              exact bodyPost_ret (v := .tuple #[.agg #[.slice none 0 0, .string ⟨#[]⟩, .int .i64 0, .int .i64 0, .int .i64 0, .slice none 0 0], .bool false]) (by simp [results, Tryz.results15, go_sem, z0, z1, z2, z3, z4, z5]) rfl ⟨_, by rw [HE.out]; rfl, by rw [HE.out]; exact noScr_at _ _, (((((HKW5.out.setCell (.inr (Nat.le_refl _)) _).setCell (.inr (Nat.le_refl _)) _).setCell (.inr (Nat.le_refl _)) _).setCell (.inr (Nat.le_refl _)) _).setCell (.inr (Nat.le_refl _)) _).setCell (.inr (Nat.le_refl _)) _⟩
          · rw [hbd] at p1
            have HE : Hid (decodeM B = none) := Lib.hid (by rw [HDEC.out, hbd]; simp)
            have a0 := HRS5.out.cell (i := 0) rfl
            have b0 := HRS5.out.free 0
            have a1 := HRS5.out.cell (i := 1) rfl
            have b1 := HRS5.out.free 1
            have a2 := HRS5.out.cell (i := 2) rfl
            have b2 := HRS5.out.free 2
            have a3 := HRS5.out.cell (i := 3) rfl
            have b3 := HRS5.out.free 3
            have a4 := HRS5.out.cell (i := 4) rfl
            have b4 := HRS5.out.free 4
            have a5 := HRS5.out.cell (i := 5) rfl
            have b5 := HRS5.out.free 5
            clear hbd
            go_wp2_with fail
            have AF := ((((((HRS5.out).set 0 (.slice none 0 0)).set 1 (.string ⟨#[]⟩)).set 2 (.int .i64 0)).set 3 (.int .i64 0)).set 4 (.int .i64 0)).set 5 (.slice none 0 0)
            have z0 := AF.cell (i := 0) rfl
            have z1 := AF.cell (i := 1) rfl
            have z2 := AF.cell (i := 2) rfl
            have z3 := AF.cell (i := 3) rfl
            have z4 := AF.cell (i := 4) rfl
            have z5 := AF.cell (i := 5) rfl
            exact bodyPost_ret (v := .tuple #[.agg #[.slice none 0 0, .string ⟨#[]⟩, .int .i64 0, .int .i64 0, .int .i64 0, .slice none 0 0], .bool false]) (by simp [results, Tryz.results15, go_sem, z0, z1, z2, z3, z4, z5]) rfl ⟨_, by rw [HE.out]; rfl, by rw [HE.out]; exact noScr_at _ _, (((((HKW5.out.setCell (.inr (Nat.le_refl _)) _).setCell (.inr (Nat.le_refl _)) _).setCell (.inr (Nat.le_refl _)) _).setCell (.inr (Nat.le_refl _)) _).setCell (.inr (Nat.le_refl _)) _).setCell (.inr (Nat.le_refl _)) _⟩
  · have HE := Lib.hid (HBADE.out (by simpa using hok))
    have hparts : (intsS 6 ⟨B, false⟩).bad = true ∨ (intsS 6 ⟨B, false⟩).bad = false ∧ (¬ intsNm 6 ⟨B, false⟩ = ⟨#[83]⟩ ∨ intsNm 6 ⟨B, false⟩ = ⟨#[83]⟩ ∧ 16384 < n3) := by
      unfold markOk at hok
      cases hbd : (intsS 6 ⟨B, false⟩).bad with
      | true => exact .inl rfl
      | false =>
        refine .inr ⟨rfl, ?_⟩
        rw [hbd] at hok
        by_cases hnm : intsNm 6 ⟨B, false⟩ = ⟨#[83]⟩
        · refine .inr ⟨hnm, ?_⟩
          rw [HNV.out hbd, decide_eq_true hnm] at hok
          simp [l_at] at hok
          omega
        · exact .inl hnm
    clear hok y0 y1 y2 y4 y5
    rcases hparts with hp | ⟨hp, hp2⟩
    · rw [hp] at r1
      clear hp
      go_wp2_with fail
      have AF := ((((((HA2.out).set 0 (.slice none 0 0)).set 1 (.string ⟨#[]⟩)).set 2 (.int .i64 0)).set 3 (.int .i64 0)).set 4 (.int .i64 0)).set 5 (.slice none 0 0)
      have z0 := AF.cell (i := 0) rfl
      have z1 := AF.cell (i := 1) rfl
      have z2 := AF.cell (i := 2) rfl
      have z3 := AF.cell (i := 3) rfl
      have z4 := AF.cell (i := 4) rfl
      have z5 := AF.cell (i := 5) rfl
      exact bodyPost_ret (v := .tuple #[.agg #[.slice none 0 0, .string ⟨#[]⟩, .int .i64 0, .int .i64 0, .int .i64 0, .slice none 0 0], .bool false]) (by simp [results, Tryz.results15, go_sem, z0, z1, z2, z3, z4, z5]) rfl ⟨_, by rw [HE.out]; rfl, by rw [HE.out]; exact noScr_at _ _, (((((HK2.out.setCell (.inr (Nat.le_refl _)) _).setCell (.inr (Nat.le_refl _)) _).setCell (.inr (Nat.le_refl _)) _).setCell (.inr (Nat.le_refl _)) _).setCell (.inr (Nat.le_refl _)) _).setCell (.inr (Nat.le_refl _)) _⟩
    · rw [hp] at r1
      clear hp
      rcases hp2 with hp2 | ⟨hp2, hp3⟩
      · generalize intsNm 6 ⟨B, false⟩ = nm at *
        have hp3 : ¬ nm.toList = [83] := fun h => hp2 (str_eq h)
        clear hp2
        go_wp2_with fail
        have AF := ((((((HA2.out).set 0 (.slice none 0 0)).set 1 (.string ⟨#[]⟩)).set 2 (.int .i64 0)).set 3 (.int .i64 0)).set 4 (.int .i64 0)).set 5 (.slice none 0 0)
        have z0 := AF.cell (i := 0) rfl
        have z1 := AF.cell (i := 1) rfl
        have z2 := AF.cell (i := 2) rfl
        have z3 := AF.cell (i := 3) rfl
        have z4 := AF.cell (i := 4) rfl
        have z5 := AF.cell (i := 5) rfl
        exact bodyPost_ret (v := .tuple #[.agg #[.slice none 0 0, .string ⟨#[]⟩, .int .i64 0, .int .i64 0, .int .i64 0, .slice none 0 0], .bool false]) (by simp [results, Tryz.results15, go_sem, z0, z1, z2, z3, z4, z5]) rfl ⟨_, by rw [HE.out]; rfl, by rw [HE.out]; exact noScr_at _ _, (((((HK2.out.setCell (.inr (Nat.le_refl _)) _).setCell (.inr (Nat.le_refl _)) _).setCell (.inr (Nat.le_refl _)) _).setCell (.inr (Nat.le_refl _)) _).setCell (.inr (Nat.le_refl _)) _).setCell (.inr (Nat.le_refl _)) _⟩
      · rw [hp2]
        clear hp2
        go_wp2_with fail
        have AF := ((((((HA2.out).set 0 (.slice none 0 0)).set 1 (.string ⟨#[]⟩)).set 2 (.int .i64 0)).set 3 (.int .i64 0)).set 4 (.int .i64 0)).set 5 (.slice none 0 0)
        have z0 := AF.cell (i := 0) rfl
        have z1 := AF.cell (i := 1) rfl
        have z2 := AF.cell (i := 2) rfl
        have z3 := AF.cell (i := 3) rfl
        have z4 := AF.cell (i := 4) rfl
        have z5 := AF.cell (i := 5) rfl
        exact bodyPost_ret (v := .tuple #[.agg #[.slice none 0 0, .string ⟨#[]⟩, .int .i64 0, .int .i64 0, .int .i64 0, .slice none 0 0], .bool false]) (by simp [results, Tryz.results15, go_sem, z0, z1, z2, z3, z4, z5]) rfl ⟨_, by rw [HE.out]; rfl, by rw [HE.out]; exact noScr_at _ _, (((((HK2.out.setCell (.inr (Nat.le_refl _)) _).setCell (.inr (Nat.le_refl _)) _).setCell (.inr (Nat.le_refl _)) _).setCell (.inr (Nat.le_refl _)) _).setCell (.inr (Nat.le_refl _)) _).setCell (.inr (Nat.le_refl _)) _⟩
end Go.Proofs.YtkodiogkldboiaaGreatDoor
/- Large: scripts that are not looked at. -/
namespace Go.Proofs.YtkodiogkldboiaaGreatDoor
open Go.RowKit

def bigCount (t : Tbl) : Bool := decide (40 < t.cols.length) || (decide (300 < t.rows.length) && decide (t.rows.length ≤ 4096)) || decide (5000 < t.rows.length)
def longRow (r : List Val) : Bool := decide (50 < r.length)
def bigTbl (t : Tbl) : Bool := bigCount t || t.rows.any longRow
def largeT (ts : List Tbl) : Bool := decide (30 < ts.length) || ts.any bigTbl
def largeS (s : Scr) : Bool := largeT s.tables || decide (20000 < s.query.size) || decide (200 < s.faults.length)

theorem any_take {α : Type} {p : α → Bool} {l : List α} {k : Nat} {x : α} (h : l[k]? = some x) (hx : p x = true) : l.any p = true := List.any_eq_true.2 ⟨x, List.mem_of_getElem? h, hx⟩

set_option maxRecDepth 100000 in
set_option maxHeartbeats 6400000 in
theorem ref13_large (w : World) (v : Value) (ts : List Tbl) (h : ktbl.At w Any v ts) : Calls Tryz.prog 16 #[v] w (BoolPost (largeT ts) w) := by
  have H := Lib.hid h
  obtain ⟨a, cap, rfl, _⟩ := h.form
  clear h
  by_cases hl : 30 < ts.length
  · have hl' : (30 : Int) < (ts.length : Int) := by omega
    have HE : Hid (largeT ts = true) := Lib.hid (by unfold largeT; rw [decide_eq_true hl]; rfl)
    go_enter Tryz.func16, Tryz.ntmps16
    go_wp2
    go_ret
    exact ⟨by rw [HE.out]; rfl, Kept.refl _ _⟩
  · have hl' : ¬ (30 : Int) < (ts.length : Int) := by omega
    have HE : Hid (largeT ts = ts.any bigTbl) := Lib.hid (by unfold largeT; rw [decide_eq_false hl]; rfl)
    obtain ⟨D, hD⟩ : ∃ D : Bool, D = largeT ts := ⟨_, rfl⟩
    rw [← hD]
    have HD : Hid (D = ts.any bigTbl) := Lib.hid (hD.trans HE.out)
    clear hD HE
    go_enter Tryz.func16, Tryz.ntmps16
    go_wp2
    go_loopg [3, 4] ts.length (fun g i v4 wr => ∃ k : Nat, k + g = ts.length ∧ i = .int .i64 k ∧ wr = w ∧ Hid ((ts.take k).any bigTbl = false))
    case atStart => exact ⟨0, by omega, rfl, rfl, Lib.hid rfl⟩
    case round =>
      obtain ⟨k, hk, rfl, hwr, HT⟩ := hrel
      subst hwr
      have hk0 : (0 : Int) ≤ (k : Int) := by omega
      by_cases hlt : k < ts.length
      · obtain ⟨t, ht⟩ : ∃ t, ts[k]? = some t := ⟨ts[k], List.getElem?_eq_getElem hlt⟩
        obtain ⟨b1, o1, c1, xca, xcn, xcc, xra, xrn, xrc, he, _, hbs1, x0, x1, x2, hxc, hxr⟩ := tbl_at H.out ht
        simp only [Value.slice.injEq, true_and] at he
        obtain ⟨rfl, rfl⟩ := he
        obtain ⟨_, _, he, _⟩ := hxc.form
        simp only [Value.slice.injEq] at he
        obtain ⟨rfl, rfl, rfl⟩ := he
        obtain ⟨_, _, he, _⟩ := hxr.form
        simp only [Value.slice.injEq] at he
        obtain ⟨rfl, rfl, rfl⟩ := he
        have hk1 : (k : Int) < (ts.length : Int) := by omega
        have HXR := Lib.hid hxr
        have HTK := Lib.hid ht
        clear ht hxc hxr x0
        have HBIG : Hid (bigCount t = true → D = true) := Lib.hid (fun hb => HD.out.trans (any_take HTK.out (by unfold bigTbl; rw [hb]; rfl)))
        by_cases q1 : 40 < t.cols.length
        · have q1' : (40 : Int) < (t.cols.length : Int) := by omega
          have HE := Lib.hid (HBIG.out (by unfold bigCount; rw [decide_eq_true q1]; rfl))
          go_wp2_with fail
          go_ret
          exact ⟨by rw [HE.out]; rfl, Kept.refl _ _⟩
        have q1' : ¬ (40 : Int) < (t.cols.length : Int) := by omega
        by_cases q2 : 5000 < t.rows.length
        · have q2' : (5000 : Int) < (t.rows.length : Int) := by omega
          have q3' : (300 : Int) < (t.rows.length : Int) := by omega
          have q4' : ¬ (t.rows.length : Int) ≤ 4096 := by omega
          have HE := Lib.hid (HBIG.out (by unfold bigCount; rw [decide_eq_true q2]; simp))
          go_wp2_with fail
          go_ret
          exact ⟨by rw [HE.out]; rfl, Kept.refl _ _⟩
        have q2' : ¬ (5000 : Int) < (t.rows.length : Int) := by omega
        by_cases q3 : 300 < t.rows.length ∧ t.rows.length ≤ 4096
        · have q3' : (300 : Int) < (t.rows.length : Int) := by omega
          have q4' : (t.rows.length : Int) ≤ 4096 := by omega
          have HE := Lib.hid (HBIG.out (by unfold bigCount; rw [decide_eq_true q3.1, decide_eq_true q3.2]; simp))
          clear q3
          go_wp2_with fail
          go_ret
          exact ⟨by rw [HE.out]; rfl, Kept.refl _ _⟩
        have HNB : Hid (bigCount t = false) := Lib.hid (by unfold bigCount; rw [decide_eq_false q1, decide_eq_false q2]; simp; omega)
        have hrl : (t.rows.length : Int) ≤ 5000 := by omega
        have hq : ¬ (300 : Int) < (t.rows.length : Int) ∨ (300 : Int) < (t.rows.length : Int) ∧ ¬ (t.rows.length : Int) ≤ 4096 := by omega
        clear q1 q2 q3
        rcases hq with q3' | ⟨q3', q4'⟩
        all_goals
          go_wp2_with fail
          go_loopg [4] t.rows.length (fun g i wx => ∃ j : Nat, j + g = t.rows.length ∧ i = .int .i64 j ∧ wx = wr ∧ Hid ((t.rows.take j).any longRow = false))
          case atStart => exact ⟨0, by omega, rfl, rfl, Lib.hid rfl⟩
          case round =>
            rename_i wx
            obtain ⟨j, hj, rfl, hwx, HTJ⟩ := hrel
            subst hwx
            have hj0 : (0 : Int) ≤ (j : Int) := by omega
            by_cases hjl : j < t.rows.length
            · obtain ⟨r, hr⟩ : ∃ r, t.rows[j]? = some r := ⟨t.rows[j], List.getElem?_eq_getElem hjl⟩
              obtain ⟨b2, o2, c2, ra, rc, he, _, hbs2, y0, _⟩ := row_at HXR.out hr
              simp only [Value.slice.injEq, true_and] at he
              obtain ⟨rfl, rfl⟩ := he
              have hj1 : (j : Int) < (t.rows.length : Int) := by omega
              have HRJ := Lib.hid hr
              clear hr
              by_cases hlr : 50 < r.length
              · have hlr' : (50 : Int) < (r.length : Int) := by omega
                have HE : Hid (D = true) := Lib.hid (HD.out.trans (any_take HTK.out (by unfold bigTbl; rw [any_take (p := longRow) HRJ.out (by unfold longRow; exact decide_eq_true hlr), Bool.or_true])))
                clear hlr
                go_wp2_with fail
                go_ret
                exact ⟨by rw [HE.out]; rfl, Kept.refl _ _⟩
              · have hlr' : ¬ (50 : Int) < (r.length : Int) := by omega
                have HTN : Hid ((t.rows.take (j + 1)).any longRow = false) := Lib.hid (by rw [any_snoc _ _ _ _ HRJ.out, HTJ.out]; unfold longRow; rw [decide_eq_false hlr]; rfl)
                clear hlr
                go_wp2_with fail
                go_roundg (t.rows.length - (j + 1))
                case measure => omega
                case rel => exact ⟨j + 1, by omega, by go_num, rfl, HTN⟩
            · obtain rfl : j = t.rows.length := by omega
              have HE : Hid (t.rows.any longRow = false) := Lib.hid (by have := HTJ.out; rw [List.take_length] at this; exact this)
              have HTN : Hid ((ts.take (k + 1)).any bigTbl = false) := Lib.hid (by rw [any_snoc _ _ _ _ HTK.out, HT.out]; unfold bigTbl; rw [HNB.out, HE.out]; rfl)
              clear hj hjl
              go_wp2_with fail
              go_roundg (ts.length - (k + 1))
              case measure => omega
              case rel => exact ⟨k + 1, by omega, by go_num, rfl, HTN⟩
      · obtain rfl : k = ts.length := by omega
        have HE : Hid (D = false) := Lib.hid (by have := HT.out; rw [List.take_length] at this; exact HD.out.trans this)
        go_wp2_with fail
        go_ret
        exact ⟨by rw [HE.out]; rfl, Kept.refl _ _⟩

set_option maxRecDepth 100000 in
set_option maxHeartbeats 3200000 in
theorem ref30_large (w : World) (v : Value) (s : Scr) (h : ScrAt w Any s v) (hq : (s.query.size : Int) ≤ 9223372036854775807) : Calls Tryz.prog 5 #[v] w (BoolPost (largeS s) w) := by
  obtain ⟨t, f, rfl, ht, hf⟩ := h
  obtain ⟨ta, tc, rfl, _⟩ := ht.form
  obtain ⟨fa, fc, rfl, _⟩ := hf.form
  have K0 : Kept [] w (w.alloc (.cells #[.slice ta s.tables.length tc, .string s.query, .int .i64 s.budget, .int .i64 s.room, .int .i64 s.seed, .slice fa s.faults.length fc] 25)) := Kept.alloc (Kept.refl [] w) _
  have A := Arr.new w #[.slice ta s.tables.length tc, .string s.query, .int .i64 s.budget, .int .i64 s.room, .int .i64 s.seed, .slice fa s.faults.length fc] 25
  have HA := Lib.hid A
  have HK0 := Lib.hid K0
  have HC := Lib.hid (ref13_large _ _ s.tables (ht.kept K0))
  clear ht hf K0 A
  obtain ⟨D, hD⟩ : ∃ D : Bool, D = largeS s := ⟨_, rfl⟩
  rw [← hD]
  have HD : Hid (D = (largeT s.tables || decide (20000 < s.query.size) || decide (200 < s.faults.length))) := Lib.hid (hD.trans rfl)
  clear hD
  have c0 := HA.out.cell (i := 0) rfl
  go_enter Tryz.func5, Tryz.ntmps5
  go_wp2_with fail
  refine HC.out.mono ?_
  rintro e w2 ⟨rfl, hk2⟩
  have HK2 := Lib.hid (HK0.out.trans hk2)
  have A2 := HA.out.kept hk2 (by simp)
  clear c0 hk2 HC HK0
  have c1 := A2.cell (i := 1) rfl
  have c5 := A2.cell (i := 5) rfl
  clear A2
  cases hL : largeT s.tables
  · by_cases q1 : 20000 < s.query.size
    · have q1' : (20000 : Int) < (s.query.size : Int) := by omega
      have HE : Hid (D = true) := Lib.hid (by rw [HD.out, decide_eq_true q1]; simp)
      clear hL q1
      go_wp2_with fail
      go_ret
      exact ⟨by rw [HE.out]; rfl, HK2.out⟩
    · have q1' : ¬ (20000 : Int) < (s.query.size : Int) := by omega
      have HE : Hid (D = decide ((200 : Int) < (s.faults.length : Int))) := Lib.hid (by rw [HD.out, hL, decide_eq_false q1, Bool.false_or, Bool.false_or]; apply decide_eq_decide.2; omega)
      clear hL q1
      go_wp2_with fail
      all_goals
        go_ret
        exact ⟨by rw [HE.out]; first | rfl | (simp_all; done) | (simp_all; intros; omega), HK2.out⟩
  · have HE : Hid (D = true) := Lib.hid (by rw [HD.out, hL]; rfl)
    clear hL
    go_wp2_with fail
    go_ret
    exact ⟨by rw [HE.out]; rfl, HK2.out⟩
end Go.Proofs.YtkodiogkldboiaaGreatDoor
