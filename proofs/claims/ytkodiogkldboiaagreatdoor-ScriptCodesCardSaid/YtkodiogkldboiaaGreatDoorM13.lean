/- script.Decode. -/
import Derived.Deep.RegionLaw
import Derived.Test.YtkodiogkldboiaaGreatDoorM12
set_option linter.unusedVariables false
set_option linter.unusedSimpArgs false
namespace Go.Proofs.YtkodiogkldboiaaGreatDoor
open Go.RowKit

def noScr : Scr := ⟨[], ⟨#[]⟩, 0, 0, 0, []⟩
def DecPost (g : Option Scr) (w : World) (en : Ending) (w' : World) : Prop :=
  ∃ v, en = .returned (.tuple #[v, .int .i64 (if g.isSome then 0 else 300)]) ∧ ScrAt w' (Hi w.heap.size) (g.getD noScr) v ∧ Kept [] w w'
theorem str_eq {s : ByteArray} {l : List UInt8} (h : s.toList = l) : s = ⟨l.toArray⟩ := by
  rw [ByteArray.toList_eq] at h
  subst h
  cases s
  simp
theorem noScr_at (w : World) (P : Nat → Prop) : ScrAt w P noScr (.agg #[.slice none 0 0, .string ⟨#[]⟩, .int .i64 0, .int .i64 0, .int .i64 0, .slice none 0 0]) := ⟨_, _, rfl, Kd.At.nil _ _ _, Kd.At.nil _ _ _⟩
/-- Behind the query. -/
def DecMid (p rb res : Nat) (a b c : Int) (q : List UInt8) (s : SR) (lb lo : Nat) (n4 n5 : Int) (w : World) (sb : Nat) (wx : World) : Prop :=
  Arr wx sb 25 [.slice none 0 0, .string ⟨q.toArray⟩, .int .i64 a, .int .i64 b, .int .i64 c, .slice none 0 0] ∧ SRd 69 wx p s ∧ Arr wx rb 67 [.pointer (some ⟨p, 0, none⟩)] ∧ Arr wx res 25 [.slice none 0 0, .string ⟨#[]⟩, .int .i64 0, .int .i64 0, .int .i64 0, .slice none 0 0] ∧ wx.cell? ⟨lb, lo + 4, none⟩ = some (.int .i64 n4) ∧ wx.cell? ⟨lb, lo + 5, none⟩ = some (.int .i64 n5) ∧ Kept [] w wx ∧ res + 2 < sb ∧ sb ≠ lb ∧ lb < wx.heap.size

set_option maxRecDepth 100000 in
set_option maxHeartbeats 12800000 in
theorem script_decode (w : World) (ba : Option Addr) (bc : Nat) (B : List UInt8) (hba : BAt w Any (.slice ba B.length bc) B) (hm : ML w) (hb : (B.length : Int) ≤ 16000000) (hfn : l_at (intsV 6 ⟨B, false⟩) 3 ≤ 16384 → FineS (decScr ⟨B, false⟩)) : Calls Tryz.prog 13 #[.slice ba B.length bc] w (DecPost (decodeM B) w) := by
  have K0 : Kept [] w (((w.alloc (Obj.cells #[.slice none 0 0, .string ⟨#[]⟩, .int .i64 0, .int .i64 0, .int .i64 0, .slice none 0 0] 25)).alloc (Obj.cells #[.slice ba B.length bc, .bool false] 69)).alloc (Obj.cells #[.pointer (some ⟨w.heap.size + 1, 0, none⟩)] 67)) := (((Kept.refl [] w).alloc _).alloc _).alloc _
  have HA0 : Hid (Arr (((w.alloc (Obj.cells #[.slice none 0 0, .string ⟨#[]⟩, .int .i64 0, .int .i64 0, .int .i64 0, .slice none 0 0] 25)).alloc (Obj.cells #[.slice ba B.length bc, .bool false] 69)).alloc (Obj.cells #[.pointer (some ⟨w.heap.size + 1, 0, none⟩)] 67)) w.heap.size 25 [.slice none 0 0, .string ⟨#[]⟩, .int .i64 0, .int .i64 0, .int .i64 0, .slice none 0 0]) :=
    Lib.hid (((Arr.new' rfl rfl : Arr (w.alloc (Obj.cells #[.slice none 0 0, .string ⟨#[]⟩, .int .i64 0, .int .i64 0, .int .i64 0, .slice none 0 0] 25)) w.heap.size 25 [.slice none 0 0, .string ⟨#[]⟩, .int .i64 0, .int .i64 0, .int .i64 0, .slice none 0 0]).alloc _).alloc _)
  have HP0 : Hid (Arr (((w.alloc (Obj.cells #[.slice none 0 0, .string ⟨#[]⟩, .int .i64 0, .int .i64 0, .int .i64 0, .slice none 0 0] 25)).alloc (Obj.cells #[.slice ba B.length bc, .bool false] 69)).alloc (Obj.cells #[.pointer (some ⟨w.heap.size + 1, 0, none⟩)] 67)) (w.heap.size + 1) 69 [.slice ba B.length bc, .bool false]) :=
    Lib.hid ((Arr.new' (by simp) rfl : Arr ((w.alloc (Obj.cells #[.slice none 0 0, .string ⟨#[]⟩, .int .i64 0, .int .i64 0, .int .i64 0, .slice none 0 0] 25)).alloc (Obj.cells #[.slice ba B.length bc, .bool false] 69)) (w.heap.size + 1) 69 [.slice ba B.length bc, .bool false]).alloc _)
  have HR0 : Hid (Arr (((w.alloc (Obj.cells #[.slice none 0 0, .string ⟨#[]⟩, .int .i64 0, .int .i64 0, .int .i64 0, .slice none 0 0] 25)).alloc (Obj.cells #[.slice ba B.length bc, .bool false] 69)).alloc (Obj.cells #[.pointer (some ⟨w.heap.size + 1, 0, none⟩)] 67)) (w.heap.size + 1 + 1) 67 [.pointer (some ⟨w.heap.size + 1, 0, none⟩)]) := Lib.hid (Arr.new' (by simp) rfl)
  have HK0 := Lib.hid K0
  have HM := Lib.hid hm
  have HB := Lib.hid hba
  clear hba hm K0
  go_enter Tryz.func13, Tryz.ntmps13
  go_upto_region 2 with fail
  have HS0 : Hid (SRd 69 (((w.alloc (Obj.cells #[.slice none 0 0, .string ⟨#[]⟩, .int .i64 0, .int .i64 0, .int .i64 0, .slice none 0 0] 25)).alloc (Obj.cells #[.slice ba B.length bc, .bool false] 69)).alloc (Obj.cells #[.pointer (some ⟨w.heap.size + 1, 0, none⟩)] 67)) (w.heap.size + 1) ⟨B, false⟩) := Lib.hid ⟨ba, bc, HP0.out, HB.out.next HK0.out (by simp) (fun b _ hlt => by show b < w.heap.size + 1; omega)⟩
  have hsz1 : (((w.alloc (Obj.cells #[.slice none 0 0, .string ⟨#[]⟩, .int .i64 0, .int .i64 0, .int .i64 0, .slice none 0 0] 25)).alloc (Obj.cells #[.slice ba B.length bc, .bool false] 69)).alloc (Obj.cells #[.pointer (some ⟨w.heap.size + 1, 0, none⟩)] 67)).heap.size = w.heap.size + 3 := by simp
  clear HP0 HB
  generalize ((w.alloc (Obj.cells #[.slice none 0 0, .string ⟨#[]⟩, .int .i64 0, .int .i64 0, .int .i64 0, .slice none 0 0] 25)).alloc (Obj.cells #[.slice ba B.length bc, .bool false] 69)).alloc (Obj.cells #[.pointer (some ⟨w.heap.size + 1, 0, none⟩)] 67) = w1 at *
  have HSZ1 := Lib.hid hsz1
  have hw1 : w.heap.size + 3 ≤ w1.heap.size := by omega
  clear hsz1
  have HC : Hid (Calls Tryz.prog 32 #[.pointer (some ⟨w.heap.size + 1, 0, none⟩), .int .i64 6] w1 (SIntsPost 69 (w.heap.size + 1) 6 ⟨B, false⟩ w1)) := Lib.hid (sr_ints w1 (w.heap.size + 1) 6 ⟨B, false⟩ HS0.out (by show (B.length : Int) ≤ _; omega) (by decide))
  have r0 := HR0.out.cell (i := 0) rfl
  go_wp2_with fail
  refine HC.out.mono ?_
  rintro e w2 ⟨v, ns, rfl, hv, hl, hns, hsr, hk⟩
  obtain ⟨n0, n1, n2, n3, n4, n5, hn⟩ : ∃ n0 n1 n2 n3 n4 n5, ns = [n0, n1, n2, n3, n4, n5] := by
    match ns, hl with
    | [a, b, c, d, e, f], _ => exact ⟨a, b, c, d, e, f, rfl⟩
  have HNV : Hid ((intsS 6 ⟨B, false⟩).bad = false → intsV 6 ⟨B, false⟩ = [n0, n1, n2, n3, n4, n5]) := Lib.hid (fun hbd => by rw [← hns (.inl (intsS_ok 6 _ hbd)), hn])
  subst hn
  obtain ⟨b, o, cap, rfl, hbw, hbs, y0⟩ := int_at hv (j := 0) (x := n0) rfl
  obtain ⟨b', o', cap', he, _, _, y1⟩ := int_at hv (j := 1) (x := n1) rfl
  simp only [Value.slice.injEq, Option.some.injEq, Addr.mk.injEq, and_true, true_and] at he
  obtain ⟨⟨rfl, rfl⟩, rfl⟩ := he
  obtain ⟨b', o', cap', he, _, _, y2⟩ := int_at hv (j := 2) (x := n2) rfl
  simp only [Value.slice.injEq, Option.some.injEq, Addr.mk.injEq, and_true, true_and] at he
  obtain ⟨⟨rfl, rfl⟩, rfl⟩ := he
  obtain ⟨b', o', cap', he, _, _, y3⟩ := int_at hv (j := 3) (x := n3) rfl
  simp only [Value.slice.injEq, Option.some.injEq, Addr.mk.injEq, and_true, true_and] at he
  obtain ⟨⟨rfl, rfl⟩, rfl⟩ := he
  obtain ⟨b', o', cap', he, _, _, y4⟩ := int_at hv (j := 4) (x := n4) rfl
  simp only [Value.slice.injEq, Option.some.injEq, Addr.mk.injEq, and_true, true_and] at he
  obtain ⟨⟨rfl, rfl⟩, rfl⟩ := he
  obtain ⟨b', o', cap', he, _, _, y5⟩ := int_at hv (j := 5) (x := n5) rfl
  simp only [Value.slice.injEq, Option.some.injEq, Addr.mk.injEq, and_true, true_and] at he
  obtain ⟨⟨rfl, rfl⟩, rfl⟩ := he
  rw [Nat.add_zero] at y0
  simp only [List.length_cons, List.length_nil, Nat.zero_add, Nat.reduceAdd]
  have hbw2 : w.heap.size + 3 ≤ b := by have h2 : w1.heap.size ≤ b := hbw; omega
  have HA2 := Lib.hid (HA0.out.kept hk (by simp))
  have HR2 := Lib.hid (HR0.out.kept hk (by simp))
  have HS2 := Lib.hid hsr
  have HK2 : Hid (Kept [] w w2) := Lib.hid (HK0.out.fresh hk (by intro x hx hlt; simp at hx; omega))
  have hw2 : w.heap.size + 3 ≤ w2.heap.size := Nat.le_trans hw1 hk.size
  clear hv hl hns hsr hbw HA0 HR0 HS0 HK0 HC r0 hk
  obtain ⟨ra, rc, hra, _⟩ := HS2.out
  have r1 := hra.cell (i := 1) rfl
  clear hra
  have r0 := HR2.out.cell (i := 0) rfl
  have a0 := HA2.out.cell (i := 0) rfl
  have a1 := HA2.out.cell (i := 1) rfl
  have a2 := HA2.out.cell (i := 2) rfl
  have a3 := HA2.out.cell (i := 3) rfl
  have a4 := HA2.out.cell (i := 4) rfl
  have a5 := HA2.out.cell (i := 5) rfl
  have b0 := HA2.out.free 0
  have b1 := HA2.out.free 1
  have b2 := HA2.out.free 2
  have b3 := HA2.out.free 3
  have b4 := HA2.out.free 4
  have b5 := HA2.out.free 5
  have HBADE : Hid (markOk ⟨B, false⟩ = false → decodeM B = none) := Lib.hid (fun h => by unfold decodeM; rw [h]; rfl)
  by_cases hok : markOk ⟨B, false⟩ = true
  · have hbd : (intsS 6 ⟨B, false⟩).bad = false := by unfold markOk at hok; simp only [Bool.and_eq_true, Bool.not_eq_true'] at hok; exact hok.1
    have hnm : intsNm 6 ⟨B, false⟩ = ⟨#[83]⟩ := by unfold markOk at hok; simp only [Bool.and_eq_true, decide_eq_true_eq] at hok; exact hok.2.1
    have hn3 : l_at (intsV 6 ⟨B, false⟩) 3 ≤ 16384 := by unfold markOk at hok; simp only [Bool.and_eq_true, decide_eq_true_eq] at hok; exact hok.2.2
    have hv6 := HNV.out hbd
    have HV6 := Lib.hid hv6
    obtain rfl : n3 = (l_at (intsV 6 ⟨B, false⟩) 3 : Int) := l_at_eq 6 3 _ _ (by rw [hv6]; rfl)
    obtain rfl : n4 = (l_at (intsV 6 ⟨B, false⟩) 4 : Int) := l_at_eq 6 4 _ _ (by rw [hv6]; rfl)
    obtain rfl : n5 = (l_at (intsV 6 ⟨B, false⟩) 5 : Int) := l_at_eq 6 5 _ _ (by rw [hv6]; rfl)
    have hN4 := l_at_le 6 4 ⟨B, false⟩
    have hN5 := l_at_le 6 5 ⟨B, false⟩
    have hfine := hfn hn3
    have hdec : decodeM B = if (!(decF ⟨B, false⟩).1.bad && (decide ((decF ⟨B, false⟩).1.rest.length = 0) && scrOk (decScr ⟨B, false⟩))) then some (decScr ⟨B, false⟩) else none := by unfold decodeM; rw [hok, Bool.true_and]
    have HDEC := Lib.hid hdec
    have HFINE := Lib.hid hfine
    have hqd : decQ ⟨B, false⟩ = queryM (l_at (intsV 6 ⟨B, false⟩) 3) (intsS 6 ⟨B, false⟩) [] := rfl
    have htd : decT ⟨B, false⟩ = timesM sbad tblStep (l_at (intsV 6 ⟨B, false⟩) 4) ((decQ ⟨B, false⟩).2, []) := rfl
    have hfd : decF ⟨B, false⟩ = timesM sbad faultStep (l_at (intsV 6 ⟨B, false⟩) 5) ((decT ⟨B, false⟩).1, []) := rfl
    have hsd : decScr ⟨B, false⟩ = ⟨(decT ⟨B, false⟩).2, ⟨(decQ ⟨B, false⟩).1.toArray⟩, n0, n1, n2, (decF ⟨B, false⟩).2⟩ := by unfold decScr; rw [hv6]; rfl
    have HQD := Lib.hid hqd
    have HTD := Lib.hid htd
    have HFD := Lib.hid hfd
    have HSD := Lib.hid hsd
    have hql := decQ_rest ⟨B, false⟩
    have htl := decT_rest ⟨B, false⟩
    simp only at hql htl
    rw [hbd] at r1
    rw [hnm]
    have hi6 := intsS_len 6 ⟨B, false⟩
    simp only at hi6
    have HQ : Hid (∀ wx, Kept [] w2 wx → Calls Tryz.prog 33 #[.pointer (some ⟨w.heap.size + 1, 0, none⟩), .int .i64 (l_at (intsV 6 ⟨B, false⟩) 3 : Int)] wx (QryPost 69 (w.heap.size + 1) (l_at (intsV 6 ⟨B, false⟩) 3) (intsS 6 ⟨B, false⟩) wx)) := Lib.hid (fun wx kx => sr_query wx _ _ _ (HS2.out.kept kx) (by omega) hn3)
    clear hok hbd hnm hv6 hfine hdec hqd htd hfd hsd HBADE HNV
    generalize l_at (intsV 6 ⟨B, false⟩) 3 = N3 at *
    generalize l_at (intsV 6 ⟨B, false⟩) 4 = N4 at *
    generalize l_at (intsV 6 ⟨B, false⟩) 5 = N5 at *
    have hN3' : ¬ (16384 : Int) < (N3 : Int) := by omega
    have HY4 := Lib.hid y4
    have HY5 := Lib.hid y5
    clear y4 y5 a0 a1 a2 a3 a4 a5 b0 b1 b2 b3 b4 b5
    go_wp2_with fail
    go_cut [7] (fun v wx => ∃ sb, v = .pointer (some ⟨sb, 0, none⟩) ∧ DecMid (w.heap.size + 1) (w.heap.size + 1 + 1) w.heap.size n0 n1 n2 (decQ ⟨B, false⟩).1 (decQ ⟨B, false⟩).2 b o N4 N5 w sb wx)
    case first =>
      clear r1 HDEC HFINE HTD HFD HSD HV6 hql htl hN4 hN5 hn3 hN3' HSZ1 hw1
      have hrl : w.heap.size + 1 + 1 < w2.heap.size := by omega
      have kd4 : Kept [w.heap.size + 1] w2 w2.drew := (Kept.refl _ _).drew
      have kd5 : Kept [w.heap.size + 1] w2 (w2.alloc (Obj.cells #[.slice none 0 0, .string ⟨#[]⟩, .int .i64 0, .int .i64 0, .int .i64 0, .slice none 0 0] 25)).drew := ((Kept.refl _ _).alloc _).drew
      have HZ5 : Hid (Arr (w2.alloc (Obj.cells #[.slice none 0 0, .string ⟨#[]⟩, .int .i64 0, .int .i64 0, .int .i64 0, .slice none 0 0] 25)).drew w2.heap.size 25 [.slice none 0 0, .string ⟨#[]⟩, .int .i64 0, .int .i64 0, .int .i64 0, .slice none 0 0]) := Lib.hid (Arr.new' rfl rfl)
      have hz1 : w2.heap.size ∉ [w.heap.size + 1] := by simp; omega
      have e1 : ¬ b = w2.heap.size := by omega
      have e2 : ¬ w2.heap.size = b := by omega
      have e3 : ¬ w.heap.size + 1 + 1 = w2.heap.size := by omega
      have e4 : ¬ w2.heap.size = w.heap.size + 1 + 1 := by omega
      have hb1 : b ∉ [w.heap.size + 1] := by simp; omega
      have hr1' : w.heap.size + 1 + 1 ∉ [w.heap.size + 1] := by simp
      have s1 := y0
      have s2 := y1
      have s3 := y2
      have s4 := y3
      have s5 := r0
      go_region_held3 (fun w' => w'.cell? ⟨b, o, none⟩ = some (.int .i64 n0) ∧ w'.cell? ⟨b, o + 1, none⟩ = some (.int .i64 n1) ∧ w'.cell? ⟨b, o + 2, none⟩ = some (.int .i64 n2) ∧ w'.cell? ⟨b, o + 3, none⟩ = some (.int .i64 (N3 : Int)) ∧ w'.cell? ⟨w.heap.size + 1 + 1, 0, none⟩ = some (.pointer (some ⟨w.heap.size + 1, 0, none⟩)))
        (first | with_reducible exact ⟨s1, s2, s3, s4, s5⟩ | go_keep)
        (first | (go_at_call 33; refine (HQ.out _ (by first | exact (Kept.refl [] w2).drew | exact (Kept.refl [] w2).drewN _ | exact ((Kept.refl [] w2).drewN _).alloc _ | exact ((Kept.refl [] w2).drew).alloc _ | exact (Kept.refl [] w2).alloc _)).mono ?_; rintro e w4 ⟨rfl, hs4, hk4⟩; (first | (have kk4 : Kept [w.heap.size + 1] w2 w4 := kd4.trans hk4) | (have kk4 : Kept [w.heap.size + 1] w2 w4 := kd5.trans hk4; have hz5 := HZ5.out.kept hk4 hz1; have z0 := hz5.cell (i := 0) rfl; have z1 := hz5.cell (i := 1) rfl; have z2 := hz5.cell (i := 2) rfl; have z3 := hz5.cell (i := 3) rfl; have z4 := hz5.cell (i := 4) rfl; have z5 := hz5.cell (i := 5) rfl; have g0 := hz5.free 0; have g1 := hz5.free 1; have g2 := hz5.free 2; have g3 := hz5.free 3; have g4 := hz5.free 4; have g5 := hz5.free 5; have HZ6 := Lib.hid hz5; clear hz5)); have s1 := (kk4.cell hbs hb1).trans y0; have s2 := (kk4.cell hbs hb1).trans y1; have s3 := (kk4.cell hbs hb1).trans y2; have s4 := (kk4.cell hbs hb1).trans y3; have s5 := (kk4.cell hrl hr1').trans r0; have q1 := kk4.size; have q2 : b < w4.heap.size := Nat.lt_of_lt_of_le hbs q1; have q3 : ¬ b = w4.heap.size := Nat.ne_of_lt q2; have q4 : ¬ w4.heap.size = b := fun e => Nat.ne_of_lt q2 e.symm; have q5 : w.heap.size + 1 + 1 < w4.heap.size := Nat.lt_of_lt_of_le hrl q1; have q6 : ¬ w.heap.size + 1 + 1 = w4.heap.size := Nat.ne_of_lt q5; have q7 : ¬ w4.heap.size = w.heap.size + 1 + 1 := fun e => Nat.ne_of_lt q5 e.symm; have HS4 := Lib.hid hs4; have HK4 := Lib.hid kk4; clear q1; clear hs4 hk4 kk4))
      · have hF : DecMid (w.heap.size + 1) (w.heap.size + 1 + 1) w.heap.size n0 n1 n2 (decQ ⟨B, false⟩).1 (decQ ⟨B, false⟩).2 b o N4 N5 w w4.heap.size (w4.alloc (Obj.cells #[.slice none 0 0, .string ⟨(queryM N3 (intsS 6 ⟨B, false⟩) []).1.toArray⟩, .int .i64 n0, .int .i64 n1, .int .i64 n2, .slice none 0 0] 25)) := by
          have ka : Kept [] w4 (w4.alloc (Obj.cells #[.slice none 0 0, .string ⟨(queryM N3 (intsS 6 ⟨B, false⟩) []).1.toArray⟩, .int .i64 n0, .int .i64 n1, .int .i64 n2, .slice none 0 0] 25)) := (Kept.refl [] w4).alloc _
          rw [HQD.out]
          have kk := HK4.out.trans (ka.mono (by simp))
          exact ⟨Arr.new' rfl rfl, HS4.out.kept ka, HR2.out.kept kk hr1', HA2.out.kept kk (by simp), (kk.cell hbs hb1).trans HY4.out, (kk.cell hbs hb1).trans HY5.out, HK2.out.fresh kk (by intro x hx hlt; simp at hx; omega), by have := HK4.out.size; omega, fun e => q3 e.symm, by have := ka.size; omega⟩
        go_wp2_with fail
        go_meet
        case rel => exact ⟨_, rfl, hF⟩
      · have KF : Kept [w2.heap.size] w4 ((((((w4.setCell ⟨w2.heap.size, 0, none⟩ (.slice none 0 0)).setCell ⟨w2.heap.size, 1, none⟩ (.string ⟨(queryM N3 (intsS 6 ⟨B, false⟩) []).1.toArray⟩)).setCell ⟨w2.heap.size, 2, none⟩ (.int .i64 n0)).setCell ⟨w2.heap.size, 3, none⟩ (.int .i64 n1)).setCell ⟨w2.heap.size, 4, none⟩ (.int .i64 n2)).setCell ⟨w2.heap.size, 5, none⟩ (.slice none 0 0)) := ((((((Kept.refl _ _).setCell (.inl (by simp)) _).setCell (.inl (by simp)) _).setCell (.inl (by simp)) _).setCell (.inl (by simp)) _).setCell (.inl (by simp)) _).setCell (.inl (by simp)) _
        have hF : DecMid (w.heap.size + 1) (w.heap.size + 1 + 1) w.heap.size n0 n1 n2 (decQ ⟨B, false⟩).1 (decQ ⟨B, false⟩).2 b o N4 N5 w w2.heap.size ((((((w4.setCell ⟨w2.heap.size, 0, none⟩ (.slice none 0 0)).setCell ⟨w2.heap.size, 1, none⟩ (.string ⟨(queryM N3 (intsS 6 ⟨B, false⟩) []).1.toArray⟩)).setCell ⟨w2.heap.size, 2, none⟩ (.int .i64 n0)).setCell ⟨w2.heap.size, 3, none⟩ (.int .i64 n1)).setCell ⟨w2.heap.size, 4, none⟩ (.int .i64 n2)).setCell ⟨w2.heap.size, 5, none⟩ (.slice none 0 0)) := by
          rw [HQD.out]
          have kw := HK2.out.fresh (HK4.out) (by intro x hx hlt; simp at hx; omega)
          exact ⟨(((((HZ6.out.set 0 _).set 1 _).set 2 _).set 3 _).set 4 _).set 5 _, HS4.out.next KF (by simp; omega), (HR2.out.kept HK4.out hr1').kept KF (by simp; omega), (HA2.out.kept HK4.out (by simp)).kept KF (by simp; omega), ((KF.cell q2 (by simp; omega)).trans (HK4.out.cell hbs hb1)).trans HY4.out, ((KF.cell q2 (by simp; omega)).trans (HK4.out.cell hbs hb1)).trans HY5.out, kw.fresh KF (by intro x hx hlt; simp at hx; omega), by omega, e2, by have := KF.size; omega⟩
        go_wp2_with fail
        go_meet
        case rel => exact ⟨_, rfl, hF⟩
    case rest =>
      obtain ⟨sb, rfl, hmid⟩ := hcut
      obtain ⟨wc3, hw3⟩ : ∃ w3 : World, w3 = wc := ⟨_, rfl⟩
      subst hw3
      obtain ⟨m1, m2, m3, m4, m5, m6, m7, m8, m9, m10⟩ := hmid
      have HSB := Lib.hid m1
      have HSR := Lib.hid m2
      have HRB := Lib.hid m3
      have HRS := Lib.hid m4
      have HN5 := Lib.hid m6
      have HKW := Lib.hid m7
      have hsb := m1.lt
      clear HY4 HY5 y0 y1 y2 y3 r0 r1 HQ HQD HS2 HA2 HR2 hbs
      have hJ0 : ∀ n, TJ 69 (w.heap.size + 1) sb (decQ ⟨B, false⟩).2.rest.length (.string ⟨(decQ ⟨B, false⟩).1.toArray⟩) (.int .i64 n0) (.int .i64 n1) (.int .i64 n2) wc3 ((decQ ⟨B, false⟩).2, []) (wc3.drewN n) := fun n =>
        ⟨HSR.out.kept ((Kept.refl [] wc3).drewN n), ⟨_, HSB.out.kept ((Kept.refl [] wc3).drewN n) (by simp), Kd.Row.nil _ _ _ _ _⟩, (Kept.refl _ wc3).drewN n, Nat.le_refl _, fun _ => by simp, by simp⟩
      have HT : Hid (∀ n, Calls Tryz.prog 34 #[.pointer (some ⟨w.heap.size + 1, 0, none⟩), .int .i64 (N4 : Int), .func (.func 35) #[] #[.pointer (some ⟨sb, 0, none⟩), .pointer (some ⟨w.heap.size + 1 + 1, 0, none⟩)]] (wc3.drewN n) (fun e w' => e = .returned (.tuple #[]) ∧ TJ 69 (w.heap.size + 1) sb (decQ ⟨B, false⟩).2.rest.length (.string ⟨(decQ ⟨B, false⟩).1.toArray⟩) (.int .i64 n0) (.int .i64 n1) (.int .i64 n2) wc3 (decT ⟨B, false⟩) w')) := Lib.hid (fun n => by
        rw [HTD.out]
        exact times_35 _ _ sbad tblStep (TJ 69 (w.heap.size + 1) sb (decQ ⟨B, false⟩).2.rest.length (.string ⟨(decQ ⟨B, false⟩).1.toArray⟩) (.int .i64 n0) (.int .i64 n1) (.int .i64 n2) wc3) (wc3.drewN n) (w.heap.size + 1) N4 N4 ((decQ ⟨B, false⟩).2, []) (hJ0 n) hN4 (fun _ => rfl)
          (fun x wx hx => by obtain ⟨⟨a, c, ha, _⟩, _⟩ := hx; exact ha.cell (i := 1) rfl)
          (fun x wx hx hb2 => cl35 wc3 wx (w.heap.size + 1) sb (w.heap.size + 1 + 1) _ _ _ _ _ x hx HRB.out ⟨by omega, by omega⟩ (by omega) hsb (by omega) hb2))
      have rr := m3.cell (i := 0) rfl
      have y4 := m5
      clear hJ0 m1 m2 m3 m4 m5 m6 m7
      go_upto_region 6 with fail
      go_cut [] (fun wx => TJ 69 (w.heap.size + 1) sb (decQ ⟨B, false⟩).2.rest.length (.string ⟨(decQ ⟨B, false⟩).1.toArray⟩) (.int .i64 n0) (.int .i64 n1) (.int .i64 n2) wc3 (decT ⟨B, false⟩) wx)
      case first =>
        go_region_law (rw [if_pos (by rfl)]; go_simp; refine (HT.out _).mono ?_; rintro e w4 ⟨rfl, hj⟩)
        all_goals
          go_wp2_with fail
          go_meet
          case rel => exact hj
      case rest =>
        obtain ⟨wc4, hw4⟩ : ∃ w4 : World, w4 = wc := ⟨_, rfl⟩
        subst hw4
        obtain ⟨hs4, ⟨tv, ha4, hr4⟩, hk4, h5, h6, h7⟩ := hcut
        have hw34 := hk4.size
        have HRB4 := Lib.hid (HRB.out.kept hk4 (by simp; omega))
        have HRS4 := Lib.hid (HRS.out.kept hk4 (by simp; omega))
        have HSR4 := Lib.hid hs4
        have HSB4 := Lib.hid ha4
        have HTR4 := Lib.hid hr4
        have HKW4 : Hid (Kept [] w wc4) := Lib.hid (HKW.out.fresh hk4 (by intro x hx hlt; simp at hx; omega))
        have y5 := (hk4.cell m10 (by simp; omega)).trans HN5.out
        clear hs4 ha4 hr4 hk4 h5 h6 h7 rr y4 HRB HRS HSR HSB HT
        have rr := HRB4.out.cell (i := 0) rfl
        have hJ0 : ∀ n, FJ 69 (w.heap.size + 1) sb (decT ⟨B, false⟩).1.rest.length tv (.string ⟨(decQ ⟨B, false⟩).1.toArray⟩) (.int .i64 n0) (.int .i64 n1) (.int .i64 n2) wc4 ((decT ⟨B, false⟩).1, []) (wc4.drewN n) := fun n =>
          ⟨HSR4.out.kept ((Kept.refl [] wc4).drewN n), ⟨_, HSB4.out.kept ((Kept.refl [] wc4).drewN n) (by simp), Kd.Row.nil _ _ _ _ _⟩, (Kept.refl _ wc4).drewN n, Nat.le_refl _, fun _ => by simp, by simp⟩
        have HT2 : Hid (∀ n, Calls Tryz.prog 34 #[.pointer (some ⟨w.heap.size + 1, 0, none⟩), .int .i64 (N5 : Int), .func (.func 37) #[] #[.pointer (some ⟨sb, 0, none⟩), .pointer (some ⟨w.heap.size + 1 + 1, 0, none⟩)]] (wc4.drewN n) (fun e w' => e = .returned (.tuple #[]) ∧ FJ 69 (w.heap.size + 1) sb (decT ⟨B, false⟩).1.rest.length tv (.string ⟨(decQ ⟨B, false⟩).1.toArray⟩) (.int .i64 n0) (.int .i64 n1) (.int .i64 n2) wc4 (decF ⟨B, false⟩) w')) := Lib.hid (fun n => by
          rw [HFD.out]
          exact times_37 _ _ sbad faultStep (FJ 69 (w.heap.size + 1) sb (decT ⟨B, false⟩).1.rest.length tv (.string ⟨(decQ ⟨B, false⟩).1.toArray⟩) (.int .i64 n0) (.int .i64 n1) (.int .i64 n2) wc4) (wc4.drewN n) (w.heap.size + 1) N5 N5 ((decT ⟨B, false⟩).1, []) (hJ0 n) hN5 (fun _ => rfl)
            (fun x wx hx => by obtain ⟨⟨a, c, ha, _⟩, _⟩ := hx; exact ha.cell (i := 1) rfl)
            (fun x wx hx hb2 => cl37 wc4 wx (w.heap.size + 1) sb (w.heap.size + 1 + 1) _ _ _ _ _ _ x hx HRB4.out ⟨by omega, by omega⟩ (by omega) (by omega) (by omega) hb2))
        clear hJ0
        go_upto_region 7 with fail
        go_cut [] (fun wx => FJ 69 (w.heap.size + 1) sb (decT ⟨B, false⟩).1.rest.length tv (.string ⟨(decQ ⟨B, false⟩).1.toArray⟩) (.int .i64 n0) (.int .i64 n1) (.int .i64 n2) wc4 (decF ⟨B, false⟩) wx)
        case first =>
          go_region_law (rw [if_pos (by rfl)]; go_simp; refine (HT2.out _).mono ?_; rintro e w4 ⟨rfl, hj⟩)
          all_goals
            go_wp2_with fail
            go_meet
            case rel => exact hj
        case rest =>
          obtain ⟨hs5, ⟨fv, ha5, hr5⟩, hk5, h5, h6, h7⟩ := hcut
          have HTAT : Hid (ktbl.At wc (Hi (w.heap.size + 3)) tv (decT ⟨B, false⟩).2) := Lib.hid ((HTR4.out.next hk5 (fun g hg => by have := HTR4.out.block hg; simp; omega) (fun b hb => by have h2 : wc3.heap.size ≤ b := hb; simp; omega) (fun _ h _ => h)).at (fun b hb _ => by have h2 : wc3.heap.size ≤ b := hb; show w.heap.size + 3 ≤ b; omega) (fun g hg => by have := HTR4.out.block hg; show w.heap.size + 3 ≤ g; omega))
          have HFAT : Hid ((kint .i64).At wc (Hi (w.heap.size + 3)) fv (decF ⟨B, false⟩).2) := Lib.hid (hr5.at (fun _ h _ => h.elim) (fun g hg => by have := hr5.block hg; show w.heap.size + 3 ≤ g; omega))
          have HRB5 := Lib.hid (HRB4.out.kept hk5 (by simp; omega))
          have HRS5 := Lib.hid (HRS4.out.kept hk5 (by simp; omega))
          have HKW5 : Hid (Kept [] w wc) := Lib.hid (HKW4.out.fresh hk5 (by intro x hx hlt; simp at hx; omega))
          have HM5 := Lib.hid (HM.out.kept HKW5.out)
          have HSB5 := Lib.hid ha5
          obtain ⟨pa, pc, hpa, _⟩ := hs5
          have p0 := hpa.cell (i := 0) rfl
          have p1 := hpa.cell (i := 1) rfl
          obtain ⟨ta, tc, htv, _⟩ := HTAT.out.form
          obtain ⟨fa, fc, hfv, _⟩ := HFAT.out.form
          subst htv hfv
          have HSCR : Hid (ScrAt wc Any (decScr ⟨B, false⟩) (.agg #[.slice ta (decT ⟨B, false⟩).2.length tc, .string ⟨(decQ ⟨B, false⟩).1.toArray⟩, .int .i64 n0, .int .i64 n1, .int .i64 n2, .slice fa (decF ⟨B, false⟩).2.length fc])) := Lib.hid (by rw [HSD.out]; exact ⟨_, _, rfl, HTAT.out.any, HFAT.out.any⟩)
          have HCK := Lib.hid (script_check wc _ _ HSCR.out HM5.out HFINE.out)
          clear ha5 hr5 hk5 h5 h6 h7 hpa rr y5 HSCR
          have rr := HRB5.out.cell (i := 0) rfl
          have t0 := HSB5.out.cell (i := 0) rfl
          have t1 := HSB5.out.cell (i := 1) rfl
          have t2 := HSB5.out.cell (i := 2) rfl
          have t3 := HSB5.out.cell (i := 3) rfl
          have t4 := HSB5.out.cell (i := 4) rfl
          have t5 := HSB5.out.cell (i := 5) rfl
          cases hbd : (decF ⟨B, false⟩).1.bad
          · rw [hbd] at p1
            by_cases hl : (decF ⟨B, false⟩).1.rest.length = 0
            · have HD2 : Hid (decodeM B = if scrOk (decScr ⟨B, false⟩) then some (decScr ⟨B, false⟩) else none) := Lib.hid (by rw [HDEC.out, hbd, decide_eq_true hl]; simp)
              rw [hl] at p0
              clear hbd hl
              go_wp2_with fail
              refine HCK.out.mono ?_
              rintro e w6 ⟨rfl, hk6⟩
              have HRS6 := Lib.hid (HRS5.out.kept hk6 (by simp))
              have HSB6 := Lib.hid (HSB5.out.kept hk6 (by simp))
              have HKW6 := Lib.hid (HKW5.out.trans hk6)
              have HT6 := Lib.hid (HTAT.out.next hk6 (by simp) (fun _ h _ => h))
              have HF6 := Lib.hid (HFAT.out.next hk6 (by simp) (fun _ h _ => h))
              clear hk6 p0 p1 rr t0 t1 t2 t3 t4 t5
              have t0 := HSB6.out.cell (i := 0) rfl
              have t1 := HSB6.out.cell (i := 1) rfl
              have t2 := HSB6.out.cell (i := 2) rfl
              have t3 := HSB6.out.cell (i := 3) rfl
              have t4 := HSB6.out.cell (i := 4) rfl
              have t5 := HSB6.out.cell (i := 5) rfl
              have a0 := HRS6.out.cell (i := 0) rfl
              have b0 := HRS6.out.free 0
              have a1 := HRS6.out.cell (i := 1) rfl
              have b1 := HRS6.out.free 1
              have a2 := HRS6.out.cell (i := 2) rfl
              have b2 := HRS6.out.free 2
              have a3 := HRS6.out.cell (i := 3) rfl
              have b3 := HRS6.out.free 3
              have a4 := HRS6.out.cell (i := 4) rfl
              have b4 := HRS6.out.free 4
              have a5 := HRS6.out.cell (i := 5) rfl
              have b5 := HRS6.out.free 5
              have hsr6 : ¬ sb = w.heap.size := by omega
              have hrs6 : ¬ w.heap.size = sb := by omega
              cases hq : scrOk (decScr ⟨B, false⟩)
              · have he : scrErr (decScr ⟨B, false⟩) = 300 := by unfold scrErr; rw [hq]; rfl
                have HE : Hid (decodeM B = none) := Lib.hid (by rw [HD2.out, hq]; rfl)
                rw [he]
                clear hq he
                go_wp2_with fail
                have AF := ((((((HRS6.out).set 0 (.slice none 0 0)).set 1 (.string ⟨#[]⟩)).set 2 (.int .i64 0)).set 3 (.int .i64 0)).set 4 (.int .i64 0)).set 5 (.slice none 0 0)
                have z0 := AF.cell (i := 0) rfl
                have z1 := AF.cell (i := 1) rfl
                have z2 := AF.cell (i := 2) rfl
                have z3 := AF.cell (i := 3) rfl
                have z4 := AF.cell (i := 4) rfl
                have z5 := AF.cell (i := 5) rfl
                exact bodyPost_ret (v := .tuple #[.agg #[.slice none 0 0, .string ⟨#[]⟩, .int .i64 0, .int .i64 0, .int .i64 0, .slice none 0 0], .int .i64 300]) (by simp [results, Tryz.results13, go_sem, z0, z1, z2, z3, z4, z5]) rfl ⟨_, by rw [HE.out]; rfl, by rw [HE.out]; exact noScr_at _ _, (((((HKW6.out.setCell (.inr (Nat.le_refl _)) _).setCell (.inr (Nat.le_refl _)) _).setCell (.inr (Nat.le_refl _)) _).setCell (.inr (Nat.le_refl _)) _).setCell (.inr (Nat.le_refl _)) _).setCell (.inr (Nat.le_refl _)) _⟩
              · have he : scrErr (decScr ⟨B, false⟩) = 0 := by unfold scrErr; rw [hq]; rfl
                have HE : Hid (decodeM B = some (decScr ⟨B, false⟩)) := Lib.hid (by rw [HD2.out, hq]; rfl)
                rw [he]
                clear hq he
                go_wp2_with fail
                have AF := ((((((HRS6.out.set 0 (.slice ta (decT ⟨B, false⟩).2.length tc)).set 1 (.string ⟨(decQ ⟨B, false⟩).1.toArray⟩)).set 2 (.int .i64 n0)).set 3 (.int .i64 n1)).set 4 (.int .i64 n2)).set 5 (.slice fa (decF ⟨B, false⟩).2.length fc))
                have z0 := AF.cell (i := 0) rfl
                have z1 := AF.cell (i := 1) rfl
                have z2 := AF.cell (i := 2) rfl
                have z3 := AF.cell (i := 3) rfl
                have z4 := AF.cell (i := 4) rfl
                have z5 := AF.cell (i := 5) rfl
                have KF : Kept [w.heap.size] w6 ((((((w6.setCell ⟨w.heap.size, 0, none⟩ (.slice ta (decT ⟨B, false⟩).2.length tc)).setCell ⟨w.heap.size, 1, none⟩ (.string ⟨(decQ ⟨B, false⟩).1.toArray⟩)).setCell ⟨w.heap.size, 2, none⟩ (.int .i64 n0)).setCell ⟨w.heap.size, 3, none⟩ (.int .i64 n1)).setCell ⟨w.heap.size, 4, none⟩ (.int .i64 n2)).setCell ⟨w.heap.size, 5, none⟩ (.slice fa (decF ⟨B, false⟩).2.length fc)) := ((((((Kept.refl _ _).setCell (.inl (by simp)) _).setCell (.inl (by simp)) _).setCell (.inl (by simp)) _).setCell (.inl (by simp)) _).setCell (.inl (by simp)) _).setCell (.inl (by simp)) _
                exact bodyPost_ret (v := .tuple #[.agg #[.slice ta (decT ⟨B, false⟩).2.length tc, .string ⟨(decQ ⟨B, false⟩).1.toArray⟩, .int .i64 n0, .int .i64 n1, .int .i64 n2, .slice fa (decF ⟨B, false⟩).2.length fc], .int .i64 0]) (by simp [results, Tryz.results13, go_sem, z0, z1, z2, z3, z4, z5]) rfl ⟨.agg #[.slice ta (decT ⟨B, false⟩).2.length tc, .string ⟨(decQ ⟨B, false⟩).1.toArray⟩, .int .i64 n0, .int .i64 n1, .int .i64 n2, .slice fa (decF ⟨B, false⟩).2.length fc], by rw [HE.out]; rfl, by rw [HE.out, Option.getD_some, HSD.out]; exact ⟨_, _, rfl, HT6.out.next KF (fun b hb => by have h2 : w.heap.size + 3 ≤ b := hb; simp; omega) (fun b hb _ => by have h2 : w.heap.size + 3 ≤ b := hb; show w.heap.size ≤ b; omega), HF6.out.next KF (fun b hb => by have h2 : w.heap.size + 3 ≤ b := hb; simp; omega) (fun b hb _ => by have h2 : w.heap.size + 3 ≤ b := hb; show w.heap.size ≤ b; omega)⟩, HKW6.out.fresh KF (by intro x hx hlt; simp at hx; omega)⟩
            · have HE : Hid (decodeM B = none) := Lib.hid (by rw [HDEC.out, hbd, decide_eq_false hl]; simp)
              have hl2 : 0 < (decF ⟨B, false⟩).1.rest.length := by omega
              have hl' : (0 : Int) < ((decF ⟨B, false⟩).1.rest.length : Int) := by omega
              have a0 := HRS5.out.cell (i := 0) rfl
              have b0 := HRS5.out.free 0
              have a1 := HRS5.out.cell (i := 1) rfl
              have b1 := HRS5.out.free 1
              have a2 := HRS5.out.cell (i := 2) rfl
              have b2 := HRS5.out.free 2
              have a3 := HRS5.out.cell (i := 3) rfl
              have b3 := HRS5.out.free 3
              have a4 := HRS5.out.cell (i := 4) rfl
              have b4 := HRS5.out.free 4
              have a5 := HRS5.out.cell (i := 5) rfl
              have b5 := HRS5.out.free 5
              clear hbd hl HCK
              go_wp2_with fail
              have AF := ((((((HRS5.out).set 0 (.slice none 0 0)).set 1 (.string ⟨#[]⟩)).set 2 (.int .i64 0)).set 3 (.int .i64 0)).set 4 (.int .i64 0)).set 5 (.slice none 0 0)
              have z0 := AF.cell (i := 0) rfl
              have z1 := AF.cell (i := 1) rfl
              have z2 := AF.cell (i := 2) rfl
              have z3 := AF.cell (i := 3) rfl
              have z4 := AF.cell (i := 4) rfl
              have z5 := AF.cell (i := 5) rfl
              exact bodyPost_ret (v := .tuple #[.agg #[.slice none 0 0, .string ⟨#[]⟩, .int .i64 0, .int .i64 0, .int .i64 0, .slice none 0 0], .int .i64 300]) (by simp [results, Tryz.results13, go_sem, z0, z1, z2, z3, z4, z5]) rfl ⟨_, by rw [HE.out]; rfl, by rw [HE.out]; exact noScr_at _ _, (((((HKW5.out.setCell (.inr (Nat.le_refl _)) _).setCell (.inr (Nat.le_refl _)) _).setCell (.inr (Nat.le_refl _)) _).setCell (.inr (Nat.le_refl _)) _).setCell (.inr (Nat.le_refl _)) _).setCell (.inr (Nat.le_refl _)) _⟩
          · rw [hbd] at p1
            have HE : Hid (decodeM B = none) := Lib.hid (by rw [HDEC.out, hbd]; simp)
            have a0 := HRS5.out.cell (i := 0) rfl
            have b0 := HRS5.out.free 0
            have a1 := HRS5.out.cell (i := 1) rfl
            have b1 := HRS5.out.free 1
            have a2 := HRS5.out.cell (i := 2) rfl
            have b2 := HRS5.out.free 2
            have a3 := HRS5.out.cell (i := 3) rfl
            have b3 := HRS5.out.free 3
            have a4 := HRS5.out.cell (i := 4) rfl
            have b4 := HRS5.out.free 4
            have a5 := HRS5.out.cell (i := 5) rfl
            have b5 := HRS5.out.free 5
            clear hbd HCK
            go_wp2_with fail
            have AF := ((((((HRS5.out).set 0 (.slice none 0 0)).set 1 (.string ⟨#[]⟩)).set 2 (.int .i64 0)).set 3 (.int .i64 0)).set 4 (.int .i64 0)).set 5 (.slice none 0 0)
            have z0 := AF.cell (i := 0) rfl
            have z1 := AF.cell (i := 1) rfl
            have z2 := AF.cell (i := 2) rfl
            have z3 := AF.cell (i := 3) rfl
            have z4 := AF.cell (i := 4) rfl
            have z5 := AF.cell (i := 5) rfl
            exact bodyPost_ret (v := .tuple #[.agg #[.slice none 0 0, .string ⟨#[]⟩, .int .i64 0, .int .i64 0, .int .i64 0, .slice none 0 0], .int .i64 300]) (by simp [results, Tryz.results13, go_sem, z0, z1, z2, z3, z4, z5]) rfl ⟨_, by rw [HE.out]; rfl, by rw [HE.out]; exact noScr_at _ _, (((((HKW5.out.setCell (.inr (Nat.le_refl _)) _).setCell (.inr (Nat.le_refl _)) _).setCell (.inr (Nat.le_refl _)) _).setCell (.inr (Nat.le_refl _)) _).setCell (.inr (Nat.le_refl _)) _).setCell (.inr (Nat.le_refl _)) _⟩
  · have HE := Lib.hid (HBADE.out (by simpa using hok))
    have hparts : (intsS 6 ⟨B, false⟩).bad = true ∨ (intsS 6 ⟨B, false⟩).bad = false ∧ (¬ intsNm 6 ⟨B, false⟩ = ⟨#[83]⟩ ∨ intsNm 6 ⟨B, false⟩ = ⟨#[83]⟩ ∧ 16384 < n3) := by
      unfold markOk at hok
      cases hbd : (intsS 6 ⟨B, false⟩).bad with
      | true => exact .inl rfl
      | false =>
        refine .inr ⟨rfl, ?_⟩
        rw [hbd] at hok
        by_cases hnm : intsNm 6 ⟨B, false⟩ = ⟨#[83]⟩
        · refine .inr ⟨hnm, ?_⟩
          rw [HNV.out hbd, decide_eq_true hnm] at hok
          simp [l_at] at hok
          omega
        · exact .inl hnm
    clear hok y0 y1 y2 y4 y5
    rcases hparts with hp | ⟨hp, hp2⟩
    · rw [hp] at r1
      clear hp
      go_wp2_with fail
      have AF := ((((((HA2.out).set 0 (.slice none 0 0)).set 1 (.string ⟨#[]⟩)).set 2 (.int .i64 0)).set 3 (.int .i64 0)).set 4 (.int .i64 0)).set 5 (.slice none 0 0)
      have z0 := AF.cell (i := 0) rfl
      have z1 := AF.cell (i := 1) rfl
      have z2 := AF.cell (i := 2) rfl
      have z3 := AF.cell (i := 3) rfl
      have z4 := AF.cell (i := 4) rfl
      have z5 := AF.cell (i := 5) rfl
      exact bodyPost_ret (v := .tuple #[.agg #[.slice none 0 0, .string ⟨#[]⟩, .int .i64 0, .int .i64 0, .int .i64 0, .slice none 0 0], .int .i64 300]) (by simp [results, Tryz.results13, go_sem, z0, z1, z2, z3, z4, z5]) rfl ⟨_, by rw [HE.out]; rfl, by rw [HE.out]; exact noScr_at _ _, (((((HK2.out.setCell (.inr (Nat.le_refl _)) _).setCell (.inr (Nat.le_refl _)) _).setCell (.inr (Nat.le_refl _)) _).setCell (.inr (Nat.le_refl _)) _).setCell (.inr (Nat.le_refl _)) _).setCell (.inr (Nat.le_refl _)) _⟩
    · rw [hp] at r1
      clear hp
      rcases hp2 with hp2 | ⟨hp2, hp3⟩
      · generalize intsNm 6 ⟨B, false⟩ = nm at *
        have hp3 : ¬ nm.toList = [83] := fun h => hp2 (str_eq h)
        clear hp2
        go_wp2_with fail
        have AF := ((((((HA2.out).set 0 (.slice none 0 0)).set 1 (.string ⟨#[]⟩)).set 2 (.int .i64 0)).set 3 (.int .i64 0)).set 4 (.int .i64 0)).set 5 (.slice none 0 0)
        have z0 := AF.cell (i := 0) rfl
        have z1 := AF.cell (i := 1) rfl
        have z2 := AF.cell (i := 2) rfl
        have z3 := AF.cell (i := 3) rfl
        have z4 := AF.cell (i := 4) rfl
        have z5 := AF.cell (i := 5) rfl
        exact bodyPost_ret (v := .tuple #[.agg #[.slice none 0 0, .string ⟨#[]⟩, .int .i64 0, .int .i64 0, .int .i64 0, .slice none 0 0], .int .i64 300]) (by simp [results, Tryz.results13, go_sem, z0, z1, z2, z3, z4, z5]) rfl ⟨_, by rw [HE.out]; rfl, by rw [HE.out]; exact noScr_at _ _, (((((HK2.out.setCell (.inr (Nat.le_refl _)) _).setCell (.inr (Nat.le_refl _)) _).setCell (.inr (Nat.le_refl _)) _).setCell (.inr (Nat.le_refl _)) _).setCell (.inr (Nat.le_refl _)) _).setCell (.inr (Nat.le_refl _)) _⟩
      · rw [hp2]
        clear hp2
        go_wp2_with fail
        have AF := ((((((HA2.out).set 0 (.slice none 0 0)).set 1 (.string ⟨#[]⟩)).set 2 (.int .i64 0)).set 3 (.int .i64 0)).set 4 (.int .i64 0)).set 5 (.slice none 0 0)
        have z0 := AF.cell (i := 0) rfl
        have z1 := AF.cell (i := 1) rfl
        have z2 := AF.cell (i := 2) rfl
        have z3 := AF.cell (i := 3) rfl
        have z4 := AF.cell (i := 4) rfl
        have z5 := AF.cell (i := 5) rfl
        exact bodyPost_ret (v := .tuple #[.agg #[.slice none 0 0, .string ⟨#[]⟩, .int .i64 0, .int .i64 0, .int .i64 0, .slice none 0 0], .int .i64 300]) (by simp [results, Tryz.results13, go_sem, z0, z1, z2, z3, z4, z5]) rfl ⟨_, by rw [HE.out]; rfl, by rw [HE.out]; exact noScr_at _ _, (((((HK2.out.setCell (.inr (Nat.le_refl _)) _).setCell (.inr (Nat.le_refl _)) _).setCell (.inr (Nat.le_refl _)) _).setCell (.inr (Nat.le_refl _)) _).setCell (.inr (Nat.le_refl _)) _).setCell (.inr (Nat.le_refl _)) _⟩
end Go.Proofs.YtkodiogkldboiaaGreatDoor
/- The reference's Decode. -/
namespace Go.Proofs.YtkodiogkldboiaaGreatDoor
open Go.RowKit

/-- Bytes that are read are appended to a row of one's own. -/
theorem wpList_copyb {ops : Array Oper} {rest : List Oper} {o : Oper} {a : Act} {Q : Exit → Act → World → Prop} {w : World} (hgd : o.guard = none) (sl x : Operand)
    (ho : o.op = .call { callee := .builtin .append, args := #[sl, x], argTypes := #[28, 28] }) (base : Nat) (v : Value) (l : List UInt8) (hs : a.eval sl = v) (hown : Bytes w base v l)
    (u : Value) (m : List UInt8) (hx : a.eval x = u) (hb : BAt w Any u m) (hl : l.length ≤ 1073741824) (hml : m.length ≤ 1073741824) (hbase : base ≤ w.heap.size)
    (h : ∀ ad cap w', Bytes w' base (.slice ad (l.length + m.length) cap) (l ++ m) → Kept v.ownBlock.toList w w' → wpList Tryz.prog ops Q rest (a.put o.dst (.slice ad (l.length + m.length) cap)) w') : wpList Tryz.prog ops Q (o :: rest) a w := by
  obtain ⟨i0, hi0, hz0, hz1, hz2⟩ := info_parts Tryz.info5
  rcases Nat.eq_zero_or_pos m.length with h0 | h0
  · obtain ⟨ad, c, rfl, _⟩ := hb.form
    obtain rfl : m = [] := List.eq_nil_of_length_eq_zero h0
    obtain ⟨ov, ocap, hv, _⟩ := hown.form
    refine wpList_plain hgd fun K hK => ?_
    have hrun := run_append_zero (P := Tryz.prog) (w := w) base 28 o.type 5 i0 1 Tryz.underlying28 hi0 v l.length _ hown ad c
    unfold Oper.wp
    simp only [List.map_nil, List.length_nil] at hx
    simp [execOp, ho, resolve, invoke, builtin, hs, hx, hrun, Result.andThen]
    subst hv
    have := h ov ocap w (by simpa using hown) (Kept.refl _ _)
    simp only [List.length_nil, Nat.add_zero] at this
    exact hK _ _ this
  · obtain ⟨c0, hc0⟩ : ∃ c, m[0]? = some c := ⟨m[0], List.getElem?_eq_getElem h0⟩
    obtain ⟨b, off, cap, rfl, _, _, _⟩ := int_at hb (j := 0) (x := (c0.toNat : Int)) (by rw [List.getElem?_map, hc0]; rfl)
    rw [List.length_map] at hb hx
    refine wpList_append_lies _ hgd sl x 28 ho base 5 i0 _ 1 1 Tryz.underlying28 hi0 hz0 hz1 hz2 rfl (by decide) v l.length (l.map bcell) hs hown ⟨b, off, none⟩ m.length cap (m.map bcell) hx (by simp) (fun j z hz => by
      rw [List.getElem?_map] at hz
      cases hy : m[j]? with
      | none => rw [hy] at hz; simp at hz
      | some y =>
        rw [hy] at hz
        simp at hz
        subst hz
        obtain ⟨b1, o1, c1, he, _, _, hc⟩ := int_at hb (j := j) (x := (y.toNat : Int)) (by rw [List.getElem?_map, hy]; rfl)
        simp only [Value.slice.injEq, Option.some.injEq, Addr.mk.injEq, and_true] at he
        obtain ⟨⟨rfl, rfl⟩, _⟩ := he
        rw [add_none]
        exact hc) (by intro z hz; obtain ⟨y, _, rfl⟩ := List.mem_map.1 hz; rfl) h0 (by unfold maxLen; omega) (by omega) hbase w.heap.size rfl ?_
    intro g cap2 w' ho2 hg hat hlt
    exact h _ cap2 w' (by unfold Bytes; rw [← List.map_append] at ho2; simpa using ho2) (grown_kept hg)
theorem Bytes.at {w : World} {base : Nat} {v : Value} {l : List UInt8} {P : Nat → Prop} (h : Bytes w base v l) (hP : ∀ b, base ≤ b → b < w.heap.size → P b) : BAt w P v l := by
  obtain ⟨a, cap, rfl, hc⟩ := h.form
  refine ⟨a, cap, by simp, by simpa using hc, fun j x hx => ?_⟩
  have hl : 0 < l.length := by have := get_lt hx; rw [List.length_map] at this; omega
  obtain ⟨g, cap', he, hg, hlt⟩ := World.ownsRow.form h hl
  simp only [Value.slice.injEq, true_and] at he
  obtain ⟨rfl, rfl⟩ := he
  refine ⟨g, 0, [.int .u8 x], rfl, hP g hg hlt, hlt, rfl, fun i u hu => ?_⟩
  match i, hu with
  | 0, hu =>
    simp at hu; subst hu
    refine own_cell h _ _ ?_
    rw [List.getElem?_map] at hx ⊢
    cases hy : l[j]? with
    | none => rw [hy] at hx; simp at hx
    | some y => rw [hy] at hx; simp at hx; subst hx; simp [kint, hy, bcell]
  | i + 1, hu => simp at hu
end Go.Proofs.YtkodiogkldboiaaGreatDoor
