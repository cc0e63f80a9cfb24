/- script.reader: query; the reference's. -/
import Derived.Deep.RegionLaw
import Derived.Test.YtkodiogkldboiaaGreatDoorM10
set_option linter.unusedVariables false
set_option linter.unusedSimpArgs false
namespace Go.Proofs.YtkodiogkldboiaaGreatDoor
open Go.RowKit

/-- A text of so many bytes, in pieces. -/
def queryM (n : Nat) (s : SR) (o : List UInt8) : List UInt8 × SR :=
  if n = 0 ∨ s.bad = true then (o, s)
  else queryM (n - 64) ⟨(intsS 0 s).rest, (intsS 0 s).bad || !decide ((intsNm 0 s).size = min n 64)⟩ (o ++ (intsNm 0 s).data.toList)
termination_by n
decreasing_by omega
def QryPost (T : TypeId) (p n : Nat) (s : SR) (w : World) (en : Ending) (w' : World) : Prop :=
  en = .returned (.string ⟨(queryM n s []).1.toArray⟩) ∧ SRd T w' p (queryM n s []).2 ∧ Kept [p] w w'

theorem readM_ok (B : List UInt8) (n : Nat) : ∀ s : RS, (readM B n s).2.bad = false → ∀ x ∈ (readM B n s).1, valOk x = true := by
  induction n with
  | zero => intro s _ x hx; simp [readM] at hx
  | succ n ih =>
    intro s h x hx
    unfold readM at h hx
    by_cases hb : s.bad = true
    · rw [if_pos hb] at hx; simp at hx
    · rw [if_neg hb] at h hx
      simp only [List.mem_cons] at hx
      rcases hx with rfl | hx
      · have h2 : (valueM B s).2.bad = false := by
          cases h3 : (valueM B s).2.bad with
          | false => rfl
          | true =>
            cases n with
            | zero => simp only [readM] at h; rw [h3] at h; cases h
            | succ n => simp only [readM] at h; rw [if_pos h3] at h; simp only at h; rw [h3] at h; cases h
        unfold valueM at h2 ⊢
        simp only [Bool.or_eq_false_iff] at h2
        simpa using h2.2
      · exact ih _ h x hx
theorem gl_ok (B : List UInt8) : ∀ x ∈ gl (getM B), valOk x = true := by
  unfold getM gl
  split
  · simp
  · split
    · simp
    · rename_i h; exact readM_ok B _ _ (by simpa using h)
theorem rowM_ok (s : SR) : ∀ x ∈ (rowM s).1, valOk x = true := by
  unfold rowM
  split
  · simp
  · exact gl_ok _
theorem intsNm_size (n : Nat) (s : SR) : (intsNm n s).size ≤ 64 := by
  unfold intsNm
  split
  · rename_i h
    have hl : (rowM s).1.length = n + 1 := by unfold intsOk at h; simp only [Bool.and_eq_true, decide_eq_true_eq] at h; exact h.1
    have := rowM_ok s
    cases hh : (rowM s).1 with
    | nil => rw [hh] at hl; simp at hl
    | cons x t => rw [hh] at this; exact valOk_size (this x (by simp))
  · decide
theorem intsS_len (n : Nat) (s : SR) : (intsS n s).rest.length ≤ s.rest.length := by
  unfold intsS; split <;> exact rowM_len s

theorem bytes_conv {w : World} {base : Nat} {v : Value} {l : List UInt8} (h : Bytes w base v l) : (convert 28 9 v).run Tryz.prog w = .ok (.string ⟨l.toArray⟩) w := by
  obtain ⟨a, cap, rfl, hc⟩ := h.form
  refine bat_conv (P := Any) ⟨a, cap, by simp, by simpa using hc, fun j x hx => ?_⟩
  have hl : 0 < l.length := by have := get_lt hx; rw [List.length_map] at this; omega
  obtain ⟨g, cap', he, _, hlt⟩ := World.ownsRow.form h hl
  simp only [Value.slice.injEq, true_and] at he
  obtain ⟨rfl, rfl⟩ := he
  refine ⟨g, 0, [.int .u8 x], rfl, trivial, hlt, rfl, fun i u hu => ?_⟩
  match i, hu with
  | 0, hu =>
    simp at hu; subst hu
    refine own_cell h _ _ ?_
    rw [List.getElem?_map] at hx ⊢
    cases hy : l[j]? with
    | none => rw [hy] at hx; simp at hx
    | some y => rw [hy] at hx; simp at hx; subst hx; simp [kint, hy, bcell]
  | i + 1, hu => simp at hu

set_option maxRecDepth 100000 in
set_option maxHeartbeats 6400000 in
theorem sr_query (w : World) (p n0 : Nat) (s0 : SR) (h : SRd 69 w p s0) (hb : (s0.rest.length : Int) ≤ 16777216) (hn : n0 ≤ 16384) : Calls Tryz.prog 33 #[.pointer (some ⟨p, 0, none⟩), .int .i64 (n0 : Int)] w (QryPost 69 p n0 s0 w) := by
  have H := Lib.hid h
  have HPL := Lib.hid h.lt
  clear h
  go_enter Tryz.func33, Tryz.ntmps33
  go_wp2_with fail
  go_loopg [1, 5] n0 (fun g nv ov wr => ∃ (n : Nat) (z : Int) (s : SR) (o : List UInt8), n ≤ g ∧ nv = .int .i64 z ∧ z ≤ n ∧ (n : Int) ≤ 16384 ∧ -64 ≤ z ∧ (0 < z → z = n) ∧ (0 < n → z = n) ∧ Hid (SRd 69 wr p s) ∧ Hid (Kept [p] w wr) ∧ Hid (Bytes wr w.heap.size ov o) ∧ Hid (s.rest.length ≤ s0.rest.length) ∧ Hid (queryM n0 s0 [] = queryM n s o) ∧ Hid (o.length ≤ 16384 + 64 ∧ (n = 0 ∨ o.length + n ≤ 16384)))
  case atStart => exact ⟨n0, n0, s0, [], Nat.le_refl _, rfl, Int.le_refl _, by omega, by omega, fun _ => rfl, fun _ => rfl, H, Lib.hid (Kept.refl _ _), Lib.hid (by exact ⟨by simp, .inl ⟨rfl, rfl⟩⟩), Lib.hid (Nat.le_refl _), Lib.hid rfl, Lib.hid ⟨by simp, by simp; omega⟩⟩
  case round =>
    obtain ⟨n, z, s, o, hng, rfl, hz1, hn2, hz3, hz4, hz5, HR, HK, HO, HL, HQ, HLEN⟩ := hrel
    obtain ⟨wo, hwo⟩ : ∃ wo : World, wo = wr := ⟨_, rfl⟩
    subst hwo
    obtain ⟨ra, rc, hr1, hr2⟩ := HR.out
    have r1 := hr1.cell (i := 1) rfl
    have f1 := hr1.free 1
    clear hr1 hr2
    by_cases h0 : n = 0
    · have hz0 : ¬ 0 < z := by omega
      have HE : Hid (queryM n0 s0 [] = (o, s)) := Lib.hid (by rw [HQ.out, queryM, if_pos (.inl h0)])
      obtain ⟨oa, oc, hoe, _⟩ := HO.out.form
      subst hoe
      have hcv := bytes_conv HO.out
      clear hz1 hz4 hz5
      go_wp2_with fail
      go_ret
      exact ⟨by rw [HE.out]; rfl, by rw [HE.out]; exact HR.out, HK.out⟩
    · have hzn : z = n := hz5 (by omega)
      subst hzn
      clear hz1 hz4 hz5 hz3
      have hn1 : (0 : Int) < (n : Int) := by omega
      cases hbad : s.bad
      · rw [hbad] at r1
        have HC : Hid (Calls Tryz.prog 32 #[.pointer (some ⟨p, 0, none⟩), .int .i64 0] wo (SIntsPost 69 p 0 s wo)) := Lib.hid (sr_ints wo p 0 s HR.out (by have := HL.out; omega) (by omega))
        have HE : Hid (queryM n0 s0 [] = queryM (n - 64) ⟨(intsS 0 s).rest, (intsS 0 s).bad || !decide ((intsNm 0 s).size = min n 64)⟩ (o ++ (intsNm 0 s).data.toList)) := Lib.hid (by rw [HQ.out, queryM, if_neg (by rw [hbad]; simp; omega)])
        clear hbad
        go_wp2_with fail
        refine HC.out.mono ?_
        rintro e w2 ⟨v, ns, rfl, _, _, _, hr, hk⟩
        have HR2 := Lib.hid hr
        have HK2 := Lib.hid (HK.out.trans hk)
        have HO2 := Lib.hid (HO.out.kept hk (by intro g hg hm; have := HO.out.own hg; simp at hm; have := HPL.out; omega))
        have HSL := intsNm_size 0 s
        have HL2 := Lib.hid (Nat.le_trans (intsS_len 0 s) HL.out)
        have HOL : Hid ((o ++ (intsNm 0 s).data.toList).length = o.length + (intsNm 0 s).size) := Lib.hid (by simp)
        obtain ⟨ra2, rc2, hr1, _⟩ := hr
        clear hk r1 f1
        have r1 := hr1.cell (i := 1) rfl
        have f1 := hr1.free 1
        clear hr1
        generalize intsS 0 s = s1 at *
        generalize intsNm 0 s = nm at *
        have hss : (nm.size : Int) ≤ 64 := by omega
        have hnext : ∀ bd : Bool, bd = (s1.bad || !decide (nm.size = min n 64)) → Hid (SRd 69 (w2.setCell ⟨p, 1, none⟩ (.bool bd)) p ⟨s1.rest, s1.bad || !decide (nm.size = min n 64)⟩) := fun bd e => Lib.hid (by rw [← e]; exact HR2.out.mark bd)
        have HNX := Lib.hid hnext
        clear hnext
        obtain ⟨oa, oc, hoe, _⟩ := HO2.out.form
        subst hoe
        go_upto_region 4 with fail
        go_cut [] (fun wx => Hid (SRd 69 wx p ⟨s1.rest, s1.bad || !decide (nm.size = min n 64)⟩) ∧ Hid (Kept [p] w2 wx))
        case first =>
          cases hb1 : s1.bad
          · rw [hb1] at r1
            have HX := HNX.out ((nm.size : Int) != min (n : Int) 64) (by
              rw [hb1, Bool.false_or, bne, Bool.not_inj_iff, Bool.eq_iff_iff]
              simp; omega)
            clear hb1
            go_wp2_with fail
            go_meet
            case rel => exact ⟨HX, Lib.hid ((Kept.refl _ _).setCell (.inl (by simp)) _)⟩
          · rw [hb1] at r1
            have HX := HNX.out true (by rw [hb1]; rfl)
            clear hb1
            go_wp2_with fail
            go_meet
            case rel => exact ⟨HX, Lib.hid ((Kept.refl _ _).setCell (.inl (by simp)) _)⟩
        case rest =>
          obtain ⟨HX, HKX⟩ := hcut
          have HL3 : Hid ((⟨s1.rest, s1.bad || !decide (nm.size = min n 64)⟩ : SR).rest.length ≤ s0.rest.length) := Lib.hid HL2.out
          generalize (⟨s1.rest, s1.bad || !decide (nm.size = min n 64)⟩ : SR) = s2 at *
          have HO3 := Lib.hid (HO2.out.kept HKX.out (by intro g hg hm; have := HO2.out.own hg; simp at hm; have := HPL.out; omega))
          have HSZ := Lib.hid (Nat.le_trans HK2.out.size HKX.out.size)
          clear r1 f1
          go_wp2_with (at_builtin; go_must (refine wpList_text rfl _ _ rfl w.heap.size (.slice oa o.length oc) o rfl HO3.out nm rfl (by have := HLEN.out; omega) (by omega) HSZ.out ?_); intro ad cap w4 ho hk4; have HO4 := Lib.hid ho; have HK4 := Lib.hid hk4; clear ho hk4)
          have HGB : Hid (∀ x ∈ (Value.slice oa o.length oc).ownBlock.toList, w.heap.size ≤ x) := Lib.hid (fun x hx => (HO3.out.own (g := x) (by simpa using hx)).1)
          go_roundg (n - 64)
          case measure => omega
          case rel => exact ⟨n - 64, (n : Int) - 64, s2, o ++ nm.data.toList, Nat.le_refl _, rfl, by omega, by omega, by omega, fun h => by omega, fun h => by omega, Lib.hid (HX.out.next HK4.out (fun x hx => by have := HGB.out x hx; have := HPL.out; omega)), Lib.hid (Kept.fresh (HK2.out.trans HKX.out) HK4.out (fun y hy hlt => by have := HGB.out y hy; omega)), HO4, HL3, HE, Lib.hid (by have := HLEN.out; rw [HOL.out]; omega)⟩
      · have HE : Hid (queryM n0 s0 [] = (o, s)) := Lib.hid (by rw [HQ.out, queryM, if_pos (.inr hbad)])
        rw [hbad] at r1
        obtain ⟨oa, oc, hoe, _⟩ := HO.out.form
        subst hoe
        have hcv := bytes_conv HO.out
        clear hbad
        go_wp2_with fail
        go_ret
        exact ⟨by rw [HE.out]; rfl, by rw [HE.out]; exact HR.out, HK.out⟩
end Go.Proofs.YtkodiogkldboiaaGreatDoor
/- The reference's Reader: query. -/
namespace Go.Proofs.YtkodiogkldboiaaGreatDoor
open Go.RowKit

theorem str_join (o : List UInt8) (nm : ByteArray) : (⟨o.toArray⟩ : ByteArray) ++ nm = ⟨(o ++ nm.data.toList).toArray⟩ := by
  cases nm with | mk d => apply ByteArray.ext; simp

set_option maxRecDepth 100000 in
set_option maxHeartbeats 6400000 in
theorem rr_query (w : World) (p n0 : Nat) (s0 : SR) (h : SRd 80 w p s0) (hb : (s0.rest.length : Int) ≤ 16777216) (hn : n0 ≤ 16384) : Calls Tryz.prog 42 #[.pointer (some ⟨p, 0, none⟩), .int .i64 (n0 : Int)] w (QryPost 80 p n0 s0 w) := by
  have H := Lib.hid h
  clear h
  go_enter Tryz.func42, Tryz.ntmps42
  go_wp2_with fail
  go_loopg [1, 5] n0 (fun g nv ov wr => ∃ (n : Nat) (s : SR) (o : List UInt8), n ≤ g ∧ nv = .int .i64 (n : Int) ∧ (n : Int) ≤ 16384 ∧ Hid (SRd 80 wr p s) ∧ Hid (Kept [p] w wr) ∧ ov = .string ⟨o.toArray⟩ ∧ Hid (s.rest.length ≤ s0.rest.length) ∧ Hid (queryM n0 s0 [] = queryM n s o) ∧ Hid (o.length ≤ 16384 + 64 ∧ (n = 0 ∨ o.length + n ≤ 16384)))
  case atStart => exact ⟨n0, s0, [], Nat.le_refl _, rfl, by omega, H, Lib.hid (Kept.refl _ _), rfl, Lib.hid (Nat.le_refl _), Lib.hid rfl, Lib.hid ⟨by simp, by simp; omega⟩⟩
  case round =>
    obtain ⟨n, s, o, hng, rfl, hn2, HR, HK, rfl, HL, HQ, HLEN⟩ := hrel
    obtain ⟨wo, hwo⟩ : ∃ wo : World, wo = wr := ⟨_, rfl⟩
    subst hwo
    obtain ⟨ra, rc, hr1, hr2⟩ := HR.out
    have r1 := hr1.cell (i := 1) rfl
    have f1 := hr1.free 1
    clear hr1 hr2
    have hn0 : (0 : Int) ≤ (n : Int) := by omega
    by_cases h0 : n = 0
    · have hz0 : ¬ (0 : Int) < (n : Int) := by omega
      have HE : Hid (queryM n0 s0 [] = (o, s)) := Lib.hid (by rw [HQ.out, queryM, if_pos (.inl h0)])
      clear h0
      go_wp2_with fail
      go_ret
      exact ⟨by rw [HE.out]; rfl, by rw [HE.out]; exact HR.out, HK.out⟩
    · have hn1 : (0 : Int) < (n : Int) := by omega
      cases hbad : s.bad
      · rw [hbad] at r1
        have HC : Hid (Calls Tryz.prog 41 #[.pointer (some ⟨p, 0, none⟩), .int .i64 0] wo (SIntsPost 80 p 0 s wo)) := Lib.hid (rr_ints wo p 0 s HR.out (by have := HL.out; omega) (by omega))
        have HE : Hid (queryM n0 s0 [] = queryM (n - 64) ⟨(intsS 0 s).rest, (intsS 0 s).bad || !decide ((intsNm 0 s).size = min n 64)⟩ (o ++ (intsNm 0 s).data.toList)) := Lib.hid (by rw [HQ.out, queryM, if_neg (by rw [hbad]; simp; omega)])
        clear hbad
        obtain ⟨m, hm, hm1, hm2⟩ : ∃ m : Nat, m = min n 64 ∧ ((64 : Int) < (n : Int) → m = 64) ∧ (¬ (64 : Int) < (n : Int) → m = n) := ⟨_, rfl, by omega, by omega⟩
        have HM := Lib.hid hm
        have HM1 := Lib.hid hm1
        have HM2 := Lib.hid hm2
        have hm0 : (m : Int) ≤ (n : Int) := by omega
        clear hm hm1 hm2
        go_upto_if 20 with fail
        go_cut [6] (fun kv wx => kv = .int .i64 (m : Int) ∧ wx = wo)
        case first =>
          by_cases h64 : (64 : Int) < (n : Int)
          · have hk := HM1.out h64
            go_wp2_with fail
            go_meet
            case rel => exact ⟨by rw [hk]; rfl, rfl⟩
          · have hk := HM2.out h64
            have HKk := Lib.hid hk
            clear hk
            go_wp2_with fail
            go_meet
            case rel => exact ⟨by rw [HKk.out], rfl⟩
        case rest =>
        obtain ⟨rfl, hwc⟩ := hcut
        subst hwc
        go_wp2_with fail
        refine HC.out.mono ?_
        rintro e w2 ⟨v, ns, rfl, _, _, _, hr, hk⟩
        have HR2 := Lib.hid hr
        have HK2 := Lib.hid (HK.out.trans hk)
        have HSL := intsNm_size 0 s
        have HL2 := Lib.hid (Nat.le_trans (intsS_len 0 s) HL.out)
        have HOL : Hid ((o ++ (intsNm 0 s).data.toList).length = o.length + (intsNm 0 s).size) := Lib.hid (by simp)
        obtain ⟨ra2, rc2, hr1, _⟩ := hr
        clear hk r1 f1
        have r1 := hr1.cell (i := 1) rfl
        have f1 := hr1.free 1
        clear hr1
        generalize intsS 0 s = s1 at *
        generalize intsNm 0 s = nm at *
        have hss : (nm.size : Int) ≤ 64 := by omega
        have HJ := Lib.hid (str_join o nm)
        have HOL2 : Hid ((⟨o.toArray⟩ : ByteArray).size = o.length) := Lib.hid (by simp [ByteArray.size])
        generalize hob : (⟨o.toArray⟩ : ByteArray) = ob at *
        have hos : (ob.size : Int) ≤ 16448 := by have := HOL2.out; have := HLEN.out; omega
        clear hob
        rw [← HM.out] at HE
        have HL3 : Hid ((⟨s1.rest, s1.bad || !decide (nm.size = m)⟩ : SR).rest.length ≤ s0.rest.length) := Lib.hid HL2.out
        by_cases hsz : nm.size = m
        · have HX : Hid (SRd 80 w2 p ⟨s1.rest, s1.bad || !decide (nm.size = m)⟩) := Lib.hid (by rw [decide_eq_true hsz]; simpa using HR2.out)
          have hszI : (nm.size : Int) = (m : Int) := by omega
          generalize (⟨s1.rest, s1.bad || !decide (nm.size = m)⟩ : SR) = s2 at *
          subst hsz
          clear hszI
          go_wp2_with fail
          go_roundg (n - 64)
          case measure => omega
          case rel => exact ⟨n - 64, s2, o ++ nm.data.toList, Nat.le_refl _, by rw [show (n : Int) - (nm.size : Int) = ((n - 64 : Nat) : Int) by have := HM.out; omega], by omega, HX, Lib.hid (HK2.out), by rw [HJ.out], HL3, HE, Lib.hid (by have := HLEN.out; rw [HOL.out]; omega)⟩
        · have HX : Hid (SRd 80 (w2.setCell ⟨p, 1, none⟩ (.bool true)) p ⟨s1.rest, s1.bad || !decide (nm.size = m)⟩) := Lib.hid (by rw [decide_eq_false hsz]; simpa using HR2.out.mark true)
          have hszI : ¬ (nm.size : Int) = (m : Int) := by omega
          generalize (⟨s1.rest, s1.bad || !decide (nm.size = m)⟩ : SR) = s2 at *
          go_wp2_with fail
          go_roundg (n - 64)
          case measure => omega
          case rel => exact ⟨n - 64, s2, o ++ nm.data.toList, Nat.le_refl _, by rw [show (n : Int) - (m : Int) = ((n - 64 : Nat) : Int) by have := HM.out; omega], by omega, HX, Lib.hid (HK2.out.setCell (.inl (by simp)) _), by rw [HJ.out], HL3, HE, Lib.hid (by have := HLEN.out; rw [HOL.out]; omega)⟩
      · have HE : Hid (queryM n0 s0 [] = (o, s)) := Lib.hid (by rw [HQ.out, queryM, if_pos (.inr hbad)])
        rw [hbad] at r1
        clear hbad
        go_wp2_with fail
        go_ret
        exact ⟨by rw [HE.out]; rfl, by rw [HE.out]; exact HR.out, HK.out⟩
end Go.Proofs.YtkodiogkldboiaaGreatDoor
/- What is decoded, in plain words. -/
namespace Go.Proofs.YtkodiogkldboiaaGreatDoor
open Go.RowKit

/-- A deed so often, as long as nothing is bad. -/
def timesM {σ : Type} (bad : σ → Bool) (step : σ → σ) : Nat → σ → σ
  | 0, s => s
  | n + 1, s => if bad s then s else timesM bad step n (step s)
theorem timesM_bad {σ : Type} (bad : σ → Bool) (step : σ → σ) (n : Nat) (s : σ) (h : bad s = true) : timesM bad step n s = s := by
  cases n with
  | zero => rfl
  | succ n => rw [timesM, if_pos h]
def sbad {α : Type} (x : SR × α) : Bool := x.1.bad
def colNew (s : SR) : Col := ⟨⟨#[]⟩, intsNm 1 s, (intsV 1 s).headD 0⟩
def colStep (x : SR × List Col) : SR × List Col := (intsS 1 x.1, x.2 ++ [colNew x.1])
def rowStep (x : SR × List (List Val)) : SR × List (List Val) := ((rowM x.1).2, x.2 ++ [(rowM x.1).1])
def l_at (l : List Int) (i : Nat) : Nat := (l.getD i 0).toNat
def tblC (s : SR) : SR × List Col := timesM sbad colStep (l_at (intsV 2 s) 0) (intsS 2 s, [])
def tblR (s : SR) : SR × List (List Val) := timesM sbad rowStep (l_at (intsV 2 s) 1) ((tblC s).1, [])
def tblM (s : SR) : Tbl × SR := (⟨intsNm 2 s, (tblC s).2, (tblR s).2⟩, (tblR s).1)
def tblStep (x : SR × List Tbl) : SR × List Tbl := ((tblM x.1).2, x.2 ++ [(tblM x.1).1])
def faultOk (l : List Val) : Bool := decide (l.length = 1) && decide ((hd l).k = 2)
def faultM (s : SR) : Int × SR := if faultOk (rowM s).1 then ((hd (rowM s).1).n, (rowM s).2) else (0, ⟨(rowM s).2.rest, true⟩)
def faultStep (x : SR × List Int) : SR × List Int := ((faultM x.1).2, x.2 ++ [(faultM x.1).1])
/-- The reference's: nothing is added where the row is not as it must be. -/
def faultStepR (x : SR × List Int) : SR × List Int := ((faultM x.1).2, if faultOk (rowM x.1).1 then x.2 ++ [(faultM x.1).1] else x.2)

theorem faults_same (n : Nat) : ∀ x : SR × List Int, (timesM sbad faultStepR n x).1 = (timesM sbad faultStep n x).1 ∧ ((timesM sbad faultStep n x).1.bad = false → timesM sbad faultStepR n x = timesM sbad faultStep n x) := by
  induction n with
  | zero => intro x; exact ⟨rfl, fun _ => rfl⟩
  | succ n ih =>
    intro x
    rw [timesM, timesM]
    cases hb : sbad x with
    | true => exact ⟨rfl, fun _ => rfl⟩
    | false =>
      simp only [Bool.false_eq_true, if_false]
      cases hf : faultOk (rowM x.1).1 with
      | true =>
        have e : faultStepR x = faultStep x := by unfold faultStepR faultStep; rw [hf]; rfl
        rw [e]; exact ih _
      | false =>
        have e1 : sbad (faultStepR x) = true := by unfold faultStepR sbad faultM; rw [hf]; rfl
        have e2 : sbad (faultStep x) = true := by unfold faultStep sbad faultM; rw [hf]; rfl
        rw [timesM_bad _ _ _ _ e1, timesM_bad _ _ _ _ e2]
        exact ⟨rfl, fun h => by unfold sbad at e2; rw [h] at e2; cases e2⟩

def markOk (s : SR) : Bool := !(intsS 6 s).bad && (decide (intsNm 6 s = ⟨#[83]⟩) && decide (l_at (intsV 6 s) 3 ≤ 16384))
def decQ (s : SR) : List UInt8 × SR := queryM (l_at (intsV 6 s) 3) (intsS 6 s) []
def decT (s : SR) : SR × List Tbl := timesM sbad tblStep (l_at (intsV 6 s) 4) ((decQ s).2, [])
def decF (s : SR) : SR × List Int := timesM sbad faultStep (l_at (intsV 6 s) 5) ((decT s).1, [])
def decScr (s : SR) : Scr := ⟨(decT s).2, ⟨(decQ s).1.toArray⟩, (intsV 6 s).getD 0 0, (intsV 6 s).getD 1 0, (intsV 6 s).getD 2 0, (decF s).2⟩
/-- The script of bytes. -/
def decodeM (B : List UInt8) : Option Scr :=
  if markOk ⟨B, false⟩ && (!(decF ⟨B, false⟩).1.bad && (decide ((decF ⟨B, false⟩).1.rest.length = 0) && scrOk (decScr ⟨B, false⟩))) then some (decScr ⟨B, false⟩) else none

/-! ### how much is left -/
theorem stepN_bad_or (B : List UInt8) (s : RS) (n : Nat) (h : (stepN B s n).bad = false) : (stepN B s n).at_ = s.at_ + n := by
  unfold stepN at h ⊢
  split <;> rename_i hq
  · rfl
  · rw [if_neg hq] at h; cases h
theorem valueM_ge (B : List UInt8) (s : RS) : s.at_ ≤ (valueM B s).2.at_ := by
  have h : ∀ s n, s.at_ ≤ (stepN B s n).at_ := fun s n => by rw [(stepN_eq B s n).2]; split <;> omega
  have h1 := h s 1
  have h2 := fun n => h (stepN B s 1) n
  unfold valueM
  simp only
  split
  · exact Nat.le_trans h1 (h2 1)
  · split
    · exact Nat.le_trans h1 (h2 7)
    · split
      · exact Nat.le_trans (Nat.le_trans h1 (h2 1)) (h _ _)
      · exact h1
theorem readM_ge (B : List UInt8) (n : Nat) : ∀ s : RS, s.at_ ≤ (readM B n s).2.at_ := by
  induction n with
  | zero => intro s; exact Nat.le_refl _
  | succ n ih =>
    intro s
    unfold readM
    split
    · exact Nat.le_refl _
    · exact Nat.le_trans (valueM_ge B s) (ih _)
theorem readM_bad (B : List UInt8) (n : Nat) (s : RS) (h : (readM B n s).2.bad = false) : s.bad = false := by
  cases hb : s.bad with
  | false => rfl
  | true =>
    cases n with
    | zero => simp only [readM] at h; rw [hb] at h; cases h
    | succ n => rw [readM, if_pos hb] at h; simp only at h; rw [hb] at h; cases h
theorem gn_pos (B : List UInt8) (h : (getM B).isSome = true) : 0 < gn (getM B) := by
  unfold getM at h ⊢
  split at h
  · simp at h
  · split at h
    · simp at h
    · rename_i h1 h2
      rw [if_neg h1, if_neg h2]
      have h3 : (stepN B ⟨0, false⟩ 1).bad = false := readM_bad B _ _ (by simpa using h2)
      have h4 := stepN_bad_or B _ _ h3
      have := readM_ge B (byteM B 0 false) (stepN B ⟨0, false⟩ 1)
      simp [gn]
      simp at h4
      omega
theorem rowM_dec (s : SR) (h : s.bad = false) (h2 : (rowM s).2.bad = false) : (rowM s).2.rest.length + 1 ≤ s.rest.length := by
  unfold rowM at h2 ⊢
  rw [if_neg (by simp [h])] at h2 ⊢
  simp only [Bool.not_eq_false'] at h2
  have := gn_pos _ h2
  have := gn_le s.rest
  simp
  omega
theorem intsS_dec (n : Nat) (s : SR) (h : s.bad = false) (h2 : (intsS n s).bad = false) : (intsS n s).rest.length + 1 ≤ s.rest.length := by
  unfold intsS at h2 ⊢
  split at h2
  · rename_i hq; rw [if_pos hq]; exact rowM_dec s h h2
  · cases h2
theorem faultM_dec (s : SR) (h : s.bad = false) (h2 : (faultM s).2.bad = false) : (faultM s).2.rest.length + 1 ≤ s.rest.length := by
  unfold faultM at h2 ⊢
  split at h2
  · rename_i hq; rw [if_pos hq]; exact rowM_dec s h h2
  · cases h2
theorem faultM_len (s : SR) : (faultM s).2.rest.length ≤ s.rest.length := by
  unfold faultM; split <;> exact rowM_len s
theorem intsS_bad (n : Nat) (s : SR) (h : s.bad = true) : (intsS n s).bad = true := by
  unfold intsS rowM; rw [if_pos h]; split
  · exact h
  · rfl
theorem timesM_len {α : Type} (step : SR × α → SR × α) (hs : ∀ x, (step x).1.rest.length ≤ x.1.rest.length) (n : Nat) : ∀ x, (timesM sbad step n x).1.rest.length ≤ x.1.rest.length := by
  induction n with
  | zero => intro x; exact Nat.le_refl _
  | succ n ih =>
    intro x
    rw [timesM]
    split
    · exact Nat.le_refl _
    · exact Nat.le_trans (ih _) (hs x)
theorem tblC_len (s : SR) : (tblC s).1.rest.length ≤ (intsS 2 s).rest.length := timesM_len colStep (fun x => intsS_len 1 x.1) _ _
theorem tblM_len (s : SR) : (tblM s).2.rest.length ≤ s.rest.length :=
  Nat.le_trans (timesM_len rowStep (fun x => rowM_len x.1) _ _) (Nat.le_trans (tblC_len s) (intsS_len 2 s))
theorem timesM_bad_in {α : Type} (step : SR × α → SR × α) (n : Nat) (x : SR × α) (h : (timesM sbad step n x).1.bad = false) : x.1.bad = false := by
  cases hb : x.1.bad with
  | false => rfl
  | true => rw [timesM_bad _ _ _ _ (show sbad x = true from hb), hb] at h; cases h
theorem tblM_dec (s : SR) (h : s.bad = false) (h2 : (tblM s).2.bad = false) : (tblM s).2.rest.length + 1 ≤ s.rest.length := by
  have h3 : (tblC s).1.bad = false := timesM_bad_in rowStep _ _ h2
  have h4 : (intsS 2 s).bad = false := timesM_bad_in colStep _ _ h3
  have h5 := intsS_dec 2 s h h4
  have h6 := tblC_len s
  have h7 := timesM_len rowStep (fun x => rowM_len x.1) (l_at (intsV 2 s) 1) ((tblC s).1, [])
  exact Nat.le_trans (Nat.add_le_add_right (Nat.le_trans h7 h6) 1) h5
end Go.Proofs.YtkodiogkldboiaaGreatDoor
/- script.reader.times, at each closure. -/
namespace Go.Proofs.YtkodiogkldboiaaGreatDoor
open Go.RowKit

set_option maxRecDepth 100000 in
set_option maxHeartbeats 3200000 in
theorem times_60 {σ : Type} (c1 c2 : Value) (bad : σ → Bool) (step : σ → σ) (J : σ → World → Prop) (w : World) (p N : Nat) (z : Int) (s0 : σ) (hJ : J s0 w) (hN : (N : Int) ≤ 9007199254740992) (hz : bad s0 = false → z = N)
    (hb : ∀ s w, J s w → w.cell? ⟨p, 1, none⟩ = some (.bool (bad s)))
    (hs : ∀ s w, J s w → bad s = false → Calls Tryz.prog 60 #[c1, c2] w (fun e w' => e = .returned (.tuple #[]) ∧ J (step s) w')) :
    Calls Tryz.prog 34 #[.pointer (some ⟨p, 0, none⟩), .int .i64 z, .func (.func 60) #[] #[c1, c2]] w (fun e w' => e = .returned (.tuple #[]) ∧ J (timesM bad step N s0) w') := by
  have HB := Lib.hid hb
  have HS := Lib.hid hs
  have HJ := Lib.hid hJ
  have HZ := Lib.hid hz
  clear hb hs hJ hz
  go_enter Tryz.func34, Tryz.ntmps34
  go_wp2_with fail
  go_loopg [6] (N + 1) (fun g i wr => ∃ (k : Nat) (s : σ), k + g = N + 1 ∧ i = .int .i64 k ∧ Hid (J s wr) ∧ Hid (timesM bad step N s0 = timesM bad step (N - k) s) ∧ Hid (bad s = false → z = N) ∧ k ≤ N)
  case atStart => exact ⟨0, s0, by omega, rfl, HJ, Lib.hid rfl, HZ, Nat.zero_le _⟩
  case round =>
    obtain ⟨k, s, hk, rfl, HJk, HT, HZk, hkn⟩ := hrel
    obtain ⟨wo, hwo⟩ : ∃ wo : World, wo = wr := ⟨_, rfl⟩
    subst hwo
    have r1 := HB.out s wo HJk.out
    have hk0 : (0 : Int) ≤ (k : Int) := by omega
    cases hbad : bad s
    · obtain rfl := HZk.out hbad
      rw [hbad] at r1
      by_cases hlt : k < N
      · have hlt' : (k : Int) < (N : Int) := by omega
        have HC := Lib.hid (HS.out s wo HJk.out hbad)
        have HT2 : Hid (timesM bad step N s0 = timesM bad step (N - (k + 1)) (step s)) := Lib.hid (by rw [HT.out, show N - k = (N - (k + 1)) + 1 by omega, timesM, if_neg (by rw [hbad]; simp)])
        clear hbad
        go_wp2_with fail
        refine HC.out.mono ?_
        rintro e w2 ⟨rfl, hj⟩
        have HJ2 := Lib.hid hj
        clear hj r1
        go_wp2_with fail
        go_roundg (N + 1 - (k + 1))
        case measure => omega
        case rel => exact ⟨k + 1, step s, by omega, by go_num, HJ2, HT2, Lib.hid (fun _ => by trivial), by omega⟩
      · have hlt' : ¬ (k : Int) < (N : Int) := by omega
        have HE : Hid (timesM bad step N s0 = s) := Lib.hid (by rw [HT.out, show N - k = 0 by omega]; rfl)
        clear hbad
        go_wp2_with fail
        go_end0
        exact ⟨rfl, by rw [HE.out]; exact HJk.out⟩
    · rw [hbad] at r1
      have HE : Hid (timesM bad step N s0 = s) := Lib.hid (by rw [HT.out, timesM_bad _ _ _ _ hbad])
      clear hbad
      by_cases hlt : (k : Int) < z
      · go_wp2_with fail
        go_end0
        exact ⟨rfl, by rw [HE.out]; exact HJk.out⟩
      · go_wp2_with fail
        go_end0
        exact ⟨rfl, by rw [HE.out]; exact HJk.out⟩

set_option maxRecDepth 100000 in
set_option maxHeartbeats 3200000 in
theorem times_61 {σ : Type} (c1 c2 : Value) (bad : σ → Bool) (step : σ → σ) (J : σ → World → Prop) (w : World) (p N : Nat) (z : Int) (s0 : σ) (hJ : J s0 w) (hN : (N : Int) ≤ 9007199254740992) (hz : bad s0 = false → z = N)
    (hb : ∀ s w, J s w → w.cell? ⟨p, 1, none⟩ = some (.bool (bad s)))
    (hs : ∀ s w, J s w → bad s = false → Calls Tryz.prog 61 #[c1, c2] w (fun e w' => e = .returned (.tuple #[]) ∧ J (step s) w')) :
    Calls Tryz.prog 34 #[.pointer (some ⟨p, 0, none⟩), .int .i64 z, .func (.func 61) #[] #[c1, c2]] w (fun e w' => e = .returned (.tuple #[]) ∧ J (timesM bad step N s0) w') := by
  have HB := Lib.hid hb
  have HS := Lib.hid hs
  have HJ := Lib.hid hJ
  have HZ := Lib.hid hz
  clear hb hs hJ hz
  go_enter Tryz.func34, Tryz.ntmps34
  go_wp2_with fail
  go_loopg [6] (N + 1) (fun g i wr => ∃ (k : Nat) (s : σ), k + g = N + 1 ∧ i = .int .i64 k ∧ Hid (J s wr) ∧ Hid (timesM bad step N s0 = timesM bad step (N - k) s) ∧ Hid (bad s = false → z = N) ∧ k ≤ N)
  case atStart => exact ⟨0, s0, by omega, rfl, HJ, Lib.hid rfl, HZ, Nat.zero_le _⟩
  case round =>
    obtain ⟨k, s, hk, rfl, HJk, HT, HZk, hkn⟩ := hrel
    obtain ⟨wo, hwo⟩ : ∃ wo : World, wo = wr := ⟨_, rfl⟩
    subst hwo
    have r1 := HB.out s wo HJk.out
    have hk0 : (0 : Int) ≤ (k : Int) := by omega
    cases hbad : bad s
    · obtain rfl := HZk.out hbad
      rw [hbad] at r1
      by_cases hlt : k < N
      · have hlt' : (k : Int) < (N : Int) := by omega
        have HC := Lib.hid (HS.out s wo HJk.out hbad)
        have HT2 : Hid (timesM bad step N s0 = timesM bad step (N - (k + 1)) (step s)) := Lib.hid (by rw [HT.out, show N - k = (N - (k + 1)) + 1 by omega, timesM, if_neg (by rw [hbad]; simp)])
        clear hbad
        go_wp2_with fail
        refine HC.out.mono ?_
        rintro e w2 ⟨rfl, hj⟩
        have HJ2 := Lib.hid hj
        clear hj r1
        go_wp2_with fail
        go_roundg (N + 1 - (k + 1))
        case measure => omega
        case rel => exact ⟨k + 1, step s, by omega, by go_num, HJ2, HT2, Lib.hid (fun _ => by trivial), by omega⟩
      · have hlt' : ¬ (k : Int) < (N : Int) := by omega
        have HE : Hid (timesM bad step N s0 = s) := Lib.hid (by rw [HT.out, show N - k = 0 by omega]; rfl)
        clear hbad
        go_wp2_with fail
        go_end0
        exact ⟨rfl, by rw [HE.out]; exact HJk.out⟩
    · rw [hbad] at r1
      have HE : Hid (timesM bad step N s0 = s) := Lib.hid (by rw [HT.out, timesM_bad _ _ _ _ hbad])
      clear hbad
      by_cases hlt : (k : Int) < z
      · go_wp2_with fail
        go_end0
        exact ⟨rfl, by rw [HE.out]; exact HJk.out⟩
      · go_wp2_with fail
        go_end0
        exact ⟨rfl, by rw [HE.out]; exact HJk.out⟩

set_option maxRecDepth 100000 in
set_option maxHeartbeats 3200000 in
theorem times_35 {σ : Type} (c1 c2 : Value) (bad : σ → Bool) (step : σ → σ) (J : σ → World → Prop) (w : World) (p N : Nat) (z : Int) (s0 : σ) (hJ : J s0 w) (hN : (N : Int) ≤ 9007199254740992) (hz : bad s0 = false → z = N)
    (hb : ∀ s w, J s w → w.cell? ⟨p, 1, none⟩ = some (.bool (bad s)))
    (hs : ∀ s w, J s w → bad s = false → Calls Tryz.prog 35 #[c1, c2] w (fun e w' => e = .returned (.tuple #[]) ∧ J (step s) w')) :
    Calls Tryz.prog 34 #[.pointer (some ⟨p, 0, none⟩), .int .i64 z, .func (.func 35) #[] #[c1, c2]] w (fun e w' => e = .returned (.tuple #[]) ∧ J (timesM bad step N s0) w') := by
  have HB := Lib.hid hb
  have HS := Lib.hid hs
  have HJ := Lib.hid hJ
  have HZ := Lib.hid hz
  clear hb hs hJ hz
  go_enter Tryz.func34, Tryz.ntmps34
  go_wp2_with fail
  go_loopg [6] (N + 1) (fun g i wr => ∃ (k : Nat) (s : σ), k + g = N + 1 ∧ i = .int .i64 k ∧ Hid (J s wr) ∧ Hid (timesM bad step N s0 = timesM bad step (N - k) s) ∧ Hid (bad s = false → z = N) ∧ k ≤ N)
  case atStart => exact ⟨0, s0, by omega, rfl, HJ, Lib.hid rfl, HZ, Nat.zero_le _⟩
  case round =>
    obtain ⟨k, s, hk, rfl, HJk, HT, HZk, hkn⟩ := hrel
    obtain ⟨wo, hwo⟩ : ∃ wo : World, wo = wr := ⟨_, rfl⟩
    subst hwo
    have r1 := HB.out s wo HJk.out
    have hk0 : (0 : Int) ≤ (k : Int) := by omega
    cases hbad : bad s
    · obtain rfl := HZk.out hbad
      rw [hbad] at r1
      by_cases hlt : k < N
      · have hlt' : (k : Int) < (N : Int) := by omega
        have HC := Lib.hid (HS.out s wo HJk.out hbad)
        have HT2 : Hid (timesM bad step N s0 = timesM bad step (N - (k + 1)) (step s)) := Lib.hid (by rw [HT.out, show N - k = (N - (k + 1)) + 1 by omega, timesM, if_neg (by rw [hbad]; simp)])
        clear hbad
        go_wp2_with fail
        refine HC.out.mono ?_
        rintro e w2 ⟨rfl, hj⟩
        have HJ2 := Lib.hid hj
        clear hj r1
        go_wp2_with fail
        go_roundg (N + 1 - (k + 1))
        case measure => omega
        case rel => exact ⟨k + 1, step s, by omega, by go_num, HJ2, HT2, Lib.hid (fun _ => by trivial), by omega⟩
      · have hlt' : ¬ (k : Int) < (N : Int) := by omega
        have HE : Hid (timesM bad step N s0 = s) := Lib.hid (by rw [HT.out, show N - k = 0 by omega]; rfl)
        clear hbad
        go_wp2_with fail
        go_end0
        exact ⟨rfl, by rw [HE.out]; exact HJk.out⟩
    · rw [hbad] at r1
      have HE : Hid (timesM bad step N s0 = s) := Lib.hid (by rw [HT.out, timesM_bad _ _ _ _ hbad])
      clear hbad
      by_cases hlt : (k : Int) < z
      · go_wp2_with fail
        go_end0
        exact ⟨rfl, by rw [HE.out]; exact HJk.out⟩
      · go_wp2_with fail
        go_end0
        exact ⟨rfl, by rw [HE.out]; exact HJk.out⟩

set_option maxRecDepth 100000 in
set_option maxHeartbeats 3200000 in
theorem times_37 {σ : Type} (c1 c2 : Value) (bad : σ → Bool) (step : σ → σ) (J : σ → World → Prop) (w : World) (p N : Nat) (z : Int) (s0 : σ) (hJ : J s0 w) (hN : (N : Int) ≤ 9007199254740992) (hz : bad s0 = false → z = N)
    (hb : ∀ s w, J s w → w.cell? ⟨p, 1, none⟩ = some (.bool (bad s)))
    (hs : ∀ s w, J s w → bad s = false → Calls Tryz.prog 37 #[c1, c2] w (fun e w' => e = .returned (.tuple #[]) ∧ J (step s) w')) :
    Calls Tryz.prog 34 #[.pointer (some ⟨p, 0, none⟩), .int .i64 z, .func (.func 37) #[] #[c1, c2]] w (fun e w' => e = .returned (.tuple #[]) ∧ J (timesM bad step N s0) w') := by
  have HB := Lib.hid hb
  have HS := Lib.hid hs
  have HJ := Lib.hid hJ
  have HZ := Lib.hid hz
  clear hb hs hJ hz
  go_enter Tryz.func34, Tryz.ntmps34
  go_wp2_with fail
  go_loopg [6] (N + 1) (fun g i wr => ∃ (k : Nat) (s : σ), k + g = N + 1 ∧ i = .int .i64 k ∧ Hid (J s wr) ∧ Hid (timesM bad step N s0 = timesM bad step (N - k) s) ∧ Hid (bad s = false → z = N) ∧ k ≤ N)
  case atStart => exact ⟨0, s0, by omega, rfl, HJ, Lib.hid rfl, HZ, Nat.zero_le _⟩
  case round =>
    obtain ⟨k, s, hk, rfl, HJk, HT, HZk, hkn⟩ := hrel
    obtain ⟨wo, hwo⟩ : ∃ wo : World, wo = wr := ⟨_, rfl⟩
    subst hwo
    have r1 := HB.out s wo HJk.out
    have hk0 : (0 : Int) ≤ (k : Int) := by omega
    cases hbad : bad s
    · obtain rfl := HZk.out hbad
      rw [hbad] at r1
      by_cases hlt : k < N
      · have hlt' : (k : Int) < (N : Int) := by omega
        have HC := Lib.hid (HS.out s wo HJk.out hbad)
        have HT2 : Hid (timesM bad step N s0 = timesM bad step (N - (k + 1)) (step s)) := Lib.hid (by rw [HT.out, show N - k = (N - (k + 1)) + 1 by omega, timesM, if_neg (by rw [hbad]; simp)])
        clear hbad
        go_wp2_with fail
        refine HC.out.mono ?_
        rintro e w2 ⟨rfl, hj⟩
        have HJ2 := Lib.hid hj
        clear hj r1
        go_wp2_with fail
        go_roundg (N + 1 - (k + 1))
        case measure => omega
        case rel => exact ⟨k + 1, step s, by omega, by go_num, HJ2, HT2, Lib.hid (fun _ => by trivial), by omega⟩
      · have hlt' : ¬ (k : Int) < (N : Int) := by omega
        have HE : Hid (timesM bad step N s0 = s) := Lib.hid (by rw [HT.out, show N - k = 0 by omega]; rfl)
        clear hbad
        go_wp2_with fail
        go_end0
        exact ⟨rfl, by rw [HE.out]; exact HJk.out⟩
    · rw [hbad] at r1
      have HE : Hid (timesM bad step N s0 = s) := Lib.hid (by rw [HT.out, timesM_bad _ _ _ _ hbad])
      clear hbad
      by_cases hlt : (k : Int) < z
      · go_wp2_with fail
        go_end0
        exact ⟨rfl, by rw [HE.out]; exact HJk.out⟩
      · go_wp2_with fail
        go_end0
        exact ⟨rfl, by rw [HE.out]; exact HJk.out⟩
end Go.Proofs.YtkodiogkldboiaaGreatDoor
/- How a row of any kind grows by one: the law of append. -/
namespace Go.Proofs.YtkodiogkldboiaaGreatDoor
open Go.RowKit

theorem wp_push {α : Type} {K : Kd α} {o : Oper} {a : Act} {Kk : Act → World → Prop} {Q : Exit → Act → World → Prop} {w : World} (t e by_ : Nat) (z : Value) (hu : Tryz.prog.underlying t = some (.slice e)) (hi : (Tryz.prog.info? e).map (fun i => (i.zero, i.size, i.bytes)) = some (some z, K.sz, by_)) (hzc : z.cells.size = K.sz) (hsz : 0 < K.sz) (hby : by_ ≤ 100)
    (sl x : Operand) (ho : o.op = .call { callee := .builtin .append, args := #[sl, x], argTypes := #[t, t] }) (base : Nat) (P : Nat → Prop) (v : Value) (L : List α) (hs : a.eval sl = v) (hown : K.Row e w base P v L)
    (b : Nat) (cs : List Value) (y : α) (hx : a.eval x = .slice (some ⟨b, 0, none⟩) 1 1) (hb : Arr w b e cs) (hy : K.E w (Av P v) y cs) (hl : L.length ≤ 1073741824) (hbase : base ≤ w.heap.size)
    (h : ∀ g cap w', K.Row e w' base P (.slice (some ⟨g, 0, none⟩) (L.length + 1) cap) (L ++ [y]) → Kept v.ownBlock.toList w w' → Kk (a.put o.dst (.slice (some ⟨g, 0, none⟩) (L.length + 1) cap)) w') : Oper.wp Tryz.prog o a w Kk Q := by
  obtain ⟨i0, hi0, hz0, hz1, hz2⟩ := info_parts hi
  obtain ⟨xs, hxs, hel⟩ := hown
  refine wp_append_lies _ sl x t ho base e i0 z K.sz by_ hu hi0 hz0 hz1 hz2 hzc hsz v L.length xs hs hxs ⟨b, 0, none⟩ 1 1 cs hx (by rw [K.len hy, Nat.one_mul]) (World.news_of_block (cs := cs.toArray) (t := e) (fr := (0, 0)) hb) (K.one hy) (by decide) (by unfold maxLen; omega) (Nat.le_trans (Nat.mul_le_mul_left _ hby) (by omega)) hbase w.heap.size rfl ?_
  intro g cap w' ho hg hat hlt
  exact h g cap w' (Kd.Row.push hxs hel (Kept.refl [] w) hy ho hg hat) (grown_kept hg)
theorem wpList_push {α : Type} {K : Kd α} {ops : Array Oper} {rest : List Oper} {o : Oper} {a : Act} {Q : Exit → Act → World → Prop} {w : World} (hgd : o.guard = none) (t e by_ : Nat) (z : Value) (hu : Tryz.prog.underlying t = some (.slice e)) (hi : (Tryz.prog.info? e).map (fun i => (i.zero, i.size, i.bytes)) = some (some z, K.sz, by_)) (hzc : z.cells.size = K.sz) (hsz : 0 < K.sz) (hby : by_ ≤ 100)
    (sl x : Operand) (ho : o.op = .call { callee := .builtin .append, args := #[sl, x], argTypes := #[t, t] }) (base : Nat) (P : Nat → Prop) (v : Value) (L : List α) (hs : a.eval sl = v) (hown : K.Row e w base P v L)
    (b : Nat) (cs : List Value) (y : α) (hx : a.eval x = .slice (some ⟨b, 0, none⟩) 1 1) (hb : Arr w b e cs) (hy : K.E w (Av P v) y cs) (hl : L.length ≤ 1073741824) (hbase : base ≤ w.heap.size)
    (h : ∀ g cap w', K.Row e w' base P (.slice (some ⟨g, 0, none⟩) (L.length + 1) cap) (L ++ [y]) → Kept v.ownBlock.toList w w' → wpList Tryz.prog ops Q rest (a.put o.dst (.slice (some ⟨g, 0, none⟩) (L.length + 1) cap)) w') : wpList Tryz.prog ops Q (o :: rest) a w :=
  wpList_plain hgd fun _ hK => wp_push t e by_ z hu hi hzc hsz hby sl x ho base P v L hs hown b cs y hx hb hy hl hbase fun g cap w' h2 h3 => hK _ _ (h g cap w' h2 h3)

theorem Tryz.info85 : (Tryz.prog.info? 85).map (fun i => (i.zero, i.size, i.bytes)) = some (some (.agg #[.string ⟨#[]⟩, .string ⟨#[]⟩, .int .i64 0]), 3, 40) := by kernel_rfl
theorem Tryz.info53 : (Tryz.prog.info? 53).map (fun i => (i.zero, i.size, i.bytes)) = some (some (.agg #[.string ⟨#[]⟩, .slice none 0 0, .slice none 0 0]), 3, 64) := by kernel_rfl

/-- Blocks of two types are two blocks. -/
theorem Kd.Row.sep {α : Type} {K : Kd α} {e : TypeId} {w : World} {base bx T : Nat} {P : Nat → Prop} {v : Value} {L : List α} {xs : List Value} (h : K.Row e w base P v L) (A : Arr w bx T xs) (hT : T ≠ e) : bx ∉ v.ownBlock.toList := by
  obtain ⟨ys, hown, _⟩ := h
  rcases hown.2 with ⟨rfl, _⟩ | ⟨g, cap, cur, rfl, _, hh, _⟩
  · simp [Value.ownBlock]
  · intro hm
    simp only [Value.ownBlock, Option.toList_some, List.mem_singleton] at hm
    subst hm
    unfold Arr at A
    rw [hh] at A
    simp at A
    exact hT A.2.symm
theorem Kd.Row.off {α β : Type} {K : Kd α} {K' : Kd β} {e e' : TypeId} {w : World} {base base' : Nat} {P P' : Nat → Prop} {v v' : Value} {L : List α} {L' : List β} (h : K.Row e w base P v L) (h' : K'.Row e' w base' P' v' L') (hT : e ≠ e') : ∀ g, v.ownBlock = some g → g ∉ v'.ownBlock.toList := by
  intro g hg
  obtain ⟨ys, hown, _⟩ := h
  rcases hown.2 with ⟨rfl, _⟩ | ⟨g', cap, cur, rfl, _, hh, _⟩
  · simp [Value.ownBlock] at hg
  · simp only [Value.ownBlock, Option.some.injEq] at hg
    subst hg
    exact h'.sep (xs := cur.toList) (by unfold Arr; simpa using hh) hT
/-- What is new is apart from a row that is elder. -/
theorem av_from {α : Type} {K : Kd α} {e : TypeId} {wi : World} {base : Nat} {P : Nat → Prop} {v : Value} {L : List α} (hw : K.Row e wi base P v L) {h b : Nat} (hh : wi.heap.size ≤ h) (hP : P b) (hb : h ≤ b) : Av P v b :=
  ⟨hP, fun e => by have := hw.block e; omega⟩
end Go.Proofs.YtkodiogkldboiaaGreatDoor
/- script.reader.table: how a column is read. -/
namespace Go.Proofs.YtkodiogkldboiaaGreatDoor
open Go.RowKit

/-- A table whose columns are being read. -/
def ColJ (T : TypeId) (p q M : Nat) (nm : ByteArray) (w0 : World) (x : SR × List Col) (w : World) : Prop :=
  SRd T w p x.1 ∧ (∃ cv, Arr w q 53 [.string nm, cv, .slice none 0 0] ∧ kcol.Row 85 w w0.heap.size NoB cv x.2) ∧ Kept [p, q] w0 w ∧ x.1.rest.length ≤ M ∧ (x.1.bad = false → x.2.length + x.1.rest.length ≤ M) ∧ x.2.length ≤ M + 1
theorem colNew_at (s : SR) (ns : List Int) (h : ns = intsV 1 s) (hl : ns.length = 1) : ∃ n0, ns = [n0] ∧ colNew s = ⟨⟨#[]⟩, intsNm 1 s, n0⟩ := by
  match ns, hl with
  | [n0], _ => exact ⟨n0, rfl, by unfold colNew; rw [← h]; rfl⟩
theorem ColJ.step {T : TypeId} {p q M : Nat} {nm : ByteArray} {w0 w w' : World} {x : SR × List Col} {cv : Value} (h : ColJ T p q M nm w0 x w) (hb : x.1.bad = false) (hs : SRd T w' p (intsS 1 x.1)) (ha : Arr w' q 53 [.string nm, cv, .slice none 0 0]) (hr : kcol.Row 85 w' w0.heap.size NoB cv (x.2 ++ [colNew x.1])) (hk : Kept [p, q] w0 w') : ColJ T p q M nm w0 (colStep x) w' := by
  obtain ⟨_, _, _, h4, h5, h6⟩ := h
  have := intsS_len 1 x.1
  have h7 := h5 hb
  refine ⟨hs, ⟨cv, ha, hr⟩, hk, by show (intsS 1 x.1).rest.length ≤ M; omega, fun hb2 => ?_, ?_⟩
  · have := intsS_dec 1 x.1 hb hb2
    show (x.2 ++ [colNew x.1]).length + (intsS 1 x.1).rest.length ≤ M
    simp; omega
  · show (x.2 ++ [colNew x.1]).length ≤ M + 1
    simp; omega

set_option maxRecDepth 100000 in
set_option maxHeartbeats 6400000 in
theorem cl60 (w0 w : World) (p q rb M : Nat) (nm : ByteArray) (x : SR × List Col) (h : ColJ 69 p q M nm w0 x w) (hrb : Arr w0 rb 67 [.pointer (some ⟨p, 0, none⟩)]) (hnr : rb ≠ p ∧ rb ≠ q) (hpq : p < q) (hq : q < w0.heap.size) (hM : (M : Int) ≤ 16000000) (hbad : x.1.bad = false) :
    Calls Tryz.prog 60 #[.pointer (some ⟨rb, 0, none⟩), .pointer (some ⟨q, 0, none⟩)] w (fun e w' => e = .returned (.tuple #[]) ∧ ColJ 69 p q M nm w0 (colStep x) w') := by
  have H := Lib.hid h
  have HRB := Lib.hid hrb
  obtain ⟨h1, ⟨cv, h2, h3⟩, h4, h5, h6, h7⟩ := h
  have c0 := (hrb.kept h4 (by simp [hnr.1, hnr.2])).cell (i := 0) rfl
  have HC : Hid (Calls Tryz.prog 32 #[.pointer (some ⟨p, 0, none⟩), .int .i64 1] w (SIntsPost 69 p 1 x.1 w)) := Lib.hid (sr_ints w p 1 x.1 h1 (by omega) (by decide))
  have HA := Lib.hid h2
  have HRW := Lib.hid h3
  have HK := Lib.hid h4
  have HBAD := Lib.hid hbad
  have HLEN := Lib.hid h7
  clear h1 h2 h3 h4 h5 h6 h7 hrb hbad
  go_enter Tryz.func60, Tryz.ntmps60
  go_wp2_with fail
  refine HC.out.mono ?_
  rintro e w2 ⟨v, ns, rfl, hv, hl, hns, hsr, hk⟩
  obtain ⟨n0, rfl, hcn⟩ := colNew_at x.1 ns (hns (.inr (by decide))) hl
  obtain ⟨b, o, cap, rfl, hbw, hbs, y0⟩ := int_at hv (j := 0) (x := n0) rfl
  rw [Nat.add_zero] at y0
  simp only [List.length_singleton]
  have HCN := Lib.hid hcn
  have HSR := Lib.hid hsr
  have HBW := Lib.hid hbw
  have hbw2 : w.heap.size ≤ b := hbw
  have HA2 := Lib.hid (HA.out.kept hk (by simp; omega))
  have HRW2 := Lib.hid (HRW.out.next hk (fun g hg => by have := HRW.out.block hg; simp; omega) (fun _ h => h.elim) (fun _ h _ => h))
  have HK2 := Lib.hid (HK.out.trans (hk.mono (S' := [p, q]) (by intro k _ h; simp at h; simp [h])))
  have hqw : q < w2.heap.size := Arr.lt HA2.out
  clear hv hl hns hcn hsr hbw hk c0
  have c1 := HA2.out.cell (i := 1) rfl
  have f1 := HA2.out.free 1
  obtain ⟨ca, cc, hf, _⟩ := HRW2.out.form
  subst hf
  have HOFF : Hid (∀ g ∈ (Value.slice ca x.2.length cc).ownBlock.toList, w0.heap.size ≤ g ∧ g < w.heap.size) := Lib.hid (fun g hg => HRW.out.block (g := g) (by simpa using hg))
  go_wp2_with fail
  go_region_law (first | (rw [if_pos (by rfl)]; refine wp_push 50 85 40 _ Tryz.underlying50 Tryz.info85 rfl (by decide) (by decide) _ _ (by rfl) w0.heap.size NoB (.slice ca x.2.length cc) x.2 (by rfl) (HRW2.out.kept (by first | exact ((Kept.refl [] w2).drewN _).alloc _ | exact (Kept.refl [] w2).alloc _ | exact ((Kept.refl [] w2).drew).alloc _)) w2.heap.size [.string ⟨#[]⟩, .string (intsNm 1 x.1), .int .i64 n0] (colNew x.1) (by rfl) (Arr.new' (by simp) rfl) (by rw [HCN.out]; rfl) (by have := HLEN.out; omega) (by have := HK2.out.size; simp; omega) ?_; intro g cap2 w3 ho3 hk3; have kk := Kept.trans (Kept.mono (S' := (Value.slice ca x.2.length cc).ownBlock.toList) (show Kept [] w2 _ by first | exact ((Kept.refl [] w2).drewN _).alloc _ | exact (Kept.refl [] w2).alloc _ | exact ((Kept.refl [] w2).drew).alloc _) (by simp)) hk3; have c1' := (kk.cell hqw (fun hm => by have := HOFF.out _ hm; omega)).trans c1; have f1' := (kk.frozen hqw (fun hm => by have := HOFF.out _ hm; omega)).trans f1; have HO3 := Lib.hid ho3; have HK3 := Lib.hid kk; clear ho3 hk3 kk))
  all_goals
    have hend := H.out.step HBAD.out (cv := .slice (some ⟨g, 0, none⟩) (x.2.length + 1) cap2) ((HSR.out.next HK3.out (fun y hy => by have := HOFF.out y hy; omega)).next ((Kept.refl [q] w3).setCell (p := ⟨q, 1, none⟩) (.inl (by simp)) (.slice (some ⟨g, 0, none⟩) (x.2.length + 1) cap2)) (by simp; omega)) ((HA2.out.kept HK3.out (fun hm => by have := HOFF.out _ hm; omega)).set 1 _) (HO3.out.next ((Kept.refl [q] w3).setCell (p := ⟨q, 1, none⟩) (.inl (by simp)) _) (fun g hg => by have := HO3.out.block hg; simp; omega) (fun _ h => h.elim) (fun _ h _ => h)) ((HK2.out.fresh HK3.out (fun y hy hlt => by have := HOFF.out y hy; omega)).setCell (p := ⟨q, 1, none⟩) (.inl (by simp)) _)
    have HEND := Lib.hid hend
    clear hend
    go_wp2_with fail
    go_end0
    exact ⟨rfl, HEND.out⟩
end Go.Proofs.YtkodiogkldboiaaGreatDoor
/- script.reader.table: how a row is read. -/
namespace Go.Proofs.YtkodiogkldboiaaGreatDoor
open Go.RowKit

/-- A table whose rows are being read. -/
def RowJ (T : TypeId) (p q M : Nat) (nm : ByteArray) (cv : Value) (w0 : World) (x : SR × List (List Val)) (w : World) : Prop :=
  SRd T w p x.1 ∧ (∃ rv, Arr w q 53 [.string nm, cv, rv] ∧ krow.Row 59 w w0.heap.size (Hi w0.heap.size) rv x.2) ∧ Kept [p, q] w0 w ∧ x.1.rest.length ≤ M ∧ (x.1.bad = false → x.2.length + x.1.rest.length ≤ M) ∧ x.2.length ≤ M + 1
theorem RowJ.step {T : TypeId} {p q M : Nat} {nm : ByteArray} {cv : Value} {w0 w w' : World} {x : SR × List (List Val)} {rv : Value} (h : RowJ T p q M nm cv w0 x w) (hb : x.1.bad = false) (hs : SRd T w' p (rowM x.1).2) (ha : Arr w' q 53 [.string nm, cv, rv]) (hr : krow.Row 59 w' w0.heap.size (Hi w0.heap.size) rv (x.2 ++ [(rowM x.1).1])) (hk : Kept [p, q] w0 w') : RowJ T p q M nm cv w0 (rowStep x) w' := by
  obtain ⟨_, _, _, h4, h5, h6⟩ := h
  have := rowM_len x.1
  have h7 := h5 hb
  refine ⟨hs, ⟨rv, ha, hr⟩, hk, by show (rowM x.1).2.rest.length ≤ M; omega, fun hb2 => ?_, ?_⟩
  · have := rowM_dec x.1 hb hb2
    show (x.2 ++ [(rowM x.1).1]).length + (rowM x.1).2.rest.length ≤ M
    simp; omega
  · show (x.2 ++ [(rowM x.1).1]).length ≤ M + 1
    simp; omega

set_option maxRecDepth 100000 in
set_option maxHeartbeats 6400000 in
theorem cl61 (w0 w : World) (p q rb M : Nat) (nm : ByteArray) (cv : Value) (x : SR × List (List Val)) (h : RowJ 69 p q M nm cv w0 x w) (hrb : Arr w0 rb 67 [.pointer (some ⟨p, 0, none⟩)]) (hnr : rb ≠ p ∧ rb ≠ q) (hpq : p < q) (hq : q < w0.heap.size) (hM : (M : Int) ≤ 16000000) (hbad : x.1.bad = false) :
    Calls Tryz.prog 61 #[.pointer (some ⟨q, 0, none⟩), .pointer (some ⟨rb, 0, none⟩)] w (fun e w' => e = .returned (.tuple #[]) ∧ RowJ 69 p q M nm cv w0 (rowStep x) w') := by
  have H := Lib.hid h
  obtain ⟨h1, ⟨rv, h2, h3⟩, h4, h5, h6, h7⟩ := h
  have c0 := (hrb.kept h4 (by simp [hnr.1, hnr.2])).cell (i := 0) rfl
  have hr0 : rb < w0.heap.size := hrb.lt
  have hrw : rb < w.heap.size := (hrb.kept h4 (by simp [hnr.1, hnr.2])).lt
  have HRB := Lib.hid (hrb.kept h4 (by simp [hnr.1, hnr.2]))
  have HC : Hid (∀ n, Calls Tryz.prog 57 #[.pointer (some ⟨p, 0, none⟩)] (w.drewN n) (SRowPost 69 p x.1 (w.drewN n))) := Lib.hid (fun n => sr_row (w.drewN n) p x.1 (h1.kept (Kept.drewN (Kept.refl [] w) n)) (by omega))
  have HA := Lib.hid h2
  have HRW := Lib.hid h3
  have HK := Lib.hid h4
  have HBAD := Lib.hid hbad
  have HLEN := Lib.hid h7
  have hqw : q < w.heap.size := Arr.lt h2
  have c1 := h2.cell (i := 2) rfl
  have f1 := h2.free 2
  obtain ⟨ra, rc, hf, _⟩ := h3.form
  subst hf
  have HOFF : Hid (∀ g ∈ (Value.slice ra x.2.length rc).ownBlock.toList, w0.heap.size ≤ g ∧ g < w.heap.size) := Lib.hid (fun g hg => h3.block (g := g) (by simpa using hg))
  clear h1 h2 h3 h4 h5 h6 h7 hrb hbad
  go_enter Tryz.func61, Tryz.ntmps61
  go_wp2_with fail
  go_region_law (first
    | (rw [if_pos (by rfl)]; (refine wp_push 51 59 24 _ Tryz.underlying51 Tryz.info59 rfl (by decide) (by decide) _ _ (by rfl) w0.heap.size (Hi w0.heap.size) (.slice ra x.2.length rc) x.2 (by rfl) (HRW2.out.kept (by first | exact ((Kept.refl [] w2).drewN _).alloc _ | exact (Kept.refl [] w2).alloc _ | exact ((Kept.refl [] w2).drew).alloc _)) w2.heap.size [.slice va (rowM x.1).1.length vc] (rowM x.1).1 (by rfl) (Arr.new' (by simp) rfl) (HEL.out _ (by first | exact ((Kept.refl [] w2).drewN _).alloc _ | exact (Kept.refl [] w2).alloc _ | exact ((Kept.refl [] w2).drew).alloc _)) (by have := HLEN.out; omega) (by have := HSZ.out; simp; omega) ?_); intro g cap2 w3 ho3 hk3; have kk := Kept.trans (Kept.mono (S' := (Value.slice ra x.2.length rc).ownBlock.toList) (show Kept [] w2 _ by first | exact ((Kept.refl [] w2).drewN _).alloc _ | exact (Kept.refl [] w2).alloc _ | exact ((Kept.refl [] w2).drew).alloc _) (by simp)) hk3; have c1' := (kk.cell hqw2 (fun hm => by have := HOFF.out _ hm; omega)).trans c1; have f1' := (kk.frozen hqw2 (fun hm => by have := HOFF.out _ hm; omega)).trans f1; have HO3 := Lib.hid ho3; have HK3 := Lib.hid kk; clear ho3 hk3 kk)
    | (rw [if_pos (by rfl)]; go_simp; refine (HC.out _).mono ?_; rintro e w2 ⟨v, rfl, hv, hs, hk⟩; obtain ⟨va, vc, rfl, _⟩ := hv.form; have kk1 := Kept.trans ((Kept.refl [p] w).drewN _) hk; have c0 := (kk1.cell hrw (by simp [hnr.1])).trans c0; have c1 := (kk1.cell hqw (by simp; omega)).trans c1; have f1 := (kk1.frozen hqw (by simp; omega)).trans f1; have HEL : Hid (∀ wx, Kept [] w2 wx → krow.E wx (Av (Hi w0.heap.size) (.slice ra x.2.length rc)) (rowM x.1).1 [.slice va (rowM x.1).1.length vc]) := Lib.hid (fun wx kx => ⟨_, rfl, hv.next kx (by simp) (fun b hb _ => av_from HRW.out (Nat.le_refl _) (by have := HK.out.size; have h2 : w.heap.size ≤ b := hb; show w0.heap.size ≤ b; omega) hb)⟩); have HRW2 := Lib.hid (HRW.out.next kk1 (fun g hg => by have := HRW.out.block hg; simp; omega) (fun b hb => by have h2 : w0.heap.size ≤ b := hb; simp; omega) (fun _ h _ => h)); have hrw2 : rb < w2.heap.size := Nat.lt_of_lt_of_le hrw kk1.size; have hqw2 : q < w2.heap.size := Nat.lt_of_lt_of_le hqw kk1.size; have HSZ : Hid (w0.heap.size ≤ w2.heap.size) := Lib.hid (Nat.le_trans HK.out.size kk1.size); have HSR := Lib.hid hs; have HK1 := Lib.hid kk1; clear hv hs hk kk1))
  all_goals
    have hend := H.out.step HBAD.out (rv := .slice (some ⟨g, 0, none⟩) (x.2.length + 1) cap2) ((HSR.out.next HK3.out (fun y hy => by have := HOFF.out y hy; omega)).next ((Kept.refl [q] w3).setCell (p := ⟨q, 2, none⟩) (.inl (by simp)) (.slice (some ⟨g, 0, none⟩) (x.2.length + 1) cap2)) (by simp; omega)) (((HA.out.kept HK1.out (by simp; omega)).kept HK3.out (fun hm => by have := HOFF.out _ hm; omega)).set 2 _) (HO3.out.next ((Kept.refl [q] w3).setCell (p := ⟨q, 2, none⟩) (.inl (by simp)) _) (fun g hg => by have := HO3.out.block hg; simp; omega) (fun b hb => by have : w0.heap.size ≤ b := hb; simp; omega) (fun _ h _ => h)) (((HK.out.trans (HK1.out.mono (by intro k _ h; simp at h; simp [h]))).fresh HK3.out (fun y hy hlt => by have := HOFF.out y hy; omega)).setCell (p := ⟨q, 2, none⟩) (.inl (by simp)) _)
    have HEND := Lib.hid hend
    clear hend
    go_wp2_with fail
    go_end0
    exact ⟨rfl, HEND.out⟩
end Go.Proofs.YtkodiogkldboiaaGreatDoor
