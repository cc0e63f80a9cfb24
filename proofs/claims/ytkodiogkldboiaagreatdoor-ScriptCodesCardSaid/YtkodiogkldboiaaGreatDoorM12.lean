/- script.reader.table. -/
import Derived.Deep.RegionLaw
import Derived.Test.YtkodiogkldboiaaGreatDoorM11
set_option linter.unusedVariables false
set_option linter.unusedSimpArgs false
namespace Go.Proofs.YtkodiogkldboiaaGreatDoor
open Go.RowKit

theorem valOk_int {x : Val} (h : valOk x = true) (hk : x.k = 2) : x.n ≤ 9007199254740991 := by
  unfold valOk maxInt at h
  rw [if_neg (by omega), if_neg (by omega), if_pos hk] at h
  simp only [Bool.and_eq_true, decide_eq_true_eq] at h
  exact h.1.2
theorem intsV_bound (n : Nat) (s : SR) : ∀ z ∈ intsV n s, 0 ≤ z ∧ z ≤ 9007199254740991 := by
  unfold intsV
  split
  · rename_i h
    intro z hz
    unfold intsL at hz
    obtain ⟨x, hx, rfl⟩ := List.mem_map.1 hz
    have ho : oddNat x = false := by
      unfold intsOk at h
      simp only [Bool.and_eq_true, Bool.not_eq_true', List.any_eq_false] at h
      simpa using h.2.2 x hx
    unfold oddNat at ho
    simp only [Bool.not_eq_false', Bool.and_eq_true, decide_eq_true_eq] at ho
    exact ⟨ho.2, valOk_int (rowM_ok s x (List.mem_of_mem_tail hx)) ho.1⟩
  · intro z hz
    have := List.eq_of_mem_replicate hz
    omega
theorem l_at_eq (n i : Nat) (s : SR) (z : Int) (h : (intsV n s)[i]? = some z) : z = (l_at (intsV n s) i : Int) := by
  have := (intsV_bound n s z (List.mem_of_getElem? h)).1
  unfold l_at
  rw [List.getD, h]
  simp; omega
theorem l_at_le (n i : Nat) (s : SR) : (l_at (intsV n s) i : Int) ≤ 9007199254740992 := by
  unfold l_at
  rw [List.getD]
  cases h : (intsV n s)[i]? with
  | none => simp
  | some z => have := intsV_bound n s z (List.mem_of_getElem? h); simp; omega
theorem intsS_ok (n : Nat) (s : SR) (h : (intsS n s).bad = false) : intsOk n (rowM s).1 = true := by
  unfold intsS at h
  split at h
  · assumption
  · cases h

theorem hcut_end {w : World} {b3 b4 b : Nat} {cv rv : Value} {cs : List Col} {rs : List (List Val)} (hr : krow.Row 59 w b4 (Hi b4) rv rs) (hc : kcol.Row 85 w b3 NoB cv cs) (h3 : b + 2 ≤ b3) (h4 : b + 2 ≤ b4) : kcol.At w (Hi (b + 2)) cv cs ∧ krow.At w (Hi (b + 2)) rv rs :=
  ⟨hc.at (fun _ h _ => h.elim) (fun g hg => by have := hc.block hg; show b + 2 ≤ g; omega), hr.at (fun g h _ => by have h2 : b4 ≤ g := h; show b + 2 ≤ g; omega) (fun g hg => by have := hr.block hg; show b + 2 ≤ g; omega)⟩

def TblPost (T : TypeId) (p : Nat) (s : SR) (w : World) (en : Ending) (w' : World) : Prop :=
  ∃ cv rv, en = .returned (.agg #[.string (tblM s).1.name, cv, rv]) ∧ kcol.At w' (Hi w.heap.size) cv (tblM s).1.cols ∧ krow.At w' (Hi w.heap.size) rv (tblM s).1.rows ∧ SRd T w' p (tblM s).2 ∧ Kept [p] w w'

set_option maxRecDepth 100000 in
set_option maxHeartbeats 6400000 in
theorem sr_table (w : World) (p : Nat) (s : SR) (h : SRd 69 w p s) (hb : (s.rest.length : Int) ≤ 16000000) : Calls Tryz.prog 36 #[.pointer (some ⟨p, 0, none⟩)] w (TblPost 69 p s w) := by
  have hpl := h.lt
  have HRB0 : Hid (Arr (w.alloc (Obj.cells #[.pointer (some ⟨p, 0, none⟩)] 67)) w.heap.size 67 [.pointer (some ⟨p, 0, none⟩)]) := Lib.hid (Arr.new' rfl rfl)
  have K0 : Kept [] w ((w.alloc (Obj.cells #[.pointer (some ⟨p, 0, none⟩)] 67)).alloc (Obj.cells #[.string ⟨#[]⟩, .slice none 0 0, .slice none 0 0] 53)) := ((Kept.refl [] w).alloc _).alloc _
  have HRB1 := Lib.hid (HRB0.out.alloc (Obj.cells #[.string ⟨#[]⟩, .slice none 0 0, .slice none 0 0] 53))
  have HRS1 : Hid (Arr ((w.alloc (Obj.cells #[.pointer (some ⟨p, 0, none⟩)] 67)).alloc (Obj.cells #[.string ⟨#[]⟩, .slice none 0 0, .slice none 0 0] 53)) (w.heap.size + 1) 53 [.string ⟨#[]⟩, .slice none 0 0, .slice none 0 0]) := Lib.hid (Arr.new' (by simp) rfl)
  have HC : Hid (Calls Tryz.prog 32 #[.pointer (some ⟨p, 0, none⟩), .int .i64 2] ((w.alloc (Obj.cells #[.pointer (some ⟨p, 0, none⟩)] 67)).alloc (Obj.cells #[.string ⟨#[]⟩, .slice none 0 0, .slice none 0 0] 53)) (SIntsPost 69 p 2 s ((w.alloc (Obj.cells #[.pointer (some ⟨p, 0, none⟩)] 67)).alloc (Obj.cells #[.string ⟨#[]⟩, .slice none 0 0, .slice none 0 0] 53)))) := Lib.hid (sr_ints _ p 2 s (h.kept K0) (by omega) (by decide))
  have HK0 := Lib.hid K0
  clear h K0
  go_enter Tryz.func36, Tryz.ntmps36
  go_wp2_with fail
  refine HC.out.mono ?_
  rintro e w2 ⟨v, ns, rfl, hv, hl, hns, hsr, hk⟩
  have HK2 := Lib.hid ((HK0.out.mono (S' := [p]) (by simp)).trans hk)
  have HRB2 := Lib.hid (HRB1.out.kept hk (by simp; omega))
  have HRS2 := Lib.hid (HRS1.out.kept hk (by simp; omega))
  have HSR2 := Lib.hid hsr
  have hw2 : w.heap.size + 2 ≤ w2.heap.size := by have := hk.size; simp at this; omega
  obtain ⟨n0, n1, hn⟩ : ∃ n0 n1, ns = [n0, n1] := by
    match ns, hl with
    | [a, b], _ => exact ⟨a, b, rfl⟩
  have HNS : Hid (∀ i z, [n0, n1][i]? = some z → (intsS 2 s).bad = false → z = (l_at (intsV 2 s) i : Int)) := Lib.hid (fun i z hz hbd => l_at_eq 2 i s z (by rw [← hns (.inl (intsS_ok 2 s hbd)), hn]; exact hz))
  subst hn
  obtain ⟨b, o, cap, rfl, hbw, hbs, y0⟩ := int_at hv (j := 0) (x := n0) rfl
  obtain ⟨b', o', cap', he, _, _, y1⟩ := int_at hv (j := 1) (x := n1) rfl
  simp only [Value.slice.injEq, Option.some.injEq, Addr.mk.injEq, and_true, true_and] at he
  obtain ⟨⟨rfl, rfl⟩, rfl⟩ := he
  rw [Nat.add_zero] at y0
  simp only [List.length_cons, List.length_nil, Nat.zero_add]
  have hbw2 : w.heap.size + 2 ≤ b := by have h2 : _ ≤ b := hbw; simpa using h2
  clear hv hl hns hsr hk hbw HK0 HRB0 HRB1 HRS1 HC
  have hlen := intsS_len 2 s
  go_upto_region 3 with fail
  have K3 : Kept [] w2 (w2.alloc (Obj.cells #[.string (intsNm 2 s), .slice none 0 0, .slice none 0 0] 53)) := (Kept.refl [] w2).alloc _
  have HQ3 : Hid (Arr (w2.alloc (Obj.cells #[.string (intsNm 2 s), .slice none 0 0, .slice none 0 0] 53)) w2.heap.size 53 [.string (intsNm 2 s), .slice none 0 0, .slice none 0 0]) := Lib.hid (Arr.new' rfl rfl)
  have HRB3 := Lib.hid (HRB2.out.kept K3 (by simp))
  have HRS3 := Lib.hid (HRS2.out.kept K3 (by simp))
  have HSR3 := Lib.hid (HSR2.out.kept K3)
  have HK3 := Lib.hid (HK2.out.trans (K3.mono (S' := [p]) (by simp)))
  have y0 := (K3.cell hbs (by simp)).trans y0
  have y1 := (K3.cell hbs (by simp)).trans y1
  have hq3 : w2.heap.size < (w2.alloc (Obj.cells #[.string (intsNm 2 s), .slice none 0 0, .slice none 0 0] 53)).heap.size := by simp
  generalize w2.alloc (Obj.cells #[.string (intsNm 2 s), .slice none 0 0, .slice none 0 0] 53) = w3 at *
  generalize hq : w2.heap.size = q at *
  clear HK2 HRB2 HRS2 HSR2 K3 hq
  have hrc := HRB3.out.cell (i := 0) rfl
  have hJ0 : ∀ n, ColJ 69 p q (intsS 2 s).rest.length (intsNm 2 s) w3 (intsS 2 s, []) (w3.drewN n) := fun n =>
    ⟨HSR3.out.kept ((Kept.refl [] w3).drewN n), ⟨_, HQ3.out.kept ((Kept.refl [] w3).drewN n) (by simp), Kd.Row.nil _ _ _ _ _⟩, (Kept.refl _ w3).drewN n, Nat.le_refl _, fun _ => by simp, by simp⟩
  have HT : Hid (∀ n, Calls Tryz.prog 34 #[.pointer (some ⟨p, 0, none⟩), .int .i64 n0, .func (.func 60) #[] #[.pointer (some ⟨w.heap.size, 0, none⟩), .pointer (some ⟨q, 0, none⟩)]] (w3.drewN n) (fun e w' => e = .returned (.tuple #[]) ∧ ColJ 69 p q (intsS 2 s).rest.length (intsNm 2 s) w3 (tblC s) w')) := Lib.hid (fun n =>
    times_60 _ _ sbad colStep (ColJ 69 p q (intsS 2 s).rest.length (intsNm 2 s) w3) (w3.drewN n) p (l_at (intsV 2 s) 0) n0 (intsS 2 s, []) (hJ0 n) (l_at_le 2 0 s) (fun hb2 => HNS.out 0 n0 rfl hb2)
      (fun x wx hx => by obtain ⟨⟨a, c, ha, _⟩, _⟩ := hx; exact ha.cell (i := 1) rfl)
      (fun x wx hx hb2 => cl60 w3 wx p q w.heap.size _ _ x hx HRB3.out ⟨by omega, by omega⟩ (by omega) hq3 (by omega) hb2))
  have HTI := HT
  clear hJ0
  go_cut [] (fun wx => ColJ 69 p q (intsS 2 s).rest.length (intsNm 2 s) w3 (tblC s) wx)
  case first =>
    go_region_law (rw [if_pos (by rfl)]; go_simp; refine (HT.out _).mono ?_; rintro e w4 ⟨rfl, hj⟩)
    all_goals
      go_wp2_with fail
      go_meet
      case rel => exact hj
  case rest =>
    obtain ⟨wc4, hw4⟩ : ∃ w4 : World, w4 = wc := ⟨_, rfl⟩
    subst hw4
    obtain ⟨hs4, ⟨cv, ha4, hr4⟩, hk4, h5, h6, h7⟩ := hcut
    have hw34 := hk4.size
    have HRB4 := Lib.hid (HRB3.out.kept hk4 (by simp; omega))
    have HRS4 := Lib.hid (HRS3.out.kept hk4 (by simp; omega))
    have HSR4 := Lib.hid hs4
    have HQ4 := Lib.hid ha4
    have HR4 := Lib.hid hr4
    have HK4 := Lib.hid (HK3.out.fresh hk4 (by intro x hx hlt; simp at hx; simp; omega))
    have y1' := (hk4.cell (Nat.lt_trans hbs hq3) (by simp; omega)).trans y1
    have hlen4 : (tblC s).1.rest.length ≤ (intsS 2 s).rest.length := h5
    have HBD : Hid ((tblC s).1.bad = false → (intsS 2 s).bad = false) := Lib.hid (fun hb2 => timesM_bad_in colStep _ _ hb2)
    clear hs4 ha4 hr4 hk4 h5 h6 h7 hrc y0 y1
    have hrc := HRB4.out.cell (i := 0) rfl
    have hJ0 : ∀ n, RowJ 69 p q (tblC s).1.rest.length (intsNm 2 s) cv wc4 ((tblC s).1, []) (wc4.drewN n) := fun n =>
      ⟨HSR4.out.kept ((Kept.refl [] wc4).drewN n), ⟨_, HQ4.out.kept ((Kept.refl [] wc4).drewN n) (by simp), Kd.Row.nil _ _ _ _ _⟩, (Kept.refl _ wc4).drewN n, Nat.le_refl _, fun _ => by simp, by simp⟩
    have HT2 : Hid (∀ n, Calls Tryz.prog 34 #[.pointer (some ⟨p, 0, none⟩), .int .i64 n1, .func (.func 61) #[] #[.pointer (some ⟨q, 0, none⟩), .pointer (some ⟨w.heap.size, 0, none⟩)]] (wc4.drewN n) (fun e w' => e = .returned (.tuple #[]) ∧ RowJ 69 p q (tblC s).1.rest.length (intsNm 2 s) cv wc4 (tblR s) w')) := Lib.hid (fun n =>
      times_61 _ _ sbad rowStep (RowJ 69 p q (tblC s).1.rest.length (intsNm 2 s) cv wc4) (wc4.drewN n) p (l_at (intsV 2 s) 1) n1 ((tblC s).1, []) (hJ0 n) (l_at_le 2 1 s) (fun hb2 => HNS.out 1 n1 rfl (HBD.out hb2))
        (fun x wx hx => by obtain ⟨⟨a, c, ha, _⟩, _⟩ := hx; exact ha.cell (i := 1) rfl)
        (fun x wx hx hb2 => cl61 wc4 wx p q w.heap.size _ _ cv x hx HRB4.out ⟨by omega, by omega⟩ (by omega) (by omega) (by omega) hb2))
    clear hJ0
    go_upto_region 4 with fail
    go_cut [] (fun wx => RowJ 69 p q (tblC s).1.rest.length (intsNm 2 s) cv wc4 (tblR s) wx)
    case first =>
      go_region_law (rw [if_pos (by rfl)]; go_simp; refine (HT2.out _).mono ?_; rintro e w4 ⟨rfl, hj⟩)
      all_goals
        go_wp2_with fail
        go_meet
        case rel => exact hj
    case rest =>
      obtain ⟨hs5, ⟨rv, ha5, hr5⟩, hk5, h5, h6, h7⟩ := hcut
      have hr := hcut_end hr5 (HR4.out.next hk5 (fun g hg => by have := HR4.out.block hg; simp; omega) (fun _ h => h.elim) (fun _ h _ => h)) (b := w.heap.size) (by omega) (by omega)
      have HS5 := Lib.hid hs5
      have HQ5 := Lib.hid ha5
      have HRS5 := Lib.hid (HRS4.out.kept hk5 (by simp; omega))
      have HE := Lib.hid hr
      have HK5 := Lib.hid (HK4.out.fresh hk5 (by intro x hx hlt; simp at hx; simp; omega))
      obtain ⟨ca, cc, hcv, _⟩ := HR4.out.form
      obtain ⟨ra, rc, hrv, _⟩ := hr5.form
      subst hcv hrv
      have hrq : ¬ w.heap.size + 1 = q := by omega
      have hrq2 : ¬ q = w.heap.size + 1 := by omega
      have hpr : ¬ p = w.heap.size + 1 := by omega
      clear hs5 ha5 hr5 hk5 h5 h6 h7 hr y1' hrc y0 y1
      have q0 := HQ5.out.cell (i := 0) rfl
      have q1 := HQ5.out.cell (i := 1) rfl
      have q2 := HQ5.out.cell (i := 2) rfl
      have a0 := HRS5.out.cell (i := 0) rfl
      have a1 := HRS5.out.cell (i := 1) rfl
      have a2 := HRS5.out.cell (i := 2) rfl
      have b0 := HRS5.out.free 0
      have b1 := HRS5.out.free 1
      have b2 := HRS5.out.free 2
      go_wp2_with fail
      have AF := (((HRS5.out).set 0 (.string (intsNm 2 s))).set 1 (.slice ca (tblC s).2.length cc)).set 2 (.slice ra (tblR s).2.length rc)
      have z0 := AF.cell (i := 0) rfl
      have z1 := AF.cell (i := 1) rfl
      have z2 := AF.cell (i := 2) rfl
      have KF : Kept [w.heap.size + 1] wc (((wc.setCell ⟨w.heap.size + 1, 0, none⟩ (.string (intsNm 2 s))).setCell ⟨w.heap.size + 1, 1, none⟩ (.slice ca (tblC s).2.length cc)).setCell ⟨w.heap.size + 1, 2, none⟩ (.slice ra (tblR s).2.length rc)) := (((Kept.refl _ _).setCell (.inl (by simp)) _).setCell (.inl (by simp)) _).setCell (.inl (by simp)) _
      exact bodyPost_ret (v := .agg #[.string (intsNm 2 s), .slice ca (tblC s).2.length cc, .slice ra (tblR s).2.length rc]) (by simp [results, Tryz.results36, go_sem, z0, z1, z2]) rfl ⟨_, _, rfl, HE.out.1.next KF (fun b hb => by have h2 : w.heap.size + 2 ≤ b := hb; simp; omega) (fun b hb _ => by have h2 : w.heap.size + 2 ≤ b := hb; show w.heap.size ≤ b; omega), HE.out.2.next KF (fun b hb => by have h2 : w.heap.size + 2 ≤ b := hb; simp; omega) (fun b hb _ => by have h2 : w.heap.size + 2 ≤ b := hb; show w.heap.size ≤ b; omega), HS5.out.next KF (by simp; omega), HK5.out.fresh KF (by intro x hx hlt; simp at hx; omega)⟩
end Go.Proofs.YtkodiogkldboiaaGreatDoor
/- The reference's Reader: table. -/
namespace Go.Proofs.YtkodiogkldboiaaGreatDoor
open Go.RowKit

set_option maxRecDepth 100000 in
set_option maxHeartbeats 12800000 in
theorem rr_table (w : World) (p : Nat) (s : SR) (h : SRd 80 w p s) (hb : (s.rest.length : Int) ≤ 16000000) : Calls Tryz.prog 43 #[.pointer (some ⟨p, 0, none⟩)] w (TblPost 80 p s w) := by
  have hpl := h.lt
  have K0 : Kept [] w (w.alloc (Obj.cells #[.string ⟨#[]⟩, .slice none 0 0, .slice none 0 0] 53)) := (Kept.refl [] w).alloc _
  have HRS1 : Hid (Arr (w.alloc (Obj.cells #[.string ⟨#[]⟩, .slice none 0 0, .slice none 0 0] 53)) w.heap.size 53 [.string ⟨#[]⟩, .slice none 0 0, .slice none 0 0]) := Lib.hid (Arr.new' (by simp) rfl)
  have HC : Hid (Calls Tryz.prog 41 #[.pointer (some ⟨p, 0, none⟩), .int .i64 2] (w.alloc (Obj.cells #[.string ⟨#[]⟩, .slice none 0 0, .slice none 0 0] 53)) (SIntsPost 80 p 2 s (w.alloc (Obj.cells #[.string ⟨#[]⟩, .slice none 0 0, .slice none 0 0] 53)))) := Lib.hid (rr_ints _ p 2 s (h.kept K0) (by omega) (by decide))
  have HK0 := Lib.hid K0
  clear h K0
  go_enter Tryz.func43, Tryz.ntmps43
  go_wp2_with fail
  refine HC.out.mono ?_
  rintro e w2 ⟨v, ns, rfl, hv, hl, hns, hsr, hk⟩
  have HK2 := Lib.hid ((HK0.out.mono (S' := [p]) (by simp)).trans hk)
  have HRS2 := Lib.hid (HRS1.out.kept hk (by simp; omega))
  have HSR2 := Lib.hid hsr
  have hw2 : w.heap.size + 1 ≤ w2.heap.size := by have := hk.size; simp at this; omega
  obtain ⟨n0, n1, hn⟩ : ∃ n0 n1, ns = [n0, n1] := by
    match ns, hl with
    | [a, b], _ => exact ⟨a, b, rfl⟩
  have HNS : Hid (∀ i z, [n0, n1][i]? = some z → (intsS 2 s).bad = false → z = (l_at (intsV 2 s) i : Int)) := Lib.hid (fun i z hz hbd => l_at_eq 2 i s z (by rw [← hns (.inl (intsS_ok 2 s hbd)), hn]; exact hz))
  subst hn
  obtain ⟨b, o, cap, rfl, hbw, hbs, y0⟩ := int_at hv (j := 0) (x := n0) rfl
  obtain ⟨b', o', cap', he, _, _, y1⟩ := int_at hv (j := 1) (x := n1) rfl
  simp only [Value.slice.injEq, Option.some.injEq, Addr.mk.injEq, and_true, true_and] at he
  obtain ⟨⟨rfl, rfl⟩, rfl⟩ := he
  rw [Nat.add_zero] at y0
  simp only [List.length_cons, List.length_nil, Nat.zero_add]
  have hbw2 : w.heap.size + 1 ≤ b := by have h2 : _ ≤ b := hbw; simpa using h2
  clear hv hl hns hsr hk hbw HK0 HRS1 HC
  have hlen := intsS_len 2 s
  go_upto_region 3 with fail
  have K3 : Kept [] w2 (w2.alloc (Obj.cells #[.string (intsNm 2 s), .slice none 0 0, .slice none 0 0] 53)) := (Kept.refl [] w2).alloc _
  have HQ3 : Hid (Arr (w2.alloc (Obj.cells #[.string (intsNm 2 s), .slice none 0 0, .slice none 0 0] 53)) w2.heap.size 53 [.string (intsNm 2 s), .slice none 0 0, .slice none 0 0]) := Lib.hid (Arr.new' rfl rfl)
  have HRS3 := Lib.hid (HRS2.out.kept K3 (by simp))
  have HSR3 := Lib.hid (HSR2.out.kept K3)
  have HK3 := Lib.hid (HK2.out.trans (K3.mono (S' := [p]) (by simp)))
  have HY0 := Lib.hid ((K3.cell hbs (by simp)).trans y0)
  have HY1 := Lib.hid ((K3.cell hbs (by simp)).trans y1)
  have hq3 : w2.heap.size < (w2.alloc (Obj.cells #[.string (intsNm 2 s), .slice none 0 0, .slice none 0 0] 53)).heap.size := by simp
  generalize w2.alloc (Obj.cells #[.string (intsNm 2 s), .slice none 0 0, .slice none 0 0] 53) = w3 at *
  generalize hq : w2.heap.size = q at *
  clear HK2 HRS2 HSR2 K3 hq y0 y1
  have hJ0 : ColJ 80 p q (intsS 2 s).rest.length (intsNm 2 s) w3 (intsS 2 s, []) w3 :=
    ⟨HSR3.out, ⟨_, HQ3.out, Kd.Row.nil _ _ _ _ _⟩, Kept.refl _ w3, Nat.le_refl _, fun _ => by simp, by simp⟩
  have HJ0 := Lib.hid hJ0
  have hN0 := l_at_le 2 0 s
  have hN1 := l_at_le 2 1 s
  have HZ0 : Hid ((intsS 2 s).bad = false → n0 = (l_at (intsV 2 s) 0 : Int)) := Lib.hid (fun hb2 => HNS.out 0 n0 rfl hb2)
  have HZ1 : Hid ((intsS 2 s).bad = false → n1 = (l_at (intsV 2 s) 1 : Int)) := Lib.hid (fun hb2 => HNS.out 1 n1 rfl hb2)
  have HTC : Hid (tblC s = timesM sbad colStep (l_at (intsV 2 s) 0) (intsS 2 s, [])) := Lib.hid rfl
  have HTR : Hid (tblR s = timesM sbad rowStep (l_at (intsV 2 s) 1) ((tblC s).1, [])) := Lib.hid rfl
  have HTM : Hid (tblM s = (⟨intsNm 2 s, (tblC s).2, (tblR s).2⟩, (tblR s).1)) := Lib.hid rfl
  have HBD : Hid ((tblC s).1.bad = false → (intsS 2 s).bad = false) := Lib.hid (fun hb2 => timesM_bad_in colStep _ _ hb2)
  clear hJ0 HNS
  generalize l_at (intsV 2 s) 0 = N0 at *
  generalize l_at (intsV 2 s) 1 = N1 at *
  go_upto_block 0 with fail
  go_cut [6, 7, 8] (fun _ _ _ wx => ColJ 80 p q (intsS 2 s).rest.length (intsNm 2 s) w3 (tblC s) wx)
  case first =>
    go_wp2_with fail
    go_loopg [6, 7, 8] (N0 + 1) (fun g i v7 v8 wr => ∃ (k : Nat) (x : SR × List Col), k + g = N0 + 1 ∧ i = .int .i64 k ∧ Hid (ColJ 80 p q (intsS 2 s).rest.length (intsNm 2 s) w3 x wr) ∧ Hid (tblC s = timesM sbad colStep (N0 - k) x) ∧ Hid (x.1.bad = false → n0 = N0) ∧ k ≤ N0)
    case atStart => exact ⟨0, _, by omega, rfl, HJ0, HTC, HZ0, Nat.zero_le _⟩
    case round =>
      obtain ⟨k, x, hk, rfl, HJ, HT, HZ, hkn⟩ := hrel
      obtain ⟨w, hwo⟩ : ∃ wo : World, wo = wr := ⟨_, rfl⟩
      subst hwo
      obtain ⟨h1, ⟨cv, h2, h3⟩, h4, h5, h6, h7⟩ := HJ.out
      have y0 := (h4.cell (Nat.lt_trans hbs hq3) (by simp; omega)).trans HY0.out
      obtain ⟨ra, rc, hra, _⟩ := h1
      have r1 := hra.cell (i := 1) rfl
      have hk0 : (0 : Int) ≤ (k : Int) := by omega
      cases hbad : x.1.bad
      · obtain rfl := HZ.out hbad
        rw [hbad] at r1
        by_cases hlt : k < N0
        · have hlt' : (k : Int) < (N0 : Int) := by omega
          have HC : Hid (Calls Tryz.prog 41 #[.pointer (some ⟨p, 0, none⟩), .int .i64 1] w (SIntsPost 80 p 1 x.1 w)) := Lib.hid (rr_ints w p 1 x.1 HJ.out.1 (by omega) (by decide))
          have HT2 : Hid (tblC s = timesM sbad colStep (N0 - (k + 1)) (colStep x)) := Lib.hid (by rw [HT.out, show N0 - k = (N0 - (k + 1)) + 1 by omega, timesM, if_neg (by show ¬ x.1.bad = true; rw [hbad]; simp)])
          have HBAD := Lib.hid hbad
          have HA := Lib.hid h2
          have HRW := Lib.hid h3
          have HK := Lib.hid h4
          have HLEN := Lib.hid h7
          have HML := Lib.hid h5
          clear h2 h3 h4 h5 h6 h7 hra hbad
          go_wp2_with fail
          refine HC.out.mono ?_
          rintro e w2 ⟨v, ns, rfl, hv, hl, hns, hsr, hk⟩
          obtain ⟨c0, rfl, hcn⟩ := colNew_at x.1 ns (hns (.inr (by decide))) hl
          obtain ⟨b2, o2, cap2, rfl, hbw, hbs2, z0⟩ := int_at hv (j := 0) (x := c0) rfl
          rw [Nat.add_zero] at z0
          simp only [List.length_singleton]
          have HCN := Lib.hid hcn
          have HSR := Lib.hid hsr
          have hbw3 : w.heap.size ≤ b2 := hbw
          have HA2 := Lib.hid (HA.out.kept hk (by simp; omega))
          have HRW2 := Lib.hid (HRW.out.next hk (fun g hg => by have := HRW.out.block hg; simp; omega) (fun _ h => h.elim) (fun _ h _ => h))
          have HK2 := Lib.hid (HK.out.trans (hk.mono (S' := [p, q]) (by intro k _ h; simp at h; simp [h])))
          have hqw : q < w2.heap.size := Arr.lt HA2.out
          clear hv hl hns hcn hsr hbw hk r1 y0
          have c1 := HA2.out.cell (i := 1) rfl
          have f1 := HA2.out.free 1
          obtain ⟨ca, cc, hf, _⟩ := HRW2.out.form
          subst hf
          have HOFF : Hid (∀ g ∈ (Value.slice ca x.2.length cc).ownBlock.toList, w3.heap.size ≤ g ∧ g < w.heap.size) := Lib.hid (fun g hg => HRW.out.block (g := g) (by simpa using hg))
          go_wp2_with fail
          go_region_law (first | (rw [if_pos (by rfl)]; refine wp_push 50 85 40 _ Tryz.underlying50 Tryz.info85 rfl (by decide) (by decide) _ _ (by rfl) w3.heap.size NoB (.slice ca x.2.length cc) x.2 (by rfl) (HRW2.out.kept (by first | exact ((Kept.refl [] w2).drewN _).alloc _ | exact (Kept.refl [] w2).alloc _ | exact ((Kept.refl [] w2).drew).alloc _)) w2.heap.size [.string ⟨#[]⟩, .string (intsNm 1 x.1), .int .i64 c0] (colNew x.1) (by rfl) (Arr.new' (by simp) rfl) (by rw [HCN.out]; rfl) (by have := HLEN.out; omega) (by have := HK2.out.size; simp; omega) ?_; intro g cap3 w5 ho3 hk3; have kk := Kept.trans (Kept.mono (S' := (Value.slice ca x.2.length cc).ownBlock.toList) (show Kept [] w2 _ by first | exact ((Kept.refl [] w2).drewN _).alloc _ | exact (Kept.refl [] w2).alloc _ | exact ((Kept.refl [] w2).drew).alloc _) (by simp)) hk3; have c1' := (kk.cell hqw (fun hm => by have := HOFF.out _ hm; omega)).trans c1; have f1' := (kk.frozen hqw (fun hm => by have := HOFF.out _ hm; omega)).trans f1; have HO3 := Lib.hid ho3; have HK3' := Lib.hid kk; clear ho3 hk3 kk))
          all_goals
            have hend := HJ.out.step HBAD.out (cv := .slice (some ⟨g, 0, none⟩) (x.2.length + 1) cap3) ((HSR.out.next HK3'.out (fun y hy => by have := HOFF.out y hy; omega)).next ((Kept.refl [q] w5).setCell (p := ⟨q, 1, none⟩) (.inl (by simp)) (.slice (some ⟨g, 0, none⟩) (x.2.length + 1) cap3)) (by simp; omega)) ((HA2.out.kept HK3'.out (fun hm => by have := HOFF.out _ hm; omega)).set 1 _) (HO3.out.next ((Kept.refl [q] w5).setCell (p := ⟨q, 1, none⟩) (.inl (by simp)) _) (fun g hg => by have := HO3.out.block hg; simp; omega) (fun _ h => h.elim) (fun _ h _ => h)) ((HK2.out.fresh HK3'.out (fun y hy hlt => by have := HOFF.out y hy; omega)).setCell (p := ⟨q, 1, none⟩) (.inl (by simp)) _)
            have HEND := Lib.hid hend
            clear hend
            go_wp2_with fail
            go_roundg (N0 + 1 - (k + 1))
            case measure => omega
            case rel => exact ⟨k + 1, colStep x, by omega, by go_num, HEND, HT2, Lib.hid (fun _ => by trivial), by omega⟩
        · have hlt' : ¬ (k : Int) < (N0 : Int) := by omega
          have HE : Hid (tblC s = x) := Lib.hid (by rw [HT.out, show N0 - k = 0 by omega]; rfl)
          clear hbad
          go_wp2_with fail
          go_meet
          case rel => rw [HE.out]; exact HJ.out
      · rw [hbad] at r1
        have HE : Hid (tblC s = x) := Lib.hid (by rw [HT.out, timesM_bad _ _ _ _ (show sbad x = true from hbad)])
        clear hbad
        by_cases hlt : (k : Int) < n0
        · go_wp2_with fail
          go_meet
          case rel => rw [HE.out]; exact HJ.out
        · go_wp2_with fail
          go_meet
          case rel => rw [HE.out]; exact HJ.out
  case rest =>
    obtain ⟨wc4, hw4⟩ : ∃ w4 : World, w4 = wc := ⟨_, rfl⟩
    subst hw4
    obtain ⟨hs4, ⟨cv, ha4, hr4⟩, hk4, h5, h6, h7⟩ := hcut
    have hw34 := hk4.size
    have HRS4 := Lib.hid (HRS3.out.kept hk4 (by simp; omega))
    have HQ4 := Lib.hid ha4
    have HR4 := Lib.hid hr4
    have HK4 := Lib.hid (HK3.out.fresh hk4 (by intro x hx hlt; simp at hx; simp; omega))
    have HY4 := Lib.hid ((hk4.cell (Nat.lt_trans hbs hq3) (by simp; omega)).trans HY1.out)
    have hlen4 : (tblC s).1.rest.length ≤ (intsS 2 s).rest.length := h5
    have HJ4 : Hid (RowJ 80 p q (tblC s).1.rest.length (intsNm 2 s) cv wc4 ((tblC s).1, []) wc4) := Lib.hid ⟨hs4, ⟨_, ha4, Kd.Row.nil _ _ _ _ _⟩, Kept.refl _ wc4, Nat.le_refl _, fun _ => by simp, by simp⟩
    have hq4 : q < wc4.heap.size := by omega
    clear hs4 ha4 hr4 hk4 h5 h6 h7
    go_upto_block 2 with fail
    go_cut [9] (fun _ wx => RowJ 80 p q (tblC s).1.rest.length (intsNm 2 s) cv wc4 (tblR s) wx)
    case first =>
      go_wp2_with fail
      go_loopg [9] (N1 + 1) (fun g i wr => ∃ (k : Nat) (x : SR × List (List Val)), k + g = N1 + 1 ∧ i = .int .i64 k ∧ Hid (RowJ 80 p q (tblC s).1.rest.length (intsNm 2 s) cv wc4 x wr) ∧ Hid (tblR s = timesM sbad rowStep (N1 - k) x) ∧ Hid (x.1.bad = false → n1 = N1) ∧ k ≤ N1)
      case atStart => exact ⟨0, _, by omega, rfl, HJ4, HTR, Lib.hid (fun hb2 => HZ1.out (HBD.out hb2)), Nat.zero_le _⟩
      case round =>
        obtain ⟨k, x, hk, rfl, H, HT, HZ, hkn⟩ := hrel
        obtain ⟨w, hwo⟩ : ∃ wo : World, wo = wr := ⟨_, rfl⟩
        subst hwo
        obtain ⟨h1, ⟨rv, h2, h3⟩, h4, h5, h6, h7⟩ := H.out
        have y1 := (h4.cell (Nat.lt_of_lt_of_le (Nat.lt_trans hbs hq3) hw34) (by simp; omega)).trans HY4.out
        obtain ⟨ra0, rc0, hra, _⟩ := h1
        have r1 := hra.cell (i := 1) rfl
        have hk0 : (0 : Int) ≤ (k : Int) := by omega
        cases hbad : x.1.bad
        · obtain rfl := HZ.out hbad
          rw [hbad] at r1
          by_cases hlt : k < N1
          · have hlt' : (k : Int) < (N1 : Int) := by omega
            have HC : Hid (∀ n, Calls Tryz.prog 44 #[.pointer (some ⟨p, 0, none⟩)] (w.drewN n) (SRowPost 80 p x.1 (w.drewN n))) := Lib.hid (fun n => rr_row (w.drewN n) p x.1 (H.out.1.kept (Kept.drewN (Kept.refl [] w) n)) (by omega))
            have HT2 : Hid (tblR s = timesM sbad rowStep (N1 - (k + 1)) (rowStep x)) := Lib.hid (by rw [HT.out, show N1 - k = (N1 - (k + 1)) + 1 by omega, timesM, if_neg (by show ¬ x.1.bad = true; rw [hbad]; simp)])
            have HBAD := Lib.hid hbad
            have HA := Lib.hid h2
            have HRW := Lib.hid h3
            have HK := Lib.hid h4
            have HLEN := Lib.hid h7
            have hqw : q < w.heap.size := Arr.lt h2
            have c1 := h2.cell (i := 2) rfl
            have f1 := h2.free 2
            obtain ⟨ra, rc, hf, _⟩ := h3.form
            subst hf
            have HOFF : Hid (∀ g ∈ (Value.slice ra x.2.length rc).ownBlock.toList, wc4.heap.size ≤ g ∧ g < w.heap.size) := Lib.hid (fun g hg => h3.block (g := g) (by simpa using hg))
            clear h2 h3 h4 h5 h6 h7 hra hbad
            go_upto_region 11 with fail
            clear r1 y1
            go_region_law (first
              | (rw [if_pos (by rfl)]; (refine wp_push 51 59 24 _ Tryz.underlying51 Tryz.info59 rfl (by decide) (by decide) _ _ (by rfl) wc4.heap.size (Hi wc4.heap.size) (.slice ra x.2.length rc) x.2 (by rfl) (HRW2.out.kept (by first | exact ((Kept.refl [] w2).drewN _).alloc _ | exact (Kept.refl [] w2).alloc _ | exact ((Kept.refl [] w2).drew).alloc _)) w2.heap.size [.slice va (rowM x.1).1.length vc] (rowM x.1).1 (by rfl) (Arr.new' (by simp) rfl) (HEL.out _ (by first | exact ((Kept.refl [] w2).drewN _).alloc _ | exact (Kept.refl [] w2).alloc _ | exact ((Kept.refl [] w2).drew).alloc _)) (by have := HLEN.out; omega) (by have := HSZ.out; simp; omega) ?_); intro g cap2 w5 ho3 hk3; have kk := Kept.trans (Kept.mono (S' := (Value.slice ra x.2.length rc).ownBlock.toList) (show Kept [] w2 _ by first | exact ((Kept.refl [] w2).drewN _).alloc _ | exact (Kept.refl [] w2).alloc _ | exact ((Kept.refl [] w2).drew).alloc _) (by simp)) hk3; have c1' := (kk.cell hqw2 (fun hm => by have := HOFF.out _ hm; omega)).trans c1; have f1' := (kk.frozen hqw2 (fun hm => by have := HOFF.out _ hm; omega)).trans f1; have HO3 := Lib.hid ho3; have HK3' := Lib.hid kk; clear ho3 hk3 kk)
              | (rw [if_pos (by rfl)]; go_simp; refine (HC.out _).mono ?_; rintro e w2 ⟨v, rfl, hv, hs, hk⟩; obtain ⟨va, vc, rfl, _⟩ := hv.form; have kk1 := Kept.trans ((Kept.refl [p] w).drewN _) hk; have c1 := (kk1.cell hqw (by simp; omega)).trans c1; have f1 := (kk1.frozen hqw (by simp; omega)).trans f1; have HEL : Hid (∀ wx, Kept [] w2 wx → krow.E wx (Av (Hi wc4.heap.size) (.slice ra x.2.length rc)) (rowM x.1).1 [.slice va (rowM x.1).1.length vc]) := Lib.hid (fun wx kx => ⟨_, rfl, hv.next kx (by simp) (fun b hb _ => av_from HRW.out (Nat.le_refl _) (by have := HK.out.size; have h2 : w.heap.size ≤ b := hb; show wc4.heap.size ≤ b; omega) hb)⟩); have HRW2 := Lib.hid (HRW.out.next kk1 (fun g hg => by have := HRW.out.block hg; simp; omega) (fun b hb => by have h2 : wc4.heap.size ≤ b := hb; simp; omega) (fun _ h _ => h)); have hqw2 : q < w2.heap.size := Nat.lt_of_lt_of_le hqw kk1.size; have HSZ : Hid (wc4.heap.size ≤ w2.heap.size) := Lib.hid (Nat.le_trans HK.out.size kk1.size); have HSR := Lib.hid hs; have HK1 := Lib.hid kk1; clear hv hs hk kk1))
            all_goals
              have hend := H.out.step HBAD.out (rv := .slice (some ⟨g, 0, none⟩) (x.2.length + 1) cap2) ((HSR.out.next HK3'.out (fun y hy => by have := HOFF.out y hy; omega)).next ((Kept.refl [q] w5).setCell (p := ⟨q, 2, none⟩) (.inl (by simp)) (.slice (some ⟨g, 0, none⟩) (x.2.length + 1) cap2)) (by simp; omega)) (((HA.out.kept HK1.out (by simp; omega)).kept HK3'.out (fun hm => by have := HOFF.out _ hm; omega)).set 2 _) (HO3.out.next ((Kept.refl [q] w5).setCell (p := ⟨q, 2, none⟩) (.inl (by simp)) _) (fun g hg => by have := HO3.out.block hg; simp; omega) (fun b hb => by have : wc4.heap.size ≤ b := hb; simp; omega) (fun _ h _ => h)) (((HK.out.trans (HK1.out.mono (by intro k _ h; simp at h; simp [h]))).fresh HK3'.out (fun y hy hlt => by have := HOFF.out y hy; omega)).setCell (p := ⟨q, 2, none⟩) (.inl (by simp)) _)
              have HEND := Lib.hid hend
              clear hend
              go_wp2_with fail
              go_roundg (N1 + 1 - (k + 1))
              case measure => omega
              case rel => exact ⟨k + 1, rowStep x, by omega, by go_num, HEND, HT2, Lib.hid (fun _ => by trivial), by omega⟩
          · have hlt' : ¬ (k : Int) < (N1 : Int) := by omega
            have HE : Hid (tblR s = x) := Lib.hid (by rw [HT.out, show N1 - k = 0 by omega]; rfl)
            clear hbad
            go_wp2_with fail
            go_meet
            case rel => rw [HE.out]; exact H.out
        · rw [hbad] at r1
          have HE : Hid (tblR s = x) := Lib.hid (by rw [HT.out, timesM_bad _ _ _ _ (show sbad x = true from hbad)])
          clear hbad
          by_cases hlt : (k : Int) < n1
          · go_wp2_with fail
            go_meet
            case rel => rw [HE.out]; exact H.out
          · go_wp2_with fail
            go_meet
            case rel => rw [HE.out]; exact H.out
    case rest =>
      obtain ⟨hs5, ⟨rv, ha5, hr5⟩, hk5, h5, h6, h7⟩ := hcut
      have hr := hcut_end hr5 (HR4.out.next hk5 (fun g hg => by have := HR4.out.block hg; simp; omega) (fun _ h => h.elim) (fun _ h _ => h)) (b := w.heap.size) (by omega) (by omega)
      have HS5 := Lib.hid hs5
      have HQ5 := Lib.hid ha5
      have HRS5 := Lib.hid (HRS4.out.kept hk5 (by simp; omega))
      have HE := Lib.hid hr
      have HK5 := Lib.hid (HK4.out.fresh hk5 (by intro x hx hlt; simp at hx; simp; omega))
      obtain ⟨ca, cc, hcv, _⟩ := HR4.out.form
      obtain ⟨ra, rc, hrv, _⟩ := hr5.form
      subst hcv hrv
      have hrq : ¬ w.heap.size = q := by omega
      have hrq2 : ¬ q = w.heap.size := by omega
      have hpr : ¬ p = w.heap.size := by omega
      clear hs5 ha5 hr5 hk5 h5 h6 h7 hr
      have q0 := HQ5.out.cell (i := 0) rfl
      have q1 := HQ5.out.cell (i := 1) rfl
      have q2 := HQ5.out.cell (i := 2) rfl
      have a0 := HRS5.out.cell (i := 0) rfl
      have a1 := HRS5.out.cell (i := 1) rfl
      have a2 := HRS5.out.cell (i := 2) rfl
      have b0 := HRS5.out.free 0
      have b1 := HRS5.out.free 1
      have b2 := HRS5.out.free 2
      go_wp2_with fail
      have AF := (((HRS5.out).set 0 (.string (intsNm 2 s))).set 1 (.slice ca (tblC s).2.length cc)).set 2 (.slice ra (tblR s).2.length rc)
      have z0 := AF.cell (i := 0) rfl
      have z1 := AF.cell (i := 1) rfl
      have z2 := AF.cell (i := 2) rfl
      have KF : Kept [w.heap.size] wc (((wc.setCell ⟨w.heap.size, 0, none⟩ (.string (intsNm 2 s))).setCell ⟨w.heap.size, 1, none⟩ (.slice ca (tblC s).2.length cc)).setCell ⟨w.heap.size, 2, none⟩ (.slice ra (tblR s).2.length rc)) := (((Kept.refl _ _).setCell (.inl (by simp)) _).setCell (.inl (by simp)) _).setCell (.inl (by simp)) _
      exact bodyPost_ret (v := .agg #[.string (intsNm 2 s), .slice ca (tblC s).2.length cc, .slice ra (tblR s).2.length rc]) (by simp [results, Tryz.results43, go_sem, z0, z1, z2]) rfl ⟨_, _, rfl, HE.out.1.next KF (fun b hb => by have h2 : w.heap.size + 2 ≤ b := hb; simp; omega) (fun b hb _ => by have h2 : w.heap.size + 2 ≤ b := hb; show w.heap.size ≤ b; omega), HE.out.2.next KF (fun b hb => by have h2 : w.heap.size + 2 ≤ b := hb; simp; omega) (fun b hb _ => by have h2 : w.heap.size + 2 ≤ b := hb; show w.heap.size ≤ b; omega), HS5.out.next KF (by simp; omega), HK5.out.fresh KF (by intro x hx hlt; simp at hx; omega)⟩
end Go.Proofs.YtkodiogkldboiaaGreatDoor
/- script.Decode: how a table is read; a fault. -/
namespace Go.Proofs.YtkodiogkldboiaaGreatDoor
open Go.RowKit

/-- A script whose tables are being read. -/
def TJ (T : TypeId) (p q M : Nat) (c1 c2 c3 c4 : Value) (w0 : World) (x : SR × List Tbl) (w : World) : Prop :=
  SRd T w p x.1 ∧ (∃ tv, Arr w q 25 [tv, c1, c2, c3, c4, .slice none 0 0] ∧ ktbl.Row 53 w w0.heap.size (Hi w0.heap.size) tv x.2) ∧ Kept [p, q] w0 w ∧ x.1.rest.length ≤ M ∧ (x.1.bad = false → x.2.length + x.1.rest.length ≤ M) ∧ x.2.length ≤ M + 1
theorem TJ.step {T : TypeId} {p q M : Nat} {c1 c2 c3 c4 : Value} {w0 w w' : World} {x : SR × List Tbl} {rv : Value} (h : TJ T p q M c1 c2 c3 c4 w0 x w) (hb : x.1.bad = false) (hs : SRd T w' p (tblM x.1).2) (ha : Arr w' q 25 [rv, c1, c2, c3, c4, .slice none 0 0]) (hr : ktbl.Row 53 w' w0.heap.size (Hi w0.heap.size) rv (x.2 ++ [(tblM x.1).1])) (hk : Kept [p, q] w0 w') : TJ T p q M c1 c2 c3 c4 w0 (tblStep x) w' := by
  obtain ⟨_, _, _, h4, h5, h6⟩ := h
  have := tblM_len x.1
  have h7 := h5 hb
  refine ⟨hs, ⟨rv, ha, hr⟩, hk, by show (tblM x.1).2.rest.length ≤ M; omega, fun hb2 => ?_, ?_⟩
  · have := tblM_dec x.1 hb hb2
    show (x.2 ++ [(tblM x.1).1]).length + (tblM x.1).2.rest.length ≤ M
    simp; omega
  · show (x.2 ++ [(tblM x.1).1]).length ≤ M + 1
    simp; omega
/-- A script whose faults are being read. -/
def FJ (T : TypeId) (p q M : Nat) (c0 c1 c2 c3 c4 : Value) (w0 : World) (x : SR × List Int) (w : World) : Prop :=
  SRd T w p x.1 ∧ (∃ fv, Arr w q 25 [c0, c1, c2, c3, c4, fv] ∧ (kint .i64).Row 3 w w0.heap.size NoB fv x.2) ∧ Kept [p, q] w0 w ∧ x.1.rest.length ≤ M ∧ (x.1.bad = false → x.2.length + x.1.rest.length ≤ M) ∧ x.2.length ≤ M + 1
theorem FJ.step {T : TypeId} {p q M : Nat} {c0 c1 c2 c3 c4 : Value} {w0 w w' : World} {x : SR × List Int} {rv : Value} (h : FJ T p q M c0 c1 c2 c3 c4 w0 x w) (hb : x.1.bad = false) (hs : SRd T w' p (faultM x.1).2) (ha : Arr w' q 25 [c0, c1, c2, c3, c4, rv]) (hr : (kint .i64).Row 3 w' w0.heap.size NoB rv (x.2 ++ [(faultM x.1).1])) (hk : Kept [p, q] w0 w') : FJ T p q M c0 c1 c2 c3 c4 w0 (faultStep x) w' := by
  obtain ⟨_, _, _, h4, h5, h6⟩ := h
  have := faultM_len x.1
  have h7 := h5 hb
  refine ⟨hs, ⟨rv, ha, hr⟩, hk, by show (faultM x.1).2.rest.length ≤ M; omega, fun hb2 => ?_, ?_⟩
  · have := faultM_dec x.1 hb hb2
    show (x.2 ++ [(faultM x.1).1]).length + (faultM x.1).2.rest.length ≤ M
    simp; omega
  · show (x.2 ++ [(faultM x.1).1]).length ≤ M + 1
    simp; omega

def FltPost (T : TypeId) (p : Nat) (s : SR) (w : World) (en : Ending) (w' : World) : Prop :=
  en = .returned (.int .i64 (faultM s).1) ∧ SRd T w' p (faultM s).2 ∧ Kept [p] w w'
set_option maxRecDepth 100000 in
set_option maxHeartbeats 3200000 in
theorem sr_fault (w : World) (p : Nat) (s : SR) (h : SRd 69 w p s) (hb : (s.rest.length : Int) ≤ 16777216) : Calls Tryz.prog 38 #[.pointer (some ⟨p, 0, none⟩)] w (FltPost 69 p s w) := by
  have HC : Hid (Calls Tryz.prog 57 #[.pointer (some ⟨p, 0, none⟩)] w (SRowPost 69 p s w)) := Lib.hid (sr_row w p s h hb)
  have HPL := Lib.hid h.lt
  clear h
  go_enter Tryz.func38, Tryz.ntmps38
  go_wp2_with fail
  refine HC.out.mono ?_
  rintro e w2 ⟨v, rfl, hv, hr, hk⟩
  obtain ⟨a, c, rfl, hc⟩ := hv.form
  have HR := Lib.hid hr
  have HK := Lib.hid hk
  obtain ⟨ra, rc, hr1, _⟩ := hr
  have r1 := hr1.cell (i := 1) rfl
  have f1 := hr1.free 1
  have HBAD : Hid (faultOk (rowM s).1 = false → FltPost 69 p s w (.returned (.int .i64 0)) (w2.setCell ⟨p, 1, none⟩ (.bool true))) := Lib.hid (fun hq => ⟨by unfold faultM; rw [hq]; rfl, by unfold faultM; rw [hq]; exact HR.out.mark true, HK.out.setCell (.inl (by simp)) _⟩)
  clear hr1 hk HC
  by_cases hl : (rowM s).1.length = 1
  · obtain ⟨x, hx⟩ : ∃ x, (rowM s).1 = [x] := by
      match hh : (rowM s).1, hl with
      | [x], _ => exact ⟨x, rfl⟩
    have HX := Lib.hid hx
    obtain ⟨b, o, cap, he, _, _, x0, x1, x2⟩ := val_at hv (j := 0) (x := x) (by rw [hx]; rfl)
    simp only [Value.slice.injEq] at he
    obtain ⟨rfl, e7, rfl⟩ := he
    rw [Nat.zero_mul, Nat.add_zero] at x0 x1 x2
    rw [hl]
    clear e7 hv hx hl
    by_cases hk2 : x.k = 2
    · have HE : Hid (faultM s = (x.n, (rowM s).2)) := Lib.hid (by unfold faultM faultOk hd; rw [HX.out]; simp [hk2])
      have hk2' := hk2
      clear x2
      go_wp2_with fail
      go_ret
      exact ⟨by rw [HE.out]; rfl, by rw [HE.out]; exact HR.out, HK.out⟩
    · have HE := Lib.hid (HBAD.out (by unfold faultOk hd; rw [HX.out]; simp [hk2]))
      have hk2' : ¬ x.k = 2 := hk2
      clear x1 x2
      go_wp2_with fail
      go_ret
      exact HE.out
  · have HE := Lib.hid (HBAD.out (by unfold faultOk; simp [hl]))
    have hl' : ¬ ((rowM s).1.length : Int) = 1 := by omega
    clear hv
    go_wp2_with fail
    go_ret
    exact HE.out

set_option maxRecDepth 100000 in
set_option maxHeartbeats 6400000 in
theorem cl35 (w0 w : World) (p q rb M : Nat) (k1 k2 k3 k4 : Value) (x : SR × List Tbl) (h : TJ 69 p q M k1 k2 k3 k4 w0 x w) (hrb : Arr w0 rb 67 [.pointer (some ⟨p, 0, none⟩)]) (hnr : rb ≠ p ∧ rb ≠ q) (hpq : p < q) (hq : q < w0.heap.size) (hM : (M : Int) ≤ 16000000) (hbad : x.1.bad = false) :
    Calls Tryz.prog 35 #[.pointer (some ⟨q, 0, none⟩), .pointer (some ⟨rb, 0, none⟩)] w (fun e w' => e = .returned (.tuple #[]) ∧ TJ 69 p q M k1 k2 k3 k4 w0 (tblStep x) w') := by
  have H := Lib.hid h
  obtain ⟨h1, ⟨rv, h2, h3⟩, h4, h5, h6, h7⟩ := h
  have c0 := (hrb.kept h4 (by simp [hnr.1, hnr.2])).cell (i := 0) rfl
  have hr0 : rb < w0.heap.size := hrb.lt
  have hrw : rb < w.heap.size := (hrb.kept h4 (by simp [hnr.1, hnr.2])).lt
  have HRB := Lib.hid (hrb.kept h4 (by simp [hnr.1, hnr.2]))
  have HC : Hid (∀ n, Calls Tryz.prog 36 #[.pointer (some ⟨p, 0, none⟩)] (w.drewN n) (TblPost 69 p x.1 (w.drewN n))) := Lib.hid (fun n => sr_table (w.drewN n) p x.1 (h1.kept (Kept.drewN (Kept.refl [] w) n)) (by omega))
  have HA := Lib.hid h2
  have HRW := Lib.hid h3
  have HK := Lib.hid h4
  have HBAD := Lib.hid hbad
  have HLEN := Lib.hid h7
  have hqw : q < w.heap.size := Arr.lt h2
  have c1 := h2.cell (i := 0) rfl
  have f1 := h2.free 0
  obtain ⟨ra, rc, hf, _⟩ := h3.form
  subst hf
  have HOFF : Hid (∀ g ∈ (Value.slice ra x.2.length rc).ownBlock.toList, w0.heap.size ≤ g ∧ g < w.heap.size) := Lib.hid (fun g hg => h3.block (g := g) (by simpa using hg))
  clear h1 h2 h3 h4 h5 h6 h7 hrb hbad
  go_enter Tryz.func35, Tryz.ntmps35
  go_wp2_with fail
  go_region_law (first
    | (rw [if_pos (by rfl)]; (refine wp_push 22 53 64 _ Tryz.underlying22 Tryz.info53 rfl (by decide) (by decide) _ _ (by rfl) w0.heap.size (Hi w0.heap.size) (.slice ra x.2.length rc) x.2 (by rfl) (HRW2.out.kept (by first | exact ((Kept.refl [] w2).drewN _).alloc _ | exact (Kept.refl [] w2).alloc _ | exact ((Kept.refl [] w2).drew).alloc _)) w2.heap.size [.string (tblM x.1).1.name, .slice va (tblM x.1).1.cols.length vc, .slice ua (tblM x.1).1.rows.length uc] (tblM x.1).1 (by rfl) (Arr.new' (by simp) rfl) (HEL.out _ (by first | exact ((Kept.refl [] w2).drewN _).alloc _ | exact (Kept.refl [] w2).alloc _ | exact ((Kept.refl [] w2).drew).alloc _)) (by have := HLEN.out; omega) (by have := HSZ.out; simp; omega) ?_); intro g cap2 w3 ho3 hk3; have kk := Kept.trans (Kept.mono (S' := (Value.slice ra x.2.length rc).ownBlock.toList) (show Kept [] w2 _ by first | exact ((Kept.refl [] w2).drewN _).alloc _ | exact (Kept.refl [] w2).alloc _ | exact ((Kept.refl [] w2).drew).alloc _) (by simp)) hk3; have c1' := (kk.cell hqw2 (fun hm => by have := HOFF.out _ hm; omega)).trans c1; have f1' := (kk.frozen hqw2 (fun hm => by have := HOFF.out _ hm; omega)).trans f1; have HO3 := Lib.hid ho3; have HK3 := Lib.hid kk; clear ho3 hk3 kk)
    | (rw [if_pos (by rfl)]; go_simp; refine (HC.out _).mono ?_; rintro e w2 ⟨v, u, rfl, hv, hu, hs, hk⟩; obtain ⟨va, vc, rfl, _⟩ := hv.form; obtain ⟨ua, uc, rfl, _⟩ := hu.form; have kk1 := Kept.trans ((Kept.refl [p] w).drewN _) hk; have c0 := (kk1.cell hrw (by simp [hnr.1])).trans c0; have c1 := (kk1.cell hqw (by simp; omega)).trans c1; have f1 := (kk1.frozen hqw (by simp; omega)).trans f1; have HEL : Hid (∀ wx, Kept [] w2 wx → ktbl.E wx (Av (Hi w0.heap.size) (.slice ra x.2.length rc)) (tblM x.1).1 [.string (tblM x.1).1.name, .slice va (tblM x.1).1.cols.length vc, .slice ua (tblM x.1).1.rows.length uc]) := Lib.hid (fun wx kx => ⟨_, _, rfl, hv.next kx (by simp) (fun b hb _ => av_from HRW.out (Nat.le_refl _) (by have := HK.out.size; have h2 : w.heap.size ≤ b := hb; show w0.heap.size ≤ b; omega) hb), hu.next kx (by simp) (fun b hb _ => av_from HRW.out (Nat.le_refl _) (by have := HK.out.size; have h2 : w.heap.size ≤ b := hb; show w0.heap.size ≤ b; omega) hb)⟩); have HRW2 := Lib.hid (HRW.out.next kk1 (fun g hg => by have := HRW.out.block hg; simp; omega) (fun b hb => by have h2 : w0.heap.size ≤ b := hb; simp; omega) (fun _ h _ => h)); have hrw2 : rb < w2.heap.size := Nat.lt_of_lt_of_le hrw kk1.size; have hqw2 : q < w2.heap.size := Nat.lt_of_lt_of_le hqw kk1.size; have HSZ : Hid (w0.heap.size ≤ w2.heap.size) := Lib.hid (Nat.le_trans HK.out.size kk1.size); have HSR := Lib.hid hs; have HK1 := Lib.hid kk1; clear hv hu hs hk kk1))
  all_goals
    have hend := H.out.step HBAD.out (rv := .slice (some ⟨g, 0, none⟩) (x.2.length + 1) cap2) ((HSR.out.next HK3.out (fun y hy => by have := HOFF.out y hy; omega)).next ((Kept.refl [q] w3).setCell (p := ⟨q, 0, none⟩) (.inl (by simp)) (.slice (some ⟨g, 0, none⟩) (x.2.length + 1) cap2)) (by simp; omega)) (((HA.out.kept HK1.out (by simp; omega)).kept HK3.out (fun hm => by have := HOFF.out _ hm; omega)).set 0 _) (HO3.out.next ((Kept.refl [q] w3).setCell (p := ⟨q, 0, none⟩) (.inl (by simp)) _) (fun g hg => by have := HO3.out.block hg; simp; omega) (fun b hb => by have : w0.heap.size ≤ b := hb; simp; omega) (fun _ h _ => h)) (((HK.out.trans (HK1.out.mono (by intro k _ h; simp at h; simp [h]))).fresh HK3.out (fun y hy hlt => by have := HOFF.out y hy; omega)).setCell (p := ⟨q, 0, none⟩) (.inl (by simp)) _)
    have HEND := Lib.hid hend
    clear hend
    go_wp2_with fail
    go_end0
    exact ⟨rfl, HEND.out⟩

set_option maxRecDepth 100000 in
set_option maxHeartbeats 6400000 in
theorem cl37 (w0 w : World) (p q rb M : Nat) (k0 k1 k2 k3 k4 : Value) (x : SR × List Int) (h : FJ 69 p q M k0 k1 k2 k3 k4 w0 x w) (hrb : Arr w0 rb 67 [.pointer (some ⟨p, 0, none⟩)]) (hnr : rb ≠ p ∧ rb ≠ q) (hpq : p < q) (hq : q < w0.heap.size) (hM : (M : Int) ≤ 16000000) (hbad : x.1.bad = false) :
    Calls Tryz.prog 37 #[.pointer (some ⟨q, 0, none⟩), .pointer (some ⟨rb, 0, none⟩)] w (fun e w' => e = .returned (.tuple #[]) ∧ FJ 69 p q M k0 k1 k2 k3 k4 w0 (faultStep x) w') := by
  have H := Lib.hid h
  obtain ⟨h1, ⟨rv, h2, h3⟩, h4, h5, h6, h7⟩ := h
  have c0 := (hrb.kept h4 (by simp [hnr.1, hnr.2])).cell (i := 0) rfl
  have hr0 : rb < w0.heap.size := hrb.lt
  have hrw : rb < w.heap.size := (hrb.kept h4 (by simp [hnr.1, hnr.2])).lt
  have HRB := Lib.hid (hrb.kept h4 (by simp [hnr.1, hnr.2]))
  have HC : Hid (∀ n, Calls Tryz.prog 38 #[.pointer (some ⟨p, 0, none⟩)] (w.drewN n) (FltPost 69 p x.1 (w.drewN n))) := Lib.hid (fun n => sr_fault (w.drewN n) p x.1 (h1.kept (Kept.drewN (Kept.refl [] w) n)) (by omega))
  have HA := Lib.hid h2
  have HRW := Lib.hid h3
  have HK := Lib.hid h4
  have HBAD := Lib.hid hbad
  have HLEN := Lib.hid h7
  have hqw : q < w.heap.size := Arr.lt h2
  have c1 := h2.cell (i := 5) rfl
  have f1 := h2.free 5
  obtain ⟨ra, rc, hf, _⟩ := h3.form
  subst hf
  have HOFF : Hid (∀ g ∈ (Value.slice ra x.2.length rc).ownBlock.toList, w0.heap.size ≤ g ∧ g < w.heap.size) := Lib.hid (fun g hg => h3.block (g := g) (by simpa using hg))
  clear h1 h2 h3 h4 h5 h6 h7 hrb hbad
  go_enter Tryz.func37, Tryz.ntmps37
  go_wp2_with fail
  go_region_law (first
    | (rw [if_pos (by rfl)]; (refine wp_push (K := kint .i64) 23 3 8 _ Tryz.underlying23 Tryz.info3 rfl (by decide) (by decide) _ _ (by rfl) w0.heap.size NoB (.slice ra x.2.length rc) x.2 (by rfl) (HRW2.out.kept (by first | exact ((Kept.refl [] w2).drewN _).alloc _ | exact (Kept.refl [] w2).alloc _ | exact ((Kept.refl [] w2).drew).alloc _)) w2.heap.size [.int .i64 (faultM x.1).1] (faultM x.1).1 (by rfl) (Arr.new' (by simp) rfl) rfl (by have := HLEN.out; omega) (by have := HSZ.out; simp; omega) ?_); intro g cap2 w3 ho3 hk3; have kk := Kept.trans (Kept.mono (S' := (Value.slice ra x.2.length rc).ownBlock.toList) (show Kept [] w2 _ by first | exact ((Kept.refl [] w2).drewN _).alloc _ | exact (Kept.refl [] w2).alloc _ | exact ((Kept.refl [] w2).drew).alloc _) (by simp)) hk3; have c1' := (kk.cell hqw2 (fun hm => by have := HOFF.out _ hm; omega)).trans c1; have f1' := (kk.frozen hqw2 (fun hm => by have := HOFF.out _ hm; omega)).trans f1; have HO3 := Lib.hid ho3; have HK3 := Lib.hid kk; clear ho3 hk3 kk)
    | (rw [if_pos (by rfl)]; go_simp; refine (HC.out _).mono ?_; rintro e w2 ⟨rfl, hs, hk⟩; have kk1 := Kept.trans ((Kept.refl [p] w).drewN _) hk; have c0 := (kk1.cell hrw (by simp [hnr.1])).trans c0; have c1 := (kk1.cell hqw (by simp; omega)).trans c1; have f1 := (kk1.frozen hqw (by simp; omega)).trans f1; have HRW2 := Lib.hid (HRW.out.next kk1 (fun g hg => by have := HRW.out.block hg; simp; omega) (fun _ h => h.elim) (fun _ h _ => h)); have hrw2 : rb < w2.heap.size := Nat.lt_of_lt_of_le hrw kk1.size; have hqw2 : q < w2.heap.size := Nat.lt_of_lt_of_le hqw kk1.size; have HSZ : Hid (w0.heap.size ≤ w2.heap.size) := Lib.hid (Nat.le_trans HK.out.size kk1.size); have HSR := Lib.hid hs; have HK1 := Lib.hid kk1; clear hs hk kk1))
  all_goals
    have hend := H.out.step HBAD.out (rv := .slice (some ⟨g, 0, none⟩) (x.2.length + 1) cap2) ((HSR.out.next HK3.out (fun y hy => by have := HOFF.out y hy; omega)).next ((Kept.refl [q] w3).setCell (p := ⟨q, 5, none⟩) (.inl (by simp)) (.slice (some ⟨g, 0, none⟩) (x.2.length + 1) cap2)) (by simp; omega)) (((HA.out.kept HK1.out (by simp; omega)).kept HK3.out (fun hm => by have := HOFF.out _ hm; omega)).set 5 _) (HO3.out.next ((Kept.refl [q] w3).setCell (p := ⟨q, 5, none⟩) (.inl (by simp)) _) (fun g hg => by have := HO3.out.block hg; simp; omega) (fun _ h => h.elim) (fun _ h _ => h)) (((HK.out.trans (HK1.out.mono (by intro k _ h; simp at h; simp [h]))).fresh HK3.out (fun y hy hlt => by have := HOFF.out y hy; omega)).setCell (p := ⟨q, 5, none⟩) (.inl (by simp)) _)
    have HEND := Lib.hid hend
    clear hend
    go_wp2_with fail
    go_end0
    exact ⟨rfl, HEND.out⟩
end Go.Proofs.YtkodiogkldboiaaGreatDoor
/- What is decoded is not too large. -/
namespace Go.Proofs.YtkodiogkldboiaaGreatDoor
open Go.RowKit

theorem rowM_32 (s : SR) : (rowM s).1.length ≤ 32 := by
  unfold rowM
  split
  · simp
  · unfold gl getM
    split
    · simp
    · split
      · simp
      · rename_i h1 h2 h3
        have := readM_len s.rest (byteM s.rest 0 false) (stepN s.rest ⟨0, false⟩ 1)
        simp; omega
theorem timesM_inv {α : Type} (step : SR × α → SR × α) (I : SR × α → Prop) (hs : ∀ x, x.1.bad = false → I x → I (step x)) (n : Nat) : ∀ x, I x → I (timesM sbad step n x) := by
  induction n with
  | zero => intro x h; exact h
  | succ n ih =>
    intro x h
    rw [timesM]
    cases hb : sbad x with
    | true => exact h
    | false => exact ih _ (hs x hb h)
/-- So long is a list that is read. -/
def Short {α : Type} (M : Nat) (x : SR × List α) : Prop := (x.1.bad = false → x.2.length + x.1.rest.length ≤ M) ∧ x.2.length ≤ M + 1
theorem short_step {α : Type} {M : Nat} {x : SR × List α} {s' : SR} {y : α} (h : Short M x) (hb : x.1.bad = false) (hd : s'.bad = false → s'.rest.length + 1 ≤ x.1.rest.length) : Short M (s', x.2 ++ [y]) := by
  have h1 := h.1 hb
  refine ⟨fun h2 => ?_, ?_⟩
  · have := hd h2
    show (x.2 ++ [y]).length + s'.rest.length ≤ M
    simp; omega
  · show (x.2 ++ [y]).length ≤ M + 1
    simp; omega
theorem short_nil {α : Type} (s : SR) : Short s.rest.length ((s, []) : SR × List α) := ⟨fun _ => by simp, by simp⟩
theorem tblM_fine (s : SR) (h : s.rest.length ≤ 900000) : Fine (tblM s).1 := by
  have hc : Short (intsS 2 s).rest.length (tblC s) ∧ ∀ c ∈ (tblC s).2, (c.name.size : Int) ≤ 140737488355328 :=
    timesM_inv colStep (fun x => Short (intsS 2 s).rest.length x ∧ ∀ c ∈ x.2, (c.name.size : Int) ≤ 140737488355328) (fun x hb hi => ⟨short_step hi.1 hb (intsS_dec 1 x.1 hb), fun c hc => by
      rcases List.mem_append.1 hc with h2 | h2
      · exact hi.2 c h2
      · simp at h2; subst h2; have := intsNm_size 1 x.1; unfold colNew; simp; omega⟩) _ _ ⟨short_nil _, by simp⟩
  have hr : Short (tblC s).1.rest.length (tblR s) ∧ ∀ r ∈ (tblR s).2, r.length ≤ 1000000 :=
    timesM_inv rowStep (fun x => Short (tblC s).1.rest.length x ∧ ∀ r ∈ x.2, r.length ≤ 1000000) (fun x hb hi => ⟨short_step hi.1 hb (rowM_dec x.1 hb), fun c hc => by
      rcases List.mem_append.1 hc with h2 | h2
      · exact hi.2 c h2
      · simp at h2; subst h2; have := rowM_32 x.1; omega⟩) _ _ ⟨short_nil _, by simp⟩
  have h1 := intsS_len 2 s
  have h2 := tblC_len s
  have h3 := intsNm_size 2 s
  refine ⟨?_, ?_, ?_, hc.2, hr.2⟩
  · have := hc.1.2; show (tblC s).2.length ≤ _; omega
  · have := hr.1.2; show (tblR s).2.length ≤ _; omega
  · show ((intsNm 2 s).size : Int) ≤ _; omega
theorem queryM_len (n : Nat) : ∀ (s : SR) (o : List UInt8), (queryM n s o).2.rest.length ≤ s.rest.length ∧ (queryM n s o).1.length ≤ o.length + n + 64 := by
  induction n using Nat.strongRecOn with
  | ind n ih =>
    intro s o
    rw [queryM]
    split
    · exact ⟨Nat.le_refl _, by simp; omega⟩
    · rename_i h
      have hn : 0 < n := by rcases Nat.eq_zero_or_pos n with h2 | h2; exact absurd (.inl h2) h; exact h2
      have := ih (n - 64) (by omega) ⟨(intsS 0 s).rest, (intsS 0 s).bad || !decide ((intsNm 0 s).size = min n 64)⟩ (o ++ (intsNm 0 s).data.toList)
      have h2 := intsS_len 0 s
      have h3 := intsNm_size 0 s
      have h4 : (o ++ (intsNm 0 s).data.toList).length = o.length + (intsNm 0 s).size := by simp
      refine ⟨Nat.le_trans this.1 h2, ?_⟩
      by_cases hz : n ≤ 64
      · rw [show n - 64 = 0 by omega, queryM, if_pos (.inl rfl)]
        show (o ++ (intsNm 0 s).data.toList).length ≤ _
        omega
      · have := this.2; omega
theorem decQ_rest (s : SR) : (decQ s).2.rest.length ≤ s.rest.length := Nat.le_trans (queryM_len _ _ _).1 (intsS_len 6 s)
theorem decT_rest (s : SR) : (decT s).1.rest.length ≤ s.rest.length := Nat.le_trans (timesM_len tblStep (fun x => tblM_len x.1) _ _) (decQ_rest s)
theorem decScr_fine (s : SR) (h : s.rest.length ≤ 900000) (hq : l_at (intsV 6 s) 3 ≤ 16384) : FineS (decScr s) := by
  have h1 := decQ_rest s
  have ht : Short (decQ s).2.rest.length (decT s) ∧ (decT s).1.rest.length ≤ 900000 ∧ ∀ t ∈ (decT s).2, Fine t :=
    timesM_inv tblStep (fun x => Short (decQ s).2.rest.length x ∧ x.1.rest.length ≤ 900000 ∧ ∀ t ∈ x.2, Fine t) (fun x hb hi => ⟨short_step hi.1 hb (tblM_dec x.1 hb), Nat.le_trans (tblM_len x.1) hi.2.1, fun c hc => by
      rcases List.mem_append.1 hc with h2 | h2
      · exact hi.2.2 c h2
      · simp at h2; subst h2; exact tblM_fine x.1 hi.2.1⟩) _ _ ⟨short_nil _, by show (decQ s).2.rest.length ≤ _; omega, by simp⟩
  have hf : Short (decT s).1.rest.length (decF s) :=
    timesM_inv faultStep (fun x => Short (decT s).1.rest.length x) (fun x hb hi => short_step hi hb (faultM_dec x.1 hb)) _ _ (short_nil _)
  have h2 := decT_rest s
  refine ⟨?_, ?_, ?_, ht.2.2⟩
  · have := ht.1.2; show (decT s).2.length ≤ _; omega
  · have := hf.2; show (decF s).2.length ≤ _; omega
  · have := (queryM_len (l_at (intsV 6 s) 3) (intsS 6 s) []).2
    show ((⟨(decQ s).1.toArray⟩ : ByteArray).size : Int) ≤ _
    have e : (⟨(decQ s).1.toArray⟩ : ByteArray).size = (decQ s).1.length := by simp [ByteArray.size]
    rw [e]
    unfold decQ
    simp at this
    omega
end Go.Proofs.YtkodiogkldboiaaGreatDoor
