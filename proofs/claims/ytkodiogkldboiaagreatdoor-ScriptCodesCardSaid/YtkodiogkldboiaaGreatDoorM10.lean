/- What is read from a place on is what is read of the rest. -/
import Derived.Test.YtkodiogkldboiaaGreatDoorM9
set_option linter.unusedVariables false
set_option linter.unusedSimpArgs false
namespace Go.Proofs.YtkodiogkldboiaaGreatDoor
open Go.RowKit

theorem okN_drop (B : List UInt8) (a x n : Nat) (bad : Bool) (h : a ≤ B.length) : okN bad (a + x) n B.length = okN bad x n (B.drop a).length := by
  unfold okN; rw [List.length_drop]; congr 1; apply decide_eq_decide.2; omega
theorem byteM_drop (B : List UInt8) (a x : Nat) (bad : Bool) (h : a ≤ B.length) : byteM B (a + x) bad = byteM (B.drop a) x bad := by
  unfold byteM; rw [okN_drop B a x 1 bad h]
  simp [List.getD, List.getElem?_drop]
theorem stepN_drop (B : List UInt8) (a n : Nat) (s : RS) (h : a ≤ B.length) : stepN B ⟨a + s.at_, s.bad⟩ n = ⟨a + (stepN (B.drop a) s n).at_, (stepN (B.drop a) s n).bad⟩ := by
  unfold stepN; simp only; rw [okN_drop B a s.at_ n s.bad h]; split <;> simp [Nat.add_assoc]
theorem bytesN_drop (B : List UInt8) (a n : Nat) (s : RS) (h : a ≤ B.length) : bytesN B ⟨a + s.at_, s.bad⟩ n = bytesN (B.drop a) s n := by
  unfold bytesN; simp only; rw [okN_drop B a s.at_ n s.bad h]; simp [List.drop_drop]
theorem valueM_drop (B : List UInt8) (a : Nat) (s : RS) (h : a ≤ B.length) : valueM B ⟨a + s.at_, s.bad⟩ = ((valueM (B.drop a) s).1, ⟨a + (valueM (B.drop a) s).2.at_, (valueM (B.drop a) s).2.bad⟩) := by
  have e1 := byteM_drop B a s.at_ s.bad h
  have e2 := stepN_drop B a 1 s h
  unfold valueM
  simp only [e1, e2]
  generalize stepN (B.drop a) s 1 = s1
  have e3 := byteM_drop B a s1.at_ s1.bad h
  have e4 := fun n => stepN_drop B a n s1 h
  have e5 := fun n => bytesN_drop B a n s1 h
  simp only [e3, e4, e5]
  generalize stepN (B.drop a) s1 1 = s2
  have e6 := fun n => stepN_drop B a n s2 h
  have e7 := fun n => bytesN_drop B a n s2 h
  simp only [e6, e7]
  generalize byteM (B.drop a) s.at_ s.bad = k
  by_cases k1 : k = 1
  · simp [k1]
  · by_cases k2 : k = 2
    · simp [k2]
    · by_cases k3 : k = 3
      · simp [k3]
      · simp [k1, k2, k3]
theorem valueM_at (B : List UInt8) (a : Nat) (h : a ≤ B.length) : valueM B ⟨a, false⟩ = ((valueM (B.drop a) s00).1, ⟨a + (valueM (B.drop a) s00).2.at_, (valueM (B.drop a) s00).2.bad⟩) := valueM_drop B a s00 h
theorem gvN_pos (l : List UInt8) (h : (valueM l s00).2.bad = false) : 0 < (valueM l s00).2.at_ := by
  cases l with
  | nil => rw [gv_nil] at h; cases h
  | cons c t =>
    have hc : (c :: t)[0]? = some c := rfl
    generalize c :: t = l at *
    by_cases k0 : c.toNat = 0
    · rw [gv0 l c hc k0]; exact Nat.one_pos
    by_cases k1 : c.toNat = 1
    · by_cases h2 : 2 ≤ l.length
      · rw [gv1 l c _ hc k1 (List.getElem?_eq_getElem (by omega))]; simp
      · rw [gv1' l c hc k1 h2] at h; cases h
    by_cases k2 : c.toNat = 2
    · by_cases h2 : 8 ≤ l.length
      · rw [gv2 l c hc k2 h2]; simp
      · rw [gv2' l c hc k2 h2] at h; cases h
    by_cases k3 : c.toNat = 3
    · by_cases h2 : 2 ≤ l.length
      · by_cases h3 : 2 + (l[1]'(by omega)).toNat ≤ l.length
        · rw [gv3 l c _ hc k3 (List.getElem?_eq_getElem (by omega)) h3]; simp; omega
        · rw [gv3'' l c _ hc k3 (List.getElem?_eq_getElem (by omega)) h3] at h; cases h
      · rw [gv3' l c hc k3 h2] at h; cases h
    · rw [gv4 l c hc (by omega)] at h; cases h
theorem gvN_zero (l : List UInt8) : gvN l = 0 ↔ (valueM l s00).2.bad = true := by
  unfold gvN
  cases h : (valueM l s00).2.bad with
  | true => simp
  | false => have := gvN_pos l h; simp; omega
/-- One more value. -/
theorem readM_more (B : List UInt8) (a m : Nat) (h : a ≤ B.length) (hg : gvN (B.drop a) ≠ 0) : readM B (m + 1) ⟨a, false⟩ = (gvV (B.drop a) :: (readM B m ⟨a + gvN (B.drop a), false⟩).1, (readM B m ⟨a + gvN (B.drop a), false⟩).2) := by
  have hb : (valueM (B.drop a) s00).2.bad = false := by
    cases h2 : (valueM (B.drop a) s00).2.bad with
    | true => exact absurd ((gvN_zero _).2 h2) hg
    | false => rfl
  rw [readM, if_neg (by simp), valueM_at B a h]
  unfold gvV gvN
  rw [hb]; simp
theorem readM_none (B : List UInt8) (a m : Nat) (h : a ≤ B.length) (hg : gvN (B.drop a) = 0) : (readM B (m + 1) ⟨a, false⟩).2.bad = true := by
  have hb := (gvN_zero _).1 hg
  rw [readM, if_neg (by simp), valueM_at B a h]
  simp only
  cases m with
  | zero => rw [readM]; exact hb
  | succ m => rw [readM, if_pos (by simp [hb])]; exact hb
theorem gvN_le (B : List UInt8) (a : Nat) (h : a ≤ B.length) : a + gvN (B.drop a) ≤ B.length := by
  have := valueM_le (B.drop a) s00 (Nat.zero_le _)
  rw [List.length_drop] at this
  unfold gvN
  split <;> omega
end Go.Proofs.YtkodiogkldboiaaGreatDoor
/- The reference's Get. -/
namespace Go.Proofs.YtkodiogkldboiaaGreatDoor
open Go.RowKit

def RGetPost (g : Option (List Val × Nat)) (w : World) (en : Ending) (w' : World) : Prop :=
  ∃ v, en = .returned (.tuple #[v, .int .i64 (gn g : Int), .bool g.isSome]) ∧ kval.At w' (Hi w.heap.size) v (gl g) ∧ Kept [] w w'

theorem BAt.drop {w : World} {P : Nat → Prop} {b o cap at_ : Nat} {l : List UInt8} (h : BAt w P (.slice (some ⟨b, o, none⟩) l.length cap) l) (hn : at_ ≤ l.length) : BAt w P (.slice (some ⟨b, o + at_, none⟩) (l.drop at_).length (cap - at_)) (l.drop at_) := by
  obtain ⟨_, _, he, hcap⟩ := h.form
  simp only [List.length_map, Value.slice.injEq, true_and] at he hcap
  obtain ⟨rfl, rfl⟩ := he
  have := BAt.sub (at_ := at_) (n := l.length - at_) (c := cap - at_) h (by omega) (by omega)
  rw [List.take_of_length_le (by simp)] at this
  rw [List.length_drop]
  exact this
theorem BAt.nil (w : World) (P : Nat → Prop) (a : Option Addr) (c : Nat) : BAt w P (.slice a 0 c) [] := ⟨a, c, rfl, Nat.zero_le _, fun j x h => by simp at h⟩

set_option maxRecDepth 100000 in
set_option maxHeartbeats 6400000 in
theorem ref02_get (w : World) (ba : Option Addr) (bc : Nat) (B : List UInt8) (hba : BAt w Any (.slice ba B.length bc) B) (hb : (B.length : Int) ≤ 16777216) : Calls Tryz.prog 64 #[.slice ba B.length bc] w (RGetPost (getM B) w) := by
  by_cases h0 : B.length = 0
  · obtain rfl : B = [] := List.eq_nil_of_length_eq_zero h0
    have hg : getM [] = none := by simp [getM, byteM, okN, stepN, readM]
    have HG := Lib.hid hg
    clear hg h0 hba
    simp only [List.length_nil]
    go_enter Tryz.func64, Tryz.ntmps64
    go_wp2_with fail
    go_ret3
    exact ⟨_, by rw [HG.out]; rfl, by rw [HG.out]; exact Kd.At.nil _ _ _, Kept.refl _ _⟩
  · obtain ⟨c, hc⟩ : ∃ c, B[0]? = some c := ⟨B[0]'(by omega), List.getElem?_eq_getElem (by omega)⟩
    obtain ⟨b, o, cap', he, _, hbs, x0⟩ := int_at hba (x := (c.toNat : Int)) (j := 0) (by rw [List.getElem?_map, hc]; rfl)
    simp only [Value.slice.injEq] at he
    obtain ⟨rfl, e7, e8⟩ := he
    clear e7 e8
    rw [Nat.add_zero] at x0
    obtain ⟨_, _, he, hcap⟩ := hba.form
    simp only [List.length_map, Value.slice.injEq, true_and] at he hcap
    obtain ⟨rfl, rfl⟩ := he
    have h0' : ¬ (B.length : Int) = 0 := by omega
    have h00 : (0 : Int) < (B.length : Int) := by omega
    have h01 : 0 < B.length := by omega
    have hgm : getM B = if 32 < c.toNat then none else if (readM B c.toNat ⟨1, false⟩).2.bad then none else some ((readM B c.toNat ⟨1, false⟩).1, (readM B c.toNat ⟨1, false⟩).2.at_) := by
      unfold getM
      rw [byteM_at B 0 c hc, stepN_ok B 0 1 (by omega)]
    have HGM := Lib.hid hgm
    have H := Lib.hid hba
    have hm0 : (c.toNat : Int) < 256 := by have := UInt8.toNat_lt c; omega
    have hm1 : (0 : Int) ≤ (c.toNat : Int) := by omega
    have X0 := Lib.hid x0
    clear hc hba hgm
    generalize c.toNat = n at *
    by_cases h32 : 32 < n
    · have h32' : (32 : Int) < (n : Int) := by omega
      have hg : getM B = none := by rw [HGM.out, if_pos h32]
      have HG := Lib.hid hg
      clear hg
      go_enter Tryz.func64, Tryz.ntmps64
      go_wp2_with fail
      go_ret3
      exact ⟨_, by rw [HG.out]; rfl, by rw [HG.out]; exact Kd.At.nil _ _ _, Kept.refl _ _⟩
    · have h32' : ¬ (32 : Int) < (n : Int) := by omega
      go_enter Tryz.func64, Tryz.ntmps64
      go_wp2_with fail
      go_loopg [5, 6, 7] n (fun g av ov i wr => ∃ (k at_ : Nat) (L : List Val), k + g = n ∧ i = .int .i64 k ∧ av = .int .i64 (at_ : Int) ∧ Hid (L.length = k) ∧ Hid (kval.Row 57 wr w.heap.size NoB ov L) ∧ Hid (Kept [] w wr) ∧ at_ ≤ B.length ∧ Hid (readM B n ⟨1, false⟩ = (L ++ (readM B (n - k) ⟨at_, false⟩).1, (readM B (n - k) ⟨at_, false⟩).2)))
      case atStart => exact ⟨0, 1, [], by omega, rfl, rfl, Lib.hid rfl, Lib.hid (Kd.Row.nil _ _ _ _ _), Lib.hid (Kept.refl _ _), h01, Lib.hid (by simp)⟩
      case round =>
        clear x0
        obtain ⟨k, a, L, hk, rfl, rfl, HL, HRW, HKW, hal, HRM⟩ := hrel
        obtain ⟨wo, hwo⟩ : ∃ wo : World, wo = wr := ⟨_, rfl⟩
        subst hwo
        have x0 := (HKW.out.cell hbs (by simp)).trans X0.out
        have ha0 : (0 : Int) ≤ (a : Int) := by omega
        have hk0 : (0 : Int) ≤ (k : Int) := by omega
        have ha1 : (a : Int) ≤ (B.length : Int) := by omega
        have ha2 : (a : Int) ≤ (bc : Int) := by omega
        have ha3 : (B.length : Int) ≤ (bc : Int) := by omega
        by_cases hlt : k < n
        · have hlt' : (k : Int) < (n : Int) := by omega
          by_cases hbc : bc = a
          · obtain rfl : a = B.length := by omega
            subst hbc
            have HC : Hid (∀ (w0 : World) (ad : Option Addr) (cp : Nat), Calls Tryz.prog 78 #[.slice ad 0 cp] w0 (GvPost [] w0)) := Lib.hid (fun w0 ad cp => ref02_gv w0 ad cp [] (BAt.nil _ _ _ _) (by simp))
            go_wp2_with fail
            refine (HC.out _ _ _).mono ?_
            rintro e w2 ⟨rfl, hk2⟩
            have hz := gv_bad gv_nil
            have hg : getM B = none := by
              rw [HGM.out, if_neg h32, HRM.out, show n - k = (n - (k + 1)) + 1 by omega, readM_none B B.length _ (Nat.le_refl _) (by rw [List.drop_length]; exact hz.2)]; rfl
            rw [hz.1, hz.2]
            have HG := Lib.hid hg
            have HK2 := Lib.hid (HKW.out.trans hk2)
            clear hg hz hk2 x0
            go_wp2_with fail
            go_ret3
            exact ⟨_, by rw [HG.out]; rfl, by rw [HG.out]; exact Kd.At.nil _ _ _, HK2.out.alloc _⟩
          · have ha4 : a < bc := by omega
            have HC : Hid (Calls Tryz.prog 78 #[.slice (some ⟨b, o + a, none⟩) (B.length - a) (bc - a)] wo (GvPost (B.drop a) wo)) := Lib.hid (by
              have := ref02_gv wo (some ⟨b, o + a, none⟩) (bc - a) (B.drop a) (BAt.drop (H.out.kept HKW.out) hal) (by rw [List.length_drop]; omega)
              rw [List.length_drop] at this
              exact this)
            go_wp2_with fail
            refine HC.out.mono ?_
            rintro e w2 ⟨rfl, hk2⟩
            have HK2 := Lib.hid (HKW.out.trans hk2)
            have HRW2 := Lib.hid (HRW.out.kept hk2)
            have HSZ := Lib.hid hk2.size
            clear hk2 x0
            by_cases hz : gvN (B.drop a) = 0
            · have hg : getM B = none := by
                rw [HGM.out, if_neg h32, HRM.out, show n - k = (n - (k + 1)) + 1 by omega, readM_none B a _ hal hz]; rfl
              have HG := Lib.hid hg
              rw [hz]
              clear hg hz
              go_wp2_with fail
              go_ret3
              exact ⟨_, by rw [HG.out]; rfl, by rw [HG.out]; exact Kd.At.nil _ _ _, HK2.out.alloc _⟩
            · have HM := Lib.hid (readM_more B a (n - (k + 1)) hal hz)
              have hle := gvN_le B a hal
              generalize gvV (B.drop a) = x at *
              generalize gvN (B.drop a) = z at *
              have hz' : ¬ (z : Int) = 0 := by omega
              have hz1 : (z : Int) ≤ (B.length : Int) := by omega
              obtain ⟨a1, cp1, hf, _⟩ := HRW2.out.form
              rw [HL.out] at hf
              subst hf
              go_wp2_with (at_builtin; go_must (refine wpList_val rfl _ _ rfl w.heap.size (.slice a1 k cp1) L rfl ((HRW2.out.kept (Kept.alloc (Kept.refl [] _) _)).kept (Kept.alloc (Kept.refl [] _) _)) (w2.heap.size + 1) x rfl (Arr.new' (by simp) rfl) (by have := HL.out; omega) (by have := HKW.out.size; have := HSZ.out; simp; omega) ?_); intro g cap w4 ho hk; rw [HL.out] at ho; have HO := Lib.hid ho; have HK4 := Lib.hid hk; clear ho hk)
              go_roundg (n - (k + 1))
              case measure => omega
              case rel => exact ⟨k + 1, a + z, L ++ [x], by omega, by go_num, by go_num, Lib.hid (by simp [HL.out]), by rw [HL.out]; exact HO, Lib.hid (Kept.fresh ((HK2.out.alloc _).alloc _) HK4.out (fun y hy hlt => by have := HRW2.out.block (g := y) (by simpa using hy); omega)), hle, Lib.hid (by rw [HRM.out, show n - k = (n - (k + 1)) + 1 by omega, HM.out]; simp)⟩
        · obtain rfl : k = n := by omega
          have hg : getM B = some (L, a) := by
            rw [HGM.out, if_neg h32, HRM.out, Nat.sub_self, readM]; simp
          have HG := Lib.hid hg
          obtain ⟨a1, cp1, hf, _⟩ := HRW.out.form
          rw [HL.out] at hf
          subst hf
          clear hg
          go_wp2_with fail
          go_ret3
          exact ⟨_, by rw [HG.out]; rfl, by rw [HG.out]; exact row_hi HRW.out, HKW.out⟩
end Go.Proofs.YtkodiogkldboiaaGreatDoor
/- script.reader: row. -/
namespace Go.Proofs.YtkodiogkldboiaaGreatDoor
open Go.RowKit

/-- What is left to read, and whether something was not as it must be. -/
structure SR where
  rest : List UInt8
  bad : Bool
def rowM (s : SR) : List Val × SR := if s.bad then ([], s) else (gl (getM s.rest), ⟨s.rest.drop (gn (getM s.rest)), !(getM s.rest).isSome⟩)
/-- A reader in memory (T: its type); its bytes lie in an elder block. -/
def SRd (T : TypeId) (w : World) (p : Nat) (s : SR) : Prop := ∃ a c, Arr w p T [.slice a s.rest.length c, .bool s.bad] ∧ BAt w (fun b => b < p) (.slice a s.rest.length c) s.rest
def SRowPost (T : TypeId) (p : Nat) (s : SR) (w : World) (en : Ending) (w' : World) : Prop :=
  ∃ v, en = .returned v ∧ kval.At w' (Hi w.heap.size) v (rowM s).1 ∧ SRd T w' p (rowM s).2 ∧ Kept [p] w w'

theorem readM_le (B : List UInt8) (n : Nat) : ∀ s : RS, s.at_ ≤ B.length → (readM B n s).2.at_ ≤ B.length := by
  induction n with
  | zero => intro s h; exact h
  | succ n ih =>
    intro s h
    unfold readM
    split
    · exact h
    · exact ih _ (valueM_le B s h)
theorem gn_le (B : List UInt8) : gn (getM B) ≤ B.length := by
  unfold getM
  split
  · simp [gn]
  · split
    · simp [gn]
    · exact readM_le B _ _ (stepN_le B _ 1 (Nat.zero_le _))
theorem rowM_len (s : SR) : (rowM s).2.rest.length ≤ s.rest.length := by
  unfold rowM; split
  · exact Nat.le_refl _
  · simp
theorem SRd.next {T : TypeId} {w w' : World} {p : Nat} {s : SR} {S : List Nat} (h : SRd T w p s) (k : Kept S w w') (hS : ∀ x ∈ S, p < x) : SRd T w' p s := by
  obtain ⟨a, c, h1, h2⟩ := h
  exact ⟨a, c, h1.kept k (fun hm => by have := hS _ hm; omega), h2.next k (fun b hb hm => by have := hS _ hm; omega) (fun _ h _ => h)⟩
theorem SRd.kept {T : TypeId} {w w' : World} {p : Nat} {s : SR} (h : SRd T w p s) (k : Kept [] w w') : SRd T w' p s := h.next k (by simp)
theorem SRd.lt {T : TypeId} {w : World} {p : Nat} {s : SR} (h : SRd T w p s) : p < w.heap.size := by
  obtain ⟨a, c, h1, _⟩ := h; exact h1.lt
/-- It is marked as bad. -/
theorem SRd.mark {T : TypeId} {w : World} {p : Nat} {s : SR} (h : SRd T w p s) (bd : Bool) : SRd T (w.setCell ⟨p, 1, none⟩ (.bool bd)) p ⟨s.rest, bd⟩ := by
  obtain ⟨a, c, h1, h2⟩ := h
  exact ⟨a, c, h1.set 1 _, h2.next ((Kept.refl [p] w).setCell (.inl (by simp)) _) (fun b hb hm => by simp at hm; omega) (fun _ h _ => h)⟩

set_option maxRecDepth 100000 in
set_option maxHeartbeats 3200000 in
theorem sr_row (w : World) (p : Nat) (s : SR) (h : SRd 69 w p s) (hb : (s.rest.length : Int) ≤ 16777216) : Calls Tryz.prog 57 #[.pointer (some ⟨p, 0, none⟩)] w (SRowPost 69 p s w) := by
  have HS := Lib.hid h
  obtain ⟨rest, bad⟩ := s
  obtain ⟨a, c, h1, h2⟩ := h
  simp only at h1 h2 hb
  have r0 := h1.cell (i := 0) rfl
  have r1 := h1.cell (i := 1) rfl
  have f0 := h1.free 0
  have f1 := h1.free 1
  cases bad with
  | true =>
    clear h1 h2
    go_enter Tryz.func57, Tryz.ntmps57
    go_wp2_with fail
    go_ret
    exact ⟨_, rfl, Kd.At.nil _ _ _, HS.out, Kept.refl _ _⟩
  | false =>
    have HC : Hid (Calls Tryz.prog 76 #[.slice a rest.length c] w (GetPost (getM rest) w)) := Lib.hid (row_get w a c rest h2.any hb)
    have HM : Hid (rowM ⟨rest, false⟩ = (gl (getM rest), ⟨rest.drop (gn (getM rest)), !(getM rest).isSome⟩)) := Lib.hid rfl
    have hn := gn_le rest
    have hge : ge (getM rest) = 0 ∧ (getM rest).isSome = true ∨ ge (getM rest) = 20 ∧ (getM rest).isSome = false := by unfold ge; cases (getM rest).isSome <;> simp
    have H1 := Lib.hid h1
    have H2 := Lib.hid h2
    clear h1 h2
    go_enter Tryz.func57, Tryz.ntmps57
    go_wp2_with fail
    refine HC.out.mono ?_
    rintro e w2 ⟨v, rfl, hv, hk⟩
    have HV := Lib.hid hv
    have HK := Lib.hid hk
    have HR2 := Lib.hid (H1.out.kept hk (by simp))
    have HB2 := Lib.hid (H2.out.next (Q := fun b => b < p) hk (by simp) (fun _ h _ => h))
    clear hv hk r0 r1 f0 f1
    generalize gn (getM rest) = n at *
    generalize gl (getM rest) = l at *
    generalize ge (getM rest) = er at *
    generalize (getM rest).isSome = ok at *
    have r0 := HR2.out.cell (i := 0) rfl
    have r1 := HR2.out.cell (i := 1) rfl
    have f0 := HR2.out.free 0
    have f1 := HR2.out.free 1
    have hn0 : (n : Int) ≤ (rest.length : Int) := by omega
    have hn1 : (0 : Int) ≤ (n : Int) := by omega
    have hc : (rest.length : Int) ≤ (c : Int) := by
      obtain ⟨_, _, he, hcap⟩ := HB2.out.form
      simp only [List.length_map, Value.slice.injEq, true_and] at he hcap
      obtain ⟨_, rfl⟩ := he
      omega
    have hnc : (n : Int) ≤ (c : Int) := by omega
    have hend : ∀ (a' : Option Addr) (c' : Nat), BAt w2 (fun b => b < p) (.slice a' (rest.length - n) c') (rest.drop n) → SRowPost 69 p ⟨rest, false⟩ w (.returned v) ((w2.setCell ⟨p, 1, none⟩ (.bool (!ok))).setCell ⟨p, 0, none⟩ (.slice a' (rest.length - n) c')) := by
      intro a' c' hb'
      refine ⟨v, rfl, ?_, ?_, ?_⟩
      · rw [HM.out]; exact HV.out.next (((Kept.refl [p] w2).setCell (.inl (by simp)) _).setCell (.inl (by simp)) _) (fun b hb hm => by simp at hm; have := Arr.lt H1.out; have hb3 : w.heap.size ≤ b := hb; omega) (fun _ h _ => h)
      · rw [HM.out]; exact ⟨a', c', by rw [List.length_drop]; exact (HR2.out.set 1 _).set 0 _, by rw [List.length_drop]; exact hb'.next (((Kept.refl [p] w2).setCell (.inl (by simp)) _).setCell (.inl (by simp)) _) (fun b hb hm => by simp at hm; omega) (fun _ h _ => h)⟩
      · exact ((HK.out.mono (by simp)).setCell (.inl (by simp)) _).setCell (.inl (by simp)) _
    have HEND := Lib.hid hend
    clear hend
    have HN : Hid (rest.length = n → ∀ a' c', SRowPost 69 p ⟨rest, false⟩ w (.returned v) ((w2.setCell ⟨p, 1, none⟩ (.bool (!ok))).setCell ⟨p, 0, none⟩ (.slice a' 0 c'))) := Lib.hid (fun e a' c' => by
      have := HEND.out a' c' (by rw [e, Nat.sub_self, List.drop_eq_nil_of_le (by omega)]; exact BAt.nil _ _ _ _)
      rw [e, Nat.sub_self] at this; exact this)
    have HP : Hid (∀ b o, a = some ⟨b, o, none⟩ → SRowPost 69 p ⟨rest, false⟩ w (.returned v) ((w2.setCell ⟨p, 1, none⟩ (.bool (!ok))).setCell ⟨p, 0, none⟩ (.slice (some ⟨b, o + n, none⟩) (rest.length - n) (c - n)))) := Lib.hid (fun b o e => by
      refine HEND.out _ _ ?_
      have := HB2.out
      rw [e] at this
      have := BAt.drop this hn
      rw [List.length_drop] at this; exact this)
    by_cases hcn : c = n
    · have hrn : rest.length = n := by omega
      have hrn' : (rest.length : Int) = (n : Int) := by omega
      subst hcn
      have HRN := Lib.hid hrn
      generalize rest.length = m at *
      subst hrn
      clear hrn'
      rcases hge with ⟨he, ho⟩ | ⟨he, ho⟩
      all_goals
        subst he ho
        cases a with
        | none =>
          go_wp2_with fail
          go_ret
          exact HN.out trivial _ _
        | some ad =>
          go_wp2_with fail
          go_ret
          exact HN.out trivial _ _
    · have hcn' : n < c := by omega
      rcases hge with ⟨he, ho⟩ | ⟨he, ho⟩
      all_goals
        subst he ho
        cases a with
        | none =>
          have hr0 : rest.length = 0 := by
            cases rest with
            | nil => rfl
            | cons x t =>
              obtain ⟨_, _, _, he, _⟩ := int_at HB2.out (j := 0) (x := (x.toNat : Int)) rfl
              simp at he
          have hn00 : n = 0 := by omega
          have HE := Lib.hid (HN.out (by omega))
          clear hc hn0 hn
          clear HN HP HEND HM HC H1 H2 HR2 HB2 HS hb
          subst hn00
          rw [hr0] at r0 ⊢
          clear hr0
          go_wp2_with fail
          go_ret
          exact HE.out _ _
        | some ad =>
          obtain ⟨b, o, i⟩ := ad
          have hi : i = none ∨ rest.length = 0 := by
            cases rest with
            | nil => exact .inr rfl
            | cons x t =>
              obtain ⟨_, _, _, he, _⟩ := int_at HB2.out (j := 0) (x := (x.toNat : Int)) rfl
              simp at he
              exact .inl he.1.2.2
          rcases hi with rfl | hr0
          · go_wp2_with fail
            go_ret
            exact HP.out b o rfl
          · have hn00 : n = 0 := by omega
            have HE := Lib.hid (HN.out (by omega))
            clear hc hn0 hn
            clear HN HP HEND HM HC H1 H2 HR2 HB2 HS hb
            subst hn00
            rw [hr0] at r0 ⊢
            clear hr0
            go_wp2_with fail
            go_ret
            exact HE.out _ _
end Go.Proofs.YtkodiogkldboiaaGreatDoor
/- script.reader: ints. -/
namespace Go.Proofs.YtkodiogkldboiaaGreatDoor
open Go.RowKit

def hd (l : List Val) : Val := l.headD default
def intsOk (n : Nat) (l : List Val) : Bool := decide (l.length = n + 1) && (decide ((hd l).k = 3) && !l.tail.any oddNat)
def intsS (n : Nat) (s : SR) : SR := if intsOk n (rowM s).1 then (rowM s).2 else ⟨(rowM s).2.rest, true⟩
def intsNm (n : Nat) (s : SR) : ByteArray := if intsOk n (rowM s).1 then (hd (rowM s).1).s else ⟨#[]⟩
def intsL (s : SR) : List Int := (rowM s).1.tail.map Val.n
def intsV (n : Nat) (s : SR) : List Int := if intsOk n (rowM s).1 then intsL s else List.replicate n 0
def SIntsPost (T : TypeId) (p n : Nat) (s : SR) (w : World) (en : Ending) (w' : World) : Prop :=
  ∃ v ns, en = .returned (.tuple #[.string (intsNm n s), v]) ∧ (kint .i64).At w' (Hi w.heap.size) v ns ∧ ns.length = n ∧ (intsOk n (rowM s).1 = true ∨ n ≤ 1 → ns = intsV n s) ∧ SRd T w' p (intsS n s) ∧ Kept [p] w w'

theorem made_arr {w : World} {base b n : Nat} (h : w.ownsRow base 3 1 (.slice (some ⟨b, 0, none⟩) n n) n (madeCells (Value.int .i64 0).cells (n * 1)).toList) : Arr w b 3 ((List.replicate n (0 : Int)).map (.int .i64)) := by
  obtain ⟨_, h2⟩ := h
  rcases h2 with ⟨hv, _⟩ | ⟨g, cap, cur, hv, _, hh, _, _, hs, ht⟩
  · simp at hv
  · simp only [Value.slice.injEq, Option.some.injEq, Addr.mk.injEq, and_true, true_and] at hv
    obtain ⟨rfl, rfl⟩ := hv
    have : cur = ((List.replicate n (0 : Int)).map (Value.int .i64)).toArray := by
      apply Array.toList_inj.1
      rw [List.take_of_length_le (by simp [hs])] at ht
      rw [ht]
      apply List.ext_getElem?
      intro i
      by_cases hi : i < n
      · simp [madeCells, Value.cells, hi, Nat.mod_one]
      · rw [List.getElem?_eq_none (by simp [madeCells]; omega), List.getElem?_eq_none (by simp; omega)]
    unfold Arr
    rw [hh, this]
theorem ints_arr {w : World} {P : Nat → Prop} {b : Nat} {ns : List Int} (h : Arr w b 3 (ns.map (.int .i64))) (hp : P b) {n : Nat} (hn : ns.length = n) : (kint .i64).At w P (.slice (some ⟨b, 0, none⟩) n n) ns := by
  subst hn
  refine ⟨_, _, rfl, Nat.le_refl _, fun j x hx => ⟨b, 0, [.int .i64 x], rfl, hp, h.lt, rfl, fun i u hu => ?_⟩⟩
  match i, hu with
  | 0, hu =>
    simp at hu; subst hu
    refine h.cell ?_
    simp [kint, hx]
  | i + 1, hu => simp at hu
theorem fill_step (A : List Int) (n k : Nat) (x : Int) (hA : A.length = n) (hk : A[k]? = some x) :
    (((A.take k ++ List.replicate (n - k) 0).map (Value.int .i64)).set k (.int .i64 x)) = (A.take (k + 1) ++ List.replicate (n - (k + 1)) 0).map (Value.int .i64) := by
  have hlt := get_lt hk
  rw [take_snoc A k x hk, show n - k = (n - (k + 1)) + 1 by omega, List.replicate_succ, List.map_append, List.map_append, List.map_append, List.set_append_right _ _ (by simp; omega)]
  have : min k A.length = k := by omega
  simp [this]
end Go.Proofs.YtkodiogkldboiaaGreatDoor
/- script.reader: ints, the walk. -/
namespace Go.Proofs.YtkodiogkldboiaaGreatDoor
open Go.RowKit

theorem Tryz.info3 : (Tryz.prog.info? 3).map (fun i => (i.zero, i.size, i.bytes)) = some (some (.int .i64 0), 1, 8) := by kernel_rfl

theorem Kd.At.tail {α : Type} {K : Kd α} {w : World} {P : Nat → Prop} {b o c : Nat} {x : α} {t : List α} (h : K.At w P (.slice (some ⟨b, o, none⟩) (t.length + 1) c) (x :: t)) : K.At w P (.slice (some ⟨b, o + K.sz, none⟩) t.length (c - 1)) t := by
  obtain ⟨a, cap, he, hc, h⟩ := h
  simp only [Value.slice.injEq] at he
  obtain ⟨rfl, _, rfl⟩ := he
  simp only [List.length_cons] at hc
  refine ⟨_, _, rfl, by omega, fun j y hy => ?_⟩
  obtain ⟨b', o', cs, he, h1, h2, h3, h4⟩ := h (j + 1) y (by simpa using hy)
  cases he
  refine ⟨b, o + K.sz, cs, rfl, h1, h2, h3, fun i u hu => ?_⟩
  have := h4 i u hu
  rw [show o + K.sz + j * K.sz + i = o + (j + 1) * K.sz + i by rw [Nat.succ_mul]; omega]
  exact this
theorem Kd.At.zero {α : Type} (K : Kd α) (w : World) (P : Nat → Prop) (a : Option Addr) (c : Nat) : K.At w P (.slice a 0 c) [] := ⟨a, c, rfl, Nat.zero_le _, fun j x h => by simp at h⟩

set_option maxRecDepth 100000 in
set_option maxHeartbeats 6400000 in
theorem sr_ints (w : World) (p n : Nat) (s : SR) (h : SRd 69 w p s) (hb : (s.rest.length : Int) ≤ 16777216) (hn : n ≤ 6) : Calls Tryz.prog 32 #[.pointer (some ⟨p, 0, none⟩), .int .i64 (n : Int)] w (SIntsPost 69 p n s w) := by
  have HC : Hid (Calls Tryz.prog 57 #[.pointer (some ⟨p, 0, none⟩)] w (SRowPost 69 p s w)) := Lib.hid (sr_row w p s h hb)
  have HPL := Lib.hid h.lt
  have hn0 : (0 : Int) ≤ (n : Int) := by omega
  have hn6 : (n : Int) ≤ 6 := by omega
  clear h
  go_enter Tryz.func32, Tryz.ntmps32
  go_wp2_with fail
  refine HC.out.mono ?_
  rintro e w2 ⟨v, rfl, hv, hr, hk⟩
  obtain ⟨a, c, rfl, hc⟩ := hv.form
  have HV := Lib.hid hv
  have HR := Lib.hid hr
  have HK := Lib.hid hk
  clear hv hr hk
  obtain ⟨i0, hi0, hz0, hz1, hz2⟩ := info_parts Tryz.info3
  go_upto_region 4 with (at_make; refine wpList_make_full _ rfl _ _ 23 rfl w2.heap.size 3 i0 (.int .i64 0) 1 Tryz.underlying23 hi0 hz0 hz1 .i64 .i64 _ _ n rfl rfl rfl rfl (by rw [hz2]; omega) (by unfold maxLen; omega) (by simp) ?_; intro w3 ho hg)
  have HA3 := Lib.hid (made_arr ho)
  have kg := grown_kept hg
  simp only [Option.toList_none] at kg
  have HK3 := Lib.hid (HK.out.trans (kg.mono (by simp)))
  have HR3 := Lib.hid (HR.out.kept (kg.mono (by simp)))
  have HV3 := Lib.hid (HV.out.next (Q := fun b => b < w2.heap.size) kg (by simp) (fun _ _ h => h))
  have hpl2 : p < w2.heap.size := HR.out.lt
  have hwl2 : w.heap.size ≤ w2.heap.size := HK.out.size
  have hbad : intsOk n (rowM s).1 = false → SIntsPost 69 p n s w (.returned (.tuple #[.string ⟨#[]⟩, .slice (some ⟨w2.heap.size, 0, none⟩) n n])) (w3.setCell ⟨p, 1, none⟩ (.bool true)) := by
    intro hq
    have e1 : intsNm n s = ⟨#[]⟩ := by unfold intsNm; rw [hq]; rfl
    have e2 : intsS n s = ⟨(rowM s).2.rest, true⟩ := by unfold intsS; rw [hq]; rfl
    refine ⟨_, List.replicate n 0, by rw [e1], ints_arr (HA3.out.setOther (a := ⟨p, 1, none⟩) (by show w2.heap.size ≠ p; omega) _) hwl2 (by simp), by simp, (fun _ => by unfold intsV; rw [hq]; rfl), by rw [e2]; exact HR3.out.mark true, HK3.out.setCell (.inl (by simp)) _⟩
  have HBAD := Lib.hid hbad
  clear hbad kg ho hg HC
  obtain ⟨ra, rc, hr1, _⟩ := HR3.out
  have f1 := hr1.free 1
  have r1 := hr1.cell (i := 1) rfl
  clear hr1
  by_cases hl : (rowM s).1.length = n + 1
  · obtain ⟨x, t, hxt⟩ : ∃ x t, (rowM s).1 = x :: t := by
      cases hh : (rowM s).1 with
      | nil => rw [hh] at hl; simp at hl
      | cons x t => exact ⟨x, t, rfl⟩
    have ht : t.length = n := by rw [hxt] at hl; simpa using hl
    have HIL : Hid (intsL s = t.map Val.n) := Lib.hid (by unfold intsL; rw [hxt]; rfl)
    have HXT := Lib.hid hxt
    have hok : intsOk n (rowM s).1 = (decide (x.k = 3) && !t.any oddNat) := by unfold intsOk; rw [decide_eq_true hl, hxt]; rfl
    have HOK := Lib.hid hok
    rw [hxt] at HV3
    rw [List.length_cons, ht] at HV3
    have HLL := Lib.hid hl
    rw [hl] at hc ⊢
    clear hok hl hxt
    have hcI : (n : Int) + 1 ≤ (c : Int) := by omega
    obtain ⟨b, o, cap, he, hbq, _, x0, x1, x2⟩ := val_at HV3.out (j := 0) (x := x) rfl
    simp only [Value.slice.injEq] at he
    obtain ⟨rfl, e7, rfl⟩ := he
    clear e7
    rw [Nat.zero_mul, Nat.add_zero] at x0 x1 x2
    by_cases hk3 : x.k = 3
    · have h1 := (show kval.At w3 (fun b => b < w2.heap.size) (.slice (some ⟨b, o, none⟩) (t.length + 1) c) (x :: t) by rw [ht]; exact HV3.out).tail
      rw [ht] at h1
      have HT := Lib.hid h1
      have hc1 : (1 : Int) ≤ (c : Int) := by omega
      clear x1 h1
      go_cut [31] (fun v wx => v = .bool (t.any oddNat) ∧ Hid (Kept [] w3 wx))
      case first =>
        by_cases hc' : c = 1
        · have hn' : n = 0 := by omega
          have ht' : t = [] := List.eq_nil_of_length_eq_zero (by omega)
          have HF : Hid (Calls Tryz.prog 59 #[.slice (some ⟨b, o, none⟩) 0 0, .func (.func 58) #[] #[]] w3 (BoolPost (t.any oddNat) w3)) := Lib.hid (by rw [ht']; exact has_val58 oddNat _ _ _ (Kd.At.zero _ _ _ _ _) (by simp) (fun x _ w' _ => ints_odd w' x))
          subst hn' hc'
          clear ht' ht HT HLL HIL
          go_wp2_with fail
          refine HF.out.mono ?_
          rintro e w4 ⟨rfl, hk4⟩
          have HK4 := Lib.hid hk4
          clear hk4
          go_wp2_with fail
          go_meet
          case rel => exact ⟨rfl, HK4⟩
        · have HF : Hid (Calls Tryz.prog 59 #[.slice (some ⟨b, o + 3, none⟩) n (c - 1), .func (.func 58) #[] #[]] w3 (BoolPost (t.any oddNat) w3)) := Lib.hid (has_val58 oddNat _ _ _ HT.out.any (by omega) (fun x _ w' _ => ints_odd w' x))
          go_wp2_with fail
          refine HF.out.mono ?_
          rintro e w4 ⟨rfl, hk4⟩
          have HK4 := Lib.hid hk4
          clear hk4
          go_wp2_with fail
          go_meet
          case rel => exact ⟨rfl, HK4⟩
      case rest =>
        obtain ⟨rfl, HK4⟩ := hcut
        have HR4 := Lib.hid (HR3.out.kept HK4.out)
        have HA4 := Lib.hid (HA3.out.kept HK4.out (by simp))
        have HK5 := Lib.hid (HK3.out.trans (HK4.out.mono (by simp)))
        clear r1 f1
        obtain ⟨ra, rc, hr1, _⟩ := HR4.out
        have f1 := hr1.free 1
        have r1 := hr1.cell (i := 1) rfl
        clear hr1
        cases hq : t.any oddNat
        · have HOK2 : Hid (intsOk n (rowM s).1 = true) := Lib.hid (by rw [HOK.out, hq, decide_eq_true hk3]; rfl)
          have HV4 := Lib.hid (HV3.out.next (Q := fun b => b < w2.heap.size) HK4.out (by simp) (fun _ h _ => h))
          have HMT : Hid ((t.map Val.n).length = n) := Lib.hid (by simpa using ht)
          generalize hw5 : wc = w5 at *
          clear hq hw5 x0 r1 f1
          go_wp2_with fail
          go_loopg [9, 38] n (fun g v9 i wr => ∃ k : Nat, k + g = n ∧ i = .int .i64 k ∧ Hid (Arr wr w2.heap.size 3 (((t.map Val.n).take k ++ List.replicate (n - k) 0).map (.int .i64))) ∧ Hid (Kept [w2.heap.size] w5 wr))
          case atStart => exact ⟨0, by omega, rfl, by simpa using HA4, Lib.hid (Kept.refl _ _)⟩
          case round =>
            obtain ⟨k, hk, rfl, HAk, HKk⟩ := hrel
            obtain ⟨wo, hwo⟩ : ∃ wo : World, wo = wr := ⟨_, rfl⟩
            subst hwo
            have HVk := Lib.hid (HV4.out.next (Q := fun b => b < w2.heap.size) HKk.out (fun b hb => by simp; omega) (fun _ h _ => h))
            have hk0 : (0 : Int) ≤ (k : Int) := by omega
            by_cases hlt : k < n
            · obtain ⟨y, hy⟩ : ∃ y, t[k]? = some y := ⟨t[k]'(by omega), List.getElem?_eq_getElem (by omega)⟩
              obtain ⟨b', o', cap', he, _, _, y0, y1, y2⟩ := val_at HVk.out (j := k + 1) (x := y) (by simpa using hy)
              simp only [Value.slice.injEq, Option.some.injEq, Addr.mk.injEq, and_true] at he
              obtain ⟨⟨rfl, rfl⟩, e7, e8⟩ := he
              clear e7 e8 y0 y2
              have hlt' : (k : Int) < (n : Int) := by omega
              have hk1 : (k : Int) + 1 < (n : Int) + 1 := by omega
              have hk2 : (0 : Int) ≤ (k : Int) + 1 := by omega
              have hk3' : ((k : Int) + 1).toNat = k + 1 := by omega
              have fA := HAk.out.free k
              have cA := HAk.out.cell (i := k) (v := .int .i64 0) (by
                have : ((t.map Val.n).take k).length = k := by rw [List.length_take, HMT.out]; omega
                rw [List.map_append, List.getElem?_append_right (by rw [List.length_map, this]; exact Nat.le_refl _), List.length_map, this, Nat.sub_self, show n - k = (n - (k + 1)) + 1 by omega, List.replicate_succ]
                rfl)
              have HST := Lib.hid (fill_step (t.map Val.n) n k y.n HMT.out (by rw [List.getElem?_map, hy]; rfl))
              clear hy
              go_wp2_with fail
              go_roundg (n - (k + 1))
              case measure => omega
              case rel => exact ⟨k + 1, by omega, by go_num, by have := HAk.out.set k (.int .i64 y.n); rw [HST.out] at this; exact Lib.hid this, Lib.hid (HKk.out.setCell (.inl (by simp)) _)⟩
            · obtain rfl : k = n := by omega
              have HAn : Hid (Arr wo w2.heap.size 3 ((t.map Val.n).map (.int .i64))) := Lib.hid (by
                have := HAk.out
                rw [Nat.sub_self, List.take_of_length_le (by rw [HMT.out]; exact Nat.le_refl _)] at this
                simpa using this)
              obtain ⟨b', o', cap', he, _, _, y0, y1, y2⟩ := val_at HVk.out (j := 0) (x := x) rfl
              simp only [Value.slice.injEq, Option.some.injEq, Addr.mk.injEq, and_true] at he
              obtain ⟨⟨rfl, rfl⟩, e7, e8⟩ := he
              clear e7 e8 y0 y1
              rw [Nat.zero_mul, Nat.add_zero] at y2
              go_wp2_with fail
              go_ret2
              have e1 : intsNm k s = x.s := by unfold intsNm; rw [HOK2.out, HXT.out]; rfl
              have e2 : intsS k s = (rowM s).2 := by unfold intsS; rw [HOK2.out]; rfl
              exact ⟨_, t.map Val.n, by rw [e1]; rfl, ints_arr HAn.out hwl2 HMT.out, HMT.out, (fun _ => by unfold intsV; rw [HOK2.out]; exact HIL.out.symm), by rw [e2]; exact HR4.out.next HKk.out (by simp; omega), HK5.out.fresh HKk.out (by intro y hy hlt; simp at hy; omega)⟩
        · have HQ : Hid (SIntsPost 69 p n s w (.returned (.tuple #[.string ⟨#[]⟩, .slice (some ⟨w2.heap.size, 0, none⟩) n n])) (wc.setCell ⟨p, 1, none⟩ (.bool true))) := Lib.hid (by
            have hq' : intsOk n (rowM s).1 = false := by rw [HOK.out, hq]; simp
            have e1 : intsNm n s = ⟨#[]⟩ := by unfold intsNm; rw [hq']; rfl
            have e2 : intsS n s = ⟨(rowM s).2.rest, true⟩ := by unfold intsS; rw [hq']; rfl
            exact ⟨_, List.replicate n 0, by rw [e1], ints_arr (HA4.out.setOther (a := ⟨p, 1, none⟩) (by show w2.heap.size ≠ p; omega) _) hwl2 (by simp), by simp, (fun _ => by unfold intsV; rw [hq']; rfl), by rw [e2]; exact HR4.out.mark true, HK5.out.setCell (.inl (by simp)) _⟩)
          clear hq x0
          go_wp2_with fail
          go_ret2
          exact HQ.out
    · have HQ := Lib.hid (HBAD.out (by rw [HOK.out, decide_eq_false hk3]; rfl))
      have hk3' : ¬ x.k = 3 := hk3
      clear x1 x2
      go_wp2_with fail
      go_ret2
      exact HQ.out
  · have hq := HBAD.out (by unfold intsOk; rw [decide_eq_false hl]; rfl)
    have HQ := Lib.hid hq
    have hl' : ¬ ((rowM s).1.length : Int) = (n : Int) + 1 := by omega
    clear hq
    go_wp2_with fail
    go_ret2
    exact HQ.out
end Go.Proofs.YtkodiogkldboiaaGreatDoor
/- The reference's Reader: Row. -/
namespace Go.Proofs.YtkodiogkldboiaaGreatDoor
open Go.RowKit

theorem getM_nol {g : Option (List Val × Nat)} (h : g.isSome = false) : gl g = [] := by cases g <;> simp_all [gl]
theorem getM_none {g : Option (List Val × Nat)} (h : g.isSome = false) : gn g = 0 := by cases g <;> simp_all [gn]
set_option maxRecDepth 100000 in
set_option maxHeartbeats 3200000 in
theorem rr_row (w : World) (p : Nat) (s : SR) (h : SRd 80 w p s) (hb : (s.rest.length : Int) ≤ 16777216) : Calls Tryz.prog 44 #[.pointer (some ⟨p, 0, none⟩)] w (SRowPost 80 p s w) := by
  have HS := Lib.hid h
  obtain ⟨rest, bad⟩ := s
  obtain ⟨a, c, h1, h2⟩ := h
  simp only at h1 h2 hb
  have r0 := h1.cell (i := 0) rfl
  have r1 := h1.cell (i := 1) rfl
  have f0 := h1.free 0
  have f1 := h1.free 1
  have HC : Hid (Calls Tryz.prog 64 #[.slice a rest.length c] w (RGetPost (getM rest) w)) := Lib.hid (ref02_get w a c rest h2.any hb)
  have hn := gn_le rest
  have H1 := Lib.hid h1
  have H2 := Lib.hid h2
  have hno := @getM_none (getM rest)
  have HNO := Lib.hid hno
  have HNL := Lib.hid (@getM_nol (getM rest))
  have HM : Hid (bad = false → rowM ⟨rest, bad⟩ = (gl (getM rest), ⟨rest.drop (gn (getM rest)), !(getM rest).isSome⟩)) := Lib.hid (by intro e; subst e; rfl)
  have HM2 : Hid (bad = true → rowM ⟨rest, bad⟩ = ([], ⟨rest, bad⟩)) := Lib.hid (by intro e; subst e; rfl)
  clear h1 h2 hno
  go_enter Tryz.func44, Tryz.ntmps44
  go_wp2_with fail
  refine HC.out.mono ?_
  rintro e w2 ⟨v, rfl, hv, hk⟩
  have HV := Lib.hid hv
  have HK := Lib.hid hk
  have HR2 := Lib.hid (H1.out.kept hk (by simp))
  have HB2 := Lib.hid (H2.out.next (Q := fun b => b < p) hk (by simp) (fun _ h _ => h))
  have HS2 := Lib.hid (HS.out.kept hk)
  clear hv hk r0 r1 f0 f1
  generalize gn (getM rest) = n at *
  generalize gl (getM rest) = l at *
  generalize (getM rest).isSome = ok at *
  have r0 := HR2.out.cell (i := 0) rfl
  have r1 := HR2.out.cell (i := 1) rfl
  have f0 := HR2.out.free 0
  have f1 := HR2.out.free 1
  have hn0 : (n : Int) ≤ (rest.length : Int) := by omega
  have hn1 : (0 : Int) ≤ (n : Int) := by omega
  have hc : (rest.length : Int) ≤ (c : Int) := by
    obtain ⟨_, _, he, hcap⟩ := HB2.out.form
    simp only [List.length_map, Value.slice.injEq, true_and] at he hcap
    obtain ⟨_, rfl⟩ := he
    omega
  have hnc : (n : Int) ≤ (c : Int) := by omega
  cases bad with
  | true =>
    have HE : Hid (SRowPost 80 p ⟨rest, true⟩ w (.returned (.slice none 0 0)) (w2.setCell ⟨p, 1, none⟩ (.bool true))) := Lib.hid ⟨_, rfl, by rw [HM2.out rfl]; exact Kd.At.nil _ _ _, by rw [HM2.out rfl]; exact HS2.out.mark true, (HK.out.mono (by simp)).setCell (.inl (by simp)) _⟩
    clear HM HM2 HNO HNL
    go_wp2_with fail
    go_ret
    exact HE.out
  | false =>
    cases ok with
    | false =>
      have hn00 := HNO.out rfl
      have HE : Hid (SRowPost 80 p ⟨rest, false⟩ w (.returned (.slice none 0 0)) (w2.setCell ⟨p, 1, none⟩ (.bool true))) := Lib.hid ⟨_, rfl, by rw [HM.out rfl, HNL.out rfl]; exact Kd.At.nil _ _ _, by rw [HM.out rfl, hn00]; exact HS2.out.mark true, (HK.out.mono (by simp)).setCell (.inl (by simp)) _⟩
      clear HM HM2 HNO HNL hn00
      go_wp2_with fail
      go_ret
      exact HE.out
    | true =>
    have hend : ∀ (a' : Option Addr) (c' : Nat), BAt w2 (fun b => b < p) (.slice a' (rest.length - n) c') (rest.drop n) → SRowPost 80 p ⟨rest, false⟩ w (.returned v) (w2.setCell ⟨p, 0, none⟩ (.slice a' (rest.length - n) c')) := by
      intro a' c' hb'
      refine ⟨v, rfl, ?_, ?_, ?_⟩
      · rw [HM.out rfl]; exact HV.out.next ((Kept.refl [p] w2).setCell (.inl (by simp)) _) (fun b hb hm => by simp at hm; have := Arr.lt H1.out; have hb3 : w.heap.size ≤ b := hb; omega) (fun _ h _ => h)
      · rw [HM.out rfl]; exact ⟨a', c', by rw [List.length_drop]; exact HR2.out.set 0 _, by rw [List.length_drop]; exact hb'.next ((Kept.refl [p] w2).setCell (.inl (by simp)) _) (fun b hb hm => by simp at hm; omega) (fun _ h _ => h)⟩
      · exact (HK.out.mono (by simp)).setCell (.inl (by simp)) _
    have HEND := Lib.hid hend
    clear hend
    have HN : Hid (rest.length = n → ∀ a' c', SRowPost 80 p ⟨rest, false⟩ w (.returned v) (w2.setCell ⟨p, 0, none⟩ (.slice a' 0 c'))) := Lib.hid (fun e a' c' => by
      have := HEND.out a' c' (by rw [e, Nat.sub_self, List.drop_eq_nil_of_le (by omega)]; exact BAt.nil _ _ _ _)
      rw [e, Nat.sub_self] at this; exact this)
    have HP : Hid (∀ b o, a = some ⟨b, o, none⟩ → SRowPost 80 p ⟨rest, false⟩ w (.returned v) (w2.setCell ⟨p, 0, none⟩ (.slice (some ⟨b, o + n, none⟩) (rest.length - n) (c - n)))) := Lib.hid (fun b o e => by
      refine HEND.out _ _ ?_
      have := HB2.out
      rw [e] at this
      have := BAt.drop this hn
      rw [List.length_drop] at this; exact this)
    by_cases hcn : c = n
    · have hrn : rest.length = n := by omega
      have hrn' : (rest.length : Int) = (n : Int) := by omega
      subst hcn
      have HRN := Lib.hid hrn
      generalize rest.length = m at *
      subst hrn
      clear hrn'
      cases a with
      | none =>
          go_wp2_with fail
          go_ret
          exact HN.out trivial _ _
      | some ad =>
          go_wp2_with fail
          go_ret
          exact HN.out trivial _ _
    · have hcn' : n < c := by omega
      cases a with
      | none =>
          have hr0 : rest.length = 0 := by
            cases rest with
            | nil => rfl
            | cons x t =>
              obtain ⟨_, _, _, he, _⟩ := int_at HB2.out (j := 0) (x := (x.toNat : Int)) rfl
              simp at he
          have hn00 : n = 0 := by omega
          have HE := Lib.hid (HN.out (by omega))
          clear hc hn0 hn HNO HNL HM2 HS2
          clear HN HP HEND HM HC H1 H2 HR2 HB2 HS hb
          subst hn00
          rw [hr0] at r0 ⊢
          clear hr0
          go_wp2_with fail
          go_ret
          exact HE.out _ _
      | some ad =>
          obtain ⟨b, o, i⟩ := ad
          have hi : i = none ∨ rest.length = 0 := by
            cases rest with
            | nil => exact .inr rfl
            | cons x t =>
              obtain ⟨_, _, _, he, _⟩ := int_at HB2.out (j := 0) (x := (x.toNat : Int)) rfl
              simp at he
              exact .inl he.1.2.2
          rcases hi with rfl | hr0
          · go_wp2_with fail
            go_ret
            exact HP.out b o rfl
          · have hn00 : n = 0 := by omega
            have HE := Lib.hid (HN.out (by omega))
            clear hc hn0 hn HNO HNL HM2 HS2
            clear HN HP HEND HM HC H1 H2 HR2 HB2 HS hb
            subst hn00
            rw [hr0] at r0 ⊢
            clear hr0
            go_wp2_with fail
            go_ret
            exact HE.out _ _
end Go.Proofs.YtkodiogkldboiaaGreatDoor
/- The reference's Reader: Ints. -/
namespace Go.Proofs.YtkodiogkldboiaaGreatDoor
open Go.RowKit

theorem any_snoc {α : Type} (p : α → Bool) (l : List α) (k : Nat) (x : α) (h : l[k]? = some x) : (l.take (k + 1)).any p = ((l.take k).any p || p x) := by
  rw [take_snoc l k x h, List.any_append]; simp

set_option maxRecDepth 100000 in
set_option maxHeartbeats 6400000 in
theorem rr_ints (w : World) (p n : Nat) (s : SR) (h : SRd 80 w p s) (hb : (s.rest.length : Int) ≤ 16777216) (hn : n ≤ 6) : Calls Tryz.prog 41 #[.pointer (some ⟨p, 0, none⟩), .int .i64 (n : Int)] w (SIntsPost 80 p n s w) := by
  have HC : Hid (Calls Tryz.prog 44 #[.pointer (some ⟨p, 0, none⟩)] w (SRowPost 80 p s w)) := Lib.hid (rr_row w p s h hb)
  have HPL := Lib.hid h.lt
  have hn0 : (0 : Int) ≤ (n : Int) := by omega
  have hn6 : (n : Int) ≤ 6 := by omega
  clear h
  go_enter Tryz.func41, Tryz.ntmps41
  go_wp2_with fail
  refine HC.out.mono ?_
  rintro e w2 ⟨v, rfl, hv, hr, hk⟩
  obtain ⟨a, c, rfl, hc⟩ := hv.form
  have HV := Lib.hid hv
  have HR := Lib.hid hr
  have HK := Lib.hid hk
  clear hv hr hk
  obtain ⟨i0, hi0, hz0, hz1, hz2⟩ := info_parts Tryz.info3
  go_upto_region 3 with (at_make; refine wpList_make_full _ rfl _ _ 23 rfl w2.heap.size 3 i0 (.int .i64 0) 1 Tryz.underlying23 hi0 hz0 hz1 .i64 .i64 _ _ n rfl rfl rfl rfl (by rw [hz2]; omega) (by unfold maxLen; omega) (by simp) ?_; intro w3 ho hg)
  have HA3 := Lib.hid (made_arr ho)
  have kg := grown_kept hg
  simp only [Option.toList_none] at kg
  have HK3 := Lib.hid (HK.out.trans (kg.mono (by simp)))
  have HR3 := Lib.hid (HR.out.kept (kg.mono (by simp)))
  have HV3 := Lib.hid (HV.out.next (Q := fun b => b < w2.heap.size) kg (by simp) (fun _ _ h => h))
  have hpl2 : p < w2.heap.size := HR.out.lt
  have hwl2 : w.heap.size ≤ w2.heap.size := HK.out.size
  have hbad : intsOk n (rowM s).1 = false → SIntsPost 80 p n s w (.returned (.tuple #[.string ⟨#[]⟩, .slice (some ⟨w2.heap.size, 0, none⟩) n n])) (w3.setCell ⟨p, 1, none⟩ (.bool true)) := by
    intro hq
    have e1 : intsNm n s = ⟨#[]⟩ := by unfold intsNm; rw [hq]; rfl
    have e2 : intsS n s = ⟨(rowM s).2.rest, true⟩ := by unfold intsS; rw [hq]; rfl
    refine ⟨_, List.replicate n 0, by rw [e1], ints_arr (HA3.out.setOther (a := ⟨p, 1, none⟩) (by show w2.heap.size ≠ p; omega) _) hwl2 (by simp), by simp, (fun _ => by unfold intsV; rw [hq]; rfl), by rw [e2]; exact HR3.out.mark true, HK3.out.setCell (.inl (by simp)) _⟩
  have HBAD := Lib.hid hbad
  clear hbad kg ho hg HC
  obtain ⟨ra, rc, hr1, _⟩ := HR3.out
  have f1 := hr1.free 1
  have r1 := hr1.cell (i := 1) rfl
  clear hr1
  by_cases hl : (rowM s).1.length = n + 1
  · obtain ⟨x, t, hxt⟩ : ∃ x t, (rowM s).1 = x :: t := by
      cases hh : (rowM s).1 with
      | nil => rw [hh] at hl; simp at hl
      | cons x t => exact ⟨x, t, rfl⟩
    have ht : t.length = n := by rw [hxt] at hl; simpa using hl
    have HIL : Hid (intsL s = t.map Val.n) := Lib.hid (by unfold intsL; rw [hxt]; rfl)
    have HXT := Lib.hid hxt
    have hok : intsOk n (rowM s).1 = (decide (x.k = 3) && !t.any oddNat) := by unfold intsOk; rw [decide_eq_true hl, hxt]; rfl
    have HOK := Lib.hid hok
    rw [hxt] at HV3
    rw [List.length_cons, ht] at HV3
    have HLL := Lib.hid hl
    rw [hl] at hc ⊢
    clear hok hl hxt
    have hcI : (n : Int) + 1 ≤ (c : Int) := by omega
    obtain ⟨b, o, cap, he, hbq, _, x0, x1, x2⟩ := val_at HV3.out (j := 0) (x := x) rfl
    simp only [Value.slice.injEq] at he
    obtain ⟨rfl, e7, rfl⟩ := he
    clear e7
    rw [Nat.zero_mul, Nat.add_zero] at x0 x1 x2
    by_cases hk3 : x.k = 3
    · have HMT : Hid ((t.map Val.n).length = n) := Lib.hid (by simpa using ht)
      have HV4 := HV3
      clear x1 r1 f1
      go_wp2_with fail
      go_loopg [8] n (fun g i wr => ∃ k : Nat, k + g = n ∧ i = .int .i64 k ∧ Hid (Arr wr w2.heap.size 3 (((t.map Val.n).take k ++ List.replicate (n - k) 0).map (.int .i64))) ∧ Hid (Kept [w2.heap.size] w3 wr) ∧ Hid ((t.take k).any oddNat = false))
      case atStart => exact ⟨0, by omega, rfl, by simpa using HA3, Lib.hid (Kept.refl _ _), Lib.hid (by simp)⟩
      case round =>
        obtain ⟨k, hk, rfl, HAk, HKk, HOD⟩ := hrel
        obtain ⟨wo, hwo⟩ : ∃ wo : World, wo = wr := ⟨_, rfl⟩
        subst hwo
        have HVk := Lib.hid (HV4.out.next (Q := fun b => b < w2.heap.size) HKk.out (fun b hb => by simp; omega) (fun _ h _ => h))
        have HRk := Lib.hid (HR3.out.next HKk.out (by simp; omega))
        have hk0 : (0 : Int) ≤ (k : Int) := by omega
        by_cases hlt : k < n
        · obtain ⟨y, hy⟩ : ∃ y, t[k]? = some y := ⟨t[k]'(by omega), List.getElem?_eq_getElem (by omega)⟩
          obtain ⟨b', o', cap', he, _, _, y0, y1, y2⟩ := val_at HVk.out (j := k + 1) (x := y) (by simpa using hy)
          simp only [Value.slice.injEq, Option.some.injEq, Addr.mk.injEq, and_true] at he
          obtain ⟨⟨rfl, rfl⟩, e7, e8⟩ := he
          clear e7 e8 y2
          have hlt' : (k : Int) < (n : Int) := by omega
          have hk1 : (k : Int) + 1 < (n : Int) + 1 := by omega
          have hk2 : (0 : Int) ≤ (k : Int) + 1 := by omega
          have hk3' : ((k : Int) + 1).toNat = k + 1 := by omega
          have HYM := Lib.hid (List.mem_of_getElem? hy)
          have HTA := Lib.hid (any_snoc oddNat t k y hy)
          have hend : oddNat y = true → SIntsPost 80 p n s w (.returned (.tuple #[.string ⟨#[]⟩, .slice (some ⟨w2.heap.size, 0, none⟩) n n])) (wo.setCell ⟨p, 1, none⟩ (.bool true)) := by
            intro ho
            have hq' : intsOk n (rowM s).1 = false := by rw [HOK.out, List.any_eq_true.2 ⟨y, HYM.out, ho⟩]; simp
            have e1 : intsNm n s = ⟨#[]⟩ := by unfold intsNm; rw [hq']; rfl
            have e2 : intsS n s = ⟨(rowM s).2.rest, true⟩ := by unfold intsS; rw [hq']; rfl
            have hl2 : ((t.map Val.n).take k ++ List.replicate (n - k) 0).length = n := by rw [List.length_append, List.length_take, HMT.out, List.length_replicate]; omega
            exact ⟨_, _, by rw [e1], ints_arr (HAk.out.setOther (a := ⟨p, 1, none⟩) (by show w2.heap.size ≠ p; omega) _) hwl2 hl2, hl2, (fun h => by
              rcases h with h | h
              · rw [hq'] at h; cases h
              · obtain rfl : k = 0 := by omega
                unfold intsV; rw [hq']; simp), by rw [e2]; exact HRk.out.mark true, (HK3.out.fresh HKk.out (by intro y hy hlt; simp at hy; omega)).setCell (.inl (by simp)) _⟩
          have HEND := Lib.hid hend
          clear hend
          obtain ⟨ra, rc, hr1, _⟩ := HRk.out
          have f1 := hr1.free 1
          have r1 := hr1.cell (i := 1) rfl
          clear hr1
          by_cases hy2 : y.k = 2
          · by_cases hyn : y.n < 0
            · have HQ := Lib.hid (HEND.out (by unfold oddNat; rw [decide_eq_false (p := 0 ≤ y.n) (by omega)]; simp))
              clear hy
              go_wp2_with fail
              go_ret2
              exact HQ.out
            · have hyn' : ¬ y.n < 0 := hyn
              have fA := HAk.out.free k
              have cA := HAk.out.cell (i := k) (v := .int .i64 0) (by
                have : ((t.map Val.n).take k).length = k := by rw [List.length_take, HMT.out]; omega
                rw [List.map_append, List.getElem?_append_right (by rw [List.length_map, this]; exact Nat.le_refl _), List.length_map, this, Nat.sub_self, show n - k = (n - (k + 1)) + 1 by omega, List.replicate_succ]
                rfl)
              have HST := Lib.hid (fill_step (t.map Val.n) n k y.n HMT.out (by rw [List.getElem?_map, hy]; rfl))
              have HNO : Hid (oddNat y = false) := Lib.hid (by unfold oddNat; rw [decide_eq_true hy2, decide_eq_true (p := 0 ≤ y.n) (by omega)]; rfl)
              have hy2' := hy2
              clear hy
              go_wp2_with fail
              go_roundg (n - (k + 1))
              case measure => omega
              case rel => exact ⟨k + 1, by omega, by go_num, by have := HAk.out.set k (.int .i64 y.n); rw [HST.out] at this; exact Lib.hid this, Lib.hid (HKk.out.setCell (.inl (by simp)) _), Lib.hid (by rw [HTA.out, HOD.out, HNO.out]; rfl)⟩
          · have HQ := Lib.hid (HEND.out (by unfold oddNat; rw [decide_eq_false hy2]; simp))
            have hy2' : ¬ y.k = 2 := hy2
            clear hy
            go_wp2_with fail
            go_ret2
            exact HQ.out
        · obtain rfl : k = n := by omega
          have HAn : Hid (Arr wo w2.heap.size 3 ((t.map Val.n).map (.int .i64))) := Lib.hid (by
            have := HAk.out
            rw [Nat.sub_self, List.take_of_length_le (by rw [HMT.out]; exact Nat.le_refl _)] at this
            simpa using this)
          have HOK2 : Hid (intsOk k (rowM s).1 = true) := Lib.hid (by
            have := HOD.out
            rw [List.take_of_length_le (by omega)] at this
            rw [HOK.out, this, decide_eq_true hk3]; rfl)
          obtain ⟨b', o', cap', he, _, _, y0, y1, y2⟩ := val_at HVk.out (j := 0) (x := x) rfl
          simp only [Value.slice.injEq, Option.some.injEq, Addr.mk.injEq, and_true] at he
          obtain ⟨⟨rfl, rfl⟩, e7, e8⟩ := he
          clear e7 e8 y0 y1
          rw [Nat.zero_mul, Nat.add_zero] at y2
          go_wp2_with fail
          go_ret2
          have e1 : intsNm k s = x.s := by unfold intsNm; rw [HOK2.out, HXT.out]; rfl
          have e2 : intsS k s = (rowM s).2 := by unfold intsS; rw [HOK2.out]; rfl
          exact ⟨_, t.map Val.n, by rw [e1]; rfl, ints_arr HAn.out hwl2 HMT.out, HMT.out, (fun _ => by unfold intsV; rw [HOK2.out]; exact HIL.out.symm), by rw [e2]; exact HRk.out, HK3.out.fresh HKk.out (by intro y hy hlt; simp at hy; omega)⟩
    · have HQ := Lib.hid (HBAD.out (by rw [HOK.out, decide_eq_false hk3]; rfl))
      have hk3' : ¬ x.k = 3 := hk3
      clear x1 x2
      go_wp2_with fail
      go_ret2
      exact HQ.out
  · have hq := HBAD.out (by unfold intsOk; rw [decide_eq_false hl]; rfl)
    have HQ := Lib.hid hq
    have hl' : ¬ ((rowM s).1.length : Int) = (n : Int) + 1 := by omega
    clear hq
    go_wp2_with fail
    go_ret2
    exact HQ.out
end Go.Proofs.YtkodiogkldboiaaGreatDoor
