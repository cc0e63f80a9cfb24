/- row.reader: value. -/
import Derived.Laws.BitsLemmas
import Derived.Lib.BufferRead
import Derived.Test.YtkodiogkldboiaaGreatDoorM8
set_option linter.unusedVariables false
set_option linter.unusedSimpArgs false
namespace Go.Proofs.YtkodiogkldboiaaGreatDoor
open Go.RowKit

/-- The reader's state. -/
structure RS where
  at_ : Nat
  bad : Bool
def stepN (B : List UInt8) (s : RS) (n : Nat) : RS := if okN s.bad s.at_ n B.length then ⟨s.at_ + n, false⟩ else ⟨s.at_, true⟩
def bytesN (B : List UInt8) (s : RS) (n : Nat) : List UInt8 := if okN s.bad s.at_ n B.length then (B.drop s.at_).take n else List.replicate n 0
def numN (l : List UInt8) : Nat := l.foldl (fun m c => m * 256 + c.toNat) 0
/-- The value that is read, and the state behind it. -/
def valueM (B : List UInt8) (s : RS) : Val × RS :=
  let k := byteM B s.at_ s.bad
  let s1 := stepN B s 1
  let (v, s2) : Val × RS :=
    if k = 1 then (⟨1, (byteM B s1.at_ s1.bad : Int), ⟨#[]⟩⟩, stepN B s1 1)
    else if k = 2 then (⟨2, (numN (bytesN B s1 7) : Int) - 9007199254740992, ⟨#[]⟩⟩, stepN B s1 7)
    else if k = 3 then (let n := byteM B s1.at_ s1.bad; let s2 := stepN B s1 1; (⟨3, 0, ⟨(bytesN B s2 n).toArray⟩⟩, stepN B s2 n))
    else (⟨k, 0, ⟨#[]⟩⟩, s1)
  (v, ⟨s2.at_, s2.bad || !valOk v⟩)

theorem stepN_eq (B : List UInt8) (s : RS) (n : Nat) : (stepN B s n).bad = !okN s.bad s.at_ n B.length ∧ (stepN B s n).at_ = if okN s.bad s.at_ n B.length then s.at_ + n else s.at_ := by
  unfold stepN; cases okN s.bad s.at_ n B.length <;> exact ⟨rfl, rfl⟩
theorem stepN_le (B : List UInt8) (s : RS) (n : Nat) (h : s.at_ ≤ B.length) : (stepN B s n).at_ ≤ B.length := by
  rw [(stepN_eq B s n).2]
  cases hq : okN s.bad s.at_ n B.length with
  | false => simpa using h
  | true => unfold okN at hq; simp at hq; simp; exact hq.2
theorem numN_lt (l : List UInt8) : numN l < 256 ^ l.length := by
  have e : ∀ (l : List UInt8) (m : Nat), l.foldl (fun m c => m * 256 + c.toNat) m < (m + 1) * 256 ^ l.length := by
    intro l
    induction l with
    | nil => intro m; simp
    | cons c l ih =>
      intro m
      rw [List.foldl_cons, List.length_cons, Nat.pow_succ]
      have h1 := ih (m * 256 + c.toNat)
      have h2 := UInt8.toNat_lt c
      refine Nat.lt_of_lt_of_le h1 ?_
      rw [Nat.mul_comm (256 ^ l.length) 256, ← Nat.mul_assoc]
      exact Nat.mul_le_mul_right _ (by omega)
  have := e l 0
  simpa [numN] using this

def ValuePost (p : Nat) (ba : Option Addr) (bc : Nat) (B : List UInt8) (s : RS) (w : World) (en : Ending) (w' : World) : Prop :=
  en = .returned (.agg #[.int .i64 (valueM B s).1.k, .int .i64 (valueM B s).1.n, .string (valueM B s).1.s]) ∧ RdAt w' p ba bc B (valueM B s).2.at_ (valueM B s).2.bad ∧ Kept [p] w w'

theorem rd_byte' (w : World) (p : Nat) (ba : Option Addr) (bc : Nat) (B : List UInt8) (s : RS) (h : RdAt w p ba bc B s.at_ s.bad) (hba : BAt w (fun b => b ≠ p) (.slice ba B.length bc) B) (hat : s.at_ ≤ B.length) (hb : (B.length : Int) ≤ 16777216) :
    Calls Tryz.prog 95 #[.pointer (some ⟨p, 0, none⟩)] w fun e w' => e = .returned (.int .i64 (byteM B s.at_ s.bad : Int)) ∧ RdAt w' p ba bc B (stepN B s 1).at_ (stepN B s 1).bad ∧ Kept [p] w w' := by
  refine (rd_byte w p ba bc s.at_ B s.bad h hba hat hb).mono ?_
  rintro e w' ⟨h1, h2, h3⟩
  obtain ⟨e1, e2⟩ := stepN_eq B s 1
  exact ⟨h1, by rw [e1, e2]; exact h2, h3⟩
theorem rd_next' (w : World) (p : Nat) (ba : Option Addr) (bc n : Nat) (B : List UInt8) (s : RS) (h : RdAt w p ba bc B s.at_ s.bad) (hba : BAt w (fun b => b ≠ p) (.slice ba B.length bc) B) (hat : s.at_ ≤ B.length) (h0 : 0 < B.length ∨ 0 < n) (hn : (n : Int) ≤ 255) (hb : (B.length : Int) ≤ 16777216) :
    Calls Tryz.prog 108 #[.pointer (some ⟨p, 0, none⟩), .int .i64 (n : Int)] w fun e w' => ∃ v, e = .returned v ∧ BAt w' (fun b => b ≠ p) v (bytesN B s n) ∧ RdAt w' p ba bc B (stepN B s n).at_ (stepN B s n).bad ∧ Kept [p] w w' := by
  refine (rd_next w p ba bc s.at_ n B s.bad h hba hat h0 hn hb).mono ?_
  rintro e w' ⟨v, h1, h2, h3, h4⟩
  obtain ⟨e1, e2⟩ := stepN_eq B s n
  exact ⟨v, h1, h2, by rw [e1, e2]; exact h3, h4⟩
theorem byteM_lt (B : List UInt8) (at_ : Nat) (bad : Bool) : byteM B at_ bad < 256 := by
  unfold byteM; split
  · exact UInt8.toNat_lt _
  · omega
end Go.Proofs.YtkodiogkldboiaaGreatDoor
/- row.reader: value, the walk. -/
namespace Go.Proofs.YtkodiogkldboiaaGreatDoor
open Go.RowKit

theorem bat_conv {w : World} {P : Nat → Prop} {v : Value} {l : List UInt8} (h : BAt w P v l) : (convert 28 9 v).run Tryz.prog w = .ok (.string ⟨l.toArray⟩) w := by
  obtain ⟨a, cap, rfl, _, hx⟩ := h
  rw [List.length_map]
  cases a with
  | none =>
    cases l with
    | nil => exact Lib.run_convert_nil_bytes w _ _ _ cap Tryz.underlying28 Tryz.underlying5 Tryz.underlying9
    | cons c l =>
      obtain ⟨b, o, cs, he, _⟩ := hx 0 (c.toNat : Int) rfl
      cases he
  | some a =>
    refine run_convert_bytes_back w 28 9 5 a cap l Tryz.underlying28 Tryz.underlying5 Tryz.underlying9 (fun j hj => ?_)
    obtain ⟨b, o, cs, he, _, _, hcs, hc⟩ := hx j (l[j].toNat : Int) (by simp [hj])
    subst hcs
    cases he
    have := hc 0 _ rfl
    rw [add_none]
    simpa [kint] using this

theorem byteM_pos (B : List UInt8) (a : Nat) (b : Bool) (h : 0 < byteM B a b) : 0 < B.length := by
  unfold byteM okN at h
  split at h
  · rename_i hq; simp at hq; omega
  · omega

theorem bytesN_len (B : List UInt8) (s : RS) (n : Nat) : (bytesN B s n).length = n := by
  unfold bytesN
  cases hq : okN s.bad s.at_ n B.length with
  | false => simp
  | true => unfold okN at hq; simp at hq; simp; omega

theorem numN_snoc (l : List UInt8) (j : Nat) (c : UInt8) (h : l[j]? = some c) : numN (l.take (j + 1)) = numN (l.take j) * 256 + c.toNat := by
  unfold numN; rw [take_snoc l j c h, List.foldl_append]; rfl
theorem numN_six (l : List UInt8) (j : Nat) (h : j < 7) : (numN (l.take j) : Int) < 281474976710656 := by
  have h1 := numN_lt (l.take j)
  have h2 : 256 ^ (l.take j).length ≤ 256 ^ 6 := Nat.pow_le_pow_right (by omega) (by have := List.length_take_le j l; omega)
  omega

theorem numN_seven (l : List UInt8) (h : l.length = 7) : (numN l : Int) < 72057594037927936 := by
  have h1 := numN_lt l
  rw [h] at h1
  omega
theorem or_join (N m : Nat) (hN : (N : Int) < 281474976710656) (hm : (m : Int) < 256) : Value.int .u64 (bits .or .u64 ((N : Int) * 256) (m : Int)) = .int .u64 ((N * 256 + m : Nat) : Int) := by
  rw [bits_join .u64 56 (by decide) (fun n h0 h1 => by rw [IntKind.wrap_u64]; omega) 8 _ _ (by omega) (by omega) (by omega) (by omega) (by omega) (by omega)]
  congr 1

/-- What is known ahead of the test of the value that was read. -/
def ValMid (p : Nat) (ba : Option Addr) (bc : Nat) (B : List UInt8) (s : RS) (r q : Nat) (w wx : World) : Prop :=
  ∃ (v : Val) (s2 : RS), Arr wx q 57 [.int .i64 v.k, .int .i64 v.n, .string v.s] ∧ Arr wx r 57 [.int .i64 0, .int .i64 0, .string ⟨#[]⟩] ∧ RdAt wx p ba bc B s2.at_ s2.bad ∧ Kept [p] w wx ∧ valueM B s = (v, ⟨s2.at_, s2.bad || !valOk v⟩)
set_option maxRecDepth 100000 in
set_option maxHeartbeats 6400000 in
theorem rd_value (w : World) (p : Nat) (ba : Option Addr) (bc : Nat) (B : List UInt8) (s : RS) (h : RdAt w p ba bc B s.at_ s.bad) (hba : BAt w (fun b => b ≠ p) (.slice ba B.length bc) B) (hat : s.at_ ≤ B.length) (hb : (B.length : Int) ≤ 16777216) : Calls Tryz.prog 96 #[.pointer (some ⟨p, 0, none⟩)] w (ValuePost p ba bc B s w) := by
  have K0 : Kept [] w (w.alloc (Obj.cells #[.int .i64 0, .int .i64 0, .string ⟨#[]⟩] 57)) := Kept.alloc (Kept.refl [] w) _
  have HR0 : Hid (RdAt (w.alloc (Obj.cells #[.int .i64 0, .int .i64 0, .string ⟨#[]⟩] 57)) p ba bc B s.at_ s.bad) := Lib.hid (Arr.alloc h _)
  have HB0 : Hid (BAt (w.alloc (Obj.cells #[.int .i64 0, .int .i64 0, .string ⟨#[]⟩] 57)) (fun b => b ≠ p) (.slice ba B.length bc) B) := Lib.hid (hba.next K0 (by simp) (fun _ h _ => h))
  have A0 := Lib.hid (Arr.new w #[.int .i64 0, .int .i64 0, .string ⟨#[]⟩] 57)
  have HK0 := Lib.hid K0
  have hpl := Arr.lt h
  clear h hba K0
  go_enter Tryz.func96, Tryz.ntmps96
  go_wp2_with fail
  refine (rd_byte' _ p ba bc B s HR0.out HB0.out hat hb).mono ?_
  rintro e w1 ⟨rfl, hr1, hk1⟩
  have HR1 := Lib.hid hr1
  have HK1 := Lib.hid hk1
  have HB1 := Lib.hid (HB0.out.next (Q := fun b => b ≠ p) hk1 (by simp) (fun _ h _ => h))
  have A1 := Lib.hid (A0.out.kept hk1 (by simp; omega))
  have hkl := byteM_lt B s.at_ s.bad
  clear hr1 hk1
  generalize hk : byteM B s.at_ s.bad = k at *
  have HK := Lib.hid hk
  clear hk
  have hpw : p < w1.heap.size := Arr.lt HR1.out
  have hqp : ¬ w1.heap.size = p := by omega
  have hrp : ¬ w.heap.size = p := by omega
  have hqr : ¬ w1.heap.size = w.heap.size := by have := A1.out.lt; omega
  have hpq : ¬ p = w1.heap.size := by omega
  have hpr : ¬ p = w.heap.size := by omega
  have hrq : ¬ w.heap.size = w1.heap.size := by omega
  have hrl := A1.out.lt
  have K2 : Kept [p] w1 (w1.alloc (Obj.cells #[.int .i64 (k : Int), .int .i64 0, .string ⟨#[]⟩] 57)) := Kept.alloc (Kept.refl [p] w1) _
  have HQ2 : Hid (Arr (w1.alloc (Obj.cells #[.int .i64 (k : Int), .int .i64 0, .string ⟨#[]⟩] 57)) w1.heap.size 57 [.int .i64 k, .int .i64 0, .string ⟨#[]⟩]) := Lib.hid (Arr.new' rfl rfl)
  have HA2 := Lib.hid (A1.out.alloc (Obj.cells #[.int .i64 (k : Int), .int .i64 0, .string ⟨#[]⟩] 57))
  have HR2 : Hid (RdAt (w1.alloc (Obj.cells #[.int .i64 (k : Int), .int .i64 0, .string ⟨#[]⟩] 57)) p ba bc B (stepN B s 1).at_ (stepN B s 1).bad) := Lib.hid (Arr.alloc HR1.out _)
  have HB2 := Lib.hid (HB1.out.next (Q := fun b => b ≠ p) K2 (by simp) (fun _ h _ => h))
  have HK2 := Lib.hid (((HK0.out.mono (S' := [p]) (by simp)).trans HK1.out).trans K2)
  clear K2
  go_upto_block 0 with fail
  generalize w1.alloc (Obj.cells #[.int .i64 (k : Int), .int .i64 0, .string ⟨#[]⟩] 57) = wq at *
  go_cut [8, 9, 11] (fun _ _ _ wx => ValMid p ba bc B s w.heap.size w1.heap.size w wx)
  case first =>
    have h0 : 0 < k → 0 < B.length := fun hk0 => byteM_pos B _ _ (by rw [HK.out]; exact hk0)
    have H0 := Lib.hid h0
    clear h0
    by_cases k1 : k = 1
    · have k1' : (k : Int) = 1 := by omega
      go_wp2_with fail
      refine (rd_byte' _ p ba bc B (stepN B s 1) HR2.out HB2.out (stepN_le B s 1 hat) hb).mono ?_
      rintro e w2 ⟨rfl, hr2, hk2⟩
      have AQ := HQ2.out.kept hk2 (by simp; omega)
      have AA := HA2.out.kept hk2 (by simp; omega)
      have y1 := AQ.free 1
      have q1 := AQ.cell (i := 1) rfl
      have HAQ := Lib.hid AQ
      have HAA := Lib.hid AA
      have HR3 := Lib.hid hr2
      have HK3 := Lib.hid (HK2.out.trans hk2)
      clear AQ AA hr2 hk2 k1'
      go_wp2_with fail
      go_meet
      case rel => exact ⟨⟨1, (byteM B (stepN B s 1).at_ (stepN B s 1).bad : Int), ⟨#[]⟩⟩, stepN B (stepN B s 1) 1, by have := HAQ.out.set 1 (.int .i64 (byteM B (stepN B s 1).at_ (stepN B s 1).bad : Int)); rw [k1] at this; exact this, HAA.out.setOther (a := ⟨w1.heap.size, 1, none⟩) hrq _, Arr.setOther HR3.out (a := ⟨w1.heap.size, 1, none⟩) hpq _, HK3.out.setCell (.inr (by show w.heap.size ≤ w1.heap.size; omega)) _, by unfold valueM; rw [HK.out]; simp [k1]⟩
    by_cases k2 : k = 2
    · have k1' : ¬ (k : Int) = 1 := by omega
      have k2' : (k : Int) = 2 := by omega
      go_wp2_with fail
      refine (rd_next' _ p ba bc 7 B (stepN B s 1) HR2.out HB2.out (stepN_le B s 1 hat) (.inr (by decide)) (by decide) hb).mono ?_
      rintro e w2 ⟨v, rfl, hv, hr2, hk2⟩
      have AQ := HQ2.out.kept hk2 (by simp; omega)
      have AA := HA2.out.kept hk2 (by simp; omega)
      have y1 := AQ.free 1
      have q1 := AQ.cell (i := 1) rfl
      have HAQ := Lib.hid AQ
      have HAA := Lib.hid AA
      have HR3 := Lib.hid hr2
      have HK3 := Lib.hid (HK2.out.trans hk2)
      have hl7 := bytesN_len B (stepN B s 1) 7
      have HV := Lib.hid hv
      clear AQ AA hr2 hk2 k1' k2'
      generalize hbl : bytesN B (stepN B s 1) 7 = bl at *
      obtain ⟨a, cap, hve, hcap⟩ := hv.form
      rw [List.length_map, hl7] at hve hcap
      subst hve
      have HBL := Lib.hid hbl
      clear hv hbl
      have HL7 := Lib.hid hl7
      clear hl7
      go_wp2_with fail
      go_loopg [4, 22] 7 (fun g nn i wr => ∃ j : Nat, j + g = 7 ∧ i = .int .i64 j ∧ nn = .int .u64 (numN (bl.take j)) ∧ wr = w2)
      case atStart => exact ⟨0, by omega, rfl, by simp [numN], rfl⟩
      case round =>
        obtain ⟨j, hj, rfl, rfl, rfl⟩ := hrel
        obtain ⟨wo, hwo⟩ : ∃ wo : World, wo = wr := ⟨_, rfl⟩
        subst hwo
        by_cases hlt : j < 7
        · obtain ⟨c, hc⟩ : ∃ c, bl[j]? = some c := ⟨bl[j]'(by rw [HL7.out]; exact hlt), by simp [HL7.out, hlt]⟩
          obtain ⟨b, o, cap', he, _, _, x0⟩ := int_at HV.out (x := (c.toNat : Int)) (j := j) (by rw [List.getElem?_map, hc]; rfl)
          simp only [Value.slice.injEq] at he
          obtain ⟨rfl, e7, e8⟩ := he
          clear e7 e8
          have hj0 : (0 : Int) ≤ (j : Int) := by omega
          have hj1 : (j : Int) < 7 := by omega
          have hc0 : (c.toNat : Int) < 256 := by have := UInt8.toNat_lt c; omega
          have HS := Lib.hid (numN_snoc bl j c hc)
          have hN := numN_six bl j hlt
          clear hc
          generalize numN (bl.take j) = N at *
          generalize c.toNat = m at *
          clear HL7 HBL H0 HAQ HAA HR3 HK3
          go_wp2_with fail
          go_roundg (7 - (j + 1))
          case measure => omega
          case rel => exact ⟨j + 1, by omega, by go_num, by rw [HS.out, or_join N m hN hc0], rfl⟩
        · obtain rfl : j = 7 := by omega
          clear hlt hj
          have HT : Hid (bl.take 7 = bl) := Lib.hid (List.take_of_length_le (by rw [HL7.out]; exact Nat.le_refl _))
          have HN7 := Lib.hid (numN_lt bl)
          have hN7 := numN_seven bl HL7.out
          rw [HT.out]
          generalize hNN : numN bl = N at *
          have HNN := Lib.hid hNN
          clear hNN
          go_wp2_with fail
          go_meet
          case rel => exact ⟨⟨2, (N : Int) - 9007199254740992, ⟨#[]⟩⟩, stepN B (stepN B s 1) 7, by have := HAQ.out.set 1 (.int .i64 ((N : Int) - 9007199254740992)); rw [k2] at this; exact this, HAA.out.setOther (a := ⟨w1.heap.size, 1, none⟩) hrq _, Arr.setOther HR3.out (a := ⟨w1.heap.size, 1, none⟩) hpq _, HK3.out.setCell (.inr (by show w.heap.size ≤ w1.heap.size; omega)) _, by unfold valueM; rw [HK.out]; simp [k2, HBL.out, HNN.out]⟩
    by_cases k3 : k = 3
    · have k1' : ¬ (k : Int) = 1 := by omega
      have k2' : ¬ (k : Int) = 2 := by omega
      have k3' : (k : Int) = 3 := by omega
      go_wp2_with fail
      refine (rd_byte' _ p ba bc B (stepN B s 1) HR2.out HB2.out (stepN_le B s 1 hat) hb).mono ?_
      rintro e w2 ⟨rfl, hr2, hk2⟩
      have AQ := HQ2.out.kept hk2 (by simp; omega)
      have AA := HA2.out.kept hk2 (by simp; omega)
      have HAQ := Lib.hid AQ
      have HAA := Lib.hid AA
      have HR3 := Lib.hid hr2
      have HB3 := Lib.hid (HB2.out.next (Q := fun b => b ≠ p) hk2 (by simp) (fun _ h _ => h))
      have HK3 := Lib.hid (HK2.out.trans hk2)
      have hnl := byteM_lt B (stepN B s 1).at_ (stepN B s 1).bad
      clear AQ AA hr2 hk2 k1' k2' k3'
      generalize hn : byteM B (stepN B s 1).at_ (stepN B s 1).bad = n at *
      have HN := Lib.hid hn
      clear hn
      go_wp2_with fail
      refine (rd_next' _ p ba bc n B (stepN B (stepN B s 1) 1) HR3.out HB3.out (stepN_le B _ 1 (stepN_le B s 1 hat)) (.inl (H0.out (by omega))) (by omega) hb).mono ?_
      rintro e w3 ⟨v, rfl, hv, hr2, hk2⟩
      have hcv := bat_conv hv
      have AQ := HAQ.out.kept hk2 (by simp; omega)
      have AA := HAA.out.kept hk2 (by simp; omega)
      have y2 := AQ.free 2
      have q2 := AQ.cell (i := 2) rfl
      have HAQ' := Lib.hid AQ
      have HAA' := Lib.hid AA
      have HR4 := Lib.hid hr2
      have HK4 := Lib.hid (HK3.out.trans hk2)
      clear AQ AA hr2 hk2 hv
      go_wp2_with fail
      go_meet
      case rel => exact ⟨⟨3, 0, ⟨(bytesN B (stepN B (stepN B s 1) 1) n).toArray⟩⟩, stepN B (stepN B (stepN B s 1) 1) n, by have := HAQ'.out.set 2 (.string ⟨(bytesN B (stepN B (stepN B s 1) 1) n).toArray⟩); rw [k3] at this; exact this, HAA'.out.setOther (a := ⟨w1.heap.size, 2, none⟩) hrq _, Arr.setOther HR4.out (a := ⟨w1.heap.size, 2, none⟩) hpq _, HK4.out.setCell (.inr (by show w.heap.size ≤ w1.heap.size; omega)) _, by unfold valueM; rw [HK.out]; simp [k3, HN.out]⟩
    have k1' : ¬ (k : Int) = 1 := by omega
    have k2' : ¬ (k : Int) = 2 := by omega
    have k3' : ¬ (k : Int) = 3 := by omega
    go_wp2_with fail
    go_meet
    case rel => exact ⟨⟨k, 0, ⟨#[]⟩⟩, stepN B s 1, HQ2.out, HA2.out, HR2.out, HK2.out, by unfold valueM; rw [HK.out]; simp [k1, k2, k3]⟩
  case rest =>
    clear HR2 HB2 HQ2 HA2 HK2 HK1 HR1 HB1 HK0 HB0 HR0 A1 A0 HK hkl
    obtain ⟨v, s2, hq, ha, hr, hk2, hv⟩ := hcut
    have hrw : w.heap.size < wc.heap.size := Nat.lt_of_lt_of_le hrl (by have := Arr.lt hq; omega)
    generalize hqq : w1.heap.size = q at *
    have HV := Lib.hid hv
    have HK2 := Lib.hid hk2
    clear hv hk2 hqq
    cases hbad : s2.bad
    · rw [hbad] at hr
      have HQ := Lib.hid hq
      have HA := Lib.hid ha
      have HR := Lib.hid hr
      have q0 := hq.cell (i := 0) rfl
      have q1 := hq.cell (i := 1) rfl
      have q2 := hq.cell (i := 2) rfl
      have g2 := Arr.cell hr (i := 2) rfl
      clear hq ha hr
      go_wp2_with fail
      refine (value_check _ v).mono ?_
      rintro e w3 ⟨rfl, hk3⟩
      have AQ := HQ.out.kept hk3 (by simp)
      have AR := HA.out.kept hk3 (by simp)
      have AP := Arr.kept HR.out hk3 (by simp)
      have HK4 := Lib.hid (HK2.out.trans (hk3.mono (by simp)))
      clear q0 q1 q2 g2 hk3
      have q0 := AQ.cell (i := 0) rfl
      have q1 := AQ.cell (i := 1) rfl
      have q2 := AQ.cell (i := 2) rfl
      have b0 := AR.free 0
      have b1 := AR.free 1
      have b2 := AR.free 2
      have a0 := AR.cell (i := 0) rfl
      have a1 := AR.cell (i := 1) rfl
      have a2 := AR.cell (i := 2) rfl
      have g2 := AP.cell (i := 2) rfl
      have f2 := AP.free 2
      have HA5 := Lib.hid AR
      have HR5 := Lib.hid AP
      clear AQ AR AP
      cases hok : valOk v
      all_goals
        have he : valErr v = if valOk v then 0 else 10 := rfl
        rw [hok] at he
        simp only [if_true, if_false, Bool.false_eq_true, reduceIte] at he
        rw [he]
        have HOK := Lib.hid hok
        have HBAD := Lib.hid hbad
        clear hok he hbad
        go_wp2_with fail
      · have AF := (((HA5.out.setOther (a := ⟨p, 2, none⟩) hrp (.bool true)).set 0 (.int .i64 v.k)).set 1 (.int .i64 v.n)).set 2 (.string v.s)
        have z0 := AF.cell (i := 0) rfl
        have z1 := AF.cell (i := 1) rfl
        have z2 := AF.cell (i := 2) rfl
        exact bodyPost_ret (v := .agg #[.int .i64 v.k, .int .i64 v.n, .string v.s]) (by simp [results, Tryz.results96, go_sem, z0, z1, z2]) rfl ⟨by rw [HV.out], by rw [HV.out, HOK.out, HBAD.out]; exact (((Arr.set HR5.out 2 (.bool true)).setOther (a := ⟨w.heap.size, 0, none⟩) hpr _).setOther (a := ⟨w.heap.size, 1, none⟩) hpr _).setOther (a := ⟨w.heap.size, 2, none⟩) hpr _, ((((HK4.out).setCell (.inl (by simp)) _).setCell (.inr (Nat.le_refl _)) _).setCell (.inr (Nat.le_refl _)) _).setCell (.inr (Nat.le_refl _)) _⟩
      · have AF := (((HA5.out.setOther (a := ⟨p, 2, none⟩) hrp (.bool false)).set 0 (.int .i64 v.k)).set 1 (.int .i64 v.n)).set 2 (.string v.s)
        have z0 := AF.cell (i := 0) rfl
        have z1 := AF.cell (i := 1) rfl
        have z2 := AF.cell (i := 2) rfl
        exact bodyPost_ret (v := .agg #[.int .i64 v.k, .int .i64 v.n, .string v.s]) (by simp [results, Tryz.results96, go_sem, z0, z1, z2]) rfl ⟨by rw [HV.out], by rw [HV.out, HOK.out, HBAD.out]; exact (((Arr.set HR5.out 2 (.bool false)).setOther (a := ⟨w.heap.size, 0, none⟩) hpr _).setOther (a := ⟨w.heap.size, 1, none⟩) hpr _).setOther (a := ⟨w.heap.size, 2, none⟩) hpr _, ((((HK4.out).setCell (.inl (by simp)) _).setCell (.inr (Nat.le_refl _)) _).setCell (.inr (Nat.le_refl _)) _).setCell (.inr (Nat.le_refl _)) _⟩
    · rw [hbad] at hr
      have HQ := Lib.hid (hq.setOther (a := ⟨p, 2, none⟩) hqp (.bool true))
      have HA := Lib.hid ha
      have HR := Lib.hid hr
      have HA3 := Lib.hid (ha.setOther (a := ⟨p, 2, none⟩) hrp (.bool true))
      have q0 := HQ.out.cell (i := 0) rfl
      have q1 := HQ.out.cell (i := 1) rfl
      have q2 := HQ.out.cell (i := 2) rfl
      have g2 := Arr.cell hr (i := 2) rfl
      have f2 := Arr.free hr 2
      have b0 := HA3.out.free 0
      have b1 := HA3.out.free 1
      have b2 := HA3.out.free 2
      have a0 := HA3.out.cell (i := 0) rfl
      have a1 := HA3.out.cell (i := 1) rfl
      have a2 := HA3.out.cell (i := 2) rfl
      have HBAD := Lib.hid hbad
      clear hq ha hr hbad
      go_wp2_with fail
      · have AF := (((HA.out.setOther (a := ⟨p, 2, none⟩) hrp (.bool true)).set 0 (.int .i64 v.k)).set 1 (.int .i64 v.n)).set 2 (.string v.s)
        have z0 := AF.cell (i := 0) rfl
        have z1 := AF.cell (i := 1) rfl
        have z2 := AF.cell (i := 2) rfl
        exact bodyPost_ret (v := .agg #[.int .i64 v.k, .int .i64 v.n, .string v.s]) (by simp [results, Tryz.results96, go_sem, z0, z1, z2]) rfl ⟨by rw [HV.out], by rw [HV.out, HBAD.out]; exact (((Arr.set HR.out 2 (.bool true)).setOther (a := ⟨w.heap.size, 0, none⟩) hpr _).setOther (a := ⟨w.heap.size, 1, none⟩) hpr _).setOther (a := ⟨w.heap.size, 2, none⟩) hpr _, ((((HK2.out).setCell (.inl (by simp)) _).setCell (.inr (Nat.le_refl _)) _).setCell (.inr (Nat.le_refl _)) _).setCell (.inr (Nat.le_refl _)) _⟩
end Go.Proofs.YtkodiogkldboiaaGreatDoor
/- row.Get: the row with which bytes begin. -/
namespace Go.Proofs.YtkodiogkldboiaaGreatDoor
open Go.RowKit

/-- So many values that are read, as long as nothing is bad. -/
def readM (B : List UInt8) : Nat → RS → List Val × RS
  | 0, s => ([], s)
  | n + 1, s => if s.bad then ([], s) else ((valueM B s).1 :: (readM B n (valueM B s).2).1, (readM B n (valueM B s).2).2)
/-- The row with which bytes begin, and how many bytes it has. -/
def getM (B : List UInt8) : Option (List Val × Nat) :=
  if 32 < byteM B 0 false then none
  else if (readM B (byteM B 0 false) (stepN B ⟨0, false⟩ 1)).2.bad then none
  else some ((readM B (byteM B 0 false) (stepN B ⟨0, false⟩ 1)).1, (readM B (byteM B 0 false) (stepN B ⟨0, false⟩ 1)).2.at_)
def gl (g : Option (List Val × Nat)) : List Val := (g.map (·.1)).getD []
def gn (g : Option (List Val × Nat)) : Nat := (g.map (·.2)).getD 0
def ge (g : Option (List Val × Nat)) : Int := if g.isSome then 0 else 20

theorem valueM_le (B : List UInt8) (s : RS) (h : s.at_ ≤ B.length) : (valueM B s).2.at_ ≤ B.length := by
  have h1 := stepN_le B s 1 h
  have h2 := stepN_le B _ 1 h1
  unfold valueM
  simp only
  split
  · exact h2
  · split
    · exact stepN_le B _ 7 h1
    · split
      · exact stepN_le B _ _ h2
      · exact h1
theorem readM_len (B : List UInt8) (n : Nat) : ∀ s, (readM B n s).1.length ≤ n := by
  induction n with
  | zero => intro s; simp [readM]
  | succ n ih =>
    intro s
    unfold readM
    split
    · simp
    · have := ih (valueM B s).2
      simpa using this

def GetPost (g : Option (List Val × Nat)) (w : World) (en : Ending) (w' : World) : Prop :=
  ∃ v, en = .returned (.tuple #[v, .int .i64 (gn g : Int), .int .i64 (ge g)]) ∧ kval.At w' (Hi w.heap.size) v (gl g) ∧ Kept [] w w'

theorem ne_of_lt {w : World} {n : Nat} {v : Value} {B : List UInt8} (h : BAt w (fun b => b < n) v B) : BAt w (fun b => b ≠ n) v B := h.next (Kept.refl [] w) (by simp) (fun _ h _ => by omega)

set_option maxRecDepth 100000 in
set_option maxHeartbeats 3200000 in
theorem row_get (w : World) (ba : Option Addr) (bc : Nat) (B : List UInt8) (hba : BAt w Any (.slice ba B.length bc) B) (hb : (B.length : Int) ≤ 16777216) : Calls Tryz.prog 76 #[.slice ba B.length bc] w (GetPost (getM B) w) := by
  have K0 : Kept [] w (w.alloc (Obj.cells #[.slice ba B.length bc, .int .i64 0, .bool false] 127)) := Kept.alloc (Kept.refl [] w) _
  have HR0 : Hid (RdAt (w.alloc (Obj.cells #[.slice ba B.length bc, .int .i64 0, .bool false] 127)) w.heap.size ba bc B 0 false) := Lib.hid (Arr.new' rfl rfl)
  have HB0 : Hid (BAt (w.alloc (Obj.cells #[.slice ba B.length bc, .int .i64 0, .bool false] 127)) (fun b => b < w.heap.size) (.slice ba B.length bc) B) := Lib.hid (hba.next K0 (by simp) (fun _ _ h => h))
  have HK0 := Lib.hid K0
  clear hba K0
  go_enter Tryz.func76, Tryz.ntmps76
  go_wp2_with fail
  refine (rd_byte' _ w.heap.size ba bc B ⟨0, false⟩ HR0.out (ne_of_lt HB0.out) (Nat.zero_le _) hb).mono ?_
  rintro e w1 ⟨rfl, hr1, hk1⟩
  have HR1 := Lib.hid hr1
  have HK1 : Hid (Kept [] w w1) := Lib.hid (Kept.fresh HK0.out hk1 (by intro x hx hlt; simp at hx; omega))
  have HB1 := Lib.hid (HB0.out.next (Q := fun b => b < w.heap.size) hk1 (fun b hb => by simp; omega) (fun _ h _ => h))
  have hnl := byteM_lt B 0 false
  have HS1 := Lib.hid (stepN_le B ⟨0, false⟩ 1 (Nat.zero_le _))
  have hgm : getM B = if 32 < byteM B 0 false then none else if (readM B (byteM B 0 false) (stepN B ⟨0, false⟩ 1)).2.bad then none else some ((readM B (byteM B 0 false) (stepN B ⟨0, false⟩ 1)).1, (readM B (byteM B 0 false) (stepN B ⟨0, false⟩ 1)).2.at_) := rfl
  clear hr1 hk1 HR0 HB0 HK0
  simp only at HR1 ⊢
  generalize byteM B 0 false = n at *
  generalize stepN B ⟨0, false⟩ 1 = s1 at *
  have HGM := Lib.hid hgm
  clear hgm
  go_wp2_with fail
  go_loopg [7, 8] n (fun g ov i wr => ∃ (k : Nat) (s : RS) (L : List Val), k + g = n ∧ i = .int .i64 k ∧ Hid (L.length = k) ∧ Hid (kval.Row 57 wr (w.heap.size + 1) NoB ov L) ∧ Hid (Kept [] w wr) ∧ Hid (RdAt wr w.heap.size ba bc B s.at_ s.bad) ∧ Hid (BAt wr (fun b => b < w.heap.size) (.slice ba B.length bc) B) ∧ Hid (s.at_ ≤ B.length) ∧ Hid (readM B n s1 = (L ++ (readM B (n - k) s).1, (readM B (n - k) s).2)) ∧ (k = 0 ∨ n ≤ 32))
  case atStart => exact ⟨0, s1, [], by omega, rfl, Lib.hid rfl, Lib.hid (Kd.Row.nil _ _ _ _ _), HK1, HR1, HB1, HS1, Lib.hid (by simp), .inl rfl⟩
  case round =>
    obtain ⟨k, s, L, hk, rfl, HL, HRW, HKW, HRD, HBW, HSL, HRM, hk32⟩ := hrel
    obtain ⟨wo, hwo⟩ : ∃ wo : World, wo = wr := ⟨_, rfl⟩
    subst hwo
    have HSL2 := Lib.hid (valueM_le B s HSL.out)
    have r1 := Arr.cell HRD.out (i := 1) rfl
    have r2 := Arr.cell HRD.out (i := 2) rfl
    have hn0 : (0 : Int) ≤ (n : Int) := by omega
    by_cases h32 : n ≤ 32
    · have h32' : (n : Int) ≤ 32 := by omega
      by_cases hlt : k < n
      · have hk0 : (k : Int) < (n : Int) := by omega
        cases hbad : s.bad
        · rw [hbad] at r2
          have HBAD := Lib.hid hbad
          clear hbad r1
          go_wp2_with fail
          refine (rd_value _ w.heap.size ba bc B s HRD.out (ne_of_lt HBW.out) HSL.out hb).mono ?_
          rintro e w2 ⟨rfl, hr2, hk2⟩
          have HR2 := Lib.hid hr2
          have HRW2 := Lib.hid (HRW.out.next hk2 (fun g hg => by have := HRW.out.block hg; simp; omega) (fun _ h => h.elim) (fun _ h _ => h))
          have HK2 : Hid (Kept [] w w2) := Lib.hid (Kept.fresh HKW.out hk2 (by intro x hx hlt; simp at hx; omega))
          have HB2 := Lib.hid (HBW.out.next (Q := fun b => b < w.heap.size) hk2 (fun b hb => by simp; omega) (fun _ h _ => h))
          have HSZ := Lib.hid hk2.size
          have HWL := Lib.hid (Arr.lt HRD.out)
          clear hr2 hk2 r2
          have HRM2 : Hid (readM B n s1 = ((L ++ [(valueM B s).1]) ++ (readM B (n - (k + 1)) (valueM B s).2).1, (readM B (n - (k + 1)) (valueM B s).2).2)) := Lib.hid (by
            rw [HRM.out, show n - k = (n - (k + 1)) + 1 by omega, readM, HBAD.out]
            simp)
          generalize valueM B s = vs at *
          obtain ⟨a1, cp1, hf, _⟩ := HRW2.out.form
          rw [HL.out] at hf
          subst hf
          go_wp2_with (at_builtin; go_must (refine wpList_val rfl _ _ rfl (w.heap.size + 1) (.slice a1 k cp1) L rfl (HRW2.out.kept (Kept.alloc (Kept.refl [] _) _)) w2.heap.size vs.1 rfl (Arr.new' rfl rfl) (by have := HL.out; omega) (by have := HWL.out; have := HSZ.out; simp; omega) ?_); intro g cap w4 ho hk; rw [HL.out] at ho; have HO := Lib.hid ho; have HK4 := Lib.hid hk; clear ho hk)
          have hkk : ∀ x, x ∈ (Value.slice a1 k cp1).ownBlock.toList → w.heap.size + 1 ≤ x := fun x hx => (HRW2.out.block (g := x) (by simpa using hx)).1
          have HKK := Lib.hid hkk
          clear hkk
          go_roundg (n - (k + 1))
          case measure => omega
          case rel => exact ⟨k + 1, vs.2, L ++ [vs.1], by omega, by go_num, Lib.hid (by simp [HL.out]), by rw [HL.out]; exact HO, Lib.hid (Kept.fresh (HK2.out.alloc _) HK4.out (fun y hy hlt => by have := HKK.out y hy; omega)), Lib.hid (Arr.kept (Arr.alloc HR2.out _) HK4.out (fun hm => by have := HKK.out _ hm; omega)), Lib.hid ((HB2.out.next (Q := fun b => b < w.heap.size) (Kept.alloc (Kept.refl [] _) _) (by simp) (fun _ h _ => h)).next HK4.out (fun b hb hm => by have := HKK.out _ hm; omega) (fun _ h _ => h)), HSL2, HRM2, .inr h32⟩
        · have hg : getM B = none := by
            rw [HGM.out, if_neg (by omega), HRM.out, show n - k = (n - (k + 1)) + 1 by omega, readM, hbad]
            simp [hbad]
          rw [hbad] at r2
          have HG := Lib.hid hg
          clear hbad hg r1
          go_wp2_with fail
          go_ret3
          exact ⟨_, by rw [HG.out]; rfl, by rw [HG.out]; exact Kd.At.nil _ _ _, HKW.out⟩
      · obtain rfl : k = n := by omega
        cases hbad : s.bad
        · have hg : getM B = some (L, s.at_) := by
            rw [HGM.out, if_neg (by omega), HRM.out, Nat.sub_self, readM]
            simp [hbad]
          rw [hbad] at r2
          have HG := Lib.hid hg
          obtain ⟨a1, cp1, hf, _⟩ := HRW.out.form
          rw [HL.out] at hf
          subst hf
          clear hbad hg
          go_wp2_with fail
          go_quiet (fail)
          go_wp2_with fail
          go_ret3
          exact ⟨_, by rw [HG.out]; rfl, by rw [HG.out]; exact (row_hi HRW.out).next (Kept.drewN (Kept.refl [] _) _) (by simp) (fun b h _ => by show w.heap.size ≤ b; have : w.heap.size + 1 ≤ b := h; omega), HKW.out.drewN _⟩
        · have hg : getM B = none := by
            rw [HGM.out, if_neg (by omega), HRM.out, Nat.sub_self, readM]
            simp [hbad]
          rw [hbad] at r2
          have HG := Lib.hid hg
          clear hbad hg r1
          go_wp2_with fail
          go_ret3
          exact ⟨_, by rw [HG.out]; rfl, by rw [HG.out]; exact Kd.At.nil _ _ _, HKW.out⟩
    · have hg : getM B = none := by rw [HGM.out, if_pos (by omega)]
      have HG := Lib.hid hg
      have h32' : ¬ (n : Int) ≤ 32 := by omega
      have h32'' : (32 : Int) < (n : Int) := by omega
      obtain rfl : k = 0 := by omega
      have hn1 : (0 : Int) < (n : Int) := by omega
      clear hg r1
      cases hbad : s.bad
      all_goals
        rw [hbad] at r2
        clear hbad
        go_wp2_with fail
        go_ret3
        exact ⟨_, by rw [HG.out]; rfl, by rw [HG.out]; exact Kd.At.nil _ _ _, HKW.out⟩
end Go.Proofs.YtkodiogkldboiaaGreatDoor
/- What the value is with which bytes begin: by cases. -/
namespace Go.Proofs.YtkodiogkldboiaaGreatDoor
open Go.RowKit

abbrev s00 : RS := ⟨0, false⟩
theorem byteM_at (l : List UInt8) (i : Nat) (c : UInt8) (h : l[i]? = some c) : byteM l i false = c.toNat := by
  have := get_lt h
  unfold byteM okN
  rw [show (!false && decide (i + 1 ≤ l.length)) = true by simp; omega, if_pos rfl, List.getD, h]; rfl
theorem stepN_ok (l : List UInt8) (a n : Nat) (h : a + n ≤ l.length) : stepN l ⟨a, false⟩ n = ⟨a + n, false⟩ := by
  unfold stepN okN; simp [h]
theorem stepN_far (l : List UInt8) (a n : Nat) (h : ¬ a + n ≤ l.length) : stepN l ⟨a, false⟩ n = ⟨a, true⟩ := by
  unfold stepN okN; simp [h]
theorem stepN_bad (l : List UInt8) (a n : Nat) : stepN l ⟨a, true⟩ n = ⟨a, true⟩ := by
  unfold stepN okN; simp
theorem bytesN_ok (l : List UInt8) (a n : Nat) (h : a + n ≤ l.length) : bytesN l ⟨a, false⟩ n = (l.drop a).take n := by
  unfold bytesN okN; simp [h]
theorem valOk_null : valOk ⟨0, 0, ⟨#[]⟩⟩ = true := by unfold valOk; simp [ByteArray.toList_eq]
theorem gv_nil : (valueM [] s00).2.bad = true := by simp [valueM, stepN, byteM, okN]
theorem gv0 (l : List UInt8) (c : UInt8) (h : l[0]? = some c) (hc : c.toNat = 0) : valueM l s00 = (⟨0, 0, ⟨#[]⟩⟩, ⟨1, false⟩) := by
  have e1 := byteM_at l 0 c h
  have e2 := stepN_ok l 0 1 (by have := get_lt h; omega)
  simp [valueM, s00, e1, hc, e2, valOk_null]
theorem gv1 (l : List UInt8) (c d : UInt8) (h : l[0]? = some c) (hc : c.toNat = 1) (h1 : l[1]? = some d) : valueM l s00 = (⟨1, (d.toNat : Int), ⟨#[]⟩⟩, ⟨2, !valOk ⟨1, (d.toNat : Int), ⟨#[]⟩⟩⟩) := by
  have := get_lt h1
  have e1 := byteM_at l 0 c h
  have e2 := stepN_ok l 0 1 (by omega)
  have e3 := byteM_at l 1 d h1
  have e4 := stepN_ok l 1 1 (by omega)
  simp [valueM, s00, e1, hc, e2, e3, e4]
theorem gv1' (l : List UInt8) (c : UInt8) (h : l[0]? = some c) (hc : c.toNat = 1) (h1 : ¬ 2 ≤ l.length) : (valueM l s00).2.bad = true := by
  have e1 := byteM_at l 0 c h
  have e2 := stepN_ok l 0 1 (by have := get_lt h; omega)
  have e3 := stepN_far l 1 1 (by omega)
  simp [valueM, s00, e1, hc, e2, e3]
theorem gv2 (l : List UInt8) (c : UInt8) (h : l[0]? = some c) (hc : c.toNat = 2) (h1 : 8 ≤ l.length) :
    valueM l s00 = (⟨2, (numN ((l.drop 1).take 7) : Int) - 9007199254740992, ⟨#[]⟩⟩, ⟨8, !valOk ⟨2, (numN ((l.drop 1).take 7) : Int) - 9007199254740992, ⟨#[]⟩⟩⟩) := by
  have e1 := byteM_at l 0 c h
  have e2 := stepN_ok l 0 1 (by omega)
  have e3 := stepN_ok l 1 7 (by omega)
  have e4 := bytesN_ok l 1 7 (by omega)
  simp [valueM, s00, e1, hc, e2, e3, e4]
theorem gv2' (l : List UInt8) (c : UInt8) (h : l[0]? = some c) (hc : c.toNat = 2) (h1 : ¬ 8 ≤ l.length) : (valueM l s00).2.bad = true := by
  have e1 := byteM_at l 0 c h
  have e2 := stepN_ok l 0 1 (by have := get_lt h; omega)
  have e3 := stepN_far l 1 7 (by omega)
  simp [valueM, s00, e1, hc, e2, e3]
theorem gv3 (l : List UInt8) (c d : UInt8) (h : l[0]? = some c) (hc : c.toNat = 3) (h1 : l[1]? = some d) (h2 : 2 + d.toNat ≤ l.length) :
    valueM l s00 = (⟨3, 0, ⟨((l.drop 2).take d.toNat).toArray⟩⟩, ⟨2 + d.toNat, !valOk ⟨3, 0, ⟨((l.drop 2).take d.toNat).toArray⟩⟩⟩) := by
  have := get_lt h1
  have e1 := byteM_at l 0 c h
  have e2 := stepN_ok l 0 1 (by omega)
  have e3 := byteM_at l 1 d h1
  have e4 := stepN_ok l 1 1 (by omega)
  have e5 := stepN_ok l 2 d.toNat (by omega)
  have e6 := bytesN_ok l 2 d.toNat (by omega)
  simp [valueM, s00, e1, hc, e2, e3, e4, e5, e6]
theorem gv3' (l : List UInt8) (c : UInt8) (h : l[0]? = some c) (hc : c.toNat = 3) (h1 : ¬ 2 ≤ l.length) : (valueM l s00).2.bad = true := by
  have e1 := byteM_at l 0 c h
  have e2 := stepN_ok l 0 1 (by have := get_lt h; omega)
  have e3 := stepN_far l 1 1 (by omega)
  have e4 := stepN_bad l 1
  simp [valueM, s00, e1, hc, e2, e3, e4]
theorem gv3'' (l : List UInt8) (c d : UInt8) (h : l[0]? = some c) (hc : c.toNat = 3) (h1 : l[1]? = some d) (h2 : ¬ 2 + d.toNat ≤ l.length) : (valueM l s00).2.bad = true := by
  have := get_lt h1
  have e1 := byteM_at l 0 c h
  have e2 := stepN_ok l 0 1 (by omega)
  have e3 := byteM_at l 1 d h1
  have e4 := stepN_ok l 1 1 (by omega)
  have e5 := stepN_far l 2 d.toNat (by omega)
  simp [valueM, s00, e1, hc, e2, e3, e4, e5]
theorem gv4 (l : List UInt8) (c : UInt8) (h : l[0]? = some c) (hc : 4 ≤ c.toNat) : (valueM l s00).2.bad = true := by
  have e1 := byteM_at l 0 c h
  have : valOk ⟨(c.toNat : Int), 0, ⟨#[]⟩⟩ = false := by
    unfold valOk
    simp only
    rw [if_neg (by omega), if_neg (by omega), if_neg (by omega), if_neg (by omega)]
  unfold valueM
  simp only [s00, e1]
  rw [if_neg (by omega), if_neg (by omega), if_neg (by omega)]
  simp [this]
/-- The value, and how many bytes it has; 0: there is none. -/
def gvV (l : List UInt8) : Val := if (valueM l s00).2.bad then ⟨0, 0, ⟨#[]⟩⟩ else (valueM l s00).1
def gvN (l : List UInt8) : Nat := if (valueM l s00).2.bad then 0 else (valueM l s00).2.at_
end Go.Proofs.YtkodiogkldboiaaGreatDoor
/- The reference's getValue. -/
namespace Go.Proofs.YtkodiogkldboiaaGreatDoor
open Go.RowKit

def GvPost (l : List UInt8) (w : World) (en : Ending) (w' : World) : Prop :=
  en = .returned (.tuple #[.agg #[.int .i64 (gvV l).k, .int .i64 (gvV l).n, .string (gvV l).s], .int .i64 (gvN l : Int)]) ∧ Kept [] w w'
/-- Behind the switch. -/
def GvMid (l : List UInt8) (r q : Nat) (w : World) (nv : Value) (wx : World) : Prop :=
  ∃ (v : Val) (n : Nat), nv = .int .i64 (n : Int) ∧ Arr wx q 57 [.int .i64 v.k, .int .i64 v.n, .string v.s] ∧ Arr wx r 57 [.int .i64 0, .int .i64 0, .string ⟨#[]⟩] ∧ Kept [] w wx ∧ valueM l s00 = (v, ⟨n, !valOk v⟩)
theorem gv_bad {l : List UInt8} (h : (valueM l s00).2.bad = true) : gvV l = ⟨0, 0, ⟨#[]⟩⟩ ∧ gvN l = 0 := by unfold gvV gvN; rw [h]; exact ⟨rfl, rfl⟩

set_option maxRecDepth 100000 in
set_option maxHeartbeats 6400000 in
theorem ref02_gv (w : World) (ba : Option Addr) (bc : Nat) (l : List UInt8) (h : BAt w Any (.slice ba l.length bc) l) (hb : (l.length : Int) ≤ 16777216) : Calls Tryz.prog 78 #[.slice ba l.length bc] w (GvPost l w) := by
  have K0 : Kept [] w (w.alloc (Obj.cells #[.int .i64 0, .int .i64 0, .string ⟨#[]⟩] 57)) := Kept.alloc (Kept.refl [] w) _
  have A0 : Arr (w.alloc (Obj.cells #[.int .i64 0, .int .i64 0, .string ⟨#[]⟩] 57)) w.heap.size 57 [.int .i64 0, .int .i64 0, .string ⟨#[]⟩] := Arr.new' rfl rfl
  by_cases h0 : l.length = 0
  · obtain rfl : l = [] := List.eq_nil_of_length_eq_zero h0
    obtain ⟨g1, g2⟩ := gv_bad gv_nil
    have G1 := Lib.hid g1
    have G2 := Lib.hid g2
    have HK0 := Lib.hid K0
    have HA0 := Lib.hid A0
    clear g1 g2 K0 A0 h h0
    simp only [List.length_nil]
    go_enter Tryz.func78, Tryz.ntmps78
    go_wp2_with fail
    exact bodyPost_ret (v := .tuple #[.agg #[.int .i64 0, .int .i64 0, .string ⟨#[]⟩], .int .i64 0]) (by simp [results, Tryz.results78, go_sem]) rfl ⟨by rw [G1.out, G2.out]; rfl, HK0.out⟩
  · obtain ⟨c, hc⟩ : ∃ c, l[0]? = some c := ⟨l[0]'(by omega), List.getElem?_eq_getElem (by omega)⟩
    obtain ⟨b, o, cap', he, _, hbs, x0⟩ := int_at h (x := (c.toNat : Int)) (j := 0) (by rw [List.getElem?_map, hc]; rfl)
    simp only [Value.slice.injEq] at he
    obtain ⟨rfl, e7, e8⟩ := he
    clear e7 e8
    rw [Nat.add_zero] at x0
    have HC := Lib.hid hc
    have H := Lib.hid h
    have HK0 := Lib.hid K0
    have HA0 := Lib.hid A0
    have h0' : ¬ (l.length : Int) = 0 := by omega
    have h00 : (0 : Int) < (l.length : Int) := by omega
    have h01 : 0 < l.length := by omega
    clear h hc K0 A0
    generalize hm : c.toNat = m at *
    have HM := Lib.hid hm
    clear hm
    have hm0 : (m : Int) < 256 := by have := UInt8.toNat_lt c; have := HM.out; omega
    have hm1 : (0 : Int) ≤ (m : Int) := by omega
    go_enter Tryz.func78, Tryz.ntmps78
    go_upto_block 0 with fail
    have HQ1 : Hid (Arr ((w.alloc (Obj.cells #[.int .i64 0, .int .i64 0, .string ⟨#[]⟩] 57)).alloc (Obj.cells #[.int .i64 (m : Int), .int .i64 0, .string ⟨#[]⟩] 57)) (w.heap.size + 1) 57 [.int .i64 (m : Int), .int .i64 0, .string ⟨#[]⟩]) := Lib.hid (Arr.new' (by simp) rfl)
    have HA1 := Lib.hid (HA0.out.alloc (Obj.cells #[.int .i64 (m : Int), .int .i64 0, .string ⟨#[]⟩] 57))
    have HK1 := Lib.hid (HK0.out.alloc (Obj.cells #[.int .i64 (m : Int), .int .i64 0, .string ⟨#[]⟩] 57))
    have x0' : ((w.alloc (Obj.cells #[.int .i64 0, .int .i64 0, .string ⟨#[]⟩] 57)).alloc (Obj.cells #[.int .i64 (m : Int), .int .i64 0, .string ⟨#[]⟩] 57)).cell? ⟨b, o, none⟩ = some (.int .u8 (m : Int)) := (HK1.out.cell hbs (by simp)).trans x0
    have HB1 := Lib.hid (H.out.kept HK1.out)
    generalize (w.alloc (Obj.cells #[.int .i64 0, .int .i64 0, .string ⟨#[]⟩] 57)).alloc (Obj.cells #[.int .i64 (m : Int), .int .i64 0, .string ⟨#[]⟩] 57) = wq at *
    have hrq : ¬ w.heap.size = w.heap.size + 1 := by omega
    clear x0 HK0 HA0
    have c0 := HQ1.out.cell (i := 0) rfl
    have c1 := HQ1.out.cell (i := 1) rfl
    have c2 := HQ1.out.cell (i := 2) rfl
    have f1 := HQ1.out.free 1
    have f2 := HQ1.out.free 2
    have d0 := HA1.out.cell (i := 0) rfl
    have d1 := HA1.out.cell (i := 1) rfl
    have d2 := HA1.out.cell (i := 2) rfl
    have b0 := HA1.out.free 0
    have b1 := HA1.out.free 1
    have b2 := HA1.out.free 2
    go_cut [5, 13, 14, 15] (fun nv _ _ _ wx => GvMid l w.heap.size (w.heap.size + 1) w nv wx)
    case first =>
      by_cases k0 : m = 0
      · have k0' : (m : Int) = 0 := by omega
        have hv := gv0 l c HC.out (by rw [HM.out]; exact k0)
        have HV := Lib.hid hv
        clear hv
        go_wp2_with fail
        have AF := (((HA1.out).set 0 (.int .i64 0)).set 1 (.int .i64 0)).set 2 (.string ⟨#[]⟩)
        have z0 := AF.cell (i := 0) rfl
        have z1 := AF.cell (i := 1) rfl
        have z2 := AF.cell (i := 2) rfl
        have G : gvV l = ⟨0, 0, ⟨#[]⟩⟩ ∧ gvN l = 1 := by unfold gvV gvN; rw [HV.out]; exact ⟨rfl, rfl⟩
        exact bodyPost_ret (v := .tuple #[.agg #[.int .i64 0, .int .i64 0, .string ⟨#[]⟩], .int .i64 1]) (by simp [results, Tryz.results78, go_sem, z0, z1, z2]) rfl ⟨by rw [G.1, G.2]; rfl, (((HK1.out.setCell (.inr (Nat.le_refl _)) _).setCell (.inr (Nat.le_refl _)) _).setCell (.inr (Nat.le_refl _)) _)⟩
      have k0' : ¬ (m : Int) = 0 := by omega
      by_cases k1 : m = 1
      · have k1' : (m : Int) = 1 := by omega
        by_cases hl : 2 ≤ l.length
        · obtain ⟨d, hd⟩ : ∃ d, l[1]? = some d := ⟨l[1]'(by omega), List.getElem?_eq_getElem (by omega)⟩
          obtain ⟨b', o', cap'', he, _, _, x1⟩ := int_at HB1.out (x := (d.toNat : Int)) (j := 1) (by rw [List.getElem?_map, hd]; rfl)
          simp only [Value.slice.injEq, Option.some.injEq, Addr.mk.injEq, and_true] at he
          obtain ⟨⟨rfl, rfl⟩, e7, e8⟩ := he
          clear e7 e8
          have HV := Lib.hid (gv1 l c d HC.out (by rw [HM.out]; exact k1) hd)
          have hd0 : (d.toNat : Int) < 256 := by have := UInt8.toNat_lt d; omega
          have hd1 : (0 : Int) ≤ (d.toNat : Int) := by omega
          have hl' : (2 : Int) ≤ (l.length : Int) := by omega
          have hl2 : (1 : Int) < (l.length : Int) := by omega
          clear hd k0'
          generalize d.toNat = y at *
          go_wp2_with fail
          go_meet
          case rel => exact ⟨⟨1, (y : Int), ⟨#[]⟩⟩, 2, rfl, by have := HQ1.out.set 1 (.int .i64 (y : Int)); rw [k1] at this; exact this, HA1.out.setOther (a := ⟨w.heap.size + 1, 1, none⟩) hrq _, HK1.out.setCell (.inr (by show w.heap.size ≤ w.heap.size + 1; omega)) _, HV.out⟩
        · have G := Lib.hid (gv_bad (gv1' l c HC.out (by rw [HM.out]; exact k1) hl))
          have hl' : ¬ (2 : Int) ≤ (l.length : Int) := by omega
          clear k0'
          go_wp2_with fail
          have AF := (((HA1.out).set 0 (.int .i64 0)).set 1 (.int .i64 0)).set 2 (.string ⟨#[]⟩)
          have z0 := AF.cell (i := 0) rfl
          have z1 := AF.cell (i := 1) rfl
          have z2 := AF.cell (i := 2) rfl
          exact bodyPost_ret (v := .tuple #[.agg #[.int .i64 0, .int .i64 0, .string ⟨#[]⟩], .int .i64 0]) (by simp [results, Tryz.results78, go_sem, z0, z1, z2]) rfl ⟨by rw [G.out.1, G.out.2]; rfl, (((HK1.out.setCell (.inr (Nat.le_refl _)) _).setCell (.inr (Nat.le_refl _)) _).setCell (.inr (Nat.le_refl _)) _)⟩
      have k1' : ¬ (m : Int) = 1 := by omega
      by_cases k2 : m = 2
      · have k2' : (m : Int) = 2 := by omega
        by_cases hl : 8 ≤ l.length
        · have hl' : (8 : Int) ≤ (l.length : Int) := by omega
          have HV := Lib.hid (gv2 l c HC.out (by rw [HM.out]; exact k2) hl)
          have HBL : Hid (((l.drop 1).take 7).length = 7) := Lib.hid (by simp; omega)
          generalize hbl : (l.drop 1).take 7 = bl at *
          have HL : Hid (∀ j, j < 7 → bl[j]? = l[j + 1]?) := Lib.hid (fun j hj => by rw [← hbl, List.getElem?_take_of_lt hj, List.getElem?_drop, Nat.add_comm])
          clear hbl k0' k1'
          go_wp2_with fail
          go_loopg [6] 7 (fun g i wr => ∃ j : Nat, j + g = 7 ∧ i = .int .i64 ((j : Int) + 1) ∧ Hid (Arr wr (w.heap.size + 1) 57 [.int .i64 2, .int .i64 (numN (bl.take j)), .string ⟨#[]⟩]) ∧ Hid (Arr wr w.heap.size 57 [.int .i64 0, .int .i64 0, .string ⟨#[]⟩]) ∧ Hid (Kept [] w wr))
          case atStart => exact ⟨0, by omega, rfl, by have := HQ1; rw [k2] at this; exact this, HA1, HK1⟩
          case round =>
            clear c0 c1 c2 f1 f2 d0 d1 d2 b0 b1 b2 x0' HB1 HK1 HA1 HQ1
            obtain ⟨j, hj, rfl, HQ, HA, HK⟩ := hrel
            obtain ⟨wo, hwo⟩ : ∃ wo : World, wo = wr := ⟨_, rfl⟩
            subst hwo
            by_cases hlt : j < 7
            · obtain ⟨d, hd⟩ : ∃ d, bl[j]? = some d := ⟨bl[j]'(by rw [HBL.out]; exact hlt), List.getElem?_eq_getElem (by rw [HBL.out]; exact hlt)⟩
              obtain ⟨b', o', cap'', he, _, _, x1⟩ := int_at (H.out.kept HK.out) (x := (d.toNat : Int)) (j := j + 1) (by rw [List.getElem?_map, ← HL.out j hlt, hd]; rfl)
              simp only [Value.slice.injEq, Option.some.injEq, Addr.mk.injEq, and_true] at he
              obtain ⟨⟨rfl, rfl⟩, e7, e8⟩ := he
              clear e7 e8
              have hj0 : (0 : Int) ≤ (j : Int) + 1 := by omega
              have hj1 : (j : Int) + 1 < 8 := by omega
              have hj2 : (j : Int) + 1 < (l.length : Int) := by omega
              have hj3 : ((j : Int) + 1).toNat = j + 1 := by omega
              have hd0 : (d.toNat : Int) < 256 := by have := UInt8.toNat_lt d; omega
              have hd1 : (0 : Int) ≤ (d.toNat : Int) := by omega
              have q1 := HQ.out.cell (i := 1) rfl
              have f1 := HQ.out.free 1
              have hN := numN_six bl j hlt
              have HS := Lib.hid (numN_snoc bl j d hd)
              clear hd
              generalize numN (bl.take j) = N at *
              generalize d.toNat = y at *
              have hN0 : (0 : Int) ≤ (N : Int) := by omega
              have e1 : IntKind.i64.wrap (256 * (N : Int)) = 256 * (N : Int) := IntWalk.i64_in _ (by omega)
              have e2 : IntKind.i64.wrap (256 * (N : Int) + (y : Int)) = 256 * (N : Int) + (y : Int) := IntWalk.i64_in _ (by omega)
              have e3 : IntKind.i64.wrap (y : Int) = (y : Int) := IntWalk.i64_in _ (by omega)
              go_wp2_with fail
              go_region
              have hk' : Kept [] w ((wo.setCell ⟨w.heap.size + 1, 1, none⟩ (.int .i64 (256 * (N : Int) + (y : Int)))).drew) := (HK.out.setCell (.inr (by show w.heap.size ≤ w.heap.size + 1; omega)) _).drew
              have hq' : Arr ((wo.setCell ⟨w.heap.size + 1, 1, none⟩ (.int .i64 (256 * (N : Int) + (y : Int)))).drew) (w.heap.size + 1) 57 [.int .i64 2, .int .i64 (numN (bl.take (j + 1))), .string ⟨#[]⟩] := by
                rw [HS.out, show ((N * 256 + y : Nat) : Int) = 256 * (N : Int) + (y : Int) by omega]
                exact HQ.out.set 1 _
              have ha' : Arr ((wo.setCell ⟨w.heap.size + 1, 1, none⟩ (.int .i64 (256 * (N : Int) + (y : Int)))).drew) w.heap.size 57 [.int .i64 0, .int .i64 0, .string ⟨#[]⟩] := HA.out.setOther (a := ⟨w.heap.size + 1, 1, none⟩) hrq _
              have HK' := Lib.hid hk'
              have HQ' := Lib.hid hq'
              have HA' := Lib.hid ha'
              clear hk' hq' ha' e1 e2 e3 q1 f1
              go_wp2_with fail
              go_roundg (7 - (j + 1))
              case measure => omega
              case rel => exact ⟨j + 1, by omega, by go_num, HQ', HA', HK'⟩
            · obtain rfl : j = 7 := by omega
              have HT : Hid (bl.take 7 = bl) := Lib.hid (List.take_of_length_le (by rw [HBL.out]; exact Nat.le_refl _))
              have hN7 := numN_seven bl HBL.out
              rw [HT.out] at HQ
              clear hlt hj HL
              generalize hNN : numN bl = N at *
              have q1 := HQ.out.cell (i := 1) rfl
              have f1 := HQ.out.free 1
              have hN0 : (0 : Int) ≤ (N : Int) := by omega
              go_wp2_with fail
              go_meet
              case rel => exact ⟨⟨2, (N : Int) - 9007199254740992, ⟨#[]⟩⟩, 8, rfl, HQ.out.set 1 _, HA.out.setOther (a := ⟨w.heap.size + 1, 1, none⟩) hrq _, HK.out.setCell (.inr (by show w.heap.size ≤ w.heap.size + 1; omega)) _, HV.out⟩
        · have G := Lib.hid (gv_bad (gv2' l c HC.out (by rw [HM.out]; exact k2) hl))
          have hl' : ¬ (8 : Int) ≤ (l.length : Int) := by omega
          clear k0' k1'
          go_wp2_with fail
          have AF := (((HA1.out).set 0 (.int .i64 0)).set 1 (.int .i64 0)).set 2 (.string ⟨#[]⟩)
          have z0 := AF.cell (i := 0) rfl
          have z1 := AF.cell (i := 1) rfl
          have z2 := AF.cell (i := 2) rfl
          exact bodyPost_ret (v := .tuple #[.agg #[.int .i64 0, .int .i64 0, .string ⟨#[]⟩], .int .i64 0]) (by simp [results, Tryz.results78, go_sem, z0, z1, z2]) rfl ⟨by rw [G.out.1, G.out.2]; rfl, (((HK1.out.setCell (.inr (Nat.le_refl _)) _).setCell (.inr (Nat.le_refl _)) _).setCell (.inr (Nat.le_refl _)) _)⟩
      have k2' : ¬ (m : Int) = 2 := by omega
      by_cases k3 : m = 3
      · have k3' : (m : Int) = 3 := by omega
        by_cases hl : 2 ≤ l.length
        · obtain ⟨d, hd⟩ : ∃ d, l[1]? = some d := ⟨l[1]'(by omega), List.getElem?_eq_getElem (by omega)⟩
          obtain ⟨b', o', cap'', he, _, _, x1⟩ := int_at HB1.out (x := (d.toNat : Int)) (j := 1) (by rw [List.getElem?_map, hd]; rfl)
          simp only [Value.slice.injEq, Option.some.injEq, Addr.mk.injEq, and_true] at he
          obtain ⟨⟨rfl, rfl⟩, e7, e8⟩ := he
          clear e7 e8
          have hd0 : (d.toNat : Int) < 256 := by have := UInt8.toNat_lt d; omega
          have hd1 : (0 : Int) ≤ (d.toNat : Int) := by omega
          have hl' : (2 : Int) ≤ (l.length : Int) := by omega
          have hl2 : (1 : Int) < (l.length : Int) := by omega
          by_cases hl3 : 2 + d.toNat ≤ l.length
          · have HV := Lib.hid (gv3 l c d HC.out (by rw [HM.out]; exact k3) hd hl3)
            have hl3' : (d.toNat : Int) ≤ (l.length : Int) - 2 := by omega
            obtain ⟨_, _, he, hcap⟩ := HB1.out.form
            simp only [List.length_map, Value.slice.injEq, true_and] at he hcap
            obtain ⟨rfl, rfl⟩ := he
            have e3 : (2 : Int) + (d.toNat : Int) ≤ (bc : Int) := by omega
            have e4 : ((2 : Int) + (d.toNat : Int)).toNat = 2 + d.toNat := by omega
            have e5 : (2 : Int) ≤ 2 + (d.toNat : Int) := by omega
            have e6 : 2 + d.toNat - 2 = d.toNat := by omega
            have HCV1 := bat_conv (BAt.sub (at_ := 2) (n := d.toNat) (c := bc - 2) HB1.out hl3 (by omega))
            have HCV2 : (convert 28 9 (.slice (some ⟨b, o, none⟩) 0 (bc - 2))).run Tryz.prog wq = .ok (.string ⟨#[]⟩) wq := bat_conv (P := Any) (l := []) ⟨_, _, rfl, by simp, fun j x h => by simp at h⟩
            have HD := Lib.hid hd
            clear hd k0' k1' k2' hcap hl3
            generalize hy : d.toNat = y at *
            generalize hbs2 : (l.drop 2).take y = bs at *
            have hrel : ∀ bs' : List UInt8, bs' = bs → GvMid l w.heap.size (w.heap.size + 1) w (.int .i64 (2 + (y : Int))) (wq.setCell ⟨w.heap.size + 1, 2, none⟩ (.string ⟨bs'.toArray⟩)) := by
              intro bs' hbs'
              rw [hbs']
              exact ⟨⟨3, 0, ⟨bs.toArray⟩⟩, 2 + y, by go_num, by have := HQ1.out.set 2 (.string ⟨bs.toArray⟩); rw [k3] at this; exact this, HA1.out.setOther (a := ⟨w.heap.size + 1, 2, none⟩) hrq _, HK1.out.setCell (.inr (by show w.heap.size ≤ w.heap.size + 1; omega)) _, HV.out⟩
            have HREL := Lib.hid hrel
            clear hrel
            by_cases hbc : bc = 2
            · obtain rfl : y = 0 := by omega
              have hbs0 : ([] : List UInt8) = bs := by rw [← hbs2, List.take_zero]
              have HBS := Lib.hid hbs0
              subst hbc
              clear hbs0 hy hbs2 HCV1
              go_wp2_with fail
              go_meet
              case rel => exact HREL.out [] HBS.out
            · clear hbs2
              go_wp2_with fail
              go_meet
              case rel => exact HREL.out bs rfl
          · have G := Lib.hid (gv_bad (gv3'' l c d HC.out (by rw [HM.out]; exact k3) hd hl3))
            have hl3' : ¬ (d.toNat : Int) ≤ (l.length : Int) - 2 := by omega
            clear hd k0' k1' k2'
            generalize d.toNat = y at *
            go_wp2_with fail
            have AF := (((HA1.out).set 0 (.int .i64 0)).set 1 (.int .i64 0)).set 2 (.string ⟨#[]⟩)
            have z0 := AF.cell (i := 0) rfl
            have z1 := AF.cell (i := 1) rfl
            have z2 := AF.cell (i := 2) rfl
            exact bodyPost_ret (v := .tuple #[.agg #[.int .i64 0, .int .i64 0, .string ⟨#[]⟩], .int .i64 0]) (by simp [results, Tryz.results78, go_sem, z0, z1, z2]) rfl ⟨by rw [G.out.1, G.out.2]; rfl, (((HK1.out.setCell (.inr (Nat.le_refl _)) _).setCell (.inr (Nat.le_refl _)) _).setCell (.inr (Nat.le_refl _)) _)⟩
        · have G := Lib.hid (gv_bad (gv3' l c HC.out (by rw [HM.out]; exact k3) hl))
          have hl' : ¬ (2 : Int) ≤ (l.length : Int) := by omega
          clear k0' k1' k2'
          go_wp2_with fail
          have AF := (((HA1.out).set 0 (.int .i64 0)).set 1 (.int .i64 0)).set 2 (.string ⟨#[]⟩)
          have z0 := AF.cell (i := 0) rfl
          have z1 := AF.cell (i := 1) rfl
          have z2 := AF.cell (i := 2) rfl
          exact bodyPost_ret (v := .tuple #[.agg #[.int .i64 0, .int .i64 0, .string ⟨#[]⟩], .int .i64 0]) (by simp [results, Tryz.results78, go_sem, z0, z1, z2]) rfl ⟨by rw [G.out.1, G.out.2]; rfl, (((HK1.out.setCell (.inr (Nat.le_refl _)) _).setCell (.inr (Nat.le_refl _)) _).setCell (.inr (Nat.le_refl _)) _)⟩
      have k3' : ¬ (m : Int) = 3 := by omega
      have G := Lib.hid (gv_bad (gv4 l c HC.out (by rw [HM.out]; omega)))
      go_wp2_with fail
      have AF := (((HA1.out).set 0 (.int .i64 0)).set 1 (.int .i64 0)).set 2 (.string ⟨#[]⟩)
      have z0 := AF.cell (i := 0) rfl
      have z1 := AF.cell (i := 1) rfl
      have z2 := AF.cell (i := 2) rfl
      exact bodyPost_ret (v := .tuple #[.agg #[.int .i64 0, .int .i64 0, .string ⟨#[]⟩], .int .i64 0]) (by simp [results, Tryz.results78, go_sem, z0, z1, z2]) rfl ⟨by rw [G.out.1, G.out.2]; rfl, (((HK1.out.setCell (.inr (Nat.le_refl _)) _).setCell (.inr (Nat.le_refl _)) _).setCell (.inr (Nat.le_refl _)) _)⟩
    case rest =>
      clear c0 c1 c2 f1 f2 d0 d1 d2 b0 b1 b2 HB1 HK1 HQ1 HA1 x0'
      obtain ⟨v, n, rfl, hq, ha, hk, hv⟩ := hcut
      have q0 := hq.cell (i := 0) rfl
      have q1 := hq.cell (i := 1) rfl
      have q2 := hq.cell (i := 2) rfl
      have HQ := Lib.hid hq
      have HA := Lib.hid ha
      have HK := Lib.hid hk
      clear hq ha hk
      go_wp2_with fail
      refine (ref01_check _ v).mono ?_
      rintro e w3 ⟨rfl, hk3⟩
      have AQ := HQ.out.kept hk3 (by simp)
      have AR := HA.out.kept hk3 (by simp)
      have HK4 := Lib.hid (HK.out.trans hk3)
      clear q0 q1 q2 hk3
      have q0 := AQ.cell (i := 0) rfl
      have q1 := AQ.cell (i := 1) rfl
      have q2 := AQ.cell (i := 2) rfl
      have b0 := AR.free 0
      have b1 := AR.free 1
      have b2 := AR.free 2
      have a0 := AR.cell (i := 0) rfl
      have a1 := AR.cell (i := 1) rfl
      have a2 := AR.cell (i := 2) rfl
      have HA5 := Lib.hid AR
      clear AQ AR
      cases hok : valOk v
      · obtain ⟨g1, g2⟩ := gv_bad (l := l) (by rw [hv, hok]; rfl)
        have G1 := Lib.hid g1
        have G2 := Lib.hid g2
        clear g1 g2 hok hv
        go_wp2_with fail
        have AF := (((HA5.out).set 0 (.int .i64 0)).set 1 (.int .i64 0)).set 2 (.string ⟨#[]⟩)
        have z0 := AF.cell (i := 0) rfl
        have z1 := AF.cell (i := 1) rfl
        have z2 := AF.cell (i := 2) rfl
        exact bodyPost_ret (v := .tuple #[.agg #[.int .i64 0, .int .i64 0, .string ⟨#[]⟩], .int .i64 0]) (by simp [results, Tryz.results78, go_sem, z0, z1, z2]) rfl ⟨by rw [G1.out, G2.out]; rfl, (((HK4.out.setCell (.inr (Nat.le_refl _)) _).setCell (.inr (Nat.le_refl _)) _).setCell (.inr (Nat.le_refl _)) _)⟩
      · have g : gvV l = v ∧ gvN l = n := by unfold gvV gvN; rw [hv, hok]; exact ⟨rfl, rfl⟩
        have G := Lib.hid g
        clear g hok hv
        go_wp2_with fail
        have AF := (((HA5.out).set 0 (.int .i64 v.k)).set 1 (.int .i64 v.n)).set 2 (.string v.s)
        have z0 := AF.cell (i := 0) rfl
        have z1 := AF.cell (i := 1) rfl
        have z2 := AF.cell (i := 2) rfl
        exact bodyPost_ret (v := .tuple #[.agg #[.int .i64 v.k, .int .i64 v.n, .string v.s], .int .i64 n]) (by simp [results, Tryz.results78, go_sem, z0, z1, z2]) rfl ⟨by rw [G.out.1, G.out.2], (((HK4.out.setCell (.inr (Nat.le_refl _)) _).setCell (.inr (Nat.le_refl _)) _).setCell (.inr (Nat.le_refl _)) _)⟩
end Go.Proofs.YtkodiogkldboiaaGreatDoor
