/- What is encoded is decoded, and back: values, rows. No program is in sight. -/
import Derived.Test.YtkodiogkldboiaaGreatDoorM6
import Derived.Test.YtkodiogkldboiaaGreatDoorM14
set_option linter.unusedVariables false
set_option linter.unusedSimpArgs false
namespace Go.Proofs.YtkodiogkldboiaaGreatDoor
open Go.RowKit

theorem lowB_nat (n : Nat) : (lowB n).toNat = n % 256 := by unfold lowB; simp
theorem lowB_of (c : UInt8) : lowB c.toNat = c := by
  apply UInt8.toNat_inj.1
  rw [lowB_nat]
  exact Nat.mod_eq_of_lt (UInt8.toNat_lt c)
theorem lowB_eq {n : Nat} {c : UInt8} (h : n % 256 = c.toNat) : lowB n = c := UInt8.toNat_inj.1 (by rw [lowB_nat, h])
theorem num_be7 (m : Nat) (h : m < 72057594037927936) : numN (be7 m) = m := by
  unfold numN be7
  simp only [List.foldl_cons, List.foldl_nil, lowB_nat]
  omega
theorem be7_num (l : List UInt8) (h : l.length = 7) : be7 (numN l) = l := by
  match l, h with
  | [a, b, c, d, e, f, g], _ =>
    have ha := UInt8.toNat_lt a
    have hb := UInt8.toNat_lt b
    have hc := UInt8.toNat_lt c
    have hd := UInt8.toNat_lt d
    have he := UInt8.toNat_lt e
    have hf := UInt8.toNat_lt f
    have hg := UInt8.toNat_lt g
    unfold numN be7
    simp only [List.foldl_cons, List.foldl_nil]
    rw [lowB_eq (c := a) (by omega), lowB_eq (c := b) (by omega), lowB_eq (c := c) (by omega), lowB_eq (c := d) (by omega), lowB_eq (c := e) (by omega), lowB_eq (c := f) (by omega), lowB_eq (c := g) (by omega)]
theorem empty_of {s : ByteArray} (h : s.toList.isEmpty = true) : s = ⟨#[]⟩ := str_eq (List.isEmpty_iff.1 h)
theorem size_mk (l : List UInt8) : (⟨l.toArray⟩ : ByteArray).size = l.length := by simp [ByteArray.size]

/-- What valOk says, kind by kind. -/
theorem valOk_iff (v : Val) : valOk v = true ↔ v.k = 0 ∧ v.n = 0 ∧ v.s = ⟨#[]⟩ ∨ v.k = 1 ∧ (v.n = 0 ∨ v.n = 1) ∧ v.s = ⟨#[]⟩ ∨ v.k = 2 ∧ (-maxInt ≤ v.n ∧ v.n ≤ maxInt) ∧ v.s = ⟨#[]⟩ ∨ v.k = 3 ∧ v.n = 0 ∧ v.s.size ≤ 64 := by
  have he : ∀ s : ByteArray, s.toList.isEmpty = true ↔ s = ⟨#[]⟩ := fun s => ⟨empty_of, fun h => by rw [h, ByteArray.toList_eq]; rfl⟩
  unfold valOk
  by_cases h0 : v.k = 0
  · rw [if_pos h0]; simp [he, h0]
  · by_cases h1 : v.k = 1
    · rw [if_neg h0, if_pos h1]; simp [he, h1]
    · by_cases h2 : v.k = 2
      · rw [if_neg h0, if_neg h1, if_pos h2]; simp [he, h2]
      · by_cases h3 : v.k = 3
        · rw [if_neg h0, if_neg h1, if_neg h2, if_pos h3]; simp [h3]
        · rw [if_neg h0, if_neg h1, if_neg h2, if_neg h3]; simp [h0, h1, h2, h3]

theorem enc_val (v : Val) (R : List UInt8) (h : valOk v = true) : valueM (putV v ++ R) s00 = (v, ⟨(putV v).length, false⟩) := by
  have hk := (valOk_iff v).1 h
  obtain ⟨k, n, s⟩ := v
  simp only at hk
  rcases hk with ⟨rfl, rfl, rfl⟩ | ⟨rfl, hn, rfl⟩ | ⟨rfl, hn, rfl⟩ | ⟨rfl, rfl, hs⟩
  · exact gv0 _ 0 rfl rfl
  · have e : putV ⟨1, n, ⟨#[]⟩⟩ = [1, lowB n.toNat] := rfl
    rw [e, gv1 _ 1 (lowB n.toNat) rfl rfl rfl]
    have hd : ((lowB n.toNat).toNat : Int) = n := by rw [lowB_nat]; omega
    rw [hd, h]; rfl
  · have e : putV ⟨2, n, ⟨#[]⟩⟩ = 2 :: be7 (up n) := rfl
    have hl : (be7 (up n)).length = 7 := rfl
    have ht : ((2 :: be7 (up n) ++ R).drop 1).take 7 = be7 (up n) := by
      rw [List.cons_append, List.drop_succ_cons, List.drop_zero, List.take_append_of_le_length (by rw [hl]; exact Nat.le_refl _), List.take_of_length_le (by rw [hl]; exact Nat.le_refl _)]
    rw [e, gv2 _ 2 rfl rfl (by simp [hl])]
    rw [ht, num_be7 (up n) (by unfold up; unfold maxInt at hn; omega)]
    have hd : (up n : Int) - 9007199254740992 = n := by unfold up; unfold maxInt at hn; omega
    rw [hd, h]; simp [hl]
  · have e : putV ⟨3, 0, s⟩ = 3 :: lowB s.size :: s.data.toList := rfl
    have hd : (lowB s.size).toNat = s.size := by rw [lowB_nat]; omega
    have hsz : s.data.toList.length = s.size := Array.length_toList
    have ht : ((3 :: lowB s.size :: s.data.toList ++ R).drop 2).take s.size = s.data.toList := by
      show (s.data.toList ++ R).take s.size = _
      rw [← hsz, List.take_append_of_le_length (Nat.le_refl _), List.take_of_length_le (Nat.le_refl _)]
    rw [e, gv3 _ 3 (lowB s.size) rfl rfl rfl (by rw [hd]; show 2 + s.size ≤ (3 :: lowB s.size :: (s.data.toList ++ R)).length; rw [List.length_cons, List.length_cons, List.length_append, hsz]; omega)]
    rw [hd, ht, show (⟨s.data.toList.toArray⟩ : ByteArray) = s from ByteArray.ext (Array.toArray_toList), h]
    show ((⟨3, 0, s⟩ : Val), RS.mk (2 + s.size) false) = (_, RS.mk (s.data.toList.length + 1 + 1) false)
    rw [hsz, Nat.add_comm 2]
theorem dec_val (l : List UInt8) (h : (valueM l s00).2.bad = false) : valOk (valueM l s00).1 = true ∧ l = putV (valueM l s00).1 ++ l.drop (valueM l s00).2.at_ := by
  have hok : valOk (valueM l s00).1 = true := by
    have h2 := h
    unfold valueM at h2 ⊢
    simp only [Bool.or_eq_false_iff] at h2
    simpa using h2.2
  refine ⟨hok, ?_⟩
  cases l with
  | nil => rw [gv_nil] at h; cases h
  | cons c t =>
    have hc : (c :: t)[0]? = some c := rfl
    by_cases k0 : c.toNat = 0
    · rw [gv0 _ c hc k0]
      have : c = 0 := UInt8.toNat_inj.1 k0
      subst this; rfl
    by_cases k1 : c.toNat = 1
    · have hce : c = 1 := UInt8.toNat_inj.1 k1
      subst hce
      cases t with
      | nil => rw [gv1' _ 1 hc k1 (by simp)] at h; cases h
      | cons d t =>
        rw [gv1 _ 1 d hc k1 rfl] at hok ⊢
        have e : putV ⟨1, (d.toNat : Int), ⟨#[]⟩⟩ = [1, lowB ((d.toNat : Int)).toNat] := rfl
        show _ = putV ⟨1, (d.toNat : Int), ⟨#[]⟩⟩ ++ _
        rw [e, Int.toNat_natCast, lowB_of]; rfl
    by_cases k2 : c.toNat = 2
    · have hce : c = 2 := UInt8.toNat_inj.1 k2
      subst hce
      by_cases h8 : 8 ≤ (2 :: t).length
      · rw [gv2 _ 2 hc k2 h8] at hok ⊢
        show _ = putV ⟨2, (numN (((2 :: t).drop 1).take 7) : Int) - 9007199254740992, ⟨#[]⟩⟩ ++ _
        rw [List.drop_succ_cons, List.drop_zero]
        have hl : (t.take 7).length = 7 := by simp at h8 ⊢; omega
        have e : putV ⟨2, (numN (t.take 7) : Int) - 9007199254740992, ⟨#[]⟩⟩ = 2 :: be7 (up ((numN (t.take 7) : Int) - 9007199254740992)) := rfl
        have hu : up ((numN (t.take 7) : Int) - 9007199254740992) = numN (t.take 7) := by unfold up; omega
        rw [e, hu, be7_num _ hl]
        show _ = 2 :: (t.take 7 ++ t.drop 7)
        rw [List.take_append_drop]
      · rw [gv2' _ 2 hc k2 h8] at h; cases h
    by_cases k3 : c.toNat = 3
    · have hce : c = 3 := UInt8.toNat_inj.1 k3
      subst hce
      cases t with
      | nil => rw [gv3' _ 3 hc k3 (by simp)] at h; cases h
      | cons d t =>
        by_cases h3 : 2 + d.toNat ≤ (3 :: d :: t).length
        · rw [gv3 _ 3 d hc k3 rfl h3] at hok ⊢
          show _ = putV ⟨3, 0, ⟨((t).take d.toNat).toArray⟩⟩ ++ (3 :: d :: t).drop (2 + d.toNat)
          have hl : (t.take d.toNat).length = d.toNat := by simp at h3 ⊢; omega
          have e : putV ⟨3, 0, ⟨(t.take d.toNat).toArray⟩⟩ = 3 :: lowB (⟨(t.take d.toNat).toArray⟩ : ByteArray).size :: t.take d.toNat := by simp [putV]
          rw [e, size_mk, hl, lowB_of]
          rw [show 2 + d.toNat = d.toNat + 1 + 1 by omega, List.drop_succ_cons, List.drop_succ_cons, List.cons_append, List.cons_append, List.take_append_drop]
        · rw [gv3'' _ 3 d hc k3 rfl h3] at h; cases h
    · rw [gv4 _ c hc (by omega)] at h; cases h
end Go.Proofs.YtkodiogkldboiaaGreatDoor
/- What is encoded is decoded, and back: rows, rows of ints. No program is in sight. -/
namespace Go.Proofs.YtkodiogkldboiaaGreatDoor
open Go.RowKit

theorem enc_read (B R : List UInt8) : ∀ (r : List Val) (a : Nat), a ≤ B.length → r.all valOk = true → B.drop a = r.flatMap putV ++ R → readM B r.length ⟨a, false⟩ = (r, ⟨a + (r.flatMap putV).length, false⟩)
  | [], a, _, _, _ => rfl
  | v :: r, a, ha, hr, hd => by
    simp only [List.all_cons, Bool.and_eq_true] at hr
    rw [List.flatMap_cons, List.append_assoc] at hd
    have h1 := enc_val v (r.flatMap putV ++ R) hr.1
    rw [← hd] at h1
    have h2 := valueM_at B a ha
    rw [h1] at h2
    have hle : a + (putV v).length ≤ B.length := by
      have := congrArg List.length hd
      rw [List.length_drop, List.length_append] at this
      omega
    have hd2 : B.drop (a + (putV v).length) = r.flatMap putV ++ R := by rw [← List.drop_drop, hd, List.drop_left]
    rw [List.length_cons, readM, if_neg (by simp), h2]
    simp only
    rw [enc_read B R r _ hle hr.2 hd2]
    simp [List.flatMap_cons, Nat.add_assoc]
theorem enc_row (r : List Val) (R : List UInt8) (h : rowOk r = true) : getM (putR r ++ R) = some (r, (putR r).length) := by
  obtain ⟨hl, ha⟩ := rowOk_parts h
  have e : putR r ++ R = lowB r.length :: (r.flatMap putV ++ R) := rfl
  have hb : byteM (putR r ++ R) 0 false = r.length := by
    rw [byteM_at _ 0 (lowB r.length) rfl, lowB_nat]; omega
  have hs : stepN (putR r ++ R) ⟨0, false⟩ 1 = ⟨1, false⟩ := stepN_ok _ 0 1 (by rw [e, List.length_cons]; omega)
  have hr := enc_read (putR r ++ R) R r 1 (by rw [e, List.length_cons]; omega) ha rfl
  unfold getM
  rw [hb, hs, hr, if_neg (by omega)]
  simp [putR, Nat.add_comm]
theorem enc_rowM (r : List Val) (R : List UInt8) (h : rowOk r = true) : rowM ⟨putR r ++ R, false⟩ = (r, ⟨R, false⟩) := by
  unfold rowM
  simp only [Bool.false_eq_true, if_false]
  rw [enc_row r R h]
  simp [gl, gn]

theorem valueM_bad_at (B : List UInt8) (a : Nat) (h : a ≤ B.length) (hb : (valueM B ⟨a, false⟩).2.bad = false) : valOk (valueM B ⟨a, false⟩).1 = true ∧ B.drop a = putV (valueM B ⟨a, false⟩).1 ++ B.drop (valueM B ⟨a, false⟩).2.at_ := by
  rw [valueM_at B a h] at hb ⊢
  have := dec_val (B.drop a) hb
  refine ⟨this.1, ?_⟩
  rw [← List.drop_drop]
  exact this.2
theorem dec_read (B : List UInt8) : ∀ (m a : Nat), a ≤ B.length → (readM B m ⟨a, false⟩).2.bad = false → (readM B m ⟨a, false⟩).1.length = m ∧ (readM B m ⟨a, false⟩).1.all valOk = true ∧ B.drop a = (readM B m ⟨a, false⟩).1.flatMap putV ++ B.drop (readM B m ⟨a, false⟩).2.at_
  | 0, a, _, _ => ⟨rfl, rfl, rfl⟩
  | m + 1, a, ha, hb => by
    rw [readM, if_neg (by simp)] at hb ⊢
    have hb1 : (valueM B ⟨a, false⟩).2.bad = false := readM_bad B m _ hb
    have hv := valueM_bad_at B a ha hb1
    have hle := valueM_le B ⟨a, false⟩ ha
    have hs : (valueM B ⟨a, false⟩).2 = ⟨(valueM B ⟨a, false⟩).2.at_, false⟩ := by
      cases hh : (valueM B ⟨a, false⟩).2 with
      | mk x y => rw [hh] at hb1; simp only at hb1; rw [hb1]
    have ih := dec_read B m (valueM B ⟨a, false⟩).2.at_ hle (by rw [← hs]; exact hb)
    rw [← hs] at ih
    refine ⟨by simp [ih.1], by simp [hv.1, ih.2.1], ?_⟩
    rw [List.flatMap_cons, List.append_assoc, ← ih.2.2]
    exact hv.2
theorem dec_row (B : List UInt8) (h : (getM B).isSome = true) : rowOk (gl (getM B)) = true ∧ B = putR (gl (getM B)) ++ B.drop (gn (getM B)) := by
  unfold getM at h ⊢
  split at h
  · simp at h
  · rename_i h32
    split at h
    · simp at h
    · rename_i hb
      rw [if_neg h32, if_neg hb]
      have hb1 : (stepN B ⟨0, false⟩ 1).bad = false := readM_bad B _ _ (by simpa using hb)
      have hat := stepN_bad_or B ⟨0, false⟩ 1 hb1
      have hle := stepN_le B ⟨0, false⟩ 1 (Nat.zero_le _)
      simp only [Nat.zero_add] at hat
      rw [hat] at hle
      have hs : stepN B ⟨0, false⟩ 1 = ⟨1, false⟩ := by
        cases hh : stepN B ⟨0, false⟩ 1 with
        | mk a b => rw [hh] at hb1 hat; simp only at hb1 hat; rw [hb1, hat]
      rw [hs] at hb ⊢
      have hd := dec_read B (byteM B 0 false) 1 hle (by simpa using hb)
      cases B with
      | nil => simp at hle
      | cons c t =>
        have hc : byteM (c :: t) 0 false = c.toNat := byteM_at _ 0 c rfl
        have e : gl (some ((readM (c :: t) (byteM (c :: t) 0 false) ⟨1, false⟩).1, (readM (c :: t) (byteM (c :: t) 0 false) ⟨1, false⟩).2.at_)) = (readM (c :: t) (byteM (c :: t) 0 false) ⟨1, false⟩).1 := rfl
        have e2 : gn (some ((readM (c :: t) (byteM (c :: t) 0 false) ⟨1, false⟩).1, (readM (c :: t) (byteM (c :: t) 0 false) ⟨1, false⟩).2.at_)) = (readM (c :: t) (byteM (c :: t) 0 false) ⟨1, false⟩).2.at_ := rfl
        rw [e, e2]
        refine ⟨?_, ?_⟩
        · unfold rowOk
          rw [hd.1, hd.2.1, decide_eq_true (by omega)]; rfl
        · unfold putR
          rw [hd.1, hc, lowB_of, List.cons_append]
          rw [hc] at hd
          rw [← hd.2.2]
          rfl
theorem dec_rowM (s : SR) (h : s.bad = false) (h2 : (rowM s).2.bad = false) : rowOk (rowM s).1 = true ∧ s.rest = putR (rowM s).1 ++ (rowM s).2.rest := by
  unfold rowM at h2 ⊢
  rw [if_neg (by simp [h])] at h2 ⊢
  simp only [Bool.not_eq_false'] at h2
  exact dec_row s.rest h2

/-! ### rows of a text and ints -/
theorem valRow_intsOk (word : ByteArray) (ns : List Int) (h : ∀ n ∈ ns, 0 ≤ n) : intsOk ns.length (valRow word ns) = true := by
  have e : (valRow word ns).tail.any oddNat = false := by
    show (ns.map vint).any oddNat = false
    rw [List.any_eq_false]
    intro x hx
    obtain ⟨n, hn, rfl⟩ := List.mem_map.1 hx
    unfold oddNat vint
    simp [h n hn]
  unfold intsOk
  rw [e]
  simp [valRow, hd, vtext]
theorem enc_ints (word : ByteArray) (ns : List Int) (R : List UInt8) (hok : rowOk (valRow word ns) = true) (h : ∀ n ∈ ns, 0 ≤ n) :
    intsS ns.length ⟨putR (valRow word ns) ++ R, false⟩ = ⟨R, false⟩ ∧ intsNm ns.length ⟨putR (valRow word ns) ++ R, false⟩ = word ∧ intsV ns.length ⟨putR (valRow word ns) ++ R, false⟩ = ns := by
  have h1 := enc_rowM _ R hok
  have h2 := valRow_intsOk word ns h
  unfold intsS intsNm intsV intsL
  rw [h1]
  simp only [h2, if_true]
  refine ⟨trivial, rfl, ?_⟩
  show (ns.map vint).map Val.n = ns
  rw [List.map_map]
  exact (List.map_congr_left (fun n _ => rfl)).trans (List.map_id ns)
theorem val_text {v : Val} (h : valOk v = true) (hk : v.k = 3) : v = vtext v.s := by
  rcases (valOk_iff v).1 h with h1 | h1 | h1 | h1
  · omega
  · omega
  · omega
  · cases v; simp only at h1; unfold vtext; rw [h1.1, h1.2.1]
theorem val_int {v : Val} (h : valOk v = true) (hk : v.k = 2) : v = vint v.n := by
  rcases (valOk_iff v).1 h with h1 | h1 | h1 | h1
  · omega
  · omega
  · cases v; simp only at h1; unfold vint; rw [h1.1, h1.2.2]
  · omega
theorem dec_ints (n : Nat) (s : SR) (h : s.bad = false) (h2 : (intsS n s).bad = false) : (intsV n s).length = n ∧ rowOk (valRow (intsNm n s) (intsV n s)) = true ∧ s.rest = putR (valRow (intsNm n s) (intsV n s)) ++ (intsS n s).rest := by
  have hok := intsS_ok n s h2
  have he : intsS n s = (rowM s).2 := by unfold intsS; rw [hok]; rfl
  rw [he] at h2
  have hr := dec_rowM s h h2
  have hv : intsV n s = intsL s := by unfold intsV; rw [hok]; rfl
  have hn : intsNm n s = (hd (rowM s).1).s := by unfold intsNm; rw [hok]; rfl
  rw [he, hv, hn]
  have hall := (rowOk_parts hr.1).2
  unfold intsOk at hok
  simp only [Bool.and_eq_true, decide_eq_true_eq, Bool.not_eq_true', List.any_eq_false] at hok
  obtain ⟨hl, hk, ht⟩ := hok
  have e : (rowM s).1 = valRow (hd (rowM s).1).s (intsL s) := by
    unfold intsL
    cases hh : (rowM s).1 with
    | nil => rw [hh] at hl; simp at hl
    | cons x t =>
      rw [hh] at hk ht hall
      simp only [List.all_cons, Bool.and_eq_true] at hall
      have hx : x = vtext x.s := val_text hall.1 hk
      have htt : t = (t.map Val.n).map vint := by
        rw [List.map_map]
        refine ((List.map_id t).symm).trans (List.map_congr_left fun y hy => ?_)
        have hy2 := ht y hy
        unfold oddNat at hy2
        simp only [Bool.not_eq_true, Bool.not_eq_false', Bool.and_eq_true, decide_eq_true_eq] at hy2
        exact val_int (List.all_eq_true.1 hall.2 y hy) hy2.1
      show x :: t = vtext x.s :: (t.map Val.n).map vint
      rw [← htt, ← hx]
  refine ⟨?_, by rw [← e]; exact hr.1, by rw [← e]; exact hr.2⟩
  unfold intsL
  rw [List.length_map, List.length_tail, hl]
  rfl
end Go.Proofs.YtkodiogkldboiaaGreatDoor
/- What is encoded is decoded, and back: the query's text. No program is in sight. -/
namespace Go.Proofs.YtkodiogkldboiaaGreatDoor
open Go.RowKit

/-- The bytes of a query: pieces of 64. -/
def qB (l : List UInt8) : List UInt8 := if h : l = [] then [] else putR (valRow ⟨(l.take 64).toArray⟩ []) ++ qB (l.drop 64)
termination_by l.length
decreasing_by
  have : 0 < l.length := List.length_pos_iff.2 h
  simp; omega
theorem qB_nil : qB [] = [] := by rw [qB]; simp
theorem qB_cons {l : List UInt8} (h : l ≠ []) : qB l = putR (valRow ⟨(l.take 64).toArray⟩ []) ++ qB (l.drop 64) := by rw [qB, dif_neg h]

theorem chunk_list (q : ByteArray) (k : Nat) (h : 64 * k < q.size) : chunkN q k = ⟨((q.data.toList.drop (64 * k)).take 64).toArray⟩ := by
  apply ByteArray.ext
  apply Array.toList_inj.1
  unfold chunkN
  have hs : q.data.toList.length = q.size := Array.length_toList
  rw [ByteArray.data_extract, Array.toList_extract, List.extract_eq_take_drop, Nat.add_sub_cancel_left]
  show _ = (q.data.toList.drop (64 * k)).take 64
  rcases Nat.le_total 64 (q.size - 64 * k) with h1 | h1
  · rw [Nat.min_eq_left h1]
  · rw [Nat.min_eq_right h1, List.take_of_length_le (by rw [List.length_drop, hs]; exact Nat.le_refl _), List.take_of_length_le (by rw [List.length_drop, hs]; exact h1)]
theorem chunks_from (q : ByteArray) : ∀ (m k : Nat), chunksN q = k + m → (List.range' k m).flatMap (putQ q) = qB (q.data.toList.drop (64 * k))
  | 0, k, h => by
    have hs : q.data.toList.length = q.size := Array.length_toList
    unfold chunksN at h
    rw [List.drop_eq_nil_of_le (by rw [hs]; omega), qB_nil]; rfl
  | m + 1, k, h => by
    have hs : q.data.toList.length = q.size := Array.length_toList
    have hlt : 64 * k < q.size := by unfold chunksN at h; omega
    have hne : q.data.toList.drop (64 * k) ≠ [] := by
      intro e
      have := congrArg List.length e
      rw [List.length_drop, hs] at this
      simp at this; omega
    rw [List.range'_succ, List.flatMap_cons, chunks_from q m (k + 1) (by omega), qB_cons hne, List.drop_drop]
    show putR (valRow (chunkN q k) []) ++ _ = _
    rw [chunk_list q k hlt, show 64 * k + 64 = 64 * (k + 1) by omega]
theorem chunks_qB (q : ByteArray) : (List.range (chunksN q)).flatMap (putQ q) = qB q.data.toList := by
  rw [List.range_eq_range', chunks_from q (chunksN q) 0 (by omega)]; rfl

theorem piece_ok (l : List UInt8) : rowOk (valRow ⟨(l.take 64).toArray⟩ []) = true := by
  have hs : (⟨(l.take 64).toArray⟩ : ByteArray).size ≤ 64 := by rw [size_mk]; exact List.length_take_le _ _
  have : valOk (vtext ⟨(l.take 64).toArray⟩) = true := (valOk_iff _).2 (.inr (.inr (.inr ⟨rfl, rfl, hs⟩)))
  unfold rowOk valRow
  simp [this]
theorem enc_query (l R o : List UInt8) : queryM l.length ⟨qB l ++ R, false⟩ o = (o ++ l, ⟨R, false⟩) := by
  induction hn : l.length using Nat.strongRecOn generalizing l o with
  | ind n ih =>
    rw [queryM]
    by_cases h0 : l = []
    · subst h0
      simp at hn
      subst hn
      rw [if_pos (.inl rfl), qB_nil]; simp
    · have hpos : 0 < n := by rw [← hn]; exact List.length_pos_iff.2 h0
      rw [if_neg (by simp; omega), qB_cons h0, List.append_assoc]
      obtain ⟨e1, e2, _⟩ := enc_ints ⟨(l.take 64).toArray⟩ [] (qB (l.drop 64) ++ R) (piece_ok l) (by simp)
      simp only [List.length_nil] at e1 e2
      rw [e1, e2]
      have hs : (⟨(l.take 64).toArray⟩ : ByteArray).size = min n 64 := by rw [size_mk, List.length_take, hn]; omega
      rw [hs]
      simp only [decide_true, Bool.not_true, Bool.or_false]
      rw [ih (n - 64) (by omega) (l.drop 64) _ (by rw [List.length_drop, hn])]
      simp [List.append_assoc]
theorem dec_query (n : Nat) : ∀ (s : SR) (o : List UInt8), s.bad = false → (queryM n s o).2.bad = false → ∃ q : List UInt8, (queryM n s o).1 = o ++ q ∧ q.length = n ∧ s.rest = qB q ++ (queryM n s o).2.rest := by
  induction n using Nat.strongRecOn with
  | ind n ih =>
    intro s o hs hb
    rw [queryM] at hb ⊢
    by_cases h0 : n = 0
    · rw [if_pos (.inl h0)] at hb ⊢
      exact ⟨[], by simp, by simp [h0], by rw [qB_nil]; rfl⟩
    · have hno : ¬ (n = 0 ∨ s.bad = true) := by rw [hs]; simp [h0]
      rw [if_neg hno] at hb ⊢
      have hb0 : ((intsS 0 s).bad || !decide ((intsNm 0 s).size = min n 64)) = false := by
        cases hh : ((intsS 0 s).bad || !decide ((intsNm 0 s).size = min n 64)) with
        | false => rfl
        | true => rw [hh, queryM, if_pos (.inr rfl)] at hb; cases hb
      rw [hb0] at hb ⊢
      simp only [Bool.or_eq_false_iff, Bool.not_eq_false', decide_eq_true_eq] at hb0
      obtain ⟨q, e1, e2, e3⟩ := ih (n - 64) (by omega) ⟨(intsS 0 s).rest, false⟩ _ rfl hb
      obtain ⟨i1, _, i3⟩ := dec_ints 0 s hs hb0.1
      have hv : intsV 0 s = [] := List.eq_nil_of_length_eq_zero i1
      rw [hv] at i3
      have hsz : (intsNm 0 s).data.toList.length = min n 64 := by rw [← hb0.2]; exact Array.length_toList
      refine ⟨(intsNm 0 s).data.toList ++ q, by rw [e1, List.append_assoc], by rw [List.length_append, e2, hsz]; omega, ?_⟩
      have hne : (intsNm 0 s).data.toList ++ q ≠ [] := by
        intro e
        have := congrArg List.length e
        rw [List.length_append, hsz, e2] at this
        simp at this; omega
      have ht : ((intsNm 0 s).data.toList ++ q).take 64 = (intsNm 0 s).data.toList := by
        by_cases h64 : 64 ≤ n
        · rw [List.take_append_of_le_length (by rw [hsz]; omega), List.take_of_length_le (by rw [hsz]; omega)]
        · have : q = [] := List.eq_nil_of_length_eq_zero (by omega)
          rw [this, List.append_nil, List.take_of_length_le (by rw [hsz]; omega)]
      have hd2 : ((intsNm 0 s).data.toList ++ q).drop 64 = q := by
        by_cases h64 : 64 ≤ n
        · have : (intsNm 0 s).data.toList.length = 64 := by rw [hsz]; omega
          rw [← this, List.drop_left]
        · have : q = [] := List.eq_nil_of_length_eq_zero (by omega)
          rw [this, List.append_nil, List.drop_eq_nil_of_le (by rw [hsz]; omega)]
      rw [qB_cons hne, ht, hd2, List.append_assoc, ← e3, i3]
end Go.Proofs.YtkodiogkldboiaaGreatDoor
/- What is encoded is decoded, and back: tables, faults, the whole script. No program is in sight. -/
namespace Go.Proofs.YtkodiogkldboiaaGreatDoor
open Go.RowKit

/-! ### the same deed so often -/
theorem enc_times {α : Type} (step : SR × List α → SR × List α) (f : α → List UInt8) : ∀ (l : List α) (R : List UInt8) (o : List α), (∀ x ∈ l, ∀ R o, step (⟨f x ++ R, false⟩, o) = (⟨R, false⟩, o ++ [x])) → timesM sbad step l.length (⟨l.flatMap f ++ R, false⟩, o) = (⟨R, false⟩, o ++ l)
  | [], R, o, _ => by simp [timesM]
  | x :: l, R, o, h => by
    rw [List.length_cons, timesM, if_neg (by simp [sbad]), List.flatMap_cons, List.append_assoc, h x (by simp), enc_times step f l R _ (fun y hy => h y (by simp [hy]))]
    simp
theorem dec_times {α : Type} (step : SR × List α → SR × List α) (f : α → List UInt8) (h : ∀ s o, s.bad = false → (step (s, o)).1.bad = false → ∃ x, (step (s, o)).2 = o ++ [x] ∧ s.rest = f x ++ (step (s, o)).1.rest) : ∀ (n : Nat) (s : SR) (o : List α), s.bad = false → (timesM sbad step n (s, o)).1.bad = false → ∃ l, l.length = n ∧ (timesM sbad step n (s, o)).2 = o ++ l ∧ s.rest = l.flatMap f ++ (timesM sbad step n (s, o)).1.rest
  | 0, s, o, _, _ => ⟨[], rfl, by simp [timesM], by simp [timesM]⟩
  | n + 1, s, o, hs, hb => by
    rw [timesM, if_neg (by simp [sbad, hs])] at hb ⊢
    have hb1 : (step (s, o)).1.bad = false := timesM_bad_in step n _ hb
    obtain ⟨x, e1, e2⟩ := h s o hs hb1
    have hp : step (s, o) = ((step (s, o)).1, o ++ [x]) := by rw [← e1]
    rw [hp] at hb ⊢
    obtain ⟨l, e3, e4, e5⟩ := dec_times step f h n _ _ hb1 hb
    refine ⟨x :: l, by rw [List.length_cons, e3], by rw [e4]; simp, ?_⟩
    rw [e2, e5, List.flatMap_cons, List.append_assoc]

/-! ### a table -/
theorem enc_col (c : Col) (hc : colOk c = true) (hr : rowOk (colRow c) = true) (R : List UInt8) (o : List Col) : colStep (⟨putR (colRow c) ++ R, false⟩, o) = (⟨R, false⟩, o ++ [c]) := by
  unfold colOk at hc
  simp only [Bool.and_eq_true, decide_eq_true_eq] at hc
  obtain ⟨e1, e2, e3⟩ := enc_ints c.name [c.type] R hr (by intro n hn; simp at hn; omega)
  simp only [List.length_cons, List.length_nil, Nat.zero_add] at e1 e2 e3
  unfold colStep colNew colRow
  simp only
  rw [e1, e2, e3, ← empty_of hc.1.1]
  rfl
theorem enc_table (t : Tbl) (R : List UInt8) (h : tblOk t = true) : tblM ⟨putT t ++ R, false⟩ = (t, ⟨R, false⟩) := by
  have o := TOk.of h
  obtain ⟨h1, h2, h3, h4, h5, h6, h7⟩ := tblOk_iff.1 h
  have e : putT t ++ R = putR (headRow t) ++ (t.cols.flatMap (fun c => putR (colRow c)) ++ (t.rows.flatMap putR ++ R)) := by
    unfold putT; simp [List.append_assoc]
  obtain ⟨e1, e2, e3⟩ := enc_ints t.name [(t.cols.length : Int), (t.rows.length : Int)] (t.cols.flatMap (fun c => putR (colRow c)) ++ (t.rows.flatMap putR ++ R)) o.head (by intro n hn; simp at hn; omega)
  simp only [List.length_cons, List.length_nil, Nat.zero_add, Nat.reduceAdd] at e1 e2 e3
  rw [e]
  have hl0 : l_at [(t.cols.length : Int), (t.rows.length : Int)] 0 = t.cols.length := rfl
  have hl1 : l_at [(t.cols.length : Int), (t.rows.length : Int)] 1 = t.rows.length := rfl
  have hC : tblC ⟨putR (headRow t) ++ (t.cols.flatMap (fun c => putR (colRow c)) ++ (t.rows.flatMap putR ++ R)), false⟩ = (⟨t.rows.flatMap putR ++ R, false⟩, t.cols) := by
    unfold tblC headRow
    rw [e1, e3, hl0, enc_times colStep (fun c => putR (colRow c)) t.cols _ [] (fun c hc R o' => enc_col c (List.all_eq_true.1 h5 c hc) (o.col c hc) R o')]
    rfl
  have hR : tblR ⟨putR (headRow t) ++ (t.cols.flatMap (fun c => putR (colRow c)) ++ (t.rows.flatMap putR ++ R)), false⟩ = (⟨R, false⟩, t.rows) := by
    unfold tblR
    rw [hC]
    unfold headRow
    rw [e3, hl1, enc_times rowStep putR t.rows _ [] (fun r hr R o' => by unfold rowStep; simp only; rw [enc_rowM r R (o.row r hr)])]
    rfl
  unfold tblM
  rw [hC, hR]
  unfold headRow
  rw [e2]

theorem two_of {l : List Int} (h : l.length = 2) (hp : ∀ z ∈ l, 0 ≤ z) : l = [(l_at l 0 : Int), (l_at l 1 : Int)] := by
  match l, h with
  | [a, b], _ =>
    have h1 := hp a (by simp)
    have h2 := hp b (by simp)
    unfold l_at
    simp
    omega
theorem one_of {l : List Int} (h : l.length = 1) : l = [l.headD 0] := by
  match l, h with
  | [a], _ => rfl
theorem dec_table (s : SR) (h : s.bad = false) (h2 : (tblM s).2.bad = false) : s.rest = putT (tblM s).1 ++ (tblM s).2.rest := by
  have h3 : (tblC s).1.bad = false := timesM_bad_in rowStep _ _ h2
  have h4 : (intsS 2 s).bad = false := timesM_bad_in colStep _ _ h3
  obtain ⟨i1, _, i3⟩ := dec_ints 2 s h h4
  have hv := two_of i1 (fun z hz => (intsV_bound 2 s z hz).1)
  obtain ⟨lc, c1, c2, c3⟩ := dec_times colStep (fun c => putR (colRow c)) (fun s o hs hb => by
    obtain ⟨j1, _, j3⟩ := dec_ints 1 s hs hb
    refine ⟨colNew s, rfl, ?_⟩
    unfold colRow colNew
    simp only
    rw [← one_of j1]
    exact j3) (l_at (intsV 2 s) 0) (intsS 2 s) [] h4 h3
  obtain ⟨lr, r1, r2, r3⟩ := dec_times rowStep putR (fun s o hs hb => ⟨_, rfl, (dec_rowM s hs hb).2⟩) (l_at (intsV 2 s) 1) (tblC s).1 [] h3 h2
  have hc : (tblC s).2 = lc := c2
  have hr : (tblR s).2 = lr := r2
  have c3' : (intsS 2 s).rest = lc.flatMap (fun c => putR (colRow c)) ++ (tblC s).1.rest := c3
  have r3' : (tblC s).1.rest = lr.flatMap putR ++ (tblR s).1.rest := r3
  unfold tblM putT headRow
  simp only
  rw [hc, hr, c1, r1, ← hv, List.append_assoc, List.append_assoc, ← r3', ← c3']
  exact i3

/-! ### the whole -/
theorem enc_fault (n : Int) (hr : rowOk [vint n] = true) (R : List UInt8) (o : List Int) : faultStep (⟨putR [vint n] ++ R, false⟩, o) = (⟨R, false⟩, o ++ [n]) := by
  unfold faultStep faultM
  simp only
  rw [enc_rowM _ R hr]
  rfl
theorem dec_fault (s : SR) (o : List Int) (hs : s.bad = false) (hb : (faultStep (s, o)).1.bad = false) : ∃ x, (faultStep (s, o)).2 = o ++ [x] ∧ s.rest = putR [vint x] ++ (faultStep (s, o)).1.rest := by
  refine ⟨_, rfl, ?_⟩
  unfold faultStep at hb ⊢
  simp only at hb ⊢
  unfold faultM at hb ⊢
  cases hf : faultOk (rowM s).1 with
  | false => rw [hf] at hb; simp at hb
  | true =>
    rw [hf] at hb
    simp only [if_true] at hb ⊢
    obtain ⟨d1, d2⟩ := dec_rowM s hs hb
    have hall := (rowOk_parts d1).2
    unfold faultOk at hf
    simp only [Bool.and_eq_true, decide_eq_true_eq] at hf
    have e : (rowM s).1 = [vint (hd (rowM s).1).n] := by
      match hh : (rowM s).1, hf.1 with
      | [v], _ =>
        rw [hh] at hall hf
        simp only [List.all_cons, List.all_nil, Bool.and_true] at hall
        show [v] = [vint v.n]
        rw [← val_int hall hf.2]
    rw [← e]
    exact d2

theorem argsOk_of {s : Scr} (h : scrOk s = true) : catOk s.tables = true ∧ argsOk s = true := by
  unfold scrOk at h
  simp only [Bool.and_eq_true, decide_eq_true_eq, Bool.not_eq_true'] at h
  obtain ⟨⟨h1, h2⟩, h3⟩ := h
  have hc : catOk s.tables = true := by
    cases hq : catOk s.tables with
    | true => rfl
    | false => unfold sessErr at h1; rw [hq] at h1; cases h1
  refine ⟨hc, ?_⟩
  cases hq : argsOk s with
  | true => rfl
  | false => unfold sessErr at h1; rw [hc, hq] at h1; cases h1
theorem data_of (q : ByteArray) : (⟨q.data.toList.toArray⟩ : ByteArray) = q := ByteArray.ext Array.toArray_toList
/-- What is encoded, with more behind it: all of it is read, and what lies behind is left. -/
theorem enc_scr (s : Scr) (R : List UInt8) (h : scrOk s = true) : markOk ⟨encB s ++ R, false⟩ = true ∧ decF ⟨encB s ++ R, false⟩ = (⟨R, false⟩, s.faults) ∧ decScr ⟨encB s ++ R, false⟩ = s := by
  have o := SOk.of h
  obtain ⟨hcat, harg⟩ := argsOk_of h
  obtain ⟨c1, c2, c3⟩ := catOk_iff.1 hcat
  unfold argsOk at harg
  simp only [Bool.and_eq_true, decide_eq_true_eq] at harg
  have hq : s.query.data.toList.length = s.query.size := Array.length_toList
  have e : encB s ++ R = putR (topRow s) ++ (qB s.query.data.toList ++ (s.tables.flatMap putT ++ (s.faults.flatMap (fun n => putR [vint n]) ++ R))) := by
    unfold encB; rw [chunks_qB]; simp [List.append_assoc]
  obtain ⟨e1, e2, e3⟩ := enc_ints markS [s.budget, s.room, s.seed, (s.query.size : Int), (s.tables.length : Int), (s.faults.length : Int)] (qB s.query.data.toList ++ (s.tables.flatMap putT ++ (s.faults.flatMap (fun n => putR [vint n]) ++ R))) o.top (by intro n hn; simp at hn; omega)
  simp only [List.length_cons, List.length_nil, Nat.zero_add, Nat.reduceAdd] at e1 e2 e3
  have l3 : l_at [s.budget, s.room, s.seed, (s.query.size : Int), (s.tables.length : Int), (s.faults.length : Int)] 3 = s.query.size := rfl
  have l4 : l_at [s.budget, s.room, s.seed, (s.query.size : Int), (s.tables.length : Int), (s.faults.length : Int)] 4 = s.tables.length := rfl
  have l5 : l_at [s.budget, s.room, s.seed, (s.query.size : Int), (s.tables.length : Int), (s.faults.length : Int)] 5 = s.faults.length := rfl
  rw [e]
  generalize hZ : (⟨putR (topRow s) ++ (qB s.query.data.toList ++ (s.tables.flatMap putT ++ (s.faults.flatMap (fun n => putR [vint n]) ++ R))), false⟩ : SR) = Z
  have e1' : intsS 6 Z = ⟨qB s.query.data.toList ++ (s.tables.flatMap putT ++ (s.faults.flatMap (fun n => putR [vint n]) ++ R)), false⟩ := by rw [← hZ]; exact e1
  have e2' : intsNm 6 Z = markS := by rw [← hZ]; exact e2
  have e3' : intsV 6 Z = [s.budget, s.room, s.seed, (s.query.size : Int), (s.tables.length : Int), (s.faults.length : Int)] := by rw [← hZ]; exact e3
  have hQ : decQ Z = (s.query.data.toList, ⟨s.tables.flatMap putT ++ (s.faults.flatMap (fun n => putR [vint n]) ++ R), false⟩) := by
    unfold decQ
    rw [e1', e3', l3, ← hq, enc_query]
    rfl
  have hT : decT Z = (⟨s.faults.flatMap (fun n => putR [vint n]) ++ R, false⟩, s.tables) := by
    unfold decT
    rw [hQ, e3', l4, enc_times tblStep putT s.tables _ [] (fun t ht R o' => by unfold tblStep; simp only; rw [enc_table t R (List.all_eq_true.1 c2 t ht)])]
    rfl
  have hF : decF Z = (⟨R, false⟩, s.faults) := by
    unfold decF
    rw [hT, e3', l5, enc_times faultStep (fun n => putR [vint n]) s.faults _ [] (fun n hn R o' => enc_fault n (o.fault n hn) R o')]
    rfl
  refine ⟨?_, hF, ?_⟩
  · unfold markOk
    rw [e1', e2', e3', l3]
    simp [o.query]
    rfl
  · unfold decScr
    rw [hF, hT, hQ, e3']
    simp only
    rw [data_of]
    rfl
theorem decode_enc (s : Scr) (h : scrOk s = true) : decodeM (encB s) = some s := by
  obtain ⟨e1, e2, e3⟩ := enc_scr s [] h
  rw [List.append_nil] at e1 e2 e3
  unfold decodeM
  rw [e1, e2, e3, h]
  rfl
theorem decode_more (s : Scr) (h : scrOk s = true) (c : UInt8) (R : List UInt8) : decodeM (encB s ++ c :: R) = none := by
  obtain ⟨e1, e2, e3⟩ := enc_scr s (c :: R) h
  unfold decodeM
  rw [e1, e2, e3, h]
  simp
theorem six_of {l : List Int} (h : l.length = 6) (hp : ∀ z ∈ l, 0 ≤ z) : l = [l.getD 0 0, l.getD 1 0, l.getD 2 0, (l_at l 3 : Int), (l_at l 4 : Int), (l_at l 5 : Int)] := by
  match l, h with
  | [a, b, c, d, e, f], _ =>
    have h1 := hp d (by simp)
    have h2 := hp e (by simp)
    have h3 := hp f (by simp)
    unfold l_at
    simp
    omega
theorem encode_dec (B : List UInt8) (s : Scr) (h : decodeM B = some s) : scrOk s = true ∧ encB s = B := by
  unfold decodeM at h
  split at h
  · rename_i hok
    simp only [Option.some.injEq] at h
    simp only [Bool.and_eq_true, decide_eq_true_eq, Bool.not_eq_true'] at hok
    obtain ⟨hm, hb, hl, hs⟩ := hok
    rw [h] at hs
    refine ⟨hs, ?_⟩
    unfold markOk at hm
    simp only [Bool.and_eq_true, decide_eq_true_eq, Bool.not_eq_true'] at hm
    obtain ⟨m1, m2, m3⟩ := hm
    have hT : (decT ⟨B, false⟩).1.bad = false := timesM_bad_in faultStep _ _ hb
    have hQ : (decQ ⟨B, false⟩).2.bad = false := timesM_bad_in tblStep _ _ hT
    obtain ⟨i1, _, i3⟩ := dec_ints 6 ⟨B, false⟩ rfl m1
    have hv := six_of i1 (fun z hz => (intsV_bound 6 _ z hz).1)
    obtain ⟨q, q1, q2, q3⟩ := dec_query (l_at (intsV 6 ⟨B, false⟩) 3) (intsS 6 ⟨B, false⟩) [] m1 hQ
    obtain ⟨lt, t1, t2, t3⟩ := dec_times tblStep putT (fun s o hs hb => ⟨_, rfl, dec_table s hs hb⟩) (l_at (intsV 6 ⟨B, false⟩) 4) (decQ ⟨B, false⟩).2 [] hQ hT
    obtain ⟨lf, f1, f2, f3⟩ := dec_times faultStep (fun n => putR [vint n]) dec_fault (l_at (intsV 6 ⟨B, false⟩) 5) (decT ⟨B, false⟩).1 [] hT hb
    have q1' : (decQ ⟨B, false⟩).1 = q := q1
    have q3' : (intsS 6 ⟨B, false⟩).rest = qB q ++ (decQ ⟨B, false⟩).2.rest := q3
    have t2' : (decT ⟨B, false⟩).2 = lt := t2
    have t3' : (decQ ⟨B, false⟩).2.rest = lt.flatMap putT ++ (decT ⟨B, false⟩).1.rest := t3
    have f2' : (decF ⟨B, false⟩).2 = lf := f2
    have f3' : (decT ⟨B, false⟩).1.rest = lf.flatMap (fun n => putR [vint n]) ++ (decF ⟨B, false⟩).1.rest := f3
    have hnil : (decF ⟨B, false⟩).1.rest = [] := List.eq_nil_of_length_eq_zero hl
    rw [hnil, List.append_nil] at f3'
    rw [f3'] at t3'
    rw [t3'] at q3'
    rw [q3'] at i3
    have i4 : B = putR (valRow (intsNm 6 ⟨B, false⟩) (intsV 6 ⟨B, false⟩)) ++ (qB q ++ (lt.flatMap putT ++ lf.flatMap (fun n => putR [vint n]))) := i3
    have hqs : (⟨q.toArray⟩ : ByteArray).size = q.length := size_mk q
    rw [← h]
    unfold encB decScr topRow
    simp only
    rw [chunks_qB, q1', t2', f2', hqs, q2, t1, f1]
    refine Eq.trans ?_ i4.symm
    rw [m2, ← hv]
    simp only [List.append_assoc]
    rfl
  · cases h
end Go.Proofs.YtkodiogkldboiaaGreatDoor
/- What is not large: its bytes are few. No program is in sight. -/
namespace Go.Proofs.YtkodiogkldboiaaGreatDoor
open Go.RowKit

/-- Names no longer than a machine holds. -/
def NamesFit (s : Scr) : Prop := ∀ t ∈ s.tables, (t.name.size : Int) ≤ 140737488355328 ∧ ∀ c ∈ t.cols, (c.name.size : Int) ≤ 140737488355328
theorem large_not {s : Scr} (h : largeS s = false) : s.tables.length ≤ 30 ∧ s.query.size ≤ 20000 ∧ s.faults.length ≤ 200 ∧ ∀ t ∈ s.tables, t.cols.length ≤ 40 ∧ (t.rows.length ≤ 300 ∨ 4096 < t.rows.length ∧ t.rows.length ≤ 5000) ∧ ∀ r ∈ t.rows, r.length ≤ 50 := by
  unfold largeS largeT at h
  simp only [Bool.or_eq_false_iff, decide_eq_false_iff_not, Nat.not_lt] at h
  obtain ⟨⟨⟨h1, h2⟩, h3⟩, h4⟩ := h
  refine ⟨h1, h3, h4, fun t ht => ?_⟩
  have h5 := List.any_eq_false.1 h2 t ht
  rw [Bool.not_eq_true] at h5
  unfold bigTbl bigCount at h5
  simp only [Bool.or_eq_false_iff, decide_eq_false_iff_not, Nat.not_lt, Bool.and_eq_false_iff] at h5
  obtain ⟨⟨⟨h6, h7⟩, h8⟩, h9⟩ := h5
  refine ⟨h6, by omega, fun r hr => ?_⟩
  have h10 := List.any_eq_false.1 h9 r hr
  unfold longRow at h10
  simpa using h10
theorem fine_of {s : Scr} (h : largeS s = false) (hn : NamesFit s) : FineS s := by
  obtain ⟨h1, h2, h3, h4⟩ := large_not h
  refine ⟨by omega, by omega, by omega, fun t ht => ?_⟩
  obtain ⟨h5, h6, h7⟩ := h4 t ht
  obtain ⟨n1, n2⟩ := hn t ht
  exact ⟨by omega, by omega, n1, n2, fun r hr => by have := h7 r hr; omega⟩
theorem flat_bound {α : Type} (K : Nat) (f : α → List UInt8) (r : List α) (h : ∀ x ∈ r, (f x).length ≤ K) : (r.flatMap f).length ≤ K * r.length := by
  induction r with
  | nil => simp
  | cons a r ih =>
    rw [List.flatMap_cons, List.length_append, List.length_cons, Nat.mul_add]
    have := h a (by simp)
    have := ih (fun x hx => h x (by simp [hx]))
    omega
theorem enc_small {s : Scr} (h : scrOk s = true) (hl : largeS s = false) : (encB s).length ≤ 15000000 := by
  have o := SOk.of h
  obtain ⟨hcat, _⟩ := argsOk_of h
  obtain ⟨c1, c2, c3⟩ := catOk_iff.1 hcat
  obtain ⟨h1, h2, h3, h4⟩ := large_not hl
  have ht : (s.tables.flatMap putT).length ≤ 700000 * s.tables.length := flat_bound 700000 putT s.tables (fun t ht => by
    have o := TOk.of (List.all_eq_true.1 c2 t ht)
    have l1 := (putR_len o.head).2
    have l2 := flat_le (fun c => putR (colRow c)) t.cols (fun y hy => (putR_len (o.col y hy)).2)
    have l3 := flat_le putR t.rows (fun y hy => (putR_len (o.row y hy)).2)
    have l4 := o.cols
    have l5 := o.rows
    have l6 := (h4 t ht).2.1
    unfold putT
    rw [List.length_append, List.length_append]
    omega)
  have hq := flat_bound 2200 (putQ s.query) (List.range (chunksN s.query)) (fun k _ => (putR_len (chunk_ok s.query k)).2)
  have hf := flat_bound 2200 (fun n => putR [vint n]) s.faults (fun n hn => (putR_len (o.fault n hn)).2)
  have l0 := (putR_len o.top).2
  have l7 := o.query
  have l8 := o.faults
  rw [List.length_range] at hq
  have l9 : chunksN s.query ≤ 257 := by unfold chunksN; omega
  unfold encB
  rw [List.length_append, List.length_append, List.length_append]
  omega
end Go.Proofs.YtkodiogkldboiaaGreatDoor
/- Small: what the laws' lives look at. -/
namespace Go.Proofs.YtkodiogkldboiaaGreatDoor
open Go.RowKit
attribute [local go_sem] Oper.semAt_some

def null : Val := ⟨0, 0, ⟨#[]⟩⟩
def smallT (n : ByteArray) : Tbl := ⟨n, [⟨⟨#[]⟩, ⟨#[97]⟩, 2⟩, ⟨⟨#[]⟩, ⟨#[98]⟩, 3⟩], [[vint 1, vtext ⟨#[120]⟩], [vint 2, null]]⟩

/-- A block of two elements reads as a list of two. -/
theorem at_two {α : Type} {K : Kd α} {w : World} {b e : Nat} {P : Nat → Prop} {x y : α} {cx cy : List Value} (A : Arr w b e (cx ++ cy)) (hP : P b) (hx : K.E w P x cx) (hy : K.E w P y cy) : K.At w P (.slice (some ⟨b, 0, none⟩) 2 2) [x, y] := by
  refine ⟨_, 2, rfl, Nat.le_refl _, fun j z hz => ?_⟩
  have lx := K.len hx
  match j, hz with
  | 0, hz =>
    simp at hz; subst hz
    refine ⟨b, 0, cx, rfl, hP, A.lt, hx, fun i u hu => ?_⟩
    simp only [Nat.zero_mul, Nat.zero_add]
    exact A.cell (by rw [List.getElem?_append_left (get_lt hu)]; exact hu)
  | 1, hz =>
    simp at hz; subst hz
    refine ⟨b, 0, cy, rfl, hP, A.lt, hy, fun i u hu => ?_⟩
    simp only [Nat.one_mul, Nat.zero_add]
    exact A.cell (by rw [List.getElem?_append_right (by omega), lx, Nat.add_sub_cancel_left]; exact hu)
  | j + 2, hz => simp at hz

def SmallPost (n : ByteArray) (w : World) (en : Ending) (w' : World) : Prop :=
  ∃ u v, en = .returned (.agg #[.string n, u, v]) ∧ kcol.At w' (Hi w.heap.size) u (smallT n).cols ∧ krow.At w' (Hi w.heap.size) v (smallT n).rows ∧ Kept [] w w'

theorem small_table (w : World) (n : ByteArray) : Calls Tryz.prog 45 #[.string n] w (SmallPost n w) := by
  have K0 : Kept [] w ((w.alloc (Obj.cells #[Value.string { data := #[] }, Value.slice none 0 0, Value.slice none 0 0] 53)).alloc (Obj.cells #[Value.string { data := #[] }, Value.string { data := #[97] }, Value.int IntKind.i64 2, Value.string { data := #[] }, Value.string { data := #[98] }, Value.int IntKind.i64 3] 85)) := ((Kept.refl [] w).alloc _).alloc _
  have A0 : Arr ((w.alloc (Obj.cells #[Value.string { data := #[] }, Value.slice none 0 0, Value.slice none 0 0] 53)).alloc (Obj.cells #[Value.string { data := #[] }, Value.string { data := #[97] }, Value.int IntKind.i64 2, Value.string { data := #[] }, Value.string { data := #[98] }, Value.int IntKind.i64 3] 85)) w.heap.size 53 [Value.string { data := #[] }, Value.slice none 0 0, Value.slice none 0 0] := (Arr.new' rfl rfl : Arr (w.alloc (Obj.cells #[Value.string { data := #[] }, Value.slice none 0 0, Value.slice none 0 0] 53)) w.heap.size 53 [Value.string { data := #[] }, Value.slice none 0 0, Value.slice none 0 0]).kept ((Kept.refl [] _).alloc _) (by simp)
  have A1 : Arr ((w.alloc (Obj.cells #[Value.string { data := #[] }, Value.slice none 0 0, Value.slice none 0 0] 53)).alloc (Obj.cells #[Value.string { data := #[] }, Value.string { data := #[97] }, Value.int IntKind.i64 2, Value.string { data := #[] }, Value.string { data := #[98] }, Value.int IntKind.i64 3] 85)) (w.heap.size + 1) 85 [Value.string { data := #[] }, Value.string { data := #[97] }, Value.int IntKind.i64 2, Value.string { data := #[] }, Value.string { data := #[98] }, Value.int IntKind.i64 3] := Arr.new' (by simp) rfl
  have HK0 := Lib.hid K0
  have HA0 := Lib.hid A0
  have HA1 := Lib.hid A1
  clear K0 A0 A1
  go_enter Tryz.func45, Tryz.ntmps45
  go_wp2_with fail
  refine (ref01_int _ 1).mono ?_
  rintro e w1 ⟨rfl, k1⟩
  have HK1 := Lib.hid k1
  clear k1
  go_wp2_with fail
  refine (ref01_text _ ⟨#[120]⟩).mono ?_
  rintro e w2 ⟨rfl, k2⟩
  have HK2 := Lib.hid k2
  clear k2
  go_wp2_with fail
  refine (ref01_int _ 2).mono ?_
  rintro e w3 ⟨rfl, k3⟩
  have HK3 := Lib.hid k3
  clear k3
  have hk : Kept [] ((w.alloc (Obj.cells #[Value.string { data := #[] }, Value.slice none 0 0, Value.slice none 0 0] 53)).alloc (Obj.cells #[Value.string { data := #[] }, Value.string { data := #[97] }, Value.int IntKind.i64 2, Value.string { data := #[] }, Value.string { data := #[98] }, Value.int IntKind.i64 3] 85)) w3 := (HK1.out.trans HK2.out).trans (((Kept.refl [] w2).alloc _).trans HK3.out)
  have HK := Lib.hid hk
  have AB := HA0.out.kept hk (by simp)
  have q0 := AB.cell (i := 0) rfl
  have q1 := AB.cell (i := 1) rfl
  have q2 := AB.cell (i := 2) rfl
  have f0 := AB.free 0
  have f1 := AB.free 1
  have f2 := AB.free 2
  have lt := AB.lt
  clear AB hk
  go_wp2_with fail
  generalize hW4 : ((w3.setCell ⟨w.heap.size, 0, none⟩ (Value.string n)).setCell ⟨w.heap.size, 1, none⟩ (Value.slice (some ⟨w.heap.size + 1, 0, none⟩) 2 2)).setCell ⟨w.heap.size, 2, none⟩ (Value.slice (some ⟨w3.heap.size + 1, 0, none⟩) 2 2) = w4
  have hs4 : w4.heap.size = w3.heap.size := by rw [← hW4]; simp
  have k4 : Kept [w.heap.size] w3 w4 := by rw [← hW4]; exact (((Kept.refl _ w3).setCell (.inl (by simp)) _).setCell (.inl (by simp)) _).setCell (.inl (by simp)) _
  have A4 : Arr w4 w.heap.size 53 [.string n, .slice (some ⟨w.heap.size + 1, 0, none⟩) 2 2, .slice (some ⟨w3.heap.size + 1, 0, none⟩) 2 2] := by
    rw [← hW4]
    exact ((((HA0.out.kept HK.out (by simp)).set 0 _).set 1 _).set 2 _)
  clear hW4
  have kf : Kept [] w w4 := Kept.fresh (HK0.out.trans HK.out) k4 (fun x hx hlt => by simp at hx; omega)
  have l1 := HA1.out.lt
  have l2 := HK1.out.size
  have l3 := HK2.out.size
  have l4 := HK3.out.size
  have C4 : Arr w4 (w.heap.size + 1) 85 _ := (HA1.out.kept HK.out (by simp)).kept k4 (by simp)
  have R4 : Arr w4 w2.heap.size 57 ([.int .i64 (vint 1).k, .int .i64 (vint 1).n, .string (vint 1).s] ++ [.int .i64 (vtext ⟨#[120]⟩).k, .int .i64 (vtext ⟨#[120]⟩).n, .string (vtext ⟨#[120]⟩).s]) := ((Arr.new' rfl rfl).kept HK3.out (by simp)).kept k4 (by simp; omega)
  have s4 : Arr ((w4.alloc (Obj.cells #[Value.int IntKind.i64 (vint 2).k, Value.int IntKind.i64 (vint 2).n, Value.string (vint 2).s, Value.int IntKind.i64 0, Value.int IntKind.i64 0, Value.string ⟨#[]⟩] 57)).alloc (Obj.cells #[Value.slice (some ⟨w2.heap.size, 0, none⟩) 2 2, Value.slice (some ⟨w3.heap.size, 0, none⟩) 2 2] 59)) w3.heap.size 57 ([.int .i64 (vint 2).k, .int .i64 (vint 2).n, .string (vint 2).s] ++ [.int .i64 null.k, .int .i64 null.n, .string null.s]) := (Arr.new' hs4.symm rfl : Arr (w4.alloc (Obj.cells #[Value.int IntKind.i64 (vint 2).k, Value.int IntKind.i64 (vint 2).n, Value.string (vint 2).s, Value.int IntKind.i64 0, Value.int IntKind.i64 0, Value.string ⟨#[]⟩] 57)) w3.heap.size 57 _).alloc _
  have t4 : Arr ((w4.alloc (Obj.cells #[Value.int IntKind.i64 (vint 2).k, Value.int IntKind.i64 (vint 2).n, Value.string (vint 2).s, Value.int IntKind.i64 0, Value.int IntKind.i64 0, Value.string ⟨#[]⟩] 57)).alloc (Obj.cells #[Value.slice (some ⟨w2.heap.size, 0, none⟩) 2 2, Value.slice (some ⟨w3.heap.size, 0, none⟩) 2 2] 59)) (w3.heap.size + 1) 59 ([.slice (some ⟨w2.heap.size, 0, none⟩) 2 2] ++ [.slice (some ⟨w3.heap.size, 0, none⟩) 2 2]) := Arr.new' (by simp [hs4]) rfl
  have kw : Kept [] w4 ((w4.alloc (Obj.cells #[Value.int IntKind.i64 (vint 2).k, Value.int IntKind.i64 (vint 2).n, Value.string (vint 2).s, Value.int IntKind.i64 0, Value.int IntKind.i64 0, Value.string ⟨#[]⟩] 57)).alloc (Obj.cells #[Value.slice (some ⟨w2.heap.size, 0, none⟩) 2 2, Value.slice (some ⟨w3.heap.size, 0, none⟩) 2 2] 59)) := ((Kept.refl [] w4).alloc _).alloc _
  generalize ((w4.alloc (Obj.cells #[Value.int IntKind.i64 (vint 2).k, Value.int IntKind.i64 (vint 2).n, Value.string (vint 2).s, Value.int IntKind.i64 0, Value.int IntKind.i64 0, Value.string ⟨#[]⟩] 57)).alloc (Obj.cells #[Value.slice (some ⟨w2.heap.size, 0, none⟩) 2 2, Value.slice (some ⟨w3.heap.size, 0, none⟩) 2 2] 59)) = W at s4 t4 kw ⊢
  have Z := A4.kept kw (by simp)
  have z0 := Z.cell (i := 0) rfl
  have z1 := Z.cell (i := 1) rfl
  have z2 := Z.cell (i := 2) rfl
  have hl5 : w.heap.size + 2 ≤ w2.heap.size := by simp at l2 l3; omega
  have hl6 : w2.heap.size + 1 ≤ w3.heap.size := by simpa using l4
  exact bodyPost_ret (v := .agg #[.string n, .slice (some ⟨w.heap.size + 1, 0, none⟩) 2 2, .slice (some ⟨w3.heap.size + 1, 0, none⟩) 2 2]) (by simp [results, Tryz.results45, go_sem, z0, z1, z2]) rfl
    ⟨_, _, rfl, at_two (K := kcol) (cx := [.string ⟨#[]⟩, .string ⟨#[97]⟩, .int .i64 2]) (cy := [.string ⟨#[]⟩, .string ⟨#[98]⟩, .int .i64 3]) (C4.kept kw (by simp)) (by show w.heap.size ≤ _; omega) rfl rfl,
      at_two (K := krow) t4 (by show w.heap.size ≤ _; omega) ⟨_, rfl, at_two (K := kval) (R4.kept kw (by simp)) (by show w.heap.size ≤ _; omega) rfl rfl⟩ ⟨_, rfl, at_two (K := kval) s4 (by show w.heap.size ≤ _; omega) rfl rfl⟩, kf.trans kw⟩
end Go.Proofs.YtkodiogkldboiaaGreatDoor
/- Small: a whole script. -/
namespace Go.Proofs.YtkodiogkldboiaaGreatDoor
open Go.RowKit
attribute [local go_sem] Oper.semAt_some

def smallS (q : ByteArray) : Scr := ⟨[smallT ⟨#[116]⟩, smallT ⟨#[117]⟩], q, 4, 500, 0, []⟩
def SmallSPost (q : ByteArray) (w : World) (en : Ending) (w' : World) : Prop :=
  ∃ t, en = .returned (.agg #[t, .string q, .int .i64 4, .int .i64 500, .int .i64 0, .slice none 0 0]) ∧ ktbl.At w' (Hi w.heap.size) t (smallS q).tables ∧ Kept [] w w'

theorem small_script (w : World) (q : ByteArray) : Calls Tryz.prog 17 #[.string q] w (SmallSPost q w) := by
  have A0 : Arr (w.alloc (Obj.cells #[Value.slice none 0 0, Value.string ⟨#[]⟩, Value.int .i64 0, Value.int .i64 0, Value.int .i64 0, Value.slice none 0 0] 25)) w.heap.size 25 [Value.slice none 0 0, Value.string ⟨#[]⟩, Value.int .i64 0, Value.int .i64 0, Value.int .i64 0, Value.slice none 0 0] := Arr.new' rfl rfl
  have HK0 := Lib.hid ((Kept.refl [] w).alloc (Obj.cells #[Value.slice none 0 0, Value.string ⟨#[]⟩, Value.int .i64 0, Value.int .i64 0, Value.int .i64 0, Value.slice none 0 0] 25))
  have HA0 := Lib.hid A0
  clear A0
  go_enter Tryz.func17, Tryz.ntmps17
  go_wp2_with fail
  refine (small_table _ ⟨#[116]⟩).mono ?_
  rintro e w1 ⟨u1, v1, rfl, c1, r1, k1⟩
  have HC1 := Lib.hid c1
  have HR1 := Lib.hid r1
  have HK1 := Lib.hid k1
  clear c1 r1 k1
  go_wp2_with fail
  refine (small_table _ ⟨#[117]⟩).mono ?_
  rintro e w2 ⟨u2, v2, rfl, c2, r2, k2⟩
  have HC2 := Lib.hid c2
  have HR2 := Lib.hid r2
  have HK2 := Lib.hid k2
  clear c2 r2 k2
  have hk := HK1.out.trans HK2.out
  have HK := Lib.hid hk
  have AB := HA0.out.kept hk (by simp)
  have q0 := AB.cell (i := 0) rfl
  have q1 := AB.cell (i := 1) rfl
  have q2 := AB.cell (i := 2) rfl
  have q3 := AB.cell (i := 3) rfl
  have q4 := AB.cell (i := 4) rfl
  have q5 := AB.cell (i := 5) rfl
  have f0 := AB.free 0
  have f1 := AB.free 1
  have f2 := AB.free 2
  have f3 := AB.free 3
  have f4 := AB.free 4
  have f5 := AB.free 5
  have lt := AB.lt
  clear AB hk
  go_wp2_with fail
  generalize hW4 : ((((((w2.setCell ⟨w.heap.size, 0, none⟩ (Value.slice (some ⟨w2.heap.size, 0, none⟩) 2 2)).setCell ⟨w.heap.size, 1, none⟩ (Value.string q)).setCell ⟨w.heap.size, 2, none⟩ (Value.int .i64 4)).setCell ⟨w.heap.size, 3, none⟩ (Value.int .i64 500)).setCell ⟨w.heap.size, 4, none⟩ (Value.int .i64 0)).setCell ⟨w.heap.size, 5, none⟩ (Value.slice none 0 0)) = w4
  have hs4 : w4.heap.size = w2.heap.size := by rw [← hW4]; simp
  have k4 : Kept [w.heap.size] w2 w4 := by rw [← hW4]; exact ((((((Kept.refl _ w2).setCell (.inl (by simp)) _).setCell (.inl (by simp)) _).setCell (.inl (by simp)) _).setCell (.inl (by simp)) _).setCell (.inl (by simp)) _).setCell (.inl (by simp)) _
  have A4 : Arr w4 w.heap.size 25 [.slice (some ⟨w2.heap.size, 0, none⟩) 2 2, .string q, .int .i64 4, .int .i64 500, .int .i64 0, .slice none 0 0] := by
    rw [← hW4]
    exact (((((((HA0.out.kept HK.out (by simp)).set 0 _).set 1 _).set 2 _).set 3 _).set 4 _).set 5 _)
  clear hW4
  have kf : Kept [] w w4 := Kept.fresh (HK0.out.trans HK.out) k4 (fun x hx hlt => by simp at hx; omega)
  have l0 : (w.alloc (Obj.cells #[Value.slice none 0 0, Value.string ⟨#[]⟩, Value.int .i64 0, Value.int .i64 0, Value.int .i64 0, Value.slice none 0 0] 25)).heap.size = w.heap.size + 1 := by simp
  have l1 := HK1.out.size
  have l2 := HK2.out.size
  rw [l0] at l1
  have T4 : Arr (w4.alloc (Obj.cells #[Value.string ⟨#[116]⟩, u1, v1, Value.string ⟨#[117]⟩, u2, v2] 53)) w2.heap.size 53 ([.string ⟨#[116]⟩, u1, v1] ++ [.string ⟨#[117]⟩, u2, v2]) := Arr.new' hs4.symm rfl
  have kw : Kept [] w4 (w4.alloc (Obj.cells #[Value.string ⟨#[116]⟩, u1, v1, Value.string ⟨#[117]⟩, u2, v2] 53)) := (Kept.refl [] w4).alloc _
  generalize w4.alloc (Obj.cells #[Value.string ⟨#[116]⟩, u1, v1, Value.string ⟨#[117]⟩, u2, v2] 53) = W at T4 kw ⊢
  have kx : Kept [w.heap.size] w2 W := k4.trans (kw.mono (fun _ _ h => by simp at h))
  have Z := A4.kept kw (by simp)
  have z0 := Z.cell (i := 0) rfl
  have z1 := Z.cell (i := 1) rfl
  have z2 := Z.cell (i := 2) rfl
  have z3 := Z.cell (i := 3) rfl
  have z4 := Z.cell (i := 4) rfl
  have z5 := Z.cell (i := 5) rfl
  have g1 : ∀ b, Hi (w.alloc (Obj.cells #[Value.slice none 0 0, Value.string ⟨#[]⟩, Value.int .i64 0, Value.int .i64 0, Value.int .i64 0, Value.slice none 0 0] 25)).heap.size b → w.heap.size + 1 ≤ b := fun b hb => by have h2 : _ ≤ b := hb; rw [l0] at h2; exact h2
  have g2 : ∀ b, Hi w1.heap.size b → w.heap.size + 1 ≤ b := fun b hb => by have h2 : _ ≤ b := hb; omega
  have kz : Kept [w.heap.size] w1 W := (HK2.out.mono (fun _ _ h => by simp at h)).trans kx
  have hm : ∀ b, w.heap.size + 1 ≤ b → b ∉ [w.heap.size] := fun b hb h => by simp at h; omega
  have hq : ∀ b, w.heap.size + 1 ≤ b → Hi w.heap.size b := fun b hb => by show _ ≤ b; omega
  exact bodyPost_ret (v := .agg #[.slice (some ⟨w2.heap.size, 0, none⟩) 2 2, .string q, .int .i64 4, .int .i64 500, .int .i64 0, .slice none 0 0]) (by simp [results, Tryz.results17, go_sem, z0, z1, z2, z3, z4, z5]) rfl
    ⟨_, rfl, at_two (K := ktbl) T4 (by show w.heap.size ≤ _; omega) ⟨_, _, rfl, HC1.out.next kz (fun b hb => hm b (g1 b hb)) (fun b hb _ => hq b (g1 b hb)), HR1.out.next kz (fun b hb => hm b (g1 b hb)) (fun b hb _ => hq b (g1 b hb))⟩
      ⟨_, _, rfl, HC2.out.next kx (fun b hb => hm b (g2 b hb)) (fun b hb _ => hq b (g2 b hb)), HR2.out.next kx (fun b hb => hm b (g2 b hb)) (fun b hb _ => hq b (g2 b hb))⟩, kf.trans kw⟩
end Go.Proofs.YtkodiogkldboiaaGreatDoor
/- script.Size. -/
namespace Go.Proofs.YtkodiogkldboiaaGreatDoor
open Go.RowKit

def sizeS (s : Scr) : Int := if scrOk s then ((encB s).length : Int) else 0
theorem script_size (w : World) (v : Value) (s : Scr) (h : ScrAt w Any s v) (hm : ML w) (hf : FineS s) : Calls Tryz.prog 12 #[v] w (IntPost (sizeS s) w) := by
  obtain ⟨t, f, rfl, ht, hfl⟩ := h
  obtain ⟨ta, tc, rfl, _⟩ := ht.form
  obtain ⟨fa, fc, rfl, _⟩ := hfl.form
  have K0 : Kept [] w (w.alloc (.cells #[.slice ta s.tables.length tc, .string s.query, .int .i64 s.budget, .int .i64 s.room, .int .i64 s.seed, .slice fa s.faults.length fc] 25)) := Kept.alloc (Kept.refl [] w) _
  have HK0 := Lib.hid K0
  have HM := Lib.hid (ML.kept hm K0)
  have HF := Lib.hid hf
  have HSA : Hid (ScrAt (w.alloc (.cells #[.slice ta s.tables.length tc, .string s.query, .int .i64 s.budget, .int .i64 s.room, .int .i64 s.seed, .slice fa s.faults.length fc] 25)) Any s (.agg #[.slice ta s.tables.length tc, .string s.query, .int .i64 s.budget, .int .i64 s.room, .int .i64 s.seed, .slice fa s.faults.length fc])) := Lib.hid ⟨_, _, rfl, ht.kept K0, hfl.kept K0⟩
  clear ht hm hf K0 hfl
  go_enter Tryz.func12, Tryz.ntmps12
  go_wp2_with fail
  refine (script_encode _ _ s HSA.out HM.out HF.out).mono ?_
  rintro e w2 ⟨v2, rfl, hby, hk⟩
  obtain ⟨a, cap, rfl, _⟩ := hby.form
  have HK := Lib.hid (HK0.out.trans hk)
  have he : Hid (sizeS s = ((if scrOk s then encB s else []).length : Int)) := Lib.hid (by unfold sizeS; cases scrOk s <;> rfl)
  clear hby hk
  generalize (if scrOk s then encB s else []) = L at *
  go_wp2_with fail
  go_ret
  exact ⟨ret_int he.out.symm, HK.out⟩
end Go.Proofs.YtkodiogkldboiaaGreatDoor
/- lives: the script that it looks at. No program is in sight. -/
namespace Go.Proofs.YtkodiogkldboiaaGreatDoor
open Go.RowKit

def livS (q : ByteArray) (n : Int) : Scr := ⟨(smallS q).tables, q, 4, 500, 0, [n]⟩
theorem liv_cat (q : ByteArray) (n : Int) : catOk (livS q n).tables = true := by
  show catOk [smallT ⟨#[116]⟩, smallT ⟨#[117]⟩] = true
  decide +kernel
theorem liv_large (q : ByteArray) (n : Int) (hq : q.size ≤ 16384) : largeS (livS q n) = false := by
  have h1 : largeT (livS q n).tables = false := by
    show largeT [smallT ⟨#[116]⟩, smallT ⟨#[117]⟩] = false
    decide +kernel
  have h2 : decide (20000 < (livS q n).query.size) = false := decide_eq_false (by show ¬ 20000 < q.size; omega)
  unfold largeS
  rw [h1, h2]
  rfl
theorem liv_ok (q : ByteArray) (n : Int) (hq : q.size ≤ 16384) : scrOk (livS q n) = !oddFault n := by
  have h1 : argsOk (livS q n) = true := by unfold argsOk livS; simp
  have h2 : sessErr (livS q n) = 0 := by unfold sessErr; rw [liv_cat, h1]; rfl
  have h3 : decide ((livS q n).query.size ≤ 16384) = true := decide_eq_true hq
  have h4 : (livS q n).faults.any oddFault = oddFault n := by simp [livS]
  unfold scrOk
  rw [h2, h3, h4]
  simp
theorem liv_names (q : ByteArray) (n : Int) : NamesFit (livS q n) := by
  show ∀ t ∈ [smallT ⟨#[116]⟩, smallT ⟨#[117]⟩], _
  have h1 : ∀ m : ByteArray, m.size = 1 → ((smallT m).name.size : Int) ≤ 140737488355328 ∧ ∀ c ∈ (smallT m).cols, (c.name.size : Int) ≤ 140737488355328 := by
    intro m hm
    refine ⟨by show (m.size : Int) ≤ _; omega, fun c hc => ?_⟩
    simp [smallT] at hc
    rcases hc with rfl | rfl <;> exact (by decide)
  intro t ht
  simp at ht
  rcases ht with rfl | rfl
  · exact h1 _ rfl
  · exact h1 _ rfl
theorem liv_fine (q : ByteArray) (n : Int) (hq : q.size ≤ 16384) : FineS (livS q n) := fine_of (liv_large q n hq) (liv_names q n)
theorem liv_ne (q : ByteArray) : decide (livS q (-1) = livS q 1000) = false := by
  apply decide_eq_false
  intro e
  have := congrArg Scr.faults e
  simp [livS] at this
/-- What Decode is given: the script's bytes, with more behind them or not. -/
theorem fine_dec {s : Scr} (h : scrOk s = true) (hf : FineS s) (R : List UInt8) : l_at (intsV 6 ⟨encB s ++ R, false⟩) 3 ≤ 16384 → FineS (decScr ⟨encB s ++ R, false⟩) := fun _ => by
  rw [(enc_scr s R h).2.2]; exact hf
end Go.Proofs.YtkodiogkldboiaaGreatDoor
