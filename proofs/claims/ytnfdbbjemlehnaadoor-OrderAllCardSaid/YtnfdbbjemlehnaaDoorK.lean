/- The table of the cheapest shapes: one more set of leaves. -/
import Derived.Test.YtnfdbbjemlehnaaDoorJ
namespace Go.Proofs.YtnfdbbjemlehnaaDoor
open Go.RowKit

def tcells : List Pr → List Value
  | [] => []
  | p :: r => .int .i64 p.k :: .int .i64 p.t :: tcells r

theorem tcells_at (T : List Pr) (i : Nat) (p : Pr) (h : T[i]? = some p) : (tcells T)[i * 2]? = some (.int .i64 p.k) ∧ (tcells T)[i * 2 + 1]? = some (.int .i64 p.t) := by
  induction T generalizing i with
  | nil => simp at h
  | cons q r ih =>
    cases i with
    | zero => simp at h; subst h; simp [tcells]
    | succ i =>
      simp at h
      have := ih i h
      rw [show (i + 1) * 2 = i * 2 + 1 + 1 by omega]
      simpa [tcells] using this

theorem tcells_set (T : List Pr) (i : Nat) (p : Pr) : tcells (T.set i p) = ((tcells T).set (i * 2) (.int .i64 p.k)).set (i * 2 + 1) (.int .i64 p.t) := by
  induction T generalizing i with
  | nil => simp [tcells]
  | cons q r ih =>
    cases i with
    | zero => simp [tcells]
    | succ i =>
      rw [show (i + 1) * 2 = i * 2 + 1 + 1 by omega]
      simp [tcells, ih]

def skipB (es : List Pr) (set a : Nat) : Bool := !decide ((a &&& set) = a) || (a &&& lowN set) == 0 || !mayF es a (set - a)
def costB (gs es : List Pr) (set : Nat) (T : List Pr) (a : Nat) : Int := cap ((T[a]?.getD default).t + (T[set - a]?.getD default).t + stepF gs es a (set - a))
def fill1 (gs es : List Pr) (set : Nat) (T : List Pr) (a : Nat) : List Pr :=
  if skipB es set a then T
  else if (T[set]?.getD default).k = 0 ∨ costB gs es set T a < (T[set]?.getD default).t then T.set set ⟨a, costB gs es set T a⟩ else T

def fillF (gs es : List Pr) (set : Nat) : Nat → Nat → List Pr → List Pr
  | 0, _, T => T
  | f + 1, a, T => fillF gs es set f (a + 1) (fill1 gs es set T a)

/-- The table in memory. -/
structure TabAt (w : World) (bt : Nat) (T : List Pr) : Prop where
  arr : Arr w bt 55 (tcells T)
  len : T.length = 64
  c : ∀ p ∈ T, 0 ≤ p.t ∧ p.t ≤ 9007199254740991

theorem TabAt.kept {w w' : World} {bt : Nat} {T : List Pr} (h : TabAt w bt T) (k : Kept [] w w') : TabAt w' bt T := ⟨h.arr.kept k (by simp), h.len, h.c⟩

theorem test_eq (a b : Nat) : (((a : Nat) : Int) == ((b : Nat) : Int)) = decide (a = b) := by rw [Bool.eq_iff_iff, beq_iff_eq, decide_eq_true_iff]; omega

set_option maxHeartbeats 6400000 in
set_option maxRecDepth 100000 in
theorem fill_any (w0 w : World) (lv ev : Value) (gs es : List Pr) (h : Join w0 lv ev gs es) (k0 : Kept [] w0 w) (bt : Nat) (hb0 : w0.heap.size ≤ bt) (T : List Pr) (hT : TabAt w bt T) (set : Nat) (h1 : 1 ≤ set) (hs : set < 2 ^ gs.length) :
    Calls Tryd.prog 19 #[.agg #[lv, ev], .pointer (some ⟨bt, 0, none⟩), .int .i64 set] w fun en w' => en = .returned (.tuple #[]) ∧ TabAt w' bt (fillF gs es set (set - 1) 1 T) ∧ Kept [bt] w w' := by
  have h6 : 2 ^ gs.length ≤ 2 ^ 6 := Nat.pow_le_pow_right (by decide) h.ok.n6
  have s6 : set < 64 := by omega
  obtain ⟨y1, y2⟩ := low_bits set s6
  have HJ := Lib.hid h
  have HK0 := Lib.hid k0
  have HT := Lib.hid hT
  have hlb := h.lb
  have HS := Lib.hid hs
  generalize hR : fillF gs es set (set - 1) 1 T = R
  have HR := Lib.hid hR
  generalize hL : lowN set = lo at *
  have HLo := Lib.hid hL
  clear h hT h6 hR hL hs k0
  go_enter Tryd.func19, Tryd.ntmps19
  go_wp2
  have A1 : Arr (w.alloc (Obj.cells #[lv, ev] 49)) w.heap.size 49 [lv, ev] := Arr.new _ _ _
  have K1 := Kept.alloc (Kept.refl [] w) (Obj.cells #[lv, ev] 49)
  generalize hw1 : w.alloc (Obj.cells #[lv, ev] 49) = w1 at *
  have hnx : bt ≠ w.heap.size := Nat.ne_of_lt HT.out.arr.lt
  generalize hbx : w.heap.size = bx at A1 hnx ⊢
  have A := Lib.hid A1
  have K := Lib.hid K1
  clear A1 K1 hw1 hbx
  go_loopg [7, 8] (set - 1) (fun g i i8 wr => ∃ (a : Nat) (T' : List Pr), i = .int .i64 a ∧ a + g = set ∧ 1 ≤ a ∧ Hid (fillF gs es set g a T' = R) ∧ Hid (TabAt wr bt T') ∧ Hid (Kept [bt] w1 wr))
  case atStart => exact ⟨1, T, rfl, by omega, by omega, HR, HT.out.kept K.out, Kept.refl _ _⟩
  case round =>
    obtain ⟨a, T', rfl, hg, ha1, hr, ht, hkp⟩ := hrel
    obtain ⟨wo, hwo⟩ : ∃ wo : World, wo = wr := ⟨_, rfl⟩
    subst hwo
    by_cases hlt : a < set
    · obtain ⟨g', rfl⟩ : ∃ g', gk = g' + 1 := ⟨gk - 1, by omega⟩
      have hr' := hr.out
      rw [fillF] at hr'
      have HR := Lib.hid hr'
      have hlt2 : (a : Int) < (set : Int) := by omega
      have z1 := and_nat a set (by omega) (by omega)
      have z2 := and_test a lo (by omega) (by omega)
      have hsub : (set : Int) - (a : Int) = ((set - a : Nat) : Int) := by omega
      have HJo := Lib.hid (HJ.out.kept ((HK0.out.trans K.out).fresh hkp.out (by intro x hx hlt; simp at hx; omega)))
      clear hr hr'
      cases hA : decide ((a &&& set) = a) with
      | false =>
        have hF : fill1 gs es set T' a = T' := by simp [fill1, skipB, hA]
        have HF := Lib.hid hF
        have hA := of_decide_eq_false hA
        clear hF z2
        go_wp2_with fail
        go_roundg g'
        case measure => omega
        case rel => exact ⟨a + 1, T', by go_num, by omega, by omega, by rw [← HF.out]; exact HR, ht, hkp⟩
      | true =>
      cases hB : (a &&& lo == 0) with
      | true =>
        rw [hB] at z2
        have hF : fill1 gs es set T' a = T' := by simp only [fill1, skipB, hA, HLo.out, hB]; simp
        have HF := Lib.hid hF
        have hA := of_decide_eq_true hA
        clear hF hB
        go_wp2_with fail
        go_roundg g'
        case measure => omega
        case rel => exact ⟨a + 1, T', by go_num, by omega, by omega, by rw [← HF.out]; exact HR, ht, hkp⟩
      | false =>
      rw [hB] at z2
      have x0 := (hkp.out.cell A.out.lt (by simpa using hnx.symm)).trans (A.out.cell (i := 0) rfl)
      have x1 := (hkp.out.cell A.out.lt (by simpa using hnx.symm)).trans (A.out.cell (i := 1) rfl)
      have hab : a &&& set = a := of_decide_eq_true hA
      have hsa : set - a < 64 := by omega
      have hsb : a + (set - a) = set := by omega
      generalize hb : set - a = b at hsub hsa hsb
      cases hC : mayF es a (b) with
      | false =>
        have hF : fill1 gs es set T' a = T' := by simp only [fill1, skipB, hA, HLo.out, hB, hb, hC]; simp
        have HF := Lib.hid hF
        have HC := Lib.hid hC
        clear hF hB hA hC
        go_wp2_with (go_at_call 28; refine (may_any _ lv ev es HJo.out.at_.e hlb a (b) (by omega) hsa).mono ?_; rw [HC.out]; rintro e w4 ⟨rfl, hk4⟩; have HK4 := Lib.hid hk4; clear hk4)
        go_roundg g'
        case measure => omega
        case rel => exact ⟨a + 1, T', by go_num, by omega, by omega, by rw [← HF.out]; exact HR, ht.out.kept HK4.out, hkp.out.trans (HK4.out.mono (by simp))⟩
      | true =>
        obtain ⟨pa, hpa⟩ : ∃ p, T'[a]? = some p := ⟨T'[a]'(by rw [ht.out.len]; omega), by rw [List.getElem?_eq_getElem]⟩
        obtain ⟨pb, hpb⟩ : ∃ p, T'[b]? = some p := ⟨T'[b]'(by rw [ht.out.len]; omega), by rw [List.getElem?_eq_getElem]⟩
        obtain ⟨ps, hps⟩ : ∃ p, T'[set]? = some p := ⟨T'[set]'(by rw [ht.out.len]; omega), by rw [List.getElem?_eq_getElem]⟩
        obtain ⟨a1, a2⟩ := ht.out.c pa (List.mem_of_getElem? hpa)
        obtain ⟨b1, b2⟩ := ht.out.c pb (List.mem_of_getElem? hpb)
        obtain ⟨p1, p2⟩ := ht.out.c ps (List.mem_of_getElem? hps)
        have hcB : costB gs es set T' a = cap (pa.t + pb.t + stepF gs es a (b)) := by simp [costB, hb, hpa, hpb]
        have hF : fill1 gs es set T' a = if ps.k = 0 ∨ cap (pa.t + pb.t + stepF gs es a (b)) < ps.t then T'.set set ⟨a, cap (pa.t + pb.t + stepF gs es a (b))⟩ else T' := by
          rw [← hcB]; simp only [fill1, skipB, hA, HLo.out, hB, hb, hC]; simp [hps]
        have HF := Lib.hid hF
        have HC := Lib.hid hC
        have q1 := ht.out.arr.cell (tcells_at T' a pa hpa).2
        have q2 := ht.out.arr.cell (tcells_at T' (b) pb hpb).2
        have q3 := ht.out.arr.cell (tcells_at T' set ps hps).1
        have q4 := ht.out.arr.cell (tcells_at T' set ps hps).2
        have hblt := ht.out.arr.lt
        have hbx := Nat.lt_of_lt_of_le A.out.lt hkp.out.size
        clear hF hB hA hC hpa hpb hcB
        go_wp2_with (go_at_call 28; refine (may_any _ lv ev es HJo.out.at_.e hlb a (b) (by omega) hsa).mono ?_; rw [HC.out]; rintro e w4 ⟨rfl, hk4⟩)
        have x0 := (hk4.cell hbx (by simp)).trans x0
        have x1 := (hk4.cell hbx (by simp)).trans x1
        have q1 := (hk4.cell hblt (by simp)).trans q1
        have q2 := (hk4.cell hblt (by simp)).trans q2
        have q3 := (hk4.cell hblt (by simp)).trans q3
        have q4 := (hk4.cell hblt (by simp)).trans q4
        have J4 := Lib.hid (HJo.out.kept hk4)
        have HK4 := Lib.hid hk4
        have hbx4 := Nat.lt_of_lt_of_le hbx hk4.size
        have hbt4 := Nat.lt_of_lt_of_le hblt hk4.size
        have hs2 : set < 2 ^ gs.length := HS.out
        have sk := Kept.refl [] w4
        have hwr : IntKind.i64.wrap ((set : Int) - (a : Int)) = (b : Int) := by rw [hsub]; exact IntWalk.i64_in _ (by omega)
        have hwb : IntKind.i64.wrap (b : Int) = (b : Int) := IntWalk.i64_in _ (by omega)
        have j1 : (a : Int) ≤ (set : Int) := by omega
        have j2 : (set : Int) - (a : Int) < 64 := by omega
        have j3 : ((set : Int) - (a : Int)).toNat = b := by omega
        have j4 : a ≤ set := by omega
        have j5 : (0 : Int) ≤ (set : Int) - (a : Int) := by omega
        have i1 : (a : Int) < 64 := by omega
        have i2 : (b : Int) < 64 := by omega
        have i3 : (set : Int) < 64 := by omega
        have i4 : (0 : Int) ≤ (b : Int) := by omega
        have i5 : (0 : Int) ≤ (a : Int) := by omega
        have i6 : (0 : Int) ≤ (set : Int) := by omega
        clear hk4
        go_region_held3 (fun w' => w'.cell? ⟨bx, 0, none⟩ = some lv ∧ w'.cell? ⟨bx, 1, none⟩ = some ev ∧ w'.cell? ⟨bt, a * 2 + 1, none⟩ = some (.int .i64 pa.t) ∧ w'.cell? ⟨bt, (b) * 2 + 1, none⟩ = some (.int .i64 pb.t))
          (first | go_keep | exact ⟨s1, s2, s3, s4⟩)
          (first | (go_at_call 30; refine (step_any _ lv ev gs es (J4.out.kept (by first | exact sk | exact sk.drew | exact sk.drewN _)) _ _ (by omega) (by omega)).mono ?_; rintro e w' ⟨rfl, hx0, hx1, hk⟩; have sk := Kept.trans (by first | exact sk | exact sk.drew | exact sk.drewN _) hk; have s1 := (sk.cell hbx4 (by simp)).trans x0; have s2 := (sk.cell hbx4 (by simp)).trans x1; have s3 := (sk.cell hbt4 (by simp)).trans q1; have s4 := (sk.cell hbt4 (by simp)).trans q2) | (go_at_call 29; refine (plus_any _ _ [_, _, _] (by first | exact ints3 (Arr.new' (by simp) rfl) | exact ints3 (Arr.drew (Arr.new' (by simp) rfl))) (by simp) (by intro n hn; simp at hn; omega)).mono ?_; rintro e w' ⟨rfl, rfl⟩))
        have K5 := Kept.alloc sk (Obj.cells #[Value.int IntKind.i64 pa.t, Value.int IntKind.i64 pb.t, Value.int IntKind.i64 (stepF gs es a b)] 3)
        have hF := HF.out
        rw [Int.add_assoc] at hF
        have q3 := (K5.cell hbt4 (by simp)).trans q3
        have q4 := (K5.cell hbt4 (by simp)).trans q4
        have HT5 := Lib.hid (ht.out.kept (HK4.out.trans K5))
        have HK5 := Lib.hid (hkp.out.trans ((HK4.out.trans K5).mono (S' := [bt]) (by simp)))
        have hC0 : 0 ≤ cap (pa.t + (pb.t + stepF gs es a b)) := by unfold cap maxCost; omega
        have hC1 : cap (pa.t + (pb.t + stepF gs es a b)) ≤ 9007199254740991 := by unfold cap maxCost; omega
        rename_i hHeld
        clear hHeld
        generalize w'.alloc (Obj.cells #[Value.int IntKind.i64 pa.t, Value.int IntKind.i64 pb.t, Value.int IntKind.i64 (stepF gs es a b)] 3) = w5 at *
        generalize cap (pa.t + (pb.t + stepF gs es a b)) = C at *
        have fr3 := HT5.out.arr.free (set * 2)
        have fr4 := HT5.out.arr.free (set * 2 + 1)
        clear K5 sk s1 s2 s3 s4 x0 x1 q1 q2 hk HF ht hkp HK4
        by_cases hcond : ps.k = 0 ∨ C < ps.t
        · rw [if_pos hcond] at hF
          have HF := Lib.hid hF
          clear hF
          have HT6 : TabAt ((w5.setCell ⟨bt, set * 2, none⟩ (.int .i64 a)).setCell ⟨bt, set * 2 + 1, none⟩ (.int .i64 C)) bt (T'.set set ⟨a, C⟩) := by
            refine ⟨?_, by rw [List.length_set]; exact HT5.out.len, fun p hp => ?_⟩
            · rw [tcells_set]
              exact (HT5.out.arr.set (set * 2) _).set (set * 2 + 1) _
            · rcases List.mem_or_eq_of_mem_set hp with hp | rfl
              · exact HT5.out.c p hp
              · exact ⟨hC0, hC1⟩
          have HT6 := Lib.hid HT6
          have HK6 := Lib.hid ((HK5.out.setCell (p := ⟨bt, set * 2, none⟩) (.inl (by simp)) (.int .i64 a)).setCell (p := ⟨bt, set * 2 + 1, none⟩) (.inl (by simp)) (.int .i64 C))
          by_cases hk0 : ps.k = 0
          · rw [hk0] at q3
            clear hcond
            go_wp2
            go_roundg g'
            case measure => omega
            case rel => exact ⟨a + 1, T'.set set ⟨a, C⟩, by go_num, by omega, by omega, by rw [← HF.out]; exact HR, HT6, HK6⟩
          · have hlt3 : C < ps.t := by rcases hcond with h | h; exact absurd h hk0; exact h
            have hk1 : (ps.k == 0) = false := by simp [hk0]
            clear hcond
            go_wp2
            go_roundg g'
            case measure => omega
            case rel => exact ⟨a + 1, T'.set set ⟨a, C⟩, by go_num, by omega, by omega, by rw [← HF.out]; exact HR, HT6, HK6⟩
        · rw [if_neg hcond] at hF
          have HF := Lib.hid hF
          have hk0 : ¬ ps.k = 0 := fun h => hcond (.inl h)
          have hk1 : (ps.k == 0) = false := by simp [hk0]
          have hlt3 : ¬ C < ps.t := fun h => hcond (.inr h)
          clear hF hcond
          go_wp2
          go_roundg g'
          case measure => omega
          case rel => exact ⟨a + 1, T', by go_num, by omega, by omega, by rw [← HF.out]; exact HR, HT5, HK5⟩
    · obtain rfl : a = set := by omega
      have hr' := hr.out
      obtain rfl : gk = 0 := by omega
      rw [fillF] at hr'
      subst hr'
      have HK := Lib.hid (Kept.trans (K.out.mono (by simp)) hkp.out)
      clear hr
      go_wp2
      go_end0
      exact ⟨rfl, ht.out, HK.out⟩
end Go.Proofs.YtnfdbbjemlehnaaDoor
