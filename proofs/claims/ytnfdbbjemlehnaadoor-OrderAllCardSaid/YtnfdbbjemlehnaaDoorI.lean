/- Do edges lead from each of some leaves to all; may two parts be joined. -/
import Derived.Test.YtnfdbbjemlehnaaDoorH
namespace Go.Proofs.YtnfdbbjemlehnaaDoor
open Go.RowKit

def lowN (x : Nat) : Nat := if x = 0 then 0 else 2 ^ tz x
def diffN (s h : Nat) : Nat := s &&& (63 ^^^ h)

theorem low_bits : ∀ x : Nat, x < 64 → bits .and .i64 (x : Int) (-(x : Int)) = ((lowN x : Nat) : Int) ∧ lowN x < 64 := by decide +kernel
theorem less_bits : ∀ x : Nat, x < 64 → 0 < x → bits .and .i64 (x : Int) ((x : Int) - 1) = ((x &&& (x - 1) : Nat) : Int) ∧ x &&& (x - 1) < x := by decide +kernel
theorem diff_bits : ∀ x : Nat, x < 64 → ∀ y : Nat, y < 64 → bits .andNot .i64 (x : Int) (y : Int) = ((diffN x y : Nat) : Int) ∧ diffN x y < 64 := by decide +kernel

def growF (es : List Pr) (hv : Nat) : Nat → Nat → Nat → Nat
  | 0, _, m => m
  | f + 1, l, m => if l = 0 then m else growF es hv f (l &&& (l - 1)) (if edgeF es hv (lowN l) then m ||| lowN l else m)

def joinF (es : List Pr) (set : Nat) : Nat → Nat → Bool
  | 0, h => h == set
  | f + 1, h => if growF es h 64 (diffN set h) h = h then h == set else joinF es set f (growF es h 64 (diffN set h) h)

def joinedF (es : List Pr) (set : Nat) : Bool := joinF es set 64 (lowN set)

theorem growF_ge (es : List Pr) (hv : Nat) : ∀ (f l m : Nat), m < 64 → l < 64 → m ≤ growF es hv f l m ∧ growF es hv f l m < 64 := by
  intro f
  induction f with
  | zero => intro l m hm _; exact ⟨Nat.le_refl _, hm⟩
  | succ f ih =>
    intro l m hm hl
    unfold growF
    by_cases h0 : l = 0
    · rw [if_pos h0]; exact ⟨Nat.le_refl _, hm⟩
    · rw [if_neg h0]
      have h1 := (low_bits l hl).2
      have h2 := (less_bits l hl (by omega)).2
      cases edgeF es hv (lowN l) with
      | true =>
        rw [if_pos rfl]
        have h3 : m ||| lowN l < 64 := or_lt (n := 6) hm h1
        have := ih (l &&& (l - 1)) (m ||| lowN l) h3 (by omega)
        have h4 : m ≤ m ||| lowN l := Nat.left_le_or
        omega
      | false =>
        rw [if_neg (by simp)]
        exact ih _ _ hm (by omega)

set_option maxHeartbeats 3200000 in
theorem joined_any (w : World) (lv ev : Value) (es : List Pr) (hP : PairsAt w ev es) (hlb : es.length ≤ 1000) (set : Nat) (hs : set < 64) :
    Calls Tryd.prog 23 #[.agg #[lv, ev], .int .i64 set] w fun en w' => en = .returned (.bool (joinedF es set)) ∧ Kept [] w w' := by
  obtain ⟨y1, y2⟩ := low_bits set hs
  have HP := Lib.hid hP
  clear hP
  have HR : joinF es set 64 (lowN set) = joinedF es set := rfl
  generalize joinedF es set = R at *
  generalize hL0 : lowN set = l0 at *
  have HR' := Lib.hid HR
  clear HR hL0
  go_enter Tryd.func23, Tryd.ntmps23
  go_wp2
  have A1 : Arr (w.alloc (Obj.cells #[lv, ev] 49)) w.heap.size 49 [lv, ev] := Arr.new _ _ _
  have K1 := Kept.alloc (Kept.refl [] w) (Obj.cells #[lv, ev] 49)
  generalize hw1 : w.alloc (Obj.cells #[lv, ev] 49) = w1 at *
  generalize hbx : w.heap.size = bx at A1 ⊢
  have A := Lib.hid A1
  have K := Lib.hid K1
  have HP1 := Lib.hid (HP.out.kept K1)
  clear A1 K1 hw1 hbx
  go_loopg [5, 6, 7, 8] (64 - l0) (fun g h i6 i7 i8 wr => ∃ hv f : Nat, h = .int .i64 hv ∧ hv + g = 64 ∧ hv < 64 ∧ 64 ≤ f + hv ∧ Hid (joinF es set f hv = R) ∧ Hid (Kept [] w1 wr))
  case atStart => exact ⟨l0, 64, rfl, by omega, y2, by omega, HR', Kept.refl _ _⟩
  case round =>
    clear y1 y2 HR'
    obtain ⟨hv, f, rfl, hg, hh, hf, hr, hkp⟩ := hrel
    obtain ⟨wo, hwo⟩ : ∃ wo : World, wo = wr := ⟨_, rfl⟩
    subst hwo
    obtain ⟨f, rfl⟩ : ∃ f', f = f' + 1 := ⟨f - 1, by omega⟩
    have hr' := hr.out
    rw [joinF] at hr'
    obtain ⟨d1, d2⟩ := diff_bits set hs hv hh
    obtain ⟨q1, q2⟩ := growF_ge es hv 64 (diffN set hv) hv hh d2
    have HR := Lib.hid hr'
    clear hr hr'
    generalize hGe : growF es hv 64 (diffN set hv) hv = Ge at *
    generalize hDe : diffN set hv = De at *
    have HG := Lib.hid hGe
    clear hGe hDe
    go_wp2
    go_loopg [6, 7, 8] De (fun g m l i8 wi => ∃ mv lf f2 : Nat, l = .int .i64 lf ∧ lf = g ∧ m = .int .i64 mv ∧ mv < 64 ∧ lf < 64 ∧ lf ≤ f2 ∧ Hid (growF es hv f2 lf mv = Ge) ∧ Hid (Kept [] w1 wi))
    case atStart => exact ⟨hv, De, 64, rfl, rfl, rfl, hh, d2, by omega, HG, hkp⟩
    case round =>
      clear d1
      obtain ⟨mv, lf, f2, rfl, rfl, rfl, hm, hl, hf2, hr2, hkp2⟩ := hrel
      by_cases h0 : lf = 0
      · subst h0
        have hr3 := hr2.out
        have hr4 : growF es hv f2 0 mv = mv := by cases f2 <;> simp [growF]
        rw [hr4] at hr3
        subst hr3
        by_cases hsame : mv = hv
        · have hr5 := HR.out
          rw [if_pos hsame] at hr5
          subst hsame
          have HR5 := Lib.hid hr5
          have HK := Lib.hid (K.out.trans hkp2.out)
          clear hr2 hr4 hr5 HR HG
          have hb : ((mv : Int) == (set : Int)) = (mv == set) := by rw [Bool.eq_iff_iff, beq_iff_eq, beq_iff_eq]; omega
          have HB := Lib.hid hb
          clear hb
          go_wp2
          go_ret
          exact ⟨by rw [← HR5.out, ← HB.out]; rfl, HK.out⟩
        · have hr5 := HR.out
          rw [if_neg hsame] at hr5
          have HR5 := Lib.hid hr5
          have hne : ((mv : Int) == (hv : Int)) = false := by simp; omega
          clear hr2 hr4 hr5 HR HG
          go_wp2
          go_roundg (64 - mv)
          case measure => omega
          case rel => exact ⟨mv, f, rfl, by omega, hm, by omega, HR5, hkp2⟩
      · obtain ⟨f2, rfl⟩ : ∃ f', f2 = f' + 1 := ⟨f2 - 1, by omega⟩
        have hr3 := hr2.out
        rw [growF, if_neg h0] at hr3
        obtain ⟨z1, z2⟩ := low_bits lf hl
        obtain ⟨z3, z4⟩ := less_bits lf hl (by omega)
        have z5 : mv ||| lowN lf < 64 := or_lt (n := 6) hm z2
        have z6 := or_nat mv (lowN lf) (by omega) (by omega)
        have x0 := (hkp2.out.cell A.out.lt (by simp)).trans (A.out.cell (i := 0) rfl)
        have x1 := (hkp2.out.cell A.out.lt (by simp)).trans (A.out.cell (i := 1) rfl)
        have hln : ((lf : Int) == 0) = false := by simp; omega
        generalize lf &&& (lf - 1) = nx at *
        generalize hlo : lowN lf = lo at *
        clear hr2 hlo HG
        cases hed : edgeF es hv lo with
        | true =>
          rw [hed, if_pos rfl] at hr3
          have HE := Lib.hid hed
          have HR3 := Lib.hid hr3
          clear hed hr3
          go_wp2_with (go_at_call 34; refine (edge_any _ lv ev es (HP1.out.kept hkp2.out) hlb hv lo hh z2).mono ?_; rw [HE.out]; rintro e w4 ⟨rfl, hk4⟩; have HK4 := Lib.hid hk4; clear hk4)
          go_roundg nx
          case measure => exact z4
          case rel => exact ⟨mv ||| lo, nx, f2, rfl, rfl, rfl, z5, by omega, by omega, HR3, hkp2.out.trans HK4.out⟩
        | false =>
          rw [hed, if_neg (by simp)] at hr3
          have HE := Lib.hid hed
          have HR3 := Lib.hid hr3
          clear hed hr3
          go_wp2_with (go_at_call 34; refine (edge_any _ lv ev es (HP1.out.kept hkp2.out) hlb hv lo hh z2).mono ?_; rw [HE.out]; rintro e w4 ⟨rfl, hk4⟩; have HK4 := Lib.hid hk4; clear hk4)
          go_roundg nx
          case measure => exact z4
          case rel => exact ⟨mv, nx, f2, rfl, rfl, rfl, hm, by omega, by omega, HR3, hkp2.out.trans HK4.out⟩

def mayF (es : List Pr) (a b : Nat) : Bool := if joinedF es (a ||| b) then joinedF es a && joinedF es b else !edgeF es a b
end Go.Proofs.YtnfdbbjemlehnaaDoor
