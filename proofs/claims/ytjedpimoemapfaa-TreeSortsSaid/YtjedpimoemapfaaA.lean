/- The tree in memory; its leaves held against each other. -/
import Derived.Test.YtjedpimoemapfaaRows
import Derived.Test.YtjedpimoemapfaaBase
import Derived.Test.YtjedpimoemapfaaPure
import Derived.WalkKit
import Derived.Deep.RegionHeld3
namespace Go.Proofs.Ytjedpimoemapfaa
open Go.RowKit

def Lf.cells (x : Lf) : List Value := [.int .i64 x.k, .int .i64 x.t, .bool x.h]
def lcells (ls : List Lf) : List Value := ls.flatMap Lf.cells

theorem lcells_cons (x : Lf) (ls : List Lf) : lcells (x :: ls) = .int .i64 x.k :: .int .i64 x.t :: .bool x.h :: lcells ls := rfl

theorem lcells_at (ls : List Lf) (i : Nat) (x : Lf) (h : ls[i]? = some x) :
    (lcells ls)[i * 3]? = some (.int .i64 x.k) ∧ (lcells ls)[i * 3 + 1]? = some (.int .i64 x.t) ∧ (lcells ls)[i * 3 + 2]? = some (.bool x.h) := by
  induction ls generalizing i with
  | nil => simp at h
  | cons y ls ih =>
    cases i with
    | zero => simp at h; subst h; exact ⟨rfl, rfl, rfl⟩
    | succ i =>
      simp only [List.getElem?_cons_succ] at h
      have := ih i h
      rw [lcells_cons]
      rw [show (i + 1) * 3 = i * 3 + 1 + 1 + 1 by omega, show i * 3 + 1 + 1 + 1 + 1 = (i * 3 + 1) + 1 + 1 + 1 by omega, show i * 3 + 1 + 1 + 1 + 2 = (i * 3 + 2) + 1 + 1 + 1 by omega]
      simpa only [List.getElem?_cons_succ] using this

/-- How comparisons are made: by the plain function, or by the counter at a block. -/
def cmpV : Option Nat → Value
  | none => .func (.func 9) #[] #[]
  | some c => .func (.func 20) #[.pointer (some ⟨c, 0, none⟩)] #[]

def Cnt (w : World) (kd : Option Nat) (m : Nat) : Prop :=
  match kd with
  | none => True
  | some c => Arr w c 50 [.int .i64 m]

/-- A tree in memory. -/
structure T8 (w : World) (bt bl bw : Nat) (kd : Option Nat) (base : Nat) (ls : List Lf) (ws : List Nat) (n : Int) : Prop where
  t : Arr w bt 60 [cmpV kd, .slice (some ⟨bl, 0, none⟩) ls.length ls.length, .int .i64 base, .slice (some ⟨bw, 0, none⟩) ws.length ws.length, .int .i64 n]
  l : Arr w bl 64 (lcells ls)
  w : Arr w bw 3 (ws.map fun i : Nat => Value.int .i64 (i : Int))

def ord (a c : Int) : Int := if a < c then -1 else if a > c then 1 else 0

set_option maxHeartbeats 400000 in
theorem order_any (w : World) (a b c d : Int) : 
   Calls Try.prog 9 #[.agg #[.int .i64 a, .int .i64 b], .agg #[.int .i64 c, .int .i64 d]] w fun e w' => e = .returned (.int .i64 (ord a c)) ∧ w' = (w.alloc (.cells #[.int .i64 a, .int .i64 b] 28)).alloc (.cells #[.int .i64 c, .int .i64 d] 28) := by
  unfold ord
  go_enter Try.func9, Try.ntmps9
  go_wp2
  all_goals
   go_ret
   refine ⟨?_, rfl⟩
   first | rfl | (congr 2; simp [*]; try omega)

set_option maxHeartbeats 400000 in
theorem count_any (w : World) (m : Nat) (hm : m ≤ 1000000) (bc : Nat) (h : Arr w bc 50 [.int .i64 m]) (a b c d : Int) : 
   Calls Try.prog 20 #[.pointer (some ⟨bc, 0, none⟩), .agg #[.int .i64 a, .int .i64 b], .agg #[.int .i64 c, .int .i64 d]] w fun e w' => e = .returned (.int .i64 (ord a c)) ∧ Arr w' bc 50 [.int .i64 (m + 1 : Nat)] ∧ Kept [bc] w w' := by
  have hc := h.cell (i := 0) rfl
  have hf := h.free 0
  have hlt := h.lt
  go_enter Try.func20, Try.ntmps20
  go_wp2_with (go_at_call 9; refine (order_any _ a b c d).mono ?_; rintro e w' ⟨rfl, rfl⟩)
  go_ret
  refine ⟨rfl, ?_, ?_⟩
  · exact ((((h.set 0 _).alloc _).alloc _).alloc _).alloc _
  · exact (((((Kept.refl _ _).setCell (.inl (by simp)) _).alloc _).alloc _).alloc _).alloc _


set_option maxHeartbeats 400000 in
theorem holds_any (w : World) (bt bl bw : Nat) (kd : Option Nat) (base : Nat) (ls : List Lf) (ws : List Nat) (n : Int) (h : T8 w bt bl bw kd base ls ws n) (i : Nat) (_hi : i ≤ 1000) (_hl : ls.length ≤ 64) :
   Calls Try.prog 29 #[.pointer (some ⟨bt, 0, none⟩), .int .i64 i] w fun e w' => e = .returned (.bool (hld ls i)) ∧ w = w' := by
  have ht := h.t.cell (i := 1) rfl
  have hi0 : (0 : Int) ≤ (i : Int) := Int.natCast_nonneg _
  by_cases hlt : i < ls.length
  · have hx := (lcells_at ls i ls[i] (by simp [hlt])).2.2
    have hc := h.l.cell hx
    have hv : hld ls i = (ls[i]).h := by simp [hld, hlt]
    have H := Lib.hid hv
    have hlt' : (i : Int) < (ls.length : Int) := by omega
    clear hv hx h
    go_enter Try.func29, Try.ntmps29
    go_wp2
    go_ret
    exact ⟨by rw [H.out]; rfl, rfl⟩
  · have hv : hld ls i = false := by simp [hld, hlt]
    have H := Lib.hid hv
    have hlt' : ¬ (i : Int) < (ls.length : Int) := by omega
    clear hv h
    go_enter Try.func29, Try.ntmps29
    go_wp2
    go_ret
    exact ⟨by rw [H.out]; rfl, rfl⟩

set_option maxHeartbeats 800000 in
theorem better_any (w : World) (bt bl bw : Nat) (kd : Option Nat) (m : Nat) (base : Nat) (ls : List Lf) (ws : List Nat) (n : Int) (h : T8 w bt bl bw kd base ls ws n) (hk : Cnt w kd m) (hm : m ≤ 1000000) (i k : Nat) (hi : i ≤ 1000) (hk' : k ≤ 1000) (hl : ls.length ≤ 64) :
   Calls Try.prog 25 #[.pointer (some ⟨bt, 0, none⟩), .int .i64 i, .int .i64 k] w fun e w' => e = .returned (.int .i64 (bet ls i k : Nat)) ∧ Kept kd.toList w w' ∧ ∃ m', m ≤ m' ∧ m' ≤ m + 1 ∧ Cnt w' kd m' := by
  have hH := Lib.hid h
  have hi0 : (0 : Int) ≤ (i : Int) := Int.natCast_nonneg _
  have hk0 : (0 : Int) ≤ (k : Int) := Int.natCast_nonneg _
  clear h
  cases h1 : hld ls k with
  | false =>
    have hb : bet ls i k = i := by
      unfold bet hld at *
      split <;> simp_all
    have HB := Lib.hid hb
    clear hb
    have hk1 := Lib.hid hk
    clear hk
    go_enter Try.func25, Try.ntmps25
    go_wp2_with (go_at_call 29; refine (holds_any _ bt bl bw kd base ls ws n hH.out k hk' hl).mono ?_; rintro e w' ⟨rfl, rfl⟩)
    go_ret
    exact ⟨by rw [HB.out]; rfl, Kept.refl _ _, m, Nat.le_refl _, by omega, hk1.out⟩
  | true =>
   cases h2 : hld ls i with
   | false => 
    have hb : bet ls i k = k := by
      unfold bet hld at *
      split <;> simp_all
      split <;> simp_all
    have HB := Lib.hid hb
    clear hb
    have hk1 := Lib.hid hk
    clear hk
    go_enter Try.func25, Try.ntmps25
    go_wp2_with fail
    refine (holds_any _ bt bl bw kd base ls ws n hH.out k hk' hl).mono ?_; rintro e w' ⟨rfl, rfl⟩
    go_wp2_with fail
    refine (holds_any _ bt bl bw kd base ls ws n hH.out i hi hl).mono ?_; rintro e w' ⟨rfl, rfl⟩
    go_wp2
    go_ret
    exact ⟨by rw [HB.out]; rfl, Kept.refl _ _, m, Nat.le_refl _, by omega, hk1.out⟩
   | true => 
    obtain ⟨x, hx, hxh⟩ : ∃ x, ls[i]? = some x ∧ x.h = true := by
      unfold hld at h2; split at h2
      · exact ⟨_, by assumption, h2⟩
      · simp at h2
    obtain ⟨y, hy, hyh⟩ : ∃ x, ls[k]? = some x ∧ x.h = true := by
      unfold hld at h1; split at h1
      · exact ⟨_, by assumption, h1⟩
      · simp at h1
    have hb : bet ls i k = if y.k < x.k then k else i := by
      simp [bet, hx, hy, hxh, hyh]
    have HB := Lib.hid hb
    have hil : i < ls.length := by rcases Nat.lt_or_ge i ls.length with h | h; exact h; simp [List.getElem?_eq_none h] at hx
    have hkl : k < ls.length := by rcases Nat.lt_or_ge k ls.length with h | h; exact h; simp [List.getElem?_eq_none h] at hy
    have hil' : (i : Int) < (ls.length : Int) := by omega
    have hkl' : (k : Int) < (ls.length : Int) := by omega
    have c0 := hH.out.t.cell (i := 0) rfl
    have c1 := hH.out.t.cell (i := 1) rfl
    have x0 := hH.out.l.cell (lcells_at ls i x hx).1
    have x1 := hH.out.l.cell (lcells_at ls i x hx).2.1
    have y0 := hH.out.l.cell (lcells_at ls k y hy).1
    have y1 := hH.out.l.cell (lcells_at ls k y hy).2.1
    have l1 := hH.out.t.lt
    have l2 := hH.out.l.lt
    clear hb hx hy
    rcases kd with _ | bc
    · have hk1 := Lib.hid hk
      clear hk
      simp only [cmpV] at c0
      go_enter Try.func25, Try.ntmps25
      go_wp2_with fail
      refine (holds_any _ bt bl bw _ base ls ws n hH.out k hk' hl).mono ?_; rintro e w' ⟨rfl, rfl⟩
      go_wp2_with fail
      refine (holds_any _ bt bl bw _ base ls ws n hH.out i hi hl).mono ?_; rintro e w' ⟨rfl, rfl⟩
      go_wp2
      go_region_held3 (fun w' => w'.cell? ⟨bt, 0, none⟩ = some (.func (.func 9) #[] #[]) ∧ w'.cell? ⟨bt, 1, none⟩ = some (.slice (some ⟨bl, 0, none⟩) ls.length ls.length) ∧ w'.cell? ⟨bl, i * 3, none⟩ = some (.int .i64 x.k) ∧ w'.cell? ⟨bl, i * 3 + 1, none⟩ = some (.int .i64 x.t) ∧ w'.cell? ⟨bl, k * 3, none⟩ = some (.int .i64 y.k) ∧ w'.cell? ⟨bl, k * 3 + 1, none⟩ = some (.int .i64 y.t)) (go_keep) (first | (go_at_call 9; refine (order_any _ _ _ _ _).mono ?_; rintro e w' ⟨rfl, rfl⟩))
      go_wp2
      · have ho : y.k < x.k := by rename_i ho; unfold ord at ho; split at ho; assumption; split at ho <;> omega
        go_ret
        exact ⟨by rw [HB.out, if_pos ho]; rfl, (((Kept.refl _ _).alloc _).alloc _).drew, m, Nat.le_refl _, by omega, trivial⟩
      · have ho : ¬ y.k < x.k := by rename_i ho; unfold ord at ho; split at ho; omega; assumption
        go_ret
        exact ⟨by rw [HB.out, if_neg ho]; rfl, (((Kept.refl _ _).alloc _).alloc _).drew, m, Nat.le_refl _, by omega, trivial⟩
    · have hbt : bt ≠ bc := Arr.ne hH.out.t hk (by decide)
      have hbl : bl ≠ bc := Arr.ne hH.out.l hk (by decide)
      have hk1 : Hid (Arr w bc 50 [.int .i64 m]) := hk
      clear hk
      simp only [cmpV] at c0
      go_enter Try.func25, Try.ntmps25
      go_wp2_with fail
      refine (holds_any _ bt bl bw _ base ls ws n hH.out k hk' hl).mono ?_; rintro e w' ⟨rfl, rfl⟩
      go_wp2_with fail
      refine (holds_any _ bt bl bw _ base ls ws n hH.out i hi hl).mono ?_; rintro e w' ⟨rfl, rfl⟩
      go_wp2
      go_region_held3 (fun w' => w'.cell? ⟨bt, 0, none⟩ = some (.func (.func 20) #[.pointer (some ⟨bc, 0, none⟩)] #[]) ∧ w'.cell? ⟨bt, 1, none⟩ = some (.slice (some ⟨bl, 0, none⟩) ls.length ls.length) ∧ w'.cell? ⟨bl, i * 3, none⟩ = some (.int .i64 x.k) ∧ w'.cell? ⟨bl, i * 3 + 1, none⟩ = some (.int .i64 x.t) ∧ w'.cell? ⟨bl, k * 3, none⟩ = some (.int .i64 y.k) ∧ w'.cell? ⟨bl, k * 3 + 1, none⟩ = some (.int .i64 y.t)) (first | go_keep | exact ⟨(hkp.cell l1 (by simpa using hbt)).trans c0, (hkp.cell l1 (by simpa using hbt)).trans c1, (hkp.cell l2 (by simpa using hbl)).trans x0, (hkp.cell l2 (by simpa using hbl)).trans x1, (hkp.cell l2 (by simpa using hbl)).trans y0, (hkp.cell l2 (by simpa using hbl)).trans y1⟩) (first | (go_at_call 20; refine (count_any _ m hm bc hk1.out.drew _ _ _ _).mono ?_; rintro e w' ⟨rfl, hcn, hkp⟩))
      go_wp2
      · have ho : y.k < x.k := by rename_i ho; unfold ord at ho; split at ho; assumption; split at ho <;> omega
        go_ret
        exact ⟨by rw [HB.out, if_pos ho]; rfl, (Kept.refl _ _).drew.trans hkp, m + 1, by omega, by omega, hcn⟩
      · have ho : ¬ y.k < x.k := by rename_i ho; unfold ord at ho; split at ho; omega; assumption
        go_ret
        exact ⟨by rw [HB.out, if_neg ho]; rfl, (Kept.refl _ _).drew.trans hkp, m + 1, by omega, by omega, hcn⟩
end Go.Proofs.Ytjedpimoemapfaa
