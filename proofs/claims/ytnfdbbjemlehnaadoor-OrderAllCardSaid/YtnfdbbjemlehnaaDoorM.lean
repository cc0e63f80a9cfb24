/- The cheapest shape. -/
import Derived.Test.YtnfdbbjemlehnaaDoorL
namespace Go.Proofs.YtnfdbbjemlehnaaDoor
open Go.RowKit

theorem ShAt.form {w : World} {base : Nat} {s : Sh} {v : Value} (h : ShAt w base s v) : ∃ lf a n cp, v = .agg #[.int .i64 lf, .slice a n cp] := by
  cases h; exact ⟨_, _, _, _, rfl⟩

def tabF (gs es : List Pr) : Nat → Nat → List Pr → List Pr
  | 0, _, T => T
  | f + 1, set, T => tabF gs es f (set + 1) (fillF gs es set (set - 1) 1 T)
def bestT (gs es : List Pr) : List Pr := tabF gs es (2 ^ gs.length - 1) 1 (List.replicate 64 ⟨0, 0⟩)

theorem Parts.fill {gs es : List Pr} {set : Nat} : ∀ (f a : Nat) (T : List Pr), Parts T → 1 ≤ a → a + f = set → Parts (fillF gs es set f a T) := by
  intro f
  induction f with
  | zero => intro a T h _ _; exact h
  | succ f ih =>
    intro a T h h1 h2
    rw [fillF]
    refine ih _ _ ?_ (by omega) (by omega)
    unfold fill1
    repeat' split
    · exact h
    · intro s p hp hk
      rw [List.getElem?_set] at hp
      by_cases hs : set = s
      · rw [if_pos hs] at hp
        split at hp
        · simp at hp; subst hp; subst hs; constructor <;> simp <;> omega
        · simp at hp
      · rw [if_neg hs] at hp; exact h s p hp hk
    · exact h

theorem Parts.tab {gs es : List Pr} : ∀ (f set : Nat) (T : List Pr), Parts T → 1 ≤ set → Parts (tabF gs es f set T) := by
  intro f
  induction f with
  | zero => intro _ T h _; exact h
  | succ f ih => intro set T h h1; exact ih _ _ (Parts.fill _ _ _ h (by omega) (by omega)) (by omega)

theorem Parts.best (gs es : List Pr) : Parts (bestT gs es) := by
  refine Parts.tab _ _ _ ?_ (by omega)
  intro s p hp hk
  rw [List.getElem?_replicate] at hp
  split at hp
  · simp at hp; subst hp; exact absurd rfl hk
  · simp at hp

theorem zero55 : ∃ zs : Array Value, (∀ w : World, (zeroValue 55).run Tryd.prog w = .ok (.agg zs) w) ∧ zs.size = 128 ∧ zs = (tcells (List.replicate 64 ⟨0, 0⟩)).toArray :=
  ⟨(tcells (List.replicate 64 ⟨0, 0⟩)).toArray, fun w => by kernel_rfl, by decide +kernel, rfl⟩

set_option maxHeartbeats 3200000 in
theorem best_no (w : World) (lv ev : Value) (gs es : List Pr) (h : JAt w lv ev gs es) (hl : gs.length ≤ 1000) (hlb : es.length ≤ 1000) (hok : okF gs es = false) :
    Calls Tryd.prog 8 #[lv, ev] w fun en w' => en = .returned (.tuple #[.agg #[.int .i64 0, .slice none 0 0], .int .i64 0, .int .i64 1]) ∧ Kept [] w w' := by
  have HJ := Lib.hid h
  have HO := Lib.hid hok
  obtain ⟨⟨al, cl, rfl, _⟩, ⟨ae, ce, rfl, _⟩⟩ := h
  clear hok
  go_enter Tryd.func8, Tryd.ntmps8
  have K := Kept.alloc (Kept.alloc (Kept.refl [] w) (Obj.cells #[.int .i64 0, .slice none 0 0] 26)) (Obj.cells #[.slice al gs.length cl, .slice ae es.length ce] 49)
  have HK := Lib.hid K
  have AR : Arr ((w.alloc (Obj.cells #[.int .i64 0, .slice none 0 0] 26)).alloc (Obj.cells #[.slice al gs.length cl, .slice ae es.length ce] 49)) w.heap.size 26 [.int .i64 0, .slice none 0 0] := Arr.alloc (Arr.new _ _ _) _
  have HAR := Lib.hid AR
  clear K AR
  go_wp2_with (go_at_call 17; refine (check_any _ _ _ gs es (HJ.out.kept HK.out) hl hlb).mono ?_; rw [HO.out]; rintro e w2 ⟨rfl, hk2⟩; have HK2 := Lib.hid hk2; have A2 := HAR.out.kept hk2 (by simp); have r0 := A2.free 0; have r1 := A2.free 1; have c0 := A2.cell (i := 0) rfl; have c1 := A2.cell (i := 1) rfl; have HA2 := Lib.hid A2; clear A2 hk2)
  have A5 := (HA2.out.set 0 (.int .i64 0)).set 1 (.slice none 0 0)
  refine bodyPost_ret (v := .tuple #[.agg #[.int .i64 0, .slice none 0 0], .int .i64 0, .int .i64 1]) ?_ rfl ⟨rfl, ?_⟩
  · have e0 := A5.cell (i := 0) rfl
    have e1 := A5.cell (i := 1) rfl
    simp [results, Tryd.results8, go_sem, e0, e1]
  · have K5 : Kept [w.heap.size] w2 ((w2.setCell ⟨w.heap.size, 0, none⟩ (.int .i64 0)).setCell ⟨w.heap.size, 1, none⟩ (.slice none 0 0)) := ((Kept.refl [w.heap.size] w2).setCell (.inl (by simp)) _).setCell (.inl (by simp)) _
    exact (HK.out.trans HK2.out).fresh K5 (by simp)

set_option maxHeartbeats 6400000 in
set_option maxRecDepth 100000 in
theorem best_ok (w : World) (lv ev : Value) (gs es : List Pr) (h : JAt w lv ev gs es) (hlb : es.length ≤ 1000) (htab : Tab w) (hok : okF gs es = true) :
    Calls Tryd.prog 8 #[lv, ev] w fun en w' => ∃ v, en = .returned (.tuple #[v, .int .i64 ((bestT gs es)[2 ^ gs.length - 1]?.getD default).t, .int .i64 0]) ∧ ShAt w' w.heap.size (buildF (bestT gs es) 63 (2 ^ gs.length - 1)) v ∧ Kept [] w w' := by
  have ok := Ok.of hok
  have h6 : 2 ^ gs.length ≤ 2 ^ 6 := Nat.pow_le_pow_right (by decide) ok.n6
  have h2 : 2 ^ 1 ≤ 2 ^ gs.length := Nat.pow_le_pow_right (by decide) ok.n1
  have n6 := ok.n6
  have J0 := Lib.hid (Join.mk h ok hlb htab)
  have HO := Lib.hid hok
  obtain ⟨⟨al, cl, rfl, _⟩, ⟨ae, ce, rfl, _⟩⟩ := h
  have hall : ∀ u : World, Calls Tryd.prog 18 #[.agg #[.slice al gs.length cl, .slice ae es.length ce]] u fun en w' => en = .returned (.int .i64 ((2 ^ gs.length - 1 : Nat) : Int)) ∧ Kept [] u w' := fun u => all_any u al gs.length cl _ n6
  have hT : tabF gs es (2 ^ gs.length - 1) 1 (List.replicate 64 ⟨0, 0⟩) = bestT gs es := rfl
  obtain ⟨A, hA⟩ : ∃ A, 2 ^ gs.length = A + 1 := ⟨2 ^ gs.length - 1, by omega⟩
  have hA2 : 2 ^ gs.length - 1 = A := by omega
  rw [hA2] at hall hT ⊢
  have HB := Lib.hid hT
  have HALL := Lib.hid hall
  have HA := Lib.hid hA
  rw [hA] at h6 h2
  clear hok ok htab hall hT hA hA2
  go_enter Tryd.func8, Tryd.ntmps8
  go_wp2_with fail
  have K := Kept.alloc (Kept.alloc (Kept.refl [] w) (Obj.cells #[.int .i64 0, .slice none 0 0] 26)) (Obj.cells #[.slice al gs.length cl, .slice ae es.length ce] 49)
  have HK := Lib.hid K
  have AR : Arr ((w.alloc (Obj.cells #[.int .i64 0, .slice none 0 0] 26)).alloc (Obj.cells #[.slice al gs.length cl, .slice ae es.length ce] 49)) w.heap.size 26 [.int .i64 0, .slice none 0 0] := Arr.alloc (Arr.new _ _ _) _
  have AJ : Arr ((w.alloc (Obj.cells #[.int .i64 0, .slice none 0 0] 26)).alloc (Obj.cells #[.slice al gs.length cl, .slice ae es.length ce] 49)) (w.heap.size + 1) 49 [.slice al gs.length cl, .slice ae es.length ce] := Arr.new' (by simp) rfl
  refine (check_any _ _ _ gs es (J0.out.at_.kept HK.out) (by omega) hlb).mono ?_
  rw [HO.out]
  rintro e w2 ⟨rfl, hk2⟩
  have HR2 := Lib.hid (AR.kept hk2 (by simp))
  have HJ2 := Lib.hid (AJ.kept hk2 (by simp))
  have HK2 := Lib.hid (HK.out.trans hk2)
  have x0 := HJ2.out.cell (i := 0) rfl
  have x1 := HJ2.out.cell (i := 1) rfl
  clear K AR AJ hk2 HK
  obtain ⟨zs, hz, hzs, hzt⟩ := zero55
  have HZT := Lib.hid hzt
  have hzn : ¬ zs = #[] := by intro e; subst e; simp at hzs
  clear hzt
  go_wp2_with fail
  have K3 := Kept.alloc (Kept.refl [] w2) (Obj.cells zs 55)
  have HT3 : TabAt (w2.alloc (Obj.cells zs 55)) w2.heap.size (List.replicate 64 ⟨0, 0⟩) := ⟨Arr.new' rfl HZT.out, by simp, fun p hp => by rw [List.mem_replicate] at hp; obtain ⟨_, rfl⟩ := hp; exact ⟨by simp, by simp⟩⟩
  have HT3 := Lib.hid HT3
  have HR3 := Lib.hid (HR2.out.kept K3 (by simp))
  have HJ3 := Lib.hid (HJ2.out.kept K3 (by simp))
  have HK3 := Lib.hid (HK2.out.trans K3)
  have b1 : w.heap.size < w2.heap.size := HR2.out.lt
  have b2 : w.heap.size + 1 < w2.heap.size := HJ2.out.lt
  have hall : A < 64 := by omega
  generalize hbt : w2.heap.size = bt at *
  generalize w2.alloc (Obj.cells zs 55) = w3 at *
  clear K3 HR2 HJ2 HK2 x0 x1 hz hzs HZT hzn
  go_loopg [10] A (fun g v wr => ∃ (set : Nat) (T : List Pr), v = .int .i64 set ∧ set + g = A + 1 ∧ 1 ≤ set ∧ Hid (tabF gs es g set T = bestT gs es) ∧ Hid (TabAt wr bt T) ∧ Hid (Kept [bt] w3 wr))
  case atStart => exact ⟨1, _, rfl, by omega, by omega, HB, HT3, Lib.hid (Kept.refl _ _)⟩
  case round =>
    clear HB HT3
    obtain ⟨set, T, rfl, hg, hs1, hr, ht, hkp⟩ := hrel
    obtain ⟨wo, hwo⟩ : ∃ wo : World, wo = wr := ⟨_, rfl⟩
    subst hwo
    have HJo := HJ3.out.kept hkp.out (by simp; omega)
    have x0 := HJo.cell (i := 0) rfl
    have x1 := HJo.cell (i := 1) rfl
    have HJo := Lib.hid HJo
    have HKo := Lib.hid (HK3.out.fresh hkp.out (by intro x hx hlt; simp at hx; omega))
    by_cases hlt : set < A + 1
    · obtain ⟨g', rfl⟩ : ∃ g', gk = g' + 1 := ⟨gk - 1, by omega⟩
      have hr' := hr.out
      rw [tabF] at hr'
      have HR := Lib.hid hr'
      have hle2 : set ≤ A := by omega
      clear hr hr'
      go_wp2_with fail
      refine (HALL.out _).mono ?_
      rintro e w4 ⟨rfl, hk4⟩
      have HJ4 := HJo.out.kept hk4 (by simp)
      have x0 := HJ4.cell (i := 0) rfl
      have x1 := HJ4.cell (i := 1) rfl
      have HK4 := Lib.hid hk4
      clear hk4
      go_wp2_with (go_at_call 19; refine (fill_any w _ _ _ gs es J0.out (HKo.out.trans HK4.out) bt (by omega) T (ht.out.kept HK4.out) set hs1 (by rw [HA.out]; exact hlt)).mono ?_; rintro e w5 ⟨rfl, ht5, hk5⟩; have HT5 := Lib.hid ht5; have HK5 := Lib.hid hk5; clear ht5 hk5)
      go_roundg g'
      case measure => omega
      case rel => exact ⟨set + 1, _, by go_num, by omega, by omega, HR, HT5, Lib.hid ((hkp.out.trans (HK4.out.mono (by simp))).trans HK5.out)⟩
    · obtain rfl : gk = 0 := by omega
      obtain rfl : set = A + 1 := by omega
      have hr' := hr.out
      rw [tabF] at hr'
      subst hr'
      go_wp2_with fail
      refine (HALL.out _).mono ?_
      rintro e w4 ⟨rfl, hk4⟩
      have HJ4 := HJo.out.kept hk4 (by simp)
      have x0 := HJ4.cell (i := 0) rfl
      have x1 := HJ4.cell (i := 1) rfl
      have HK4 := Lib.hid hk4
      clear hk4
      have HT4 := Lib.hid (ht.out.kept HK4.out)
      obtain ⟨p, hp⟩ : ∃ p, (bestT gs es)[A]? = some p := ⟨(bestT gs es)[A]'(by rw [HT4.out.len]; omega), by rw [List.getElem?_eq_getElem]⟩
      have x2 := HT4.out.arr.cell (tcells_at _ A p hp).2
      have HP := Lib.hid hp
      have HR4 := Lib.hid ((HR3.out.kept hkp.out (by simp; omega)).kept HK4.out (by simp))
      have r0 := HR4.out.free 0
      have c0 := HR4.out.cell (i := 0) rfl
      have c1 := HR4.out.cell (i := 1) rfl
      have r1 := HR4.out.free 1
      have HK4' := Lib.hid (HKo.out.trans HK4.out)
      have i1 : (A : Int) < 64 := by omega
      have i2 : (0 : Int) ≤ (A : Int) := by omega
      have lJ := HJ4.lt
      have nTR : bt ≠ w.heap.size := by omega
      have lT := HT4.out.arr.lt
      have lR := HR4.out.lt
      have sk := Kept.refl [] w4
      have hA1 : 1 ≤ A := by omega
      clear hp HJ4 HK4 hkp hr
      go_wp2_with fail
      go_region_held3 (fun w' => w'.cell? ⟨w.heap.size + 1, 0, none⟩ = some (.slice al gs.length cl) ∧ w'.cell? ⟨w.heap.size + 1, 1, none⟩ = some (.slice ae es.length ce) ∧ w'.cell? ⟨bt, A * 2 + 1, none⟩ = some (.int .i64 p.t) ∧ w'.frozen? ⟨w.heap.size, 0, none⟩ = false ∧ w'.frozen? ⟨w.heap.size, 1, none⟩ = false)
        (first | exact ⟨s1, s2, s3, s4, s5⟩ | exact ⟨((Kept.setCell (Kept.setCell (Kept.refl [w.heap.size] _) (p := ⟨w.heap.size, 0, none⟩) (.inl (by simp)) _) (p := ⟨w.heap.size, 1, none⟩) (.inl (by simp)) _).cell (Nat.lt_of_lt_of_le lJ sk.size) (by simp)).trans s1, ((Kept.setCell (Kept.setCell (Kept.refl [w.heap.size] _) (p := ⟨w.heap.size, 0, none⟩) (.inl (by simp)) _) (p := ⟨w.heap.size, 1, none⟩) (.inl (by simp)) _).cell (Nat.lt_of_lt_of_le lJ sk.size) (by simp)).trans s2, ((Kept.setCell (Kept.setCell (Kept.refl [w.heap.size] _) (p := ⟨w.heap.size, 0, none⟩) (.inl (by simp)) _) (p := ⟨w.heap.size, 1, none⟩) (.inl (by simp)) _).cell (Nat.lt_of_lt_of_le lT sk.size) (by simpa using nTR)).trans s3, by simpa using s4, by simpa using s5⟩ | go_keep)
        (first | (go_at_call 18; refine (HALL.out _).mono ?_; rintro e w' ⟨rfl, hk⟩; have sk := Kept.trans (by first | exact sk | exact sk.drew | exact sk.drewN _) hk; have s1 := (sk.cell lJ (by simp)).trans x0; have s2 := (sk.cell lJ (by simp)).trans x1; have s3 := (sk.cell lT (by simp)).trans x2; have s4 := (sk.frozen lR (by simp)).trans r0; have s5 := (sk.frozen lR (by simp)).trans r1; have s6 := (sk.cell lR (by simp)).trans c0; have s7 := (sk.cell lR (by simp)).trans c1) | (go_at_call 20; refine (build_any bt _ (Parts.best gs es) 63 _ (HT4.out.kept (by first | exact sk | exact sk.drew | exact sk.drewN _)) (J0.out.tab.kept (HK4'.out.trans (by first | exact sk | exact sk.drew | exact sk.drewN _))) A hA1 (by omega) hall).mono ?_; rintro e w' ⟨v, rfl, hsh, hk⟩; obtain ⟨lf, sa, sn, scp, rfl⟩ := hsh.form; have zsz := sk.size; have sk := Kept.trans (by first | exact sk | exact sk.drew | exact sk.drewN _) hk; have s1 := (sk.cell lJ (by simp)).trans x0; have s2 := (sk.cell lJ (by simp)).trans x1; have s3 := (sk.cell lT (by simp)).trans x2; have s4 := (sk.frozen lR (by simp)).trans r0; have s5 := (sk.frozen lR (by simp)).trans r1; have s6 := (sk.cell lR (by simp)).trans c0; have s7 := (sk.cell lR (by simp)).trans c1))
      rename_i hHeld
      have hx2 := HP.out
      have hx3 : ((bestT gs es)[A]?.getD default).t = p.t := by rw [hx2]; rfl
      have K5 : Kept [w.heap.size] w' ((w'.setCell ⟨w.heap.size, 0, none⟩ (.int .i64 lf)).setCell ⟨w.heap.size, 1, none⟩ (.slice sa sn scp)) := ((Kept.refl [w.heap.size] w').setCell (.inl (by simp)) _).setCell (.inl (by simp)) _
      have zlt := Nat.lt_of_lt_of_le lR zsz
      have hsh2 := hsh.kept hk (by simp)
      have hs5 := hsh2.kept K5 (fun x hx => by obtain rfl := List.mem_singleton.mp hx; exact zlt)
      have hs6 := hs5.mono (Nat.le_trans (Nat.le_of_lt lR) zsz)
      have HS6 := Lib.hid hs6
      have HKE := Lib.hid ((HK4'.out.trans sk).fresh K5 (by simp))
      have A5 := ((HR4.out.kept sk (by simp)).set 0 (.int .i64 lf)).set 1 (.slice sa sn scp)
      have e0 := A5.cell (i := 0) rfl
      have e1 := A5.cell (i := 1) rfl
      have HX3 := Lib.hid hx3
      clear hHeld hsh hsh2 hs5 hs6 K5 A5 hk s1 s2 s3 s4 s5 sk hx2 hx3
      go_wp2
      refine bodyPost_ret (v := .tuple #[.agg #[.int .i64 lf, .slice sa sn scp], .int .i64 p.t, .int .i64 0]) ?_ rfl ⟨_, by rw [HX3.out], HS6.out, HKE.out⟩
      simp [results, Tryd.results8, go_sem, e0, e1]
end Go.Proofs.YtnfdbbjemlehnaaDoor
