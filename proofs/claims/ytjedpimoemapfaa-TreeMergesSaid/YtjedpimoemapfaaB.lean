/- put -/
import Derived.Test.YtjedpimoemapfaaA
import Derived.Deep.DeepCutAuto
import Derived.Deep.LoopGhost
namespace Go.Proofs.Ytjedpimoemapfaa
open Go.RowKit

theorem T8.ne {w : World} {bt bl bw : Nat} {kd : Option Nat} {base : Nat} {ls : List Lf} {ws : List Nat} {n : Int} (h : T8 w bt bl bw kd base ls ws n) : bt ≠ bl ∧ bt ≠ bw ∧ bl ≠ bw :=
  ⟨h.t.ne h.l (by decide), h.t.ne h.w (by decide), h.l.ne h.w (by decide)⟩

theorem T8.alloc {w : World} {bt bl bw : Nat} {kd : Option Nat} {base : Nat} {ls : List Lf} {ws : List Nat} {n : Int} (h : T8 w bt bl bw kd base ls ws n) (o : Obj) : T8 (w.alloc o) bt bl bw kd base ls ws n :=
  ⟨h.t.alloc o, h.l.alloc o, h.w.alloc o⟩

theorem T8.drew {w : World} {bt bl bw : Nat} {kd : Option Nat} {base : Nat} {ls : List Lf} {ws : List Nat} {n : Int} (h : T8 w bt bl bw kd base ls ws n) : T8 w.drew bt bl bw kd base ls ws n :=
  ⟨h.t, h.l, h.w⟩

theorem T8.kept {S : List Nat} {w w' : World} {bt bl bw : Nat} {kd : Option Nat} {base : Nat} {ls : List Lf} {ws : List Nat} {n : Int} (h : T8 w bt bl bw kd base ls ws n) (k : Kept S w w') (hS : bt ∉ S ∧ bl ∉ S ∧ bw ∉ S) : T8 w' bt bl bw kd base ls ws n :=
  ⟨h.t.kept k hS.1, h.l.kept k hS.2.1, h.w.kept k hS.2.2⟩

theorem T8.setN {w : World} {bt bl bw : Nat} {kd : Option Nat} {base : Nat} {ls : List Lf} {ws : List Nat} {n : Int} (h : T8 w bt bl bw kd base ls ws n) (n' : Int) : T8 (w.setCell ⟨bt, 4, none⟩ (.int .i64 n')) bt bl bw kd base ls ws n' :=
  ⟨h.t.set 4 _, h.l.setOther (Ne.symm h.ne.1) _, h.w.setOther (Ne.symm h.ne.2.1) _⟩

theorem T8.setWin {w : World} {bt bl bw : Nat} {kd : Option Nat} {base : Nat} {ls : List Lf} {ws : List Nat} {n : Int} (h : T8 w bt bl bw kd base ls ws n) (a v : Nat) : T8 (w.setCell ⟨bw, a, none⟩ (.int .i64 v)) bt bl bw kd base ls (ws.set a v) n := by
  refine ⟨?_, h.l.setOther h.ne.2.2 _, ?_⟩
  · have := h.t.setOther (a := ⟨bw, a, none⟩) h.ne.2.1 (.int .i64 v)
    simpa using this
  · have := h.w.set a (.int .i64 (v : Nat))
    rw [List.map_set]
    exact this

theorem lcells_set (ls : List Lf) (i : Nat) (x : Lf) (hi : i < ls.length) :
    lcells (ls.set i x) = (((lcells ls).set (i * 3) (.int .i64 x.k)).set (i * 3 + 1) (.int .i64 x.t)).set (i * 3 + 2) (.bool x.h) := by
  induction ls generalizing i with
  | nil => simp at hi
  | cons y ls ih =>
    cases i with
    | zero => rfl
    | succ i =>
      simp only [List.length_cons, Nat.add_lt_add_iff_right] at hi
      rw [List.set_cons_succ, lcells_cons, lcells_cons, ih i hi]
      rw [show (i + 1) * 3 = i * 3 + 1 + 1 + 1 by omega, show i * 3 + 1 + 1 + 1 + 1 = (i * 3 + 1) + 1 + 1 + 1 by omega, show i * 3 + 1 + 1 + 1 + 2 = (i * 3 + 2) + 1 + 1 + 1 by omega]
      simp only [List.set_cons_succ]

theorem T8.setLeaf {w : World} {bt bl bw : Nat} {kd : Option Nat} {base : Nat} {ls : List Lf} {ws : List Nat} {n : Int} (h : T8 w bt bl bw kd base ls ws n) (i : Nat) (x : Lf) (hi : i < ls.length) :
    T8 (((w.setCell ⟨bl, i * 3, none⟩ (.int .i64 x.k)).setCell ⟨bl, i * 3 + 1, none⟩ (.int .i64 x.t)).setCell ⟨bl, i * 3 + 2, none⟩ (.bool x.h)) bt bl bw kd base (ls.set i x) ws n := by
  refine ⟨?_, ?_, ((h.w.setOther (Ne.symm h.ne.2.2) _).setOther (Ne.symm h.ne.2.2) _).setOther (Ne.symm h.ne.2.2) _⟩
  · have := ((h.t.setOther (a := ⟨bl, i * 3, none⟩) h.ne.1 (.int .i64 x.k)).setOther (a := ⟨bl, i * 3 + 1, none⟩) h.ne.1 (.int .i64 x.t)).setOther (a := ⟨bl, i * 3 + 2, none⟩) h.ne.1 (.bool x.h)
    simpa using this
  · rw [lcells_set ls i x hi]
    exact ((h.l.set _ _).set _ _).set _ _

theorem Cnt.kept {S : List Nat} {w w' : World} {kd : Option Nat} {m : Nat} (h : Cnt w kd m) (k : Kept S w w') (hS : ∀ c, kd = some c → c ∉ S) : Cnt w' kd m := by
  cases kd with
  | none => exact trivial
  | some c => exact Arr.kept h k (hS c rfl)

theorem T8.cnt {w : World} {bt bl bw : Nat} {kd : Option Nat} {base : Nat} {ls : List Lf} {ws : List Nat} {n : Int} {m : Nat} (h : T8 w bt bl bw kd base ls ws n) (hk : Cnt w kd m) : ∀ c, kd = some c → c ≠ bt ∧ c ≠ bl ∧ c ≠ bw := by
  intro c hc
  subst hc
  exact ⟨Arr.ne hk h.t (by decide), Arr.ne hk h.l (by decide), Arr.ne hk h.w (by decide)⟩

theorem Cnt.drew {w : World} {kd : Option Nat} {m : Nat} (h : Cnt w kd m) : Cnt w.drew kd m := by
  cases kd with
  | none => exact trivial
  | some c => exact Arr.drew h

theorem Cnt.set3 {w : World} {kd : Option Nat} {m bt bl bw : Nat} (h : Cnt w kd m) (hne : ∀ c, kd = some c → c ≠ bt ∧ c ≠ bl ∧ c ≠ bw) {o1 o2 o3 : Nat} {v1 v2 v3 : Value} : Cnt (((w.setCell ⟨bl, o1, none⟩ v1).setCell ⟨bl, o2, none⟩ v2).setCell ⟨bl, o3, none⟩ v3).drew kd m := by
  cases kd with
  | none => exact trivial
  | some c => exact ((Arr.setOther (Arr.setOther (Arr.setOther h (hne c rfl).2.1 _) (hne c rfl).2.1 _) (hne c rfl).2.1 _))

theorem half_lt {a s j : Nat} (h1 : a < 2 ^ (s - j)) (h2 : 0 < a) : j + 1 ≤ s ∧ a / 2 < 2 ^ (s - (j + 1)) := by
  have hj : j + 1 ≤ s := by
    rcases Nat.lt_or_ge j s with h | h
    · exact h
    · rw [Nat.sub_eq_zero_of_le h] at h1; simp at h1; omega
  refine ⟨hj, ?_⟩
  rw [show s - j = s - (j + 1) + 1 by omega, Nat.pow_succ] at h1
  omega

def PutPost (w : World) (bt bl bw : Nat) (kd : Option Nat) (m base s : Nat) (ls : List Lf) (i : Nat) (x : Lf) (w' : World) : Prop :=
  ∃ ws' m', T8 w' bt bl bw kd base (ls.set i x) ws' (cntH (ls.set i x)) ∧ Cnt w' kd m' ∧ m ≤ m' ∧ m' ≤ m + s ∧ Wins (ls.set i x) base ws' ∧ Kept (bt :: bl :: bw :: kd.toList) w w'

set_option maxHeartbeats 800000 in
set_option maxRecDepth 100000 in
theorem put_ok (w : World) (bt bl bw : Nat) (kd : Option Nat) (m : Nat) (base s : Nat) (ls : List Lf) (ws : List Nat) (h : T8 w bt bl bw kd base ls ws (cntH ls)) (hk : Cnt w kd m) (hm : m ≤ 900000)
   (hW : Wins ls base ws) (hb : base = 2 ^ s) (hs : s ≤ 6) (hl : ls.length ≤ base) (i : Nat) (hi : i < ls.length) (x : Lf) :
   Calls Try.prog 26 #[.pointer (some ⟨bt, 0, none⟩), .int .i64 i, .agg #[.int .i64 x.k, .int .i64 x.t, .bool x.h]] w fun e w' => e = .returned (.int .i64 0) ∧ PutPost w bt bl bw kd m base s ls i x w' := by
  have hb64 : base ≤ 64 := by rw [hb]; exact Nat.pow_le_pow_right (by omega) hs
  obtain ⟨y, hy⟩ : ∃ y, ls[i]? = some y := ⟨ls[i], by simp [hi]⟩
  have hcs := cntH_set ls i x y hy
  have hc1 := cntH_le ls
  have c1 := h.t.cell (i := 1) rfl
  have c4 := h.t.cell (i := 4) rfl
  have f4 := h.t.free 4
  have y2 := h.l.cell (lcells_at ls i y hy).2.2
  have l1 := h.t.lt
  have le64 : ls.length ≤ 64 := by omega
  have l2 := h.l.lt
  have hi0 : (0 : Int) ≤ (i : Int) := Int.natCast_nonneg _
  have hi1 : (i : Int) < (ls.length : Int) := by omega
  have hyc : y.h = true → 0 < cntH ls := cntH_pos_of hy
  have hd1 : decide ((i : Int) < 0) = false := by simp
  have hd2 : decide (ls.length ≤ i) = false := by simpa using hi
  have H := Lib.hid h
  have HC := Lib.hid hcs
  have HY := Lib.hid hyc
  have HK := Lib.hid hk
  have HW := Lib.hid hW
  have hb' := Lib.hid hb
  generalize hnn : cntH ls = N at *
  have Hnn := Lib.hid hnn
  have HYy := Lib.hid hy
  clear h hcs hyc hk hW hb hy hnn
  go_enter Try.func26, Try.ntmps26
  go_upto_if 30 with fail
  go_cut [] (fun wx => Hid (T8 wx bt bl bw kd base ls ws (N - (if y.h then 1 else 0)) ∧ Kept [bt] w wx ∧ Arr wx w.heap.size 64 [.int .i64 x.k, .int .i64 x.t, .bool x.h]))
  case first =>
    go_wp2
    · rename_i hyt
      have hpos := HY.out hyt
      go_meet
      case rel =>
        refine ⟨?_, ?_, ?_⟩
        · rw [hyt]; exact (H.out.setN _).alloc _
        · exact ((Kept.refl _ _).setCell (.inl (by simp)) _).alloc _
        · exact Arr.new' (by simp) rfl
    · rename_i hyt
      go_meet
      case rel =>
        refine ⟨?_, ?_, ?_⟩
        · rw [hyt]; simpa using H.out.alloc _
        · exact (Kept.refl _ _).alloc _
        · exact Arr.new' (by simp) rfl
  case rest =>
    have r1 := hcut.out.1
    have r2 := hcut.out.2.1
    have r3 := hcut.out.2.2
    have b2 := r3.cell (i := 2) rfl
    have d4 := r1.t.cell (i := 4) rfl
    have e4 := r1.t.free 4
    have lw := r1.t.lt
    have lx := r3.lt
    have nbt : bt ≠ w.heap.size := by omega
    have hbd : -1 ≤ (N : Int) - (if y.h then 1 else 0) ∧ (N : Int) - (if y.h then 1 else 0) ≤ 64 := by split <;> omega
    generalize hN1 : (N : Int) - (if y.h then 1 else 0) = N1 at *
    have HN1 := Lib.hid hN1
    have R1 := Lib.hid r1
    have R2 := Lib.hid r2
    have R3 := Lib.hid r3
    obtain ⟨hbd1, hbd2⟩ := hbd
    clear r1 r2 r3 hN1 c1 c4 f4 y2 l1
    clear hcut
    go_upto_if 39 with fail
    go_cut [] (fun wx => Hid (T8 wx bt bl bw kd base ls ws (cntH (ls.set i x)) ∧ Kept [bt] w wx ∧ Arr wx w.heap.size 64 [.int .i64 x.k, .int .i64 x.t, .bool x.h]))
    case first =>
      go_wp2
      · rename_i hxt
        go_meet
        case rel =>
          refine ⟨?_, ?_, ?_⟩
          · rw [HC.out, if_pos hxt]; exact R1.out.setN _
          · exact R2.out.setCell (.inl (by simp)) _
          · exact R3.out.setOther (by simp; omega) _
      · rename_i hxt
        go_meet
        case rel =>
          refine ⟨?_, ?_, ?_⟩
          · rw [HC.out, hxt]; simpa using R1.out
          · exact R2.out
          · exact R3.out
    case rest =>
      have q1 := hcut.out.1
      have q2 := hcut.out.2.1
      have q3 := hcut.out.2.2
      clear hcut R1 R2 R3 HN1 hbd1 hbd2 b2 d4 e4 lx
      have c1 := q1.t.cell (i := 1) rfl
      have c2 := q1.t.cell (i := 2) rfl
      have b0 := q3.cell (i := 0) rfl
      have b1 := q3.cell (i := 1) rfl
      have b2 := q3.cell (i := 2) rfl
      have x0 := q1.l.cell (lcells_at ls i y HYy.out).1
      have x1 := q1.l.cell (lcells_at ls i y HYy.out).2.1
      have x2 := q1.l.cell (lcells_at ls i y HYy.out).2.2
      have z0 := q1.l.free (i * 3)
      have z1 := q1.l.free (i * 3 + 1)
      have z2 := q1.l.free (i * 3 + 2)
      have nbl : bl ≠ w.heap.size := by omega
      have nn := q1.ne.1
      have Q1 := Lib.hid (q1.setLeaf i x hi)
      have Q2 := Lib.hid q2
      clear q1 q2 q3
      go_wp2
      go_region
      go_wp2
      generalize hs' : 2 ^ s = B at *
      go_loopg [7] ((base + i) / 2) (fun a v wr => v = .int .i64 a ∧ Hid (∃ (j : Nat) (ws' : List Nat) (m' : Nat), a < 2 ^ (s - j) ∧ j ≤ s ∧ T8 wr bt bl bw kd base (ls.set i x) ws' (cntH (ls.set i x)) ∧ WB (ls.set i x) base ws' a ∧ Cnt wr kd m' ∧ m ≤ m' ∧ m' ≤ m + j ∧ Kept (bt :: bl :: bw :: kd.toList) w wr))
      case atStart =>
        refine ⟨?_, 0, ws, m, ?_, by omega, Q1.out.drew, HW.out.set i x, ?_, Nat.le_refl _, by omega, ?_⟩
        · simp
        · have := hb'.out; rw [Nat.sub_zero, hs']; omega
        · exact HK.out.kept Q2.out (S := [bt]) (by intro c hc; have := (H.out.cnt HK.out) c hc; simp; exact this.1) |>.set3 (H.out.cnt HK.out)
        · exact ((((Q2.out.mono (by intro k _ hk; simp at hk; simp [hk])).setCell (.inl (by simp)) _).setCell (.inl (by simp)) _).setCell (.inl (by simp)) _).drew
      case round =>
        obtain ⟨rfl, hr⟩ := hrel
        obtain ⟨j, ws', m', g1, g2, g3, g4, g5, g6, g7, g8⟩ := hr.out
        clear hr
        generalize gk = a at *
        by_cases ha : 0 < a
        · have g1' : a < base := by rw [hb'.out, ← hs']; exact Nat.lt_of_lt_of_le g1 (Nat.pow_le_pow_right (by omega) (by omega))
          obtain ⟨p, hp, hp'⟩ := g4.get (2 * a) (by omega)
          obtain ⟨q, hq, hq'⟩ := g4.get (2 * a + 1) (by omega)
          obtain ⟨r, hr, hr'⟩ := g4.get a (by omega)
          have hlen : (2 * (a : Int) + 1) < (ws'.length : Int) := by rw [g4.len]; omega
          have k1 := g3.t.cell (i := 3) rfl
          have k2 := g3.w.cell (i := 2 * a) (v := .int .i64 p) (by simp [hp])
          have k3 := g3.w.cell (i := 2 * a + 1) (v := .int .i64 q) (by simp [hq])
          have ha0 : (0 : Int) < (a : Int) := by omega
          have hlen2 : (2 * (a : Int)) < (ws'.length : Int) := by omega
          have hlen3 : ((a : Int)) < (ws'.length : Int) := by omega
          have k4 := g3.w.cell (i := a) (v := .int .i64 r) (by simp [hr])
          have k5 := g3.w.free a
          have lt1 := g3.t.lt
          have lt3 := g3.w.lt
          have nt0 := g3.ne.2.1
          have nt1 : bt ∉ kd.toList := by intro hh; cases hkd : kd with
            | none => rw [hkd] at hh; simp at hh
            | some c => rw [hkd] at hh; simp at hh; exact (g3.cnt g5 c hkd).1 hh.symm
          have nt2 : bl ∉ kd.toList := by intro hh; cases hkd : kd with
            | none => rw [hkd] at hh; simp at hh
            | some c => rw [hkd] at hh; simp at hh; exact (g3.cnt g5 c hkd).2.1 hh.symm
          have nt3 : bw ∉ kd.toList := by intro hh; cases hkd : kd with
            | none => rw [hkd] at hh; simp at hh
            | some c => rw [hkd] at hh; simp at hh; exact (g3.cnt g5 c hkd).2.2 hh.symm
          have G3 := Lib.hid g3
          have G4 := Lib.hid g4
          have G5 := Lib.hid g5
          have G8 := Lib.hid g8
          have HP := Lib.hid hp
          have HQ := Lib.hid hq
          have HR := Lib.hid hr
          clear g3 g4 g5 g8 hp hq hr
          have v1 : (0 : Int) ≤ 2 * (a : Int) := by omega
          have v2 : (0 : Int) ≤ 2 * (a : Int) + 1 := by omega
          have v3 : IntKind.i64.wrap (2 * (a : Int)) = 2 * (a : Int) := IntWalk.i64_in _ (by omega)
          have v4 : IntKind.i64.wrap (2 * (a : Int) + 1) = 2 * (a : Int) + 1 := IntWalk.i64_in _ (by omega)
          have v5 : (2 * (a : Int)).toNat = 2 * a := by omega
          have v6 : (2 * (a : Int) + 1).toNat = 2 * a + 1 := by omega
          go_wp2
          go_region_held3 (fun w' => w'.cell? ⟨bt, 3, none⟩ = some (.slice (some ⟨bw, 0, none⟩) ws'.length ws'.length) ∧ w'.cell? ⟨bw, 2 * a, none⟩ = some (.int .i64 p) ∧ w'.cell? ⟨bw, 2 * a + 1, none⟩ = some (.int .i64 q)) (first | go_keep | exact ⟨(hkp.cell lt1 nt1).trans k1, (hkp.cell lt3 nt3).trans k2, (hkp.cell lt3 nt3).trans k3⟩ | exact ⟨by rw [World.cell?_setCell_other _ _ _ _ (by simp <;> omega)]; exact (hkp.cell lt1 nt1).trans k1, by rw [World.cell?_setCell_other _ _ _ _ (by simp <;> omega)]; exact (hkp.cell lt3 nt3).trans k2, by rw [World.cell?_setCell_other _ _ _ _ (by simp <;> omega)]; exact (hkp.cell lt3 nt3).trans k3⟩)
            (first | (go_at_call 25; refine (better_any _ bt bl bw kd m' base (ls.set i x) ws' _ G3.out.drew G5.out.drew (by omega) p q (by omega) (by omega) (by simpa using le64)).mono ?_; rintro e w' ⟨rfl, hkp, m'', hm1, hm2, hcn⟩; have st1 := (hkp.cell lt3 nt3).trans k4; have st2 := (hkp.frozen lt3 nt3).trans k5))
          go_wp2
          have hj := half_lt g1 ha
          go_roundg (a / 2)
          case measure => omega
          case rel =>
            refine ⟨by simp, j + 1, ws'.set a (bet (ls.set i x) p q), m'', hj.2, hj.1, ?_, G4.out.step (by omega) g1' HP.out HQ.out, ?_, by omega, by omega, ?_⟩
            · exact ((G3.out.drew.kept hkp ⟨nt1, nt2, nt3⟩).setWin a _)
            · cases kd with
              | none => exact trivial
              | some c => exact Arr.setOther hcn ((G3.out.cnt G5.out) c rfl).2.2 _
            · exact (G8.out.drew.trans (hkp.mono (by intro k _ hk; simp at hk; simp [hk]))).setCell (.inl (by simp)) _
        · have ha' : a = 0 := by omega
          subst ha'
          go_wp2
          go_ret
          refine ⟨rfl, ws', m', g3, g5, g6, by omega, g4, g8⟩
end Go.Proofs.Ytjedpimoemapfaa
