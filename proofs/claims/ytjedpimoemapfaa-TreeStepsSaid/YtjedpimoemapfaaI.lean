/- The step of Merge -/
import Derived.Test.YtjedpimoemapfaaF
import Derived.Test.YtjedpimoemapfaaH
namespace Go.Proofs.Ytjedpimoemapfaa
open Go.RowKit

/-- The variables that Merge's step has captured. -/
structure MV (w : World) (va vl vt bt bn : Nat) (v : Value) (ats : List Nat) : Prop where
  at' : Arr w va 58 [.slice (some ⟨bn, 0, none⟩) ats.length ats.length]
  l : Arr w vl 40 [v]
  t : Arr w vt 23 [.pointer (some ⟨bt, 0, none⟩)]
  n : Arr w bn 3 (ats.map fun i : Nat => Value.int .i64 (i : Int))

theorem MV.kept {S : List Nat} {w w' : World} {va vl vt bt bn : Nat} {v : Value} {ats : List Nat} (h : MV w va vl vt bt bn v ats) (k : Kept S w w') (hS : va ∉ S ∧ vl ∉ S ∧ vt ∉ S ∧ bn ∉ S) : MV w' va vl vt bt bn v ats :=
  ⟨h.at'.kept k hS.1, h.l.kept k hS.2.1, h.t.kept k hS.2.2.1, h.n.kept k hS.2.2.2⟩

theorem MV.setN {w : World} {va vl vt bt bn : Nat} {v : Value} {ats : List Nat} (h : MV w va vl vt bt bn v ats) (i x : Nat) : MV (w.setCell ⟨bn, i, none⟩ (.int .i64 x)) va vl vt bt bn v (ats.set i x) := by
  refine ⟨?_, h.l.setOther (h.l.ne h.n (by decide)) _, h.t.setOther (h.t.ne h.n (by decide)) _, ?_⟩
  · have := h.at'.setOther (a := ⟨bn, i, none⟩) (h.at'.ne h.n (by decide)) (.int .i64 x); simpa using this
  · have := h.n.set i (.int .i64 (x : Nat))
    rw [List.map_set]
    exact this

theorem TOk.drewN {w : World} {bt bl bw : Nat} {kd : Option Nat} {m base s : Nat} {ls : List Lf} {ws : List Nat} (h : TOk w bt bl bw kd m base s ls ws) (n : Nat) : TOk (w.drewN n) bt bl bw kd m base s ls ws :=
  h.kept0 ((Kept.refl _ _).drewN n)

theorem TOk.zero {w : World} {bt bl bw : Nat} {m base s : Nat} {ls : List Lf} {ws : List Nat} (h : TOk w bt bl bw none m base s ls ws) : TOk w bt bl bw none 0 base s ls ws :=
  ⟨h.t8, trivial, h.wins, h.hb, h.hs, h.len⟩

def StepPost (w : World) (va vl vt bt bl bw bn : Nat) (s : Nat) (v : Value) (ls : List Lf) (ats : List Nat) (i : Nat) (x : Lf) (j : Nat) (w' : World) : Prop :=
  ∃ ws', TOk w' bt bl bw none 0 (2 ^ s) s (ls.set i x) ws' ∧ MV w' va vl vt bt bn v (ats.set i j) ∧ Kept [bt, bl, bw, bn] w w'

theorem MV.apart {w : World} {va vl vt bt bl bw bn : Nat} {v : Value} {ats : List Nat} {kd : Option Nat} {m base s : Nat} {ls : List Lf} {ws : List Nat} (h : MV w va vl vt bt bn v ats) (ht : TOk w bt bl bw kd m base s ls ws) (hn : bn ≠ bw) :
    (va ∉ [bt, bl, bw] ∧ vl ∉ [bt, bl, bw] ∧ vt ∉ [bt, bl, bw] ∧ bn ∉ [bt, bl, bw]) := by
  simp only [List.mem_cons, List.not_mem_nil, or_false, not_or]
  exact ⟨⟨h.at'.ne ht.t8.t (by decide), h.at'.ne ht.t8.l (by decide), h.at'.ne ht.t8.w (by decide)⟩, ⟨h.l.ne ht.t8.t (by decide), h.l.ne ht.t8.l (by decide), h.l.ne ht.t8.w (by decide)⟩,
    ⟨h.t.ne ht.t8.t (by decide), h.t.ne ht.t8.l (by decide), h.t.ne ht.t8.w (by decide)⟩, ⟨h.n.ne ht.t8.t (by decide), h.n.ne ht.t8.l (by decide), hn⟩⟩

set_option maxHeartbeats 800000 in
theorem step_any (w0 w : World) (va vl vt bt bl bw bn : Nat) (s : Nat) (v : Value) (rows : List (List Pr)) (ls : List Lf) (ws ats : List Nat) (ht : TOk w bt bl bw none 0 (2 ^ s) s ls ws)
    (hm : MV w va vl vt bt bn v ats) (hr : RowsAt w0 v rows) (hk0 : Kept [] w0 w) (hbt : w0.heap.size ≤ bt) (hbl : w0.heap.size ≤ bl) (hbw : w0.heap.size ≤ bw) (hn : bn ≠ bw) (i j : Nat) (ps : List Pr) (hi : i < ls.length) (hj : ats[i]? = some j) (hps : rows[i]? = some ps) (hjp : j ≤ ps.length) (hb : ps.length ≤ 8796093022208) :
    Calls Try.prog 28 #[.int .i64 i, .pointer (some ⟨va, 0, none⟩), .pointer (some ⟨vl, 0, none⟩), .pointer (some ⟨vt, 0, none⟩)] w
      fun e w' => e = .returned (.tuple #[]) ∧ StepPost w va vl vt bt bl bw bn s v ls ats i (leafAt ps j) (if j < ps.length then j + 1 else j) w' := by
  have hap := hm.apart ht hn
  have hal : i < ats.length := by rcases Nat.lt_or_ge i ats.length with h | h; exact h; simp [List.getElem?_eq_none h] at hj
  have hrl : i < rows.length := by rcases Nat.lt_or_ge i rows.length with h | h; exact h; simp [List.getElem?_eq_none h] at hps
  obtain ⟨a, cap, rfl, hr'⟩ := hr
  obtain ⟨b, o, rv, rfl, hbs, hrv, a2, cap2, rfl, hel⟩ := hr' i ps hps
  have hrv := (hk0.cell hbs (by simp)).trans hrv
  have a0 := hm.at'.cell (i := 0) rfl
  have l0 := hm.l.cell (i := 0) rfl
  have t0 := hm.t.cell (i := 0) rfl
  have n0 := hm.n.cell (i := i) (v := .int .i64 j) (by simp [hj])
  have fn := hm.n.free i
  have hi0 : (0 : Int) ≤ (i : Int) := by omega
  have hi1 : (i : Int) < (ats.length : Int) := by omega
  have hi2 : (i : Int) < (rows.length : Int) := by omega
  have HT := Lib.hid ht
  have HM := Lib.hid hm
  have HAP := Lib.hid hap
  have HJ := Lib.hid hj
  have HE := Lib.hid hel
  have HR := Lib.hid hr'
  have HK0 := Lib.hid hk0
  clear ht hm hap hj hps hr' hel hk0
  by_cases hlt : j < ps.length
  · have hlt1 : (j : Int) < (ps.length : Int) := by omega
    have hj0 : (0 : Int) ≤ (j : Int) := by omega
    obtain ⟨p, hp⟩ : ∃ p, ps[j]? = some p := ⟨ps[j], by simp [hlt]⟩
    obtain ⟨b2, o2, rfl, hbs2, p0, p1⟩ := HE.out j p hp
    have p0 := (HK0.out.cell hbs2 (by simp)).trans p0
    have p1 := (HK0.out.cell hbs2 (by simp)).trans p1
    have hle : leafAt ps j = ⟨p.k, p.t, true⟩ := by simp [leafAt, hp]
    rw [hle, if_pos hlt]
    have k1 := HK0.out.size
    have na := HM.out.at'.lt
    have nl := HM.out.l.lt
    have nt := HM.out.t.lt
    have nn := HM.out.n.lt
    have nb1 : b ∉ [bt, bl, bw] := by simp; omega
    have nb2 : b2 ∉ [bt, bl, bw] := by simp; omega
    have zb : b < w.heap.size := by omega
    have zb2 : b2 < w.heap.size := by omega
    clear hle hp
    go_enter Try.func28, Try.ntmps28
    go_wp2
    go_quiet (fail)
    go_wp2
    go_region_held3 (fun w' => w'.cell? ⟨va, 0, none⟩ = some (.slice (some ⟨bn, 0, none⟩) ats.length ats.length) ∧ w'.cell? ⟨vl, 0, none⟩ = some (.slice (some ⟨b, o, none⟩) rows.length cap) ∧ w'.cell? ⟨vt, 0, none⟩ = some (.pointer (some ⟨bt, 0, none⟩)) ∧
        w'.cell? ⟨bn, i, none⟩ = some (.int .i64 j) ∧ w'.cell? ⟨b, o + i, none⟩ = some (.slice (some ⟨b2, o2, none⟩) ps.length cap2) ∧ w'.cell? ⟨b2, o2 + j * 2, none⟩ = some (.int .i64 p.k) ∧ w'.cell? ⟨b2, o2 + j * 2 + 1, none⟩ = some (.int .i64 p.t))
      (first | go_keep | exact ⟨s1, s2, s3, s4, s5, s6, s7⟩)
      (first | (go_at_call 11; refine (set_ok _ bt bl bw none 0 _ s ls ws (HT.out.drewN _).drew (by omega) i hi p.k p.t).mono ?_; rintro e w' ⟨rfl, ws', m', hT', _, _, hkp⟩; have s1 := (hkp.cell na HAP.out.1).trans a0; have s2 := (hkp.cell nl HAP.out.2.1).trans l0; have s3 := (hkp.cell nt HAP.out.2.2.1).trans t0; have s4 := (hkp.cell nn HAP.out.2.2.2).trans n0; have s5 := (hkp.cell zb nb1).trans hrv; have s6 := (hkp.cell zb2 nb2).trans p0; have s7 := (hkp.cell zb2 nb2).trans p1))
    have fn' := (hkp.frozen nn HAP.out.2.2.2).trans fn
    go_wp2
    go_end0
    refine ⟨rfl, ws', ?_, ?_, ?_⟩
    · exact hT'.zero.kept ((Kept.refl [bn] _).setCell (.inl (by simp)) _) (by simpa using ⟨Ne.symm (HM.out.n.ne HT.out.t8.t (by decide)), Ne.symm (HM.out.n.ne HT.out.t8.l (by decide)), Ne.symm hn⟩)
    · have hmk := (HM.out.kept ((Kept.refl [] _).drewN _ |>.drew) (by simp)).kept hkp (by simpa using HAP.out)
      have := hmk.setN i (j + 1)
      simpa using this
    · exact ((((Kept.refl _ _).drewN _).drew.trans (hkp.mono (by intro k _ hk; simp at hk ⊢; omega)))).setCell (.inl (by simp)) _
  · obtain rfl : j = ps.length := by omega
    have hle : leafAt ps ps.length = ⟨0, 0, false⟩ := by simp [leafAt]
    rw [hle, if_neg hlt]
    have hset : ats.set i ps.length = ats := by
      apply List.ext_getElem?
      intro k
      by_cases e : i = k
      · subst e; rw [List.getElem?_set_self hal, HJ.out]
      · rw [List.getElem?_set_ne e]
    rw [show StepPost w va vl vt bt bl bw bn s (.slice (some ⟨b, o, none⟩) rows.length cap) ls ats i ⟨0, 0, false⟩ ps.length = fun w' => StepPost w va vl vt bt bl bw bn s (.slice (some ⟨b, o, none⟩) rows.length cap) ls ats i ⟨0, 0, false⟩ ps.length w' from rfl]
    go_enter Try.func28, Try.ntmps28
    go_wp2
    go_quiet (fail)
    go_wp2_with (go_at_call 12; refine (clear_ok _ bt bl bw none 0 _ s ls ws (HT.out.drewN _) (by omega) i hi).mono ?_; rintro e w' ⟨rfl, ws', m', hT', _, _, hkp⟩)
    go_end0
    refine ⟨rfl, ws', ?_, ?_, ?_⟩
    · exact hT'.zero
    · rw [hset]
      exact (HM.out.kept ((Kept.refl [] _).drewN _) (by simp)).kept hkp (by simpa using HAP.out)
    · exact (((Kept.refl _ _).drewN _).trans (hkp.mono (by intro k _ hk; simp at hk ⊢; omega)))

end Go.Proofs.Ytjedpimoemapfaa
