/- OrderEdges, walked. -/
import Derived.Test.YtnfdbbjemlehnaaDoorTurn
import Derived.StillTailTactics
namespace Go.Proofs.YtnfdbbjemlehnaaDoor
open Go.RowKit

theorem tcells_len : ∀ l : List Pr, (tcells l).length = l.length * 2
  | [] => rfl
  | p :: r => by simp only [tcells, List.length_cons, tcells_len r]; omega
theorem tcells_get : ∀ (l : List Pr) (j : Nat) (u : Value), (tcells l)[j]? = some u → ∃ i p, l[i]? = some p ∧ ((j = i * 2 ∧ u = .int .i64 p.k) ∨ (j = i * 2 + 1 ∧ u = .int .i64 p.t))
  | [], j, u, h => by simp [tcells] at h
  | p :: r, 0, u, h => by simp [tcells] at h; exact ⟨0, p, rfl, .inl ⟨rfl, h.symm⟩⟩
  | p :: r, 1, u, h => by simp [tcells] at h; exact ⟨0, p, rfl, .inr ⟨rfl, h.symm⟩⟩
  | p :: r, j + 2, u, h => by
    simp only [tcells, List.getElem?_cons_succ] at h
    obtain ⟨i, q, h1, h2⟩ := tcells_get r j u h
    refine ⟨i + 1, q, by simpa using h1, ?_⟩
    rcases h2 with ⟨a, b⟩ | ⟨a, b⟩
    · exact .inl ⟨by omega, b⟩
    · exact .inr ⟨by omega, b⟩

theorem pairs_news {w : World} {v : Value} {ps : List Pr} (h : PairsAt w v ps) (hp : 0 < ps.length) : ∃ b o cap, v = .slice (some ⟨b, o, none⟩) ps.length cap ∧ b < w.heap.size ∧ ∀ j u, (tcells ps)[j]? = some u → w.cell? ((⟨b, o, none⟩ : Addr).add j) = some u := by
  obtain ⟨a, cap, rfl, hc⟩ := h
  obtain ⟨p, h0⟩ : ∃ p, ps[0]? = some p := ⟨ps[0], by simp [hp]⟩
  obtain ⟨b, o, rfl, hb, _, _⟩ := hc 0 p h0
  refine ⟨b, o, cap, rfl, hb, fun j u hu => ?_⟩
  obtain ⟨i, q, h1, h2⟩ := tcells_get ps j u hu
  obtain ⟨b', o', he, _, q0, q1⟩ := hc i q h1
  simp only [Option.some.injEq, Addr.mk.injEq, and_true] at he
  obtain ⟨rfl, rfl⟩ := he
  rw [add_none]
  rcases h2 with ⟨rfl, rfl⟩ | ⟨rfl, rfl⟩
  · exact q0
  · exact q1

/-- A row of pairs of one's own, one of which is stored anew. -/
theorem row_set {w : World} {base g cap T : Nat} {ps : List Pr} (h : w.ownsRow base T 2 (.slice (some ⟨g, 0, none⟩) ps.length cap) ps.length (tcells ps)) (i : Nat) (p : Pr) (hi : i < ps.length) :
    PairsAt ((w.setCell ⟨g, i * 2, none⟩ (.int .i64 p.k)).setCell ⟨g, i * 2 + 1, none⟩ (.int .i64 p.t)) (.slice (some ⟨g, 0, none⟩) ps.length cap) (ps.set i p) := by
  obtain ⟨h1, h2⟩ := h
  rcases h2 with ⟨hv, _⟩ | ⟨g', cap', cur, hv, hg, hh, hn, hc, hs, ht⟩
  · simp at hv
  · simp only [Value.slice.injEq, Option.some.injEq, Addr.mk.injEq, and_true] at hv
    obtain ⟨rfl, _, rfl⟩ := hv
    have A : Arr w g T cur.toList := by unfold Arr; simpa using hh
    have A2 := (A.set (i * 2) (.int .i64 p.k)).set (i * 2 + 1) (.int .i64 p.t)
    have hcl : cur.toList.length = cap * 2 := by simpa using hs
    have hget : ∀ (j : Nat) (u : Value), (tcells ps)[j]? = some u → cur.toList[j]? = some u := by
      intro j u hu
      rw [← ht, List.getElem?_take] at hu
      split at hu
      · exact hu
      · simp at hu
    refine ⟨some ⟨g, 0, none⟩, cap, by simp, fun j q hq => ⟨g, 0, rfl, A2.lt, ?_, ?_⟩⟩
    · rw [Nat.zero_add]
      refine A2.cell ?_
      rw [List.getElem?_set_ne (by omega)]
      by_cases e : j = i
      · subst e
        rw [List.getElem?_set_self (by omega)] at hq
        simp at hq; subst hq
        rw [List.getElem?_set_self (by omega)]
      · rw [List.getElem?_set_ne (by omega)] at hq
        rw [List.getElem?_set_ne (by omega)]
        exact hget _ _ (tcells_at ps j q hq).1
    · rw [Nat.zero_add]
      refine A2.cell ?_
      by_cases e : j = i
      · subst e
        rw [List.getElem?_set_self (by omega)] at hq
        simp at hq; subst hq
        rw [List.getElem?_set_self (by simp; omega)]
      · rw [List.getElem?_set_ne (by omega)] at hq
        rw [List.getElem?_set_ne (by omega), List.getElem?_set_ne (by omega)]
        exact hget _ _ (tcells_at ps j q hq).2

theorem row_free {w : World} {base g cap T n : Nat} {xs : List Value} (h : w.ownsRow base T 2 (.slice (some ⟨g, 0, none⟩) n cap) n xs) (o : Nat) : w.frozen? ⟨g, o, none⟩ = false := by
  obtain ⟨h1, h2⟩ := h
  rcases h2 with ⟨hv, _⟩ | ⟨g', cap', cur, hv, hg, hh, hn, hc, hs, ht⟩
  · simp at hv
  · simp only [Value.slice.injEq, Option.some.injEq, Addr.mk.injEq, and_true] at hv
    obtain ⟨rfl, _, rfl⟩ := hv
    have A : Arr w g T cur.toList := by unfold Arr; simpa using hh
    exact A.free o

theorem row_cell {w : World} {base g cap T n : Nat} {xs : List Value} (h : w.ownsRow base T 2 (.slice (some ⟨g, 0, none⟩) n cap) n xs) (j : Nat) (u : Value) (hu : xs[j]? = some u) : w.cell? ⟨g, j, none⟩ = some u := by
  obtain ⟨h1, h2⟩ := h
  rcases h2 with ⟨hv, _⟩ | ⟨g', cap', cur, hv, hg, hh, hn, hc, hs, ht⟩
  · simp at hv
  · simp only [Value.slice.injEq, Option.some.injEq, Addr.mk.injEq, and_true] at hv
    obtain ⟨rfl, _, rfl⟩ := hv
    have A : Arr w g T cur.toList := by unfold Arr; simpa using hh
    refine A.cell ?_
    rw [← ht, List.getElem?_take] at hu
    split at hu
    · exact hu
    · simp at hu

theorem Tryd.info39 : (Tryd.prog.info? 39).map (fun i => (i.zero, i.size, i.bytes)) = some (some (.agg #[.int .i64 0, .int .i64 0]), 2, 16) := by kernel_rfl

set_option maxHeartbeats 6400000 in
set_option maxRecDepth 100000 in
theorem edges_any (w : World) (lv ev : Value) (gs es : List Pr) (turn : Int) (h : JAt w lv ev gs es) (ht : Tab w) : Calls Tryd.prog 5 #[lv, ev, .int .i64 turn] w (TruePost w) := by
  have HJ := Lib.hid h
  have HT := Lib.hid ht
  obtain ⟨⟨al, cl, rfl, _⟩, hE⟩ := h
  by_cases h1 : (20 : Int) < (gs.length : Int)
  · obtain ⟨ae, ce, rfl, _⟩ := hE
    clear ht
    go_enter Tryd.func5, Tryd.ntmps5
    go_wp2_with fail
    refine (lives_any _ HT.out).mono ?_
    rintro e w2 ⟨rfl, hk⟩
    have HK2 := Lib.hid hk
    clear hk
    go_wp2_with fail
    go_ret
    exact ⟨rfl, HK2.out⟩
  by_cases h2 : (40 : Int) < (es.length : Int)
  · obtain ⟨ae, ce, rfl, _⟩ := hE
    clear ht
    go_enter Tryd.func5, Tryd.ntmps5
    go_wp2_with fail
    refine (lives_any _ HT.out).mono ?_
    rintro e w2 ⟨rfl, hk⟩
    have HK2 := Lib.hid hk
    clear hk
    go_wp2_with fail
    go_ret
    exact ⟨rfl, HK2.out⟩
  by_cases h3 : turn < 0
  · obtain ⟨ae, ce, rfl, _⟩ := hE
    clear ht
    go_enter Tryd.func5, Tryd.ntmps5
    go_wp2_with fail
    refine (lives_any _ HT.out).mono ?_
    rintro e w2 ⟨rfl, hk⟩
    have HK2 := Lib.hid hk
    clear hk
    go_wp2_with fail
    go_ret
    exact ⟨rfl, HK2.out⟩
  obtain ⟨k, rfl⟩ := Int.eq_ofNat_of_zero_le (show 0 ≤ turn by omega)
  by_cases h4 : (es.length : Int) ≤ (k : Int)
  · obtain ⟨ae, ce, rfl, _⟩ := hE
    have h4' : es.length ≤ k := by omega
    clear ht
    go_enter Tryd.func5, Tryd.ntmps5
    go_wp2_with fail
    refine (lives_any _ HT.out).mono ?_
    rintro e w2 ⟨rfl, hk⟩
    have HK2 := Lib.hid hk
    clear hk
    go_wp2_with fail
    go_ret
    exact ⟨rfl, HK2.out⟩
  have hkl : k < es.length := by omega
  obtain ⟨p, hp⟩ : ∃ p, es[k]? = some p := ⟨es[k], by simp [hkl]⟩
  have hE' := hE
  obtain ⟨b, o, ce, rfl, hb, hnews⟩ := pairs_news hE (by omega)
  have hL : gs.length ≤ 1000 ∧ es.length ≤ 1000 := by omega
  have HL := Lib.hid hL
  have HP := Lib.hid hp
  have HN := Lib.hid hnews
  obtain ⟨i0, hi0, hz0, hz1, hz2⟩ := info_parts Tryd.info39
  have HI := Lib.hid (And.intro hi0 (And.intro hz0 (And.intro hz1 hz2)))
  have hnk : ¬ es.length ≤ k := by omega
  have hk1 : (k : Int) < (es.length : Int) := by omega
  have p0 := hnews _ _ (tcells_at es k p hp).1
  have p1 := hnews _ _ (tcells_at es k p hp).2
  rw [add_none] at p0 p1
  rw [← Nat.add_assoc] at p1
  clear hE hE' ht hp hnews hL hi0 hz0 hz1 hz2
  go_enter Tryd.func5, Tryd.ntmps5
  go_wp2_with (at_builtin; go_must (refine wpList_append_lies _ rfl _ _ 23 rfl w.heap.size 39 i0 _ 2 16 Tryd.underlying23 HI.out.1 HI.out.2.1 HI.out.2.2.1 HI.out.2.2.2 rfl (by decide) (.slice (some ⟨w.heap.size, 0, none⟩) 0 0) 0 [] rfl (own_new (Arr.new' rfl rfl) rfl (Nat.le_refl _) (by simp)) ⟨b, o, none⟩ es.length ce (tcells es) rfl (tcells_len es) (fun j u hu => by have := HN.out j u hu; rw [add_none] at this ⊢; exact ((Kept.refl [] w).alloc _ |>.cell hb (by simp)).trans this) (by intro u hu; obtain ⟨j, hj⟩ := List.getElem?_of_mem hu; obtain ⟨_, _, _, h⟩ := tcells_get es j u hj; rcases h with ⟨_, rfl⟩ | ⟨_, rfl⟩ <;> rfl) (by omega) (by unfold maxLen; omega) (by omega) (by simp) (w.heap.size + 1) (by simp) ?_); intro gb cap3 w3 hown3 hgrow hatb hltb; rw [Nat.zero_add, List.nil_append] at hown3; have HO3 := Lib.hid hown3; have HG3 := Lib.hid hgrow; clear hown3 hgrow hatb hltb)
  have hk3 : Kept [] w w3 := ((Kept.refl [] w).alloc (Obj.cells #[] 39)).fresh (grown_kept HG3.out) (by intro x hx hlt; simp [Value.ownBlock] at hx; omega)
  have p0 := (hk3.cell hb (by simp)).trans p0
  have p1 := (hk3.cell hb (by simp)).trans p1
  have hgb : w.heap.size ≤ gb := by have := own_base HO3.out (g := gb) rfl; omega
  have HK3 := Lib.hid hk3.drew
  have HO4 : Hid (w3.drew.ownsRow w.heap.size 39 2 (Value.slice (some { block := gb, off := 0 }) es.length cap3) es.length (tcells es)) := HO3.out
  have HGB := Lib.hid hgb
  have f0 := row_free HO3.out (k * 2)
  have f1 := row_free HO3.out (k * 2 + 1)
  clear hk3 hgb
  go_still_tail 14, (by kernel_rfl)
  change wpList _ _ _ _ _ w3.drew
  clear p0 p1 f0 f1
  generalize w3.drew = w4 at *
  have f0 := row_free HO4.out (k * 2)
  have f1 := row_free HO4.out (k * 2 + 1)
  have c0 := row_cell HO4.out _ _ (tcells_at es k p HP.out).1
  have c1 := row_cell HO4.out _ _ (tcells_at es k p HP.out).2
  have HS := Lib.hid (row_set HO4.out k (swp p) (by omega))
  have HKF := Lib.hid ((HK3.out.setCell (p := ⟨gb, k * 2, none⟩) (.inr HGB.out) (.int .i64 (swp p).k)).setCell (p := ⟨gb, k * 2 + 1, none⟩) (.inr HGB.out) (.int .i64 (swp p).t))
  go_wp2_with fail
  clear f0 f1 c0 c1
  change Calls _ _ _ ((w4.setCell ⟨gb, k * 2, none⟩ (.int .i64 (swp p).k)).setCell ⟨gb, k * 2 + 1, none⟩ (.int .i64 (swp p).t)) _
  generalize (w4.setCell ⟨gb, k * 2, none⟩ (.int .i64 (swp p).k)).setCell ⟨gb, k * 2 + 1, none⟩ (.int .i64 (swp p).t) = w5 at *
  have HTW := Lib.hid (any_tw gs (Tw.set HP.out))
  have hSL := anyS_leaves gs es
  have HSL := Lib.hid hSL
  clear hSL
  refine (best_all _ _ _ (HJ.out.kept HKF.out) HL.out.1 HL.out.2 (HT.out.kept HKF.out)).mono ?_
  rintro e w6 ⟨v6, rfl, hs6, hk6⟩
  obtain ⟨lf, sa, sn, scp, rfl⟩ := hs6.form
  have HS6 := Lib.hid (hs6.kept (Kept.alloc (Kept.refl [] w6) (Obj.cells #[.int .i64 lf, .slice sa sn scp] 26)) (by simp))
  have HA6 : Hid (Arr (w6.alloc (Obj.cells #[.int .i64 lf, .slice sa sn scp] 26)) w6.heap.size 26 [.int .i64 lf, .slice sa sn scp]) := Arr.new' rfl rfl
  have HS := Lib.hid (HS.out.kept (hk6.alloc (Obj.cells #[.int .i64 lf, .slice sa sn scp] 26)))
  have HK6 := Lib.hid (HKF.out.trans (hk6.alloc (Obj.cells #[.int .i64 lf, .slice sa sn scp] 26)))
  clear hs6 hk6
  go_wp2_with fail
  generalize hb6 : w6.heap.size = b6 at *
  clear hb6
  generalize w6.alloc (Obj.cells #[.int .i64 lf, .slice sa sn scp] 26) = w7 at *
  have J7 : JAt w7 (.slice al gs.length cl) (.slice (some ⟨gb, 0, none⟩) es.length cap3) gs (es.set k (swp p)) := ⟨(HJ.out.kept HK6.out).l, HS.out⟩
  refine (best_all _ _ _ J7 HL.out.1 (by rw [List.length_set]; exact HL.out.2) (HT.out.kept HK6.out)).mono ?_
  rintro e w8 ⟨v8, rfl, hs8, hk8⟩
  rw [HTW.out.1] at hs8
  rw [HTW.out.2.1, HTW.out.2.2]
  generalize anyS gs es = S at *
  generalize anyC gs es = C at *
  generalize anyE gs es = E at *
  obtain ⟨lf2, sa2, sn2, scp2, rfl⟩ := hs8.form
  have hk8' := hk8.alloc (Obj.cells #[.int .i64 lf2, .slice sa2 sn2 scp2] 26)
  have HS8 := Lib.hid (hs8.kept (Kept.alloc (Kept.refl [] w8) (Obj.cells #[.int .i64 lf2, .slice sa2 sn2 scp2] 26)) (by simp))
  have HA8 : Hid (Arr (w8.alloc (Obj.cells #[.int .i64 lf2, .slice sa2 sn2 scp2] 26)) w8.heap.size 26 [.int .i64 lf2, .slice sa2 sn2 scp2]) := Arr.new' rfl rfl
  have HA6 := Lib.hid (HA6.out.kept hk8' (by simp))
  have HS6 := Lib.hid (HS6.out.kept hk8' (by simp))
  have HK8 := Lib.hid (HK6.out.trans hk8')
  clear hs8 hk8 hk8' J7
  go_wp2_with fail
  generalize hb8 : w8.heap.size = b8 at *
  clear hb8
  generalize w8.alloc (Obj.cells #[.int .i64 lf2, .slice sa2 sn2 scp2] 26) = w9 at *
  refine (lives_any _ (HT.out.kept HK8.out)).mono ?_
  rintro e w10 ⟨rfl, hk10⟩
  have HK10 := Lib.hid (HK8.out.trans hk10)
  have HS6 := Lib.hid (HS6.out.kept hk10 (by simp))
  have HS8 := Lib.hid (HS8.out.kept hk10 (by simp))
  have HA6 := HA6.out.kept hk10 (by simp)
  have HA8 := HA8.out.kept hk10 (by simp)
  have q0 := HA6.cell (i := 0) rfl
  have q1 := HA6.cell (i := 1) rfl
  have r0 := HA8.cell (i := 0) rfl
  have r1 := HA8.cell (i := 1) rfl
  clear hk10 HA6 HA8
  go_wp2_with fail
  refine (same_any _ _ _ _ HSL.out HS6.out HS8.out).mono ?_
  rintro e w11 ⟨rfl, hk11⟩
  have HK11 := Lib.hid (HK10.out.trans hk11)
  clear hk11 q0 q1 r0 r1
  go_wp2_with fail
  go_ret
  exact ⟨rfl, HK11.out⟩
end Go.Proofs.YtnfdbbjemlehnaaDoor
