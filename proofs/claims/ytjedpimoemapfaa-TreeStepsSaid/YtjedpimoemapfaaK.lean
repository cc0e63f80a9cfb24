/- The reference's Merge -/
import Derived.Test.YtjedpimoemapfaaJ
namespace Go.Proofs.Ytjedpimoemapfaa
open Go.RowKit

theorem scanI_skip (ls : List Lf) (k : Nat) (x : Lf) (hx : ls[k]? = some x) (hh : x.h = false) : scanI ls (k + 1) = scanI ls k := by
  unfold scanI; simp [scan, hx, hh]
theorem scanI_first (ls : List Lf) (k : Nat) (x : Lf) (hx : ls[k]? = some x) (hh : x.h = true) (hs : scan ls k = none) : scanI ls (k + 1) = k := by
  unfold scanI; simp [scan, hx, hh, hs]
theorem scanI_next (ls : List Lf) (k b : Nat) (x y : Lf) (hx : ls[k]? = some x) (hh : x.h = true) (hs : scan ls k = some b) (hy : ls[b]? = some y) : scanI ls (k + 1) = if x.k < y.k then (k : Int) else b := by
  unfold scanI; simp only [scan, hx, hh, hs, hy]; rw [if_neg (by simp)]; by_cases e : x.k < y.k <;> simp [e]

set_option maxHeartbeats 1000000 in
theorem rmerge_ok (w : World) (v : Value) (rows : List (List Pr)) (h : RowsAt w v rows) (h2 : rows.length ≤ 1000) (ht : total rows ≤ 1000000) (hm : ∀ ps ∈ rows, ps.length ≤ 1000000) :
    Calls Try.prog 17 #[v] w fun e w' => ∃ v', e = .returned v' ∧ w'.ownsRow w.heap.size 28 2 v' (merged rows).length (prcells (merged rows)) ∧ Kept [] w w' := by
  have HM := Lib.hid hm
  obtain ⟨a, cap, hv, hR⟩ := h
  subst hv
  have HR := Lib.hid hR
  have hmk := fun W => run_make_any (P := Try.prog) 58 3 _ _ _ Try.underlying58 Try.info3 .i64 .i64 rows.length (by omega) (by omega) W
  have hl0 : (0 : Int) ≤ (rows.length : Int) := by omega
  obtain ⟨i0, hi0, hz0, hz1, hz2⟩ := info_parts Try.info28
  have HI := Lib.hid (And.intro hi0 (And.intro hz0 (And.intro hz1 hz2)))
  clear hm hi0 hz0 hz1 hz2 hR
  go_enter Try.func17, Try.ntmps17
  go_wp2
  have HBN := Lib.hid (show Arr (w.alloc (.cells (madeCells #[Value.int .i64 0] rows.length) 3)) w.heap.size 3 ((List.replicate rows.length (0 : Nat)).map fun i : Nat => Value.int .i64 (i : Int)) from Arr.new' rfl (made_ints _))
  clear hmk
  go_loopg [4, 5, 6] (total rows) (fun g out v5 v6 wr => ∃ ov : Value, ov = out ∧ Hid (∃ cs acc, total rows - cs.sum = g ∧ CsOk rows cs ∧ Arr wr w.heap.size 3 (cs.map fun i : Nat => Value.int .i64 (i : Int)) ∧ Kept [] w wr ∧
        wr.ownsRow (w.heap.size + 1) 28 2 ov acc.length (prcells acc) ∧ acc ++ mgr rows cs = merged rows))
  case atStart =>
    exact ⟨_, rfl, List.replicate rows.length 0, [], by rw [sum_zero]; omega, CsOk.zero rows, HBN.out, (Kept.refl _ _).alloc _, ⟨rfl, .inl ⟨rfl, rfl⟩⟩, rfl⟩
  case round =>
    obtain ⟨ov, hov, hr⟩ := hrel
    subst hov
    obtain ⟨cs, acc, q1, q2, q3, q4, q5, q6⟩ := hr.out
    clear hr
    have Q1 := Lib.hid q1
    have Q2 := Lib.hid q2
    have Q3 := Lib.hid q3
    have Q4 := Lib.hid q4
    have Q5 := Lib.hid q5
    have Q6 := Lib.hid q6
    have hcl : cs.length = rows.length := q2.len
    have HCL := Lib.hid hcl
    have hcl1 : (rows.length : Int) ≤ (cs.length : Int) := by omega
    clear q1 q2 q3 q4 q5 q6 HBN hcl
    obtain ⟨wo, hwo⟩ : ∃ wo : World, wo = wr := ⟨_, rfl⟩
    subst hwo
    go_wp2
    go_loopg [5, 6] rows.length (fun g v5 v6 wi => ∃ k : Nat, k + g = rows.length ∧ v6 = .int .i64 k ∧ v5 = .int .i64 (scanI (heads rows cs) k) ∧ Hid (∃ n, wi = wo.drewN n))
    case atStart => exact ⟨0, by omega, rfl, rfl, 0, rfl⟩
    case round =>
      obtain ⟨k, hk, rfl, rfl, hw⟩ := hrel
      obtain ⟨nd, rfl⟩ := hw.out
      clear hw
      by_cases hlt : k < rows.length
      · have hlt1 : (k : Int) < (rows.length : Int) := by omega
        have hlt2 : (k : Int) < (cs.length : Int) := by omega
        have hk0 : (0 : Int) ≤ (k : Int) := by omega
        obtain ⟨ps, hps⟩ : ∃ ps, rows[k]? = some ps := ⟨rows[k], by simp [hlt]⟩
        obtain ⟨c, hc⟩ : ∃ c, cs[k]? = some c := ⟨cs[k]'(by rw [HCL.out]; exact hlt), by simp [show k < cs.length by rw [HCL.out]; exact hlt]⟩
        have hx := heads_at hps hc
        obtain ⟨b, o, rv, rfl, hbs, hrv, a2, cap2, rfl, hel⟩ := HR.out k ps hps
        have n0 := Q3.out.cell (i := k) (v := .int .i64 c) (by simp [hc])
        have hrv := (Q4.out.cell hbs (by simp)).trans hrv
        have hsc0 : (0 : Int) ≤ (c : Int) := by omega
        by_cases hcl : c < ps.length
        · obtain ⟨p, hp⟩ : ∃ p, ps[c]? = some p := ⟨ps[c], by simp [hcl]⟩
          obtain ⟨b2, o2, rfl, hbs2, p0, _⟩ := hel c p hp
          have p0 := (Q4.out.cell hbs2 (by simp)).trans p0
          have hcl1' : (c : Int) < (ps.length : Int) := by omega
          have hle : leafAt ps c = ⟨p.k, p.t, true⟩ := by simp [leafAt, hp]
          rw [hle] at hx
          cases hsc : scan (heads rows cs) k with
          | none =>
            have hs0 : scanI (heads rows cs) k = -1 := by simp [scanI, hsc]
            have hs1 := scanI_first _ k _ hx rfl hsc
            rw [hs0]
            have HS := Lib.hid hs1
            clear hs0 hs1 hsc hx hps hc hel hp hle
            go_wp2
            go_quiet (fail)
            go_wp2
            go_roundg (rows.length - (k + 1))
            case measure => omega
            case rel => exact ⟨k + 1, by omega, by go_num, by rw [HS.out], _, rfl⟩
          | some bb =>
            obtain ⟨qs, c3, q, hqs, hc3, hq, hc3l, hbk⟩ := scan_heads Q2.out hsc
            have hs0 : scanI (heads rows cs) k = bb := by simp [scanI, hsc]
            have hy := heads_at hqs hc3
            rw [show leafAt qs c3 = ⟨q.k, q.t, true⟩ by simp [leafAt, hq]] at hy
            have hs1 := scanI_next _ k bb _ _ hx rfl hsc hy
            obtain ⟨b4, o4, rv3, hbe, hbs4, hrv4, a3, cap3, rfl, hel3⟩ := HR.out bb qs hqs
            simp only [Option.some.injEq, Addr.mk.injEq, and_true] at hbe
            obtain ⟨rfl, rfl⟩ := hbe
            obtain ⟨b3, o3, rfl, hbs3, r0, _⟩ := hel3 c3 q hq
            have hrv4 := (Q4.out.cell hbs (by simp)).trans hrv4
            have r0 := (Q4.out.cell hbs3 (by simp)).trans r0
            have n3 := Q3.out.cell (i := bb) (v := .int .i64 c3) (by simp [hc3])
            have z1 : (0 : Int) ≤ (bb : Int) := by omega
            have z2 : (bb : Int) < (rows.length : Int) := by omega
            have z3 : (bb : Int) < (cs.length : Int) := by omega
            have z4 : (0 : Int) ≤ (c3 : Int) := by omega
            have z5 : (c3 : Int) < (qs.length : Int) := by omega
            have z6 : decide ((bb : Int) < 0) = false := by simp
            rw [hs0]
            have HS := Lib.hid hs1
            clear hs0 hs1 hsc hx hps hc hel hp hle hqs hc3 hq hy hel3
            by_cases hlt3 : p.k < q.k
            · go_wp2
              go_quiet (fail)
              go_wp2
              go_roundg (rows.length - (k + 1))
              case measure => omega
              case rel => exact ⟨k + 1, by omega, by go_num, by rw [HS.out, if_pos hlt3], _, rfl⟩
            · go_wp2
              go_quiet (fail)
              go_wp2
              go_roundg (rows.length - (k + 1))
              case measure => omega
              case rel => exact ⟨k + 1, by omega, by go_num, by rw [HS.out, if_neg (by simp; omega)], _, rfl⟩
        · have hcl2 : decide ((c : Int) < (ps.length : Int)) = false := by simp; omega
          have hcl3 : decide (c < ps.length) = false := by simp; omega
          have hle : leafAt ps c = ⟨0, 0, false⟩ := by simp [leafAt]; rw [List.getElem?_eq_none (by omega)]
          rw [hle] at hx
          have hs1 := scanI_skip _ k _ hx rfl
          have HS := Lib.hid hs1
          clear hs1 hx hps hc hel hle hcl
          go_wp2
          go_quiet (fail)
          go_wp2
          go_roundg (rows.length - (k + 1))
          case measure => omega
          case rel => exact ⟨k + 1, by omega, by go_num, by rw [HS.out], _, rfl⟩
      · obtain rfl : k = rows.length := by omega
        cases hsc : scan (heads rows cs) rows.length with
        | none =>
          have hs0 : scanI (heads rows cs) rows.length = -1 := by simp [scanI, hsc]
          have hm0 := mgr_none hsc
          have q6 := Q6.out
          rw [hm0, List.append_nil] at q6
          subst q6
          rw [hs0]
          clear hs0 hsc hm0
          go_wp2
          go_ret
          refine ⟨_, rfl, ?_, Q4.out.drewN _⟩
          obtain ⟨g1, g2⟩ := Q5.out
          refine ⟨g1, ?_⟩
          rcases g2 with g2 | ⟨g, cap', cur, e1, e2, e3⟩
          · exact .inl g2
          · exact .inr ⟨g, cap', cur, e1, by omega, e3⟩
        | some v =>
          obtain ⟨ps, c, p, hps, hcs, hp, hcl, hvl⟩ := scan_heads Q2.out hsc
          have hs0 : scanI (heads rows cs) rows.length = v := by simp [scanI, hsc]
          have hm1 := mgr_some Q2.out hsc hps hcs hp
          have hq2' := Q2.out.set hps hcs hcl
          have hsum := sum_set cs v c hcs
          have hsle := sum_le _ _ hq2'
          have hlen : acc.length + 1 ≤ total rows := by
            have := congrArg List.length Q6.out
            rw [merged_len, List.length_append, hm1, List.length_cons] at this
            omega
          obtain ⟨b, o, rv, rfl, hbs, hrv, a2, cap2, rfl, hel⟩ := HR.out v ps hps
          obtain ⟨b2, o2, rfl, hbs2, p0, p1⟩ := hel c p hp
          have n0 := Q3.out.cell (i := v) (v := .int .i64 c) (by simp [hcs])
          have nf := Q3.out.free v
          have hrv := (Q4.out.cell hbs (by simp)).trans hrv
          have p0 := (Q4.out.cell hbs2 (by simp)).trans p0
          have p1 := (Q4.out.cell hbs2 (by simp)).trans p1
          have hml := HM.out ps (List.mem_of_getElem? hps)
          have z1 : (0 : Int) ≤ (v : Int) := by omega
          have z2 : (v : Int) < (rows.length : Int) := by omega
          have z3 : (v : Int) < (cs.length : Int) := by omega
          have z4 : (0 : Int) ≤ (c : Int) := by omega
          have z5 : (c : Int) < (ps.length : Int) := by omega
          have z6 : decide ((v : Int) < 0) = false := by simp
          have hsz := Q4.out.size
          have hbw := Q3.out.lt
          have hsep := own_sep Q5.out Q3.out
          have hob : ∀ g, ov.ownBlock = some g → w.heap.size + 1 ≤ g := fun g hg => own_base Q5.out hg
          have nb : ov.ownBlock ≠ some b := fun e => by have := hob b e; omega
          have nb2 : ov.ownBlock ≠ some b2 := fun e => by have := hob b2 e; omega
          have nbn : ov.ownBlock ≠ some w.heap.size := fun e => by have := hob _ e; omega
          have HM1 := Lib.hid hm1
          have HQ2 := Lib.hid hq2'
          have HS1 := Lib.hid hsum
          have HOB := Lib.hid hob
          have HCS := Lib.hid hcs
          have zb : b < wo.heap.size := by omega
          have zb2 : b2 < wo.heap.size := by omega
          rw [hs0]
          clear hs0 hsc hm1 hq2' hsum hps hcs hp hel hsep hob
          go_wp2
          go_region_held3 (fun w' => w'.cell? ⟨b, o + v, none⟩ = some (.slice (some ⟨b2, o2, none⟩) ps.length cap2) ∧ w'.cell? ⟨w.heap.size, v, none⟩ = some (.int .i64 c) ∧ w'.cell? ⟨b2, o2 + c * 2, none⟩ = some (.int .i64 p.k) ∧ w'.cell? ⟨b2, o2 + c * 2 + 1, none⟩ = some (.int .i64 p.t))
            (first | go_keep | exact ⟨s1, s2, s3, s4⟩)
            ((refine step_append_lies _ (by rfl) _ _ _ (by rfl) (w.heap.size + 1) 28 i0 _ 2 16 Try.underlying42 HI.out.1 HI.out.2.1 HI.out.2.2.1 HI.out.2.2.2 rfl (by decide) ov acc.length (prcells acc) (by rfl) (own_kept Q5.out (((Kept.refl [] _).drewN _).alloc _) (by simp)) ⟨wo.heap.size, 0, none⟩ 1 1 [.int .i64 p.k, .int .i64 p.t] (by rfl) (by rfl) (World.news_of_block (cs := #[.int .i64 p.k, .int .i64 p.t]) (t := 28) (fr := (0, 0)) (show Arr _ wo.heap.size 28 [.int .i64 p.k, .int .i64 p.t] from Arr.new' rfl rfl)) (by simp [Value.oneCell']) (by decide) (by unfold maxLen; omega) (by omega) (by simp; omega) (wo.heap.size + 1) (by simp) ?_; intro gb cap3 w3 hown3 hgrow hatb hltb; have hk5 : Kept ov.ownBlock.toList wo w3 := ((((Kept.refl [] _).drewN _).alloc _).mono (by simp)).trans (grown_kept hgrow); have s1 := (hk5.cell zb (nmem_of nb)).trans hrv; have s2 := (hk5.cell hbw (nmem_of nbn)).trans n0; have s3 := (hk5.cell zb2 (nmem_of nb2)).trans p0; have s4 := (hk5.cell zb2 (nmem_of nb2)).trans p1; have s5 := (hk5.frozen hbw (nmem_of nbn)).trans nf))
          have HO3 := Lib.hid hown3
          have HK5 := Lib.hid hk5
          have HAB := Lib.hid (own_sep hown3 (Q3.out.kept hk5 (nmem_of nbn)) (by decide))
          clear hown3 hk5 hgrow
          go_wp2
          go_roundg (total rows - (cs.sum + 1))
          case measure => have := Q1.out; have := HS1.out; omega
          case rel =>
            refine ⟨_, rfl, cs.set v (c + 1), acc ++ [p], by rw [HS1.out], HQ2.out, ?_, ?_, ?_, ?_⟩
            · have := (Q3.out.kept HK5.out (nmem_of nbn)).set v (.int .i64 ((c + 1 : Nat) : Int))
              rw [List.map_set]
              simpa using this
            · exact (Q4.out.fresh HK5.out (by intro x hx hlt; have := HOB.out x (by simpa using hx); omega)).setCell (.inr (by simp)) _
            · rw [prcells_snoc]
              have := ownsRow_setCell_other HO3.out (a := ⟨w.heap.size, v, none⟩) HAB.out (.int .i64 ((c : Int) + 1))
              simpa using this
            · rw [List.append_assoc]
              have := Q6.out
              rw [HM1.out] at this
              exact this

end Go.Proofs.Ytjedpimoemapfaa
