/- TreeSorts: of lists that are in order what is merged is in order, with each thing as often; the law returns true, and the argument reads as it did. No condition. -/
import Derived.Test.YtjedpimoemapfaaMerges
import Derived.Test.YtjedpimoemapfaaSrt
namespace Go.Proofs.Ytjedpimoemapfaa
open Go.ChangeShapes Go.WideShapes Go.ChangeAt Go.RowKit

theorem Try.info42 : (Try.prog.info? 42).map (fun i => (i.zero, i.size, i.bytes)) = some (some (.slice none 0 0), 1, 24) := by kernel_rfl

theorem own_sep2 {w : World} {b1 b2 e1 e2 s1 s2 n1 n2 : Nat} {v1 v2 : Value} {x1 x2 : List Value} (h1 : w.ownsRow b1 e1 s1 v1 n1 x1) (h2 : w.ownsRow b2 e2 s2 v2 n2 x2) (he : e1 ≠ e2) : ∀ g, v1.ownBlock = some g → g ∉ v2.ownBlock.toList := by
  intro g hg
  obtain ⟨_, h1⟩ := h1
  obtain ⟨_, h2⟩ := h2
  rcases h1 with ⟨rfl, _⟩ | ⟨g1, c1, r1, rfl, _, hh1, _⟩
  · simp [Value.ownBlock] at hg
  · simp only [Value.ownBlock, Option.some.injEq] at hg
    subst hg
    rcases h2 with ⟨rfl, _⟩ | ⟨g2, c2, r2, rfl, _, hh2, _⟩
    · simp [Value.ownBlock]
    · simp only [Value.ownBlock, Option.toList, List.mem_singleton]
      intro e
      subst e
      rw [hh1] at hh2
      simp at hh2
      exact he hh2.2

theorem own_slice {w : World} {base e size n : Nat} {v : Value} {xs : List Value} (h : w.ownsRow base e size v n xs) : ∃ a l c, v = .slice a l c := by
  obtain ⟨_, h2⟩ := h
  rcases h2 with ⟨rfl, _⟩ | ⟨g, c, r, rfl, _⟩ <;> exact ⟨_, _, _, rfl⟩

theorem own_one {w : World} {base e size n : Nat} {v : Value} {xs : List Value} (h : w.ownsRow base e size v n xs) : v.oneCell' = true := by
  obtain ⟨_, h2⟩ := h
  rcases h2 with ⟨rfl, _⟩ | ⟨g, c, r, rfl, _⟩ <;> rfl

set_option maxHeartbeats 1600000 in
set_option maxRecDepth 100000 in
theorem sorts_large (w : World) (v : Value) (rows : List (List Pr)) (h : RowsAt w v rows) (hm : ∀ ps ∈ rows, ps.length ≤ 8796093022208) (hb : rows.length ≤ 8796093022208) (hbad : largeB rows = true ∨ rows.length < 1 ∨ 64 < rows.length) :
    Calls Try.prog 5 #[v] w fun e w' => e = .returned (.bool true) ∧ Below w.heap.size w w' := by
  have H := Lib.hid h
  have HM := Lib.hid hm
  obtain ⟨a, cap, hv, _⟩ := h
  subst hv
  clear hm
  cases hl : largeB rows with
  | true =>
    have HL := Lib.hid hl
    clear hl hbad
    go_enter Try.func5, Try.ntmps5
    go_wp2_with (first | (go_at_call 14; refine (large_any _ _ rows H.out HM.out hb).mono ?_; rw [HL.out]; rintro e w1 ⟨rfl, rfl⟩) | (go_at_call 10; refine (lives_any _).mono ?_; rintro e w2 ⟨rfl, hk2⟩))
    go_ret
    exact ⟨rfl, hk2.below⟩
  | false =>
    rw [hl] at hbad
    have HL := Lib.hid hl
    clear hl
    by_cases hn1 : rows.length < 1
    · have hn2 : (rows.length : Int) < 1 := by omega
      clear hbad
      go_enter Try.func5, Try.ntmps5
      go_wp2_with (first | (go_at_call 14; refine (large_any _ _ rows H.out HM.out hb).mono ?_; rw [HL.out]; rintro e w1 ⟨rfl, rfl⟩) | (go_at_call 10; refine (lives_any _).mono ?_; rintro e w2 ⟨rfl, hk2⟩))
      go_ret
      exact ⟨rfl, hk2.below⟩
    · have hn2 : ¬ (rows.length : Int) < 1 := by omega
      have hn3 : (64 : Int) < (rows.length : Int) := by
        rcases hbad with h | h | h
        · simp at h
        · omega
        · omega
      clear hbad
      go_enter Try.func5, Try.ntmps5
      go_wp2_with (first | (go_at_call 14; refine (large_any _ _ rows H.out HM.out hb).mono ?_; rw [HL.out]; rintro e w1 ⟨rfl, rfl⟩) | (go_at_call 10; refine (lives_any _).mono ?_; rintro e w2 ⟨rfl, hk2⟩))
      go_ret
      exact ⟨rfl, hk2.below⟩

set_option maxHeartbeats 3200000 in
set_option maxRecDepth 100000 in
theorem sorts_ok (w : World) (v : Value) (rows : List (List Pr)) (h : RowsAt w v rows) (hm : ∀ ps ∈ rows, ps.length ≤ 8796093022208) (hl : largeB rows = false) (h1 : 1 ≤ rows.length) (h2 : rows.length ≤ 64) :
    Calls Try.prog 5 #[v] w fun e w' => e = .returned (.bool true) ∧ Below w.heap.size w w' := by
  have ht : total rows ≤ 2000 := by
    unfold largeB at hl
    simp only [decide_eq_false_iff_not, not_or, Nat.not_lt] at hl
    exact hl.2
  have hps : ∀ ps ∈ rows, ps.length ≤ 2000 := fun ps h => by have := total_le_mem h; omega
  have H := Lib.hid h
  have HM := Lib.hid hm
  have HL := Lib.hid hl
  have HP := Lib.hid hps
  have HT := Lib.hid ht
  obtain ⟨a, cap, hv, hR⟩ := h
  subst hv
  have HR := Lib.hid hR
  have g1 : ¬ (rows.length : Int) < 1 := by omega
  have g2 : ¬ (64 : Int) < (rows.length : Int) := by omega
  obtain ⟨i0, hi0, hz0, hz1, hz2⟩ := info_parts Try.info28
  have HI := Lib.hid (And.intro hi0 (And.intro hz0 (And.intro hz1 hz2)))
  obtain ⟨j0, hj0, hy0, hy1, hy2⟩ := info_parts Try.info42
  have HJ := Lib.hid (And.intro hj0 (And.intro hy0 (And.intro hy1 hy2)))
  clear hm hl hps hR hi0 hz0 hz1 hz2 hj0 hy0 hy1 hy2 ht
  go_enter Try.func5, Try.ntmps5
  go_wp2_with (go_at_call 14; refine (large_any _ _ rows H.out HM.out (by omega)).mono ?_; rw [HL.out]; rintro e w1 ⟨rfl, rfl⟩)
  go_loopg [3, 4, 5, 6, 7, 8] rows.length (fun g v3 v4 v5 v6 v7 v8 wr => ∃ (k : Nat) (ov : Value), k + g = rows.length ∧ v5 = .int .i64 k ∧ ov = v3 ∧ v4 = .int .i64 (total (rows.take k)) ∧
    Hid (∃ vs, wr.ownsRow w.heap.size 42 1 ov k vs ∧ Kept [] w wr ∧ ∀ (r : Nat) (ps : List Pr), r < k → rows[r]? = some ps → ∃ rv, vs[r]? = some rv ∧ wr.ownsRow w.heap.size 28 2 rv (rowK r ps ps.length).length (prcells (rowK r ps ps.length))))
  case atStart => exact ⟨0, _, by omega, rfl, rfl, rfl, [], ⟨rfl, .inl ⟨rfl, rfl⟩⟩, Kept.refl _ _, fun r ps h => by omega⟩
  case round =>
    obtain ⟨k, ov, hk, rfl, hov, rfl, hr⟩ := hrel
    subst hov
    obtain ⟨vs, r1, r2, r3⟩ := hr.out
    clear hr
    have htk := total_take_le rows k
    have hT := HT.out
    by_cases hlt : k < rows.length
    · have hlt1 : (k : Int) < (rows.length : Int) := by omega
      have hlt0 : (0 : Int) ≤ (k : Int) := by omega
      obtain ⟨ps, hps⟩ : ∃ ps, rows[k]? = some ps := ⟨rows[k], by simp [hlt]⟩
      obtain ⟨b, o, rv0, rfl, hbs, hrv, a2, cap2, rfl, hel⟩ := HR.out k ps hps
      have hc := total_take rows k ps hps
      have hpl := HP.out ps (List.mem_of_getElem? hps)
      have HC := Lib.hid hc
      have HPS := Lib.hid hps
      have HE := Lib.hid hel
      have R1 := Lib.hid r1
      have R2 := Lib.hid r2
      have R3 := Lib.hid r3
      obtain ⟨wo, hwo⟩ : ∃ wo : World, wo = wr := ⟨_, rfl⟩
      subst hwo
      generalize hTk : total (rows.take k) = TK at *
      have hTK : TK ≤ 2000 := by omega
      clear hc hps hel r1 r2 r3 htk hTk
      go_wp2
      go_loopg [4, 6, 7, 8] ps.length (fun g v4 v6 v7 v8 wi => ∃ (j : Nat) (rv : Value), j + g = ps.length ∧ v7 = .int .i64 j ∧ v4 = .int .i64 (TK + j : Nat) ∧ rv = v6 ∧ Hid (wi.ownsRow wo.heap.size 28 2 rv j (prcells (rowK k ps j)) ∧ Kept [] wo wi))
      case atStart => exact ⟨0, _, by omega, rfl, rfl, rfl, ⟨rfl, .inl ⟨rfl, rfl⟩⟩, Kept.refl _ _⟩
      case round =>
        obtain ⟨j, rv, hj, rfl, rfl, hrv', hr⟩ := hrel
        subst hrv'
        obtain ⟨q1, q2⟩ := hr.out
        clear hr
        have hrv2 := (q2.cell (Nat.lt_of_lt_of_le hbs R2.out.size) (by simp)).trans ((R2.out.cell hbs (by simp)).trans hrv)
        have hwle := q2.size
        by_cases hjl : j < ps.length
        · obtain ⟨p, hp⟩ : ∃ p, ps[j]? = some p := ⟨ps[j], by simp [hjl]⟩
          obtain ⟨b2, o2, rfl, hbs2, p0, _⟩ := HE.out j p hp
          have p0 := (q2.cell (Nat.lt_of_lt_of_le hbs2 R2.out.size) (by simp)).trans ((R2.out.cell hbs2 (by simp)).trans p0)
          have hj0 : (0 : Int) ≤ (j : Int) := by omega
          have hj1 : (j : Int) < (ps.length : Int) := by omega
          have hk64 : (k : Int) ≤ 64 := by omega
          have hj2k : (j : Int) ≤ 2000 := by omega
          have hrk := rowK_succ k ps j p hp
          have hrl := rowK_len k ps j (by omega)
          have HOB : Hid (∀ g, rv.ownBlock = some g → wo.heap.size ≤ g) := fun g hg => own_base q1 hg
          have Q2 := Lib.hid q2
          by_cases hjz : j = 0
          · have hz : ¬ (0 : Int) < (j : Int) := by omega
            have hnk : nextKey (rowK k ps j) p = p.k := by rw [hjz]; rfl
            rw [hnk] at hrk
            have HRK := Lib.hid hrk
            have Q1 := Lib.hid q1
            clear hp hrk hrl q1 q2 hnk hjz
            go_wp2_with (at_builtin; go_must (refine wpList_append_lies _ rfl _ _ 42 rfl wo.heap.size 28 i0 _ 2 16 Try.underlying42 HI.out.1 HI.out.2.1 HI.out.2.2.1 HI.out.2.2.2 rfl (by decide) rv j (prcells (rowK k ps j)) rfl (own_kept Q1.out ((Kept.refl [] _).alloc _) (by simp)) ⟨wr.heap.size, 0, none⟩ 1 1 [.int .i64 p.k, .int .i64 (100000 * (k : Int) + (j : Int))] rfl rfl (World.news_of_block (cs := #[.int .i64 p.k, .int .i64 (100000 * (k : Int) + (j : Int))]) (t := 28) (fr := (0, 0)) (show Arr _ wr.heap.size 28 [.int .i64 p.k, .int .i64 (100000 * (k : Int) + (j : Int))] from Arr.new' rfl rfl)) (by simp [Value.oneCell']) (by decide) (by unfold maxLen; omega) (by omega) (by simp; omega) (wr.heap.size + 1) (by simp) ?_); intro gb cap3 w3 hown3 hgrow hatb hltb; have HO3 := Lib.hid hown3; have HK3 := Lib.hid ((Q2.out.alloc (.cells #[.int .i64 p.k, .int .i64 (100000 * (k : Int) + (j : Int))] 28)).fresh (grown_kept hgrow) (by intro x hx hlt; have := HOB.out x (by simpa using hx); omega)); clear hown3 hgrow)
            go_roundg (ps.length - (j + 1))
            case measure => omega
            case rel => exact ⟨j + 1, _, by omega, by go_num, by go_num, rfl, by rw [HRK.out, prcells_snoc]; exact (by simpa using HO3.out), HK3.out⟩
          · have hjp : 0 < j := by omega
            obtain ⟨g, cap4, hrve, hgb, hgl, hgc⟩ := own_form q1 hjp
            obtain ⟨q, hq⟩ : ∃ q, (rowK k ps j)[j - 1]? = some q := ⟨(rowK k ps j)[j - 1], by simp [show j - 1 < (rowK k ps j).length by omega]⟩
            have hlast : (rowK k ps j).getLast? = some q := by rw [List.getLast?_eq_getElem?, hrl]; exact hq
            have hcell := hgc _ _ (prcells_at (rowK k ps j) (j - 1) q hq).1
            have hnk : nextKey (rowK k ps j) p = if p.k < q.k then q.k else p.k := by simp only [nextKey, hlast]
            rw [hnk] at hrk
            subst hrve
            have HRK := Lib.hid hrk
            have Q1 := Lib.hid q1
            have u1 : (0 : Int) < (j : Int) := by omega
            have u2 : (0 : Int) ≤ (j : Int) - 1 := by omega
            have u3 : (j : Int) - 1 < (j : Int) := by omega
            have u4 : ((j : Int) - 1).toNat = j - 1 := by omega
            clear hp hrk hrl q1 q2 hnk hlast hgc hq hjz hgb
            by_cases hlt5 : p.k < q.k
            · rw [if_pos hlt5] at HRK
              go_wp2_with (at_builtin; go_must (refine wpList_append_lies _ rfl _ _ 42 rfl wo.heap.size 28 i0 _ 2 16 Try.underlying42 HI.out.1 HI.out.2.1 HI.out.2.2.1 HI.out.2.2.2 rfl (by decide) (.slice (some ⟨g, 0, none⟩) j cap4) j (prcells (rowK k ps j)) rfl (own_kept Q1.out ((Kept.refl [] _).alloc _) (by simp)) ⟨wr.heap.size, 0, none⟩ 1 1 [.int .i64 q.k, .int .i64 (100000 * (k : Int) + (j : Int))] rfl rfl (World.news_of_block (cs := #[.int .i64 q.k, .int .i64 (100000 * (k : Int) + (j : Int))]) (t := 28) (fr := (0, 0)) (show Arr _ wr.heap.size 28 [.int .i64 q.k, .int .i64 (100000 * (k : Int) + (j : Int))] from Arr.new' rfl rfl)) (by simp [Value.oneCell']) (by decide) (by unfold maxLen; omega) (by omega) (by simp; omega) (wr.heap.size + 1) (by simp) ?_); intro gb cap3 w3 hown3 hgrow hatb hltb; have HO3 := Lib.hid hown3; have HK3 := Lib.hid ((Q2.out.alloc (.cells #[.int .i64 q.k, .int .i64 (100000 * (k : Int) + (j : Int))] 28)).fresh (grown_kept hgrow) (by intro x hx hlt; have := HOB.out x (by simpa using hx); omega)); clear hown3 hgrow)
              go_roundg (ps.length - (j + 1))
              case measure => omega
              case rel => exact ⟨j + 1, _, by omega, by go_num, by go_num, rfl, by rw [HRK.out, prcells_snoc]; exact (by simpa using HO3.out), HK3.out⟩
            · rw [if_neg hlt5] at HRK
              go_wp2_with (at_builtin; go_must (refine wpList_append_lies _ rfl _ _ 42 rfl wo.heap.size 28 i0 _ 2 16 Try.underlying42 HI.out.1 HI.out.2.1 HI.out.2.2.1 HI.out.2.2.2 rfl (by decide) (.slice (some ⟨g, 0, none⟩) j cap4) j (prcells (rowK k ps j)) rfl (own_kept Q1.out ((Kept.refl [] _).alloc _) (by simp)) ⟨wr.heap.size, 0, none⟩ 1 1 [.int .i64 p.k, .int .i64 (100000 * (k : Int) + (j : Int))] rfl rfl (World.news_of_block (cs := #[.int .i64 p.k, .int .i64 (100000 * (k : Int) + (j : Int))]) (t := 28) (fr := (0, 0)) (show Arr _ wr.heap.size 28 [.int .i64 p.k, .int .i64 (100000 * (k : Int) + (j : Int))] from Arr.new' rfl rfl)) (by simp [Value.oneCell']) (by decide) (by unfold maxLen; omega) (by omega) (by simp; omega) (wr.heap.size + 1) (by simp) ?_); intro gb cap3 w3 hown3 hgrow hatb hltb; have HO3 := Lib.hid hown3; have HK3 := Lib.hid ((Q2.out.alloc (.cells #[.int .i64 p.k, .int .i64 (100000 * (k : Int) + (j : Int))] 28)).fresh (grown_kept hgrow) (by intro x hx hlt; have := HOB.out x (by simpa using hx); omega)); clear hown3 hgrow)
              go_roundg (ps.length - (j + 1))
              case measure => omega
              case rel => exact ⟨j + 1, _, by omega, by go_num, by go_num, rfl, by rw [HRK.out, prcells_snoc]; exact (by simpa using HO3.out), HK3.out⟩
        · obtain rfl : j = ps.length := by omega
          obtain ⟨sa, sl, sc, hrs⟩ := own_slice q1
          subst hrs
          have Q1 := Lib.hid q1
          have Q2 := Lib.hid q2
          have HOV := Lib.hid (own_kept R1.out q2 (by simp))
          have HOB : Hid (∀ g, ov.ownBlock = some g → w.heap.size ≤ g) := fun g hg => own_base R1.out hg
          have hjl' : ¬ (ps.length : Int) < (ps.length : Int) := by omega
          clear q1 q2
          go_wp2_with (at_builtin; go_must (refine wpList_append_lies _ rfl _ _ 40 rfl w.heap.size 42 j0 _ 1 24 Try.underlying40 HJ.out.1 HJ.out.2.1 HJ.out.2.2.1 HJ.out.2.2.2 rfl (by decide) ov k vs rfl (own_kept HOV.out ((Kept.refl [] _).alloc _) (by simp)) ⟨wr.heap.size, 0, none⟩ 1 1 [.slice sa sl sc] rfl rfl (World.news_of_block (cs := #[.slice sa sl sc]) (t := 42) (fr := (0, 0)) (show Arr _ wr.heap.size 42 [.slice sa sl sc] from Arr.new' rfl rfl)) (by simp [Value.oneCell']) (by decide) (by unfold maxLen; omega) (by omega) (by simp; have := R2.out.size; omega) (wr.heap.size + 1) (by simp) ?_); intro gb cap3 w3 hown3 hgrow hatb hltb)
          have hgk := grown_kept hgrow
          have hKK : Kept ov.ownBlock.toList wo w3 := ((Q2.out.alloc (.cells #[.slice sa sl sc] 42)).mono (by simp)).trans hgk
          have hK3 : Kept [] w w3 := R2.out.fresh hKK (by intro x hx hlt; have := HOB.out x (by simpa using hx); omega)
          have hrow : w3.ownsRow w.heap.size 28 2 (.slice sa sl sc) (rowK k ps ps.length).length (prcells (rowK k ps ps.length)) := by
            have h1 := own_kept Q1.out ((Kept.refl [] _).alloc (.cells #[.slice sa sl sc] 42)) (by simp)
            have h2 := own_kept h1 hgk (own_sep2 h1 (own_kept HOV.out ((Kept.refl [] _).alloc (.cells #[.slice sa sl sc] 42)) (by simp)) (by decide))
            rw [rowK_len k ps ps.length (Nat.le_refl _)]
            obtain ⟨e1, e2⟩ := h2
            refine ⟨e1, ?_⟩
            rcases e2 with e2 | ⟨g, cap', cur, f1, f2, f3⟩
            · exact .inl e2
            · exact .inr ⟨g, cap', cur, f1, by have := R2.out.size; omega, f3⟩
          have hold : ∀ (r : Nat) (qs : List Pr), r < k → rows[r]? = some qs → ∃ rv, vs[r]? = some rv ∧ w3.ownsRow w.heap.size 28 2 rv (rowK r qs qs.length).length (prcells (rowK r qs qs.length)) := by
            intro r qs hr hq
            obtain ⟨rv2, e1, e2⟩ := R3.out r qs hr hq
            exact ⟨rv2, e1, own_kept e2 hKK (own_sep2 e2 R1.out (by decide))⟩
          have hvl : vs.length = k := by have := R1.out.1; omega
          have HO3 := Lib.hid hown3
          have HK3 := Lib.hid hK3
          have HRW := Lib.hid hrow
          have HOLD := Lib.hid hold
          clear hown3 hK3 hrow hold hKK hgk hgrow
          go_roundg (rows.length - (k + 1))
          case measure => omega
          case rel =>
            refine ⟨k + 1, _, by omega, by go_num, rfl, by rw [HC.out]; go_num, vs ++ [.slice sa sl sc], HO3.out, HK3.out, ?_⟩
            intro r qs hr hq
            by_cases e : r = k
            · subst e
              rw [HPS.out] at hq
              simp only [Option.some.injEq] at hq
              subst hq
              exact ⟨.slice sa sl sc, by rw [List.getElem?_append_right (by omega)]; simp [hvl], HRW.out⟩
            · obtain ⟨rv2, e1, e2⟩ := HOLD.out r qs (by omega) hq
              exact ⟨rv2, by rw [List.getElem?_append_left (by omega)]; exact e1, e2⟩
    · obtain rfl : k = rows.length := by omega
      obtain ⟨g, cap4, hove, hgb, hgl, hgc⟩ := own_form r1 (by omega)
      have hrows : RowsAt wr ov (srt 0 rows) := by
        subst hove
        refine ⟨_, cap4, by rw [srt_len], fun r qs hq => ?_⟩
        rw [srt_at] at hq
        obtain ⟨ps, h1, h2⟩ := Option.map_eq_some_iff.1 hq
        rw [Nat.zero_add] at h2
        have hrl : r < rows.length := by rcases Nat.lt_or_ge r rows.length with h | h; exact h; simp [List.getElem?_eq_none h] at h1
        obtain ⟨rv, e1, e2⟩ := r3 r ps hrl h1
        refine ⟨g, 0, rv, rfl, hgl, by rw [Nat.zero_add]; exact hgc r rv e1, ?_⟩
        rw [← h2]; exact own_pairs e2
      have htot := srt_total 0 rows
      have hlen' := srt_len 0 rows
      have hml := merged_len (srt 0 rows)
      have hsort := srt_sorted rows HP.out
      have hps2 : ∀ ps ∈ srt 0 rows, ps.length ≤ 1000000 := fun ps h => by have := total_le_mem h; omega
      rw [List.take_length] at *
      generalize hM : merged (srt 0 rows) = M at *
      generalize htt : total rows = TT at *
      generalize hss : srt 0 rows = SS at *
      have HROWS := Lib.hid hrows
      have HML := Lib.hid hml
      have HSORT := Lib.hid hsort
      have HPS2 := Lib.hid hps2
      have HTOT := Lib.hid htot
      have HLEN := Lib.hid hlen'
      have HM' := Lib.hid hM
      have R2 := Lib.hid r2
      have hMT : M.length = TT := by omega
      have HMT := Lib.hid hMT
      clear hrows hml hsort hps2 htot hlen' hM htt hss r1 r2 r3 hove hgb hgl hgc htk hMT
      have hd1 : (((TT : Nat) : Int) != ((TT : Nat) : Int)) = false := by simp
      go_wp2_with fail
      refine (merge_ok _ _ SS HROWS.out (by rw [HLEN.out]; omega) (by rw [HLEN.out]; omega) (by rw [HTOT.out]; omega) HPS2.out).mono ?_
      rw [HM'.out]
      rintro e w1 ⟨mv, rfl, hown, hk1⟩
      obtain ⟨ma, mcap, hmv, hmc⟩ := own_pairs hown
      rw [HMT.out] at hmv
      subst hmv
      have HMC := Lib.hid hmc
      have HK1 := Lib.hid (R2.out.trans hk1)
      clear hown hk1 hmc
      go_wp2_with (go_at_call 10; refine (lives_any _).mono ?_; rintro e w2 ⟨rfl, hk2⟩)
      have HK12 := Lib.hid hk2
      have HK2 := Lib.hid (HK1.out.trans hk2)
      clear hk2 HK1
      go_loopg [11] (M.length) (fun g v11 wr => ∃ i : Nat, i + g = M.length + 1 ∧ 1 ≤ i ∧ v11 = .int .i64 i ∧ Hid (Kept [] w2 wr))
      case atStart => exact ⟨1, by omega, by omega, rfl, Kept.refl _ _⟩
      case round =>
        obtain ⟨i, hi, hi1, rfl, hk5⟩ := hrel
        have HK5 := hk5
        clear hk5
        have hmt := HMT.out
        by_cases hil : i < M.length
        · obtain ⟨p, hp⟩ : ∃ p, M[i - 1]? = some p := ⟨M[i - 1], by simp [show i - 1 < M.length by omega]⟩
          obtain ⟨q, hq⟩ : ∃ q, M[i]? = some q := ⟨M[i], by simp [hil]⟩
          obtain ⟨mb, mo, rfl, hmb, p0, p1⟩ := HMC.out (i - 1) p hp
          obtain ⟨mb', mo', hme, hmb', q0, q1⟩ := HMC.out i q hq
          simp only [Option.some.injEq, Addr.mk.injEq, and_true] at hme
          obtain ⟨rfl, rfl⟩ := hme
          have hkk := HK12.out.trans HK5.out
          have p0 := (hkk.cell hmb (by simp)).trans p0
          have p1 := (hkk.cell hmb (by simp)).trans p1
          have q0 := (hkk.cell hmb (by simp)).trans q0
          have q1 := (hkk.cell hmb (by simp)).trans q1
          have hbe : before p q := by
            have hp' : p = M[i - 1]'(by omega) := by simpa [show i - 1 < M.length by omega] using hp.symm
            have hq' : q = M[i]'(by omega) := by simpa [hil] using hq.symm
            rw [hp', hq']
            exact List.pairwise_iff_getElem.1 HSORT.out (i - 1) i (by omega) (by omega) (by omega)
          have u0 : (0 : Int) ≤ (i : Int) := by omega
          have u1 : (i : Int) < (TT : Int) := by omega
          have u2 : (0 : Int) ≤ (i : Int) - 1 := by omega
          have u3 : (i : Int) - 1 < (TT : Int) := by omega
          have u4 : ((i : Int) - 1).toNat = i - 1 := by omega
          have u5 : IntKind.i64.wrap ((i : Int) - 1) = (i : Int) - 1 := IntWalk.i64_in _ (by omega)
          clear hp hq hmb' hkk
          rcases hbe with hlt7 | ⟨heq, hlt7⟩
          · have b1 : decide (q.k < p.k) = false := by simp; omega
            have b2 : (p.k == q.k) = false := by simp; omega
            go_wp2
            go_quiet (fail)
            go_wp2
            go_roundg (M.length - i)
            case measure => omega
            case rel => exact ⟨i + 1, by omega, by omega, by go_num, HK5.out.drewN _⟩
          · have b1 : decide (q.k < p.k) = false := by simp; omega
            have b2 : (p.k == q.k) = true := by simpa using heq
            have b3 : decide (q.t ≤ p.t) = false := by simp; omega
            clear heq
            go_wp2
            go_quiet (fail)
            go_wp2
            go_roundg (M.length - i)
            case measure => omega
            case rel => exact ⟨i + 1, by omega, by omega, by go_num, HK5.out.drewN _⟩
        · have u1 : ¬ (i : Int) < (TT : Int) := by omega
          go_wp2
          go_ret
          exact ⟨rfl, (HK2.out.trans HK5.out).below⟩

theorem sorts_walk (w : World) (v : Value) (rows : List (List Pr)) (h : RowsAt w v rows) (hm : ∀ ps ∈ rows, ps.length ≤ 8796093022208) (hb : rows.length ≤ 8796093022208) :
    Calls Try.prog 5 #[v] w fun e w' => e = .returned (.bool true) ∧ Below w.heap.size w w' := by
  by_cases hbad : largeB rows = true ∨ rows.length < 1 ∨ 64 < rows.length
  · exact sorts_large w v rows h hm hb hbad
  · exact sorts_ok w v rows h hm (by cases hl : largeB rows <;> simp_all) (by omega) (by omega)

set_option maxRecDepth 100000 in
theorem sorts_lifted (os : Os) (started : os.Started) (H : Type) (enc : TypeId × Value → H) :
    ReturnsInHanded {} Try.checked os 5 .any (Rows.treeSortsSpec.pre6 enc Try.prog Try.f5 Rows.treeSortsRow.domain false) (Rows.treeSortsSpec.post enc Try.prog Try.f5 false true false false) := by
  refine returnsInHanded_of_change_sized (C := Try.checked) Try.own started (by kernel_rfl) Try.func5
    (ChangeSpec.witness6 (enc := enc) (C := Try.checked) false ⟨#[], #[.slice none 0 0], []⟩ 8 (by kernel_rfl) (by kernel_rfl) (by kernel_rfl) (by kernel_rfl)) ?_
  intro W base args ds gs before hval0 hW hcnd hsz0 _
  have hval : ∀ (j : Nat) t v, Try.f5.params[j]? = some t → args[j]? = some v → Value.okWide Try.prog W .any base t v := hval0
  have hW' := hW
  obtain ⟨p, q, hA0, hV, rfl, hfz, hnd⟩ := hW
  have hA : DataW.TrodAll enc Try.prog W 0 (fun _ => true) true Try.f5.params.toList args.toList ds p := hA0
  rw [Try.params5] at hA hval
  obtain ⟨v1, vs1, d1, ds1, p1, q1, hargs, rfl, rfl, h1, r1⟩ := trodAll_cons hA
  obtain ⟨rfl, rfl, rfl⟩ := trodAll_nil r1
  obtain rfl : args = #[v1] := by cases args; simp_all
  obtain ⟨rfl, rfl⟩ := trodVars_none hV
  have hsz : (DataW.weightsEach Try.prog [40] [d1]).all (· ≤ reachBytes) = true := hsz0
  obtain ⟨a, len, cap, rfl⟩ := okWide_slice Try.underlying40 (hval 0 40 v1 rfl rfl)
  have k1 := h1
  have lt1 : ∀ x ∈ p1, x.block < W.heap.size := by obtain ⟨m, hm⟩ := k1; exact DataW.trod_lt m _ _ _ hm
  obtain ⟨fuel, hf⟩ := h1
  obtain ⟨v, rows, hcs, hR, hM, hB⟩ := rows_open hf hsz
  obtain rfl : v = .slice a len cap := by simpa [Value.cells] using hcs.symm
  clear hA0 hval0
  refine (sorts_walk W _ rows hR hM hB).mono fun e W' ⟨he, bel⟩ => ?_
  subst he
  exact ⟨_, rfl, _, _, _, [], _, [], hW', trodAll_mk1 (shut_bool Try.underlying4 _), (trodAll_cons_mk (Below.trod Try.laidOut (by kernel_rfl) (of_decide_eq_true (by kernel_rfl)) k1 bel lt1) trodAll_mk0), rfl, bel.frame _, fun h => by cases h⟩

theorem treeSorts_holds : Rows.TreeSortsSaid :=
  OpenClaim.holds_of_wide 5 Try.f5 rfl rfl rfl rfl rfl rfl rfl ⟨rfl, rfl, rfl, rfl, rfl⟩ rfl rfl rfl rfl rfl (by kernel_rfl) Try.func5 (by kernel_rfl)
    (of_decide_eq_true (by kernel_rfl)) (by unfold Func.isWrapper; first | (rw [if_pos (by decide +kernel)]; kernel_rfl) | (rw [if_neg (by decide +kernel)]; exact ⟨rfl, rfl⟩))
    (fun os started H enc _ => sorts_lifted os started H enc)
#print axioms treeSorts_holds

end Go.Proofs.Ytjedpimoemapfaa
