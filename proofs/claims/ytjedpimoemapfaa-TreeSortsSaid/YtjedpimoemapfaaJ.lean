/- Merge -/
import Derived.Test.YtjedpimoemapfaaI
import Derived.Deep.AppendLies
import Derived.WalkSpells
namespace Go.Proofs.Ytjedpimoemapfaa
open Go.RowKit

set_option maxHeartbeats 400000 in
theorem merge_err (w : World) (v : Value) (rows : List (List Pr)) (h : RowsAt w v rows) (f : Value) (hn : rows.length < 1 ∨ 64 < rows.length) (hb : rows.length ≤ 8796093022208) :
    Calls Try.prog 15 #[v, f] w fun e w' => e = .returned (.tuple #[.slice none 0 0, .int .i64 1]) ∧ Kept [] w w' := by
  obtain ⟨a, cap, rfl, _⟩ := h
  have HN := Lib.hid hn
  clear hn
  go_enter Try.func15, Try.ntmps15
  go_wp2_with (go_at_call 8; refine (new_err _ rows.length f (by have := HN.out; omega)).mono ?_; rintro e w' ⟨rfl, rfl⟩)
  go_ret2
  exact ⟨rfl, ((Kept.refl _ _).alloc _).alloc _⟩

set_option maxHeartbeats 400000 in
theorem merge_nil (w : World) (v : Value) (rows : List (List Pr)) (h : RowsAt w v rows) :
    Calls Try.prog 15 #[v, .nilFunc] w fun e w' => e = .returned (.tuple #[.slice none 0 0, .int .i64 1]) ∧ Kept [] w w' := by
  obtain ⟨a, cap, rfl, _⟩ := h
  go_enter Try.func15, Try.ntmps15
  go_wp2_with (go_at_call 8; refine (new_nil _ rows.length).mono ?_; rintro e w' ⟨rfl, rfl⟩)
  go_ret2
  exact ⟨rfl, ((Kept.refl _ _).alloc _).alloc _⟩

def prcells (l : List Pr) : List Value := l.flatMap fun p => [.int .i64 p.k, .int .i64 p.t]

theorem own_kept {S : List Nat} {w w' : World} {base e size n : Nat} {v : Value} {xs : List Value} (h : w.ownsRow base e size v n xs) (k : Kept S w w') (hS : ∀ g, v.ownBlock = some g → g ∉ S) : w'.ownsRow base e size v n xs := by
  obtain ⟨h1, h2⟩ := h
  refine ⟨h1, ?_⟩
  rcases h2 with h2 | ⟨g, cap, cur, hv, hg, hh, r⟩
  · exact .inl h2
  · subst hv
    exact .inr ⟨g, cap, cur, rfl, hg, (k.block g (lt_of_block hh) (hS g rfl)).trans hh, r⟩

theorem own_sep {w : World} {base e size n : Nat} {v : Value} {xs : List Value} (h : w.ownsRow base e size v n xs) {b : Nat} {T : TypeId} {ys : List Value} (hb : Arr w b T ys) (hT : T ≠ e) : v.ownBlock ≠ some b := by
  obtain ⟨_, h2⟩ := h
  rcases h2 with ⟨hv, _⟩ | ⟨g, cap, cur, hv, hg, hh, r⟩
  · subst hv; simp [Value.ownBlock]
  · subst hv
    intro e'
    simp only [Value.ownBlock, Option.some.injEq] at e'
    subst e'
    unfold Arr at hb
    rw [hh] at hb
    simp at hb
    exact hT hb.2.symm

theorem own_base {w : World} {base e size n : Nat} {v : Value} {xs : List Value} (h : w.ownsRow base e size v n xs) {g : Nat} (hg : v.ownBlock = some g) : base ≤ g := by
  obtain ⟨_, h2⟩ := h
  rcases h2 with ⟨hv, _⟩ | ⟨g', cap, cur, hv, hb, hh, r⟩
  · subst hv; simp [Value.ownBlock] at hg
  · subst hv
    simp only [Value.ownBlock, Option.some.injEq] at hg
    omega

theorem grown_kept {w w' : World} {row : Option Nat} (h : w.grownBy w' row) : Kept row.toList w w' :=
  ⟨h.os, h.tape, h.output, h.size, fun k hk hn => h.block k hk (by intro e; apply hn; rw [← e]; simp)⟩

theorem prcells_snoc (l : List Pr) (p : Pr) : prcells (l ++ [p]) = prcells l ++ [.int .i64 p.k, .int .i64 p.t] := by simp [prcells]

theorem nmem_of {o : Option Nat} {b : Nat} (h : o ≠ some b) : b ∉ o.toList := by
  cases o with
  | none => simp
  | some c => simp; intro e; exact h (by rw [e])

theorem heads_set {rows : List (List Pr)} {cs : List Nat} {v x : Nat} {ps : List Pr} (h : CsOk rows cs) (hp : rows[v]? = some ps) : (heads rows cs).set v (leafAt ps x) = heads rows (cs.set v x) := by
  apply List.ext_getElem?
  intro i
  have hv : v < rows.length := by rcases Nat.lt_or_ge v rows.length with h | h; exact h; simp [List.getElem?_eq_none h] at hp
  by_cases e : v = i
  · subst e
    rw [List.getElem?_set_self (by rw [heads_len h]; exact hv), heads_at hp (List.getElem?_set_self (by rw [h.len]; exact hv))]
  · rw [List.getElem?_set_ne e]
    simp only [heads, List.getElem?_zipWith]
    rw [List.getElem?_set_ne e]

def MergePost (w : World) (ps : List Pr) (e : Ending) (w' : World) : Prop :=
  ∃ v, e = .returned (.tuple #[v, .int .i64 0]) ∧ w'.ownsRow w.heap.size 28 2 v ps.length (prcells ps) ∧ Kept [] w w'

theorem Try.info28 : (Try.prog.info? 28).map (fun i => (i.zero, i.size, i.bytes)) = some (some (.agg #[.int .i64 0, .int .i64 0]), 2, 16) := by kernel_rfl

set_option maxHeartbeats 1000000 in
theorem merge_ok (w : World) (v : Value) (rows : List (List Pr)) (h : RowsAt w v rows) (h1 : 1 ≤ rows.length) (h2 : rows.length ≤ 64) (ht : total rows ≤ 1000000) (hm : ∀ ps ∈ rows, ps.length ≤ 1000000) :
    Calls Try.prog 15 #[v, .func (.func 9) #[] #[]] w (MergePost w (merged rows)) := by
  have hmf : ∀ (fn : Fn) (first cap : Array Value) (w : World), (Instr.makeFunc fn first cap).run Try.prog w = .ok (.func fn first cap) w := fun _ _ _ _ => rfl
  have H := Lib.hid h
  have HM := Lib.hid hm
  obtain ⟨a, cap, hv, _⟩ := h
  subst hv
  have hmk := fun W => run_make_any (P := Try.prog) 58 3 _ _ _ Try.underlying58 Try.info3 .i64 .i64 rows.length (by omega) (by omega) W
  have hl0 : (0 : Int) ≤ (rows.length : Int) := by omega
  clear hm
  go_enter Try.func15, Try.ntmps15
  go_wp2_with (go_at_call 8; refine (new_ok _ none 0 trivial (by omega) rows.length h1 h2).mono ?_; rintro e w1 ⟨bt, bl, bw, ws, m', rfl, hT, hk1, hbt, hbl, hbw, _, _⟩; have hl1 : Arr w1 w.heap.size 40 [.slice a rows.length cap] := (Arr.new' rfl rfl).kept hk1 (by simp); have hlc := hl1.cell (i := 0) rfl; have hll := hl1.lt; have hll2 : w.heap.size < w1.heap.size + 1 := (by omega); have hll3 : w.heap.size < w1.heap.size + 1 + 1 := (by omega); have HT := Lib.hid hT; have HL1 := Lib.hid hl1; have HK1 := Lib.hid (((Kept.refl [] w).alloc _).trans hk1); clear hT hl1 hk1)
  generalize hva : w1.heap.size + 1 + 1 = va at *
  generalize hbn : w1.heap.size + 1 = bn at *
  generalize hvt : w1.heap.size = vt at *
  have HSZ := Lib.hid (And.intro hva (And.intro hbn hvt))
  have hMV : MV (((w1.alloc (.cells #[.pointer (some ⟨bt, 0, none⟩)] 23)).alloc (.cells (madeCells #[Value.int .i64 0] rows.length) 3)).alloc (.cells #[.slice (some ⟨bn, 0, none⟩) rows.length rows.length] 58)) va w.heap.size vt bt bn (.slice a rows.length cap) (List.replicate rows.length 0) := by
    refine ⟨Arr.new' (by simp; omega) (by simp), ((HL1.out.alloc _).alloc _).alloc _, ((Arr.new' (by omega) rfl).alloc _).alloc _, (Arr.new' (by simp; omega) ?_).alloc _⟩
    exact made_ints _
  have hT2 := ((HT.out.zero.alloc (.cells #[.pointer (some ⟨bt, 0, none⟩)] 23)).alloc (.cells (madeCells #[Value.int .i64 0] rows.length) 3)).alloc (.cells #[.slice (some ⟨bn, 0, none⟩) rows.length rows.length] 58)
  have hK2 := ((HK1.out.alloc (.cells #[.pointer (some ⟨bt, 0, none⟩)] 23)).alloc (.cells (madeCells #[Value.int .i64 0] rows.length) 3)).alloc (.cells #[.slice (some ⟨bn, 0, none⟩) rows.length rows.length] 58)
  have HMV := Lib.hid hMV
  have HT2 := Lib.hid hT2
  have HK2 := Lib.hid hK2
  have hnw : bn ≠ bw := by have := HT.out.t8.w.lt; omega
  have hbn0 : w.heap.size ≤ bn := by omega
  have hbt : w.heap.size ≤ bt := by simp at hbt; omega
  have hbl : w.heap.size ≤ bl := by simp at hbl; omega
  have hbw : w.heap.size ≤ bw := by simp at hbw; omega
  clear hMV hT2 hK2 hlc HL1 HT hva hbn hvt hll hll2 hll3
  go_loopg [10, 31] rows.length (fun g v10 i wr => ∃ k : Nat, k + g = rows.length ∧ i = .int .i64 k ∧ Hid (∃ ls ws ats, TOk wr bt bl bw none 0 (2 ^ stepsF rows.length) (stepsF rows.length) ls ws ∧ MV wr va w.heap.size vt bt bn (.slice a rows.length cap) ats ∧ Kept [] w wr ∧ ls.length = rows.length ∧ ats.length = rows.length ∧
      ∀ (i : Nat) (ps : List Pr), rows[i]? = some ps → ls[i]? = some (if i < k then leafAt ps 0 else zeroLf) ∧ ats[i]? = some (if i < k ∧ 0 < ps.length then 1 else 0)))
  case atStart =>
    refine ⟨0, by omega, rfl, _, _, _, HT2.out, HMV.out, HK2.out, by simp, by simp, ?_⟩
    intro i ps hi
    have hil : i < rows.length := by rcases Nat.lt_or_ge i rows.length with h | h; exact h; simp [List.getElem?_eq_none h] at hi
    simp [hil]
  case round =>
    obtain ⟨k, hk, rfl, hr⟩ := hrel
    obtain ⟨ls, ws', ats, r1, r2, r3, r4, r5, r6⟩ := hr.out
    clear hr
    by_cases hlt : k < rows.length
    · obtain ⟨ps, hps⟩ : ∃ ps, rows[k]? = some ps := ⟨rows[k], by simp [hlt]⟩
      have hlt1 : (k : Int) < (rows.length : Int) := by omega
      obtain ⟨e1, e2⟩ := r6 k ps hps
      rw [if_neg (by omega)] at e1 e2
      have R1 := Lib.hid r1
      have R2 := Lib.hid r2
      have R3 := Lib.hid r3
      have R6 := Lib.hid r6
      have E2 := Lib.hid e2
      have HPS := Lib.hid hps
      have hml := HM.out ps (List.mem_of_getElem? hps)
      clear r1 r2 r3 r6 e1 e2 hps
      go_wp2_with (go_at_call 28; refine (step_any w _ va w.heap.size vt bt bl bw bn _ _ rows ls ws' ats R1.out R2.out H.out R3.out hbt hbl hbw hnw k 0 ps (by omega) E2.out HPS.out (by omega) (by omega)).mono ?_; rintro e w2 ⟨rfl, ws2, hT3, hM3, hK3⟩)
      go_roundg (rows.length - (k + 1))
      case measure => omega
      case rel =>
        refine ⟨k + 1, by omega, by go_num, _, ws2, _, hT3, hM3, R3.out.fresh hK3 (by intro x hx hlt; simp at hx; omega), by simpa using r4, by simpa using r5, ?_⟩
        intro i qs hi
        by_cases e : k = i
        · subst e
          rw [HPS.out] at hi
          simp only [Option.some.injEq] at hi
          subst hi
          rw [List.getElem?_set_self (by omega), List.getElem?_set_self (by omega), if_pos (by omega)]
          refine ⟨rfl, ?_⟩
          by_cases h0 : 0 < ps.length
          · rw [if_pos h0, if_pos ⟨by omega, h0⟩]
          · rw [if_neg h0, if_neg (by omega)]
        · rw [List.getElem?_set_ne e, List.getElem?_set_ne e]
          obtain ⟨f1, f2⟩ := R6.out i qs hi
          rw [f1, f2]
          have : i < k ↔ i < k + 1 := by omega
          simp only [this, and_self]
    · obtain rfl : k = rows.length := by omega
      have hls : ls = heads rows (List.replicate rows.length 0) := by
        apply List.ext_getElem?
        intro i
        rcases Nat.lt_or_ge i rows.length with h | h
        · obtain ⟨e1, _⟩ := r6 i rows[i] (by simp [h])
          rw [e1, if_pos h, heads_at (c := 0) (ps := rows[i]) (by simp [h]) (by simp [h])]
        · rw [List.getElem?_eq_none (by omega), List.getElem?_eq_none (by rw [heads_len (CsOk.zero rows)]; exact h)]
      have r6' : ∀ (i : Nat) (ps : List Pr), rows[i]? = some ps → ats[i]? = some (if 0 < ps.length then 1 else 0) := by
        intro i ps hi
        have hil : i < rows.length := by rcases Nat.lt_or_ge i rows.length with h | h; exact h; simp [List.getElem?_eq_none h] at hi
        rw [(r6 i ps hi).2]; simp [hil]
      subst hls
      have R1 := Lib.hid r1
      have R2 := Lib.hid r2
      have R3 := Lib.hid r3
      have R6 := Lib.hid r6'
      obtain ⟨i0, hi0, hz0, hz1, hz2⟩ := info_parts Try.info28
      have HI := Lib.hid (And.intro hi0 (And.intro hz0 (And.intro hz1 hz2)))
      clear r1 r2 r3 r6 r6' hi0 hz0 hz1 hz2
      go_wp2
      go_loopg [11, 12, 13, 14] (total rows) (fun g out v12 v13 v14 wr => ∃ ov : Value, ov = out ∧ Hid (∃ cs acc ws ats, total rows - cs.sum = g ∧ CsOk rows cs ∧ TOk wr bt bl bw none 0 (2 ^ stepsF rows.length) (stepsF rows.length) (heads rows cs) ws ∧ MV wr va w.heap.size vt bt bn (.slice a rows.length cap) ats ∧ Kept [] w wr ∧ ats.length = rows.length ∧
        (∀ (i c : Nat) (ps : List Pr), rows[i]? = some ps → cs[i]? = some c → ats[i]? = some (if c < ps.length then c + 1 else c)) ∧ wr.ownsRow w.heap.size 28 2 ov acc.length (prcells acc) ∧ acc ++ mgr rows cs = merged rows))
      case atStart =>
        refine ⟨_, rfl, List.replicate rows.length 0, [], _, _, by rw [sum_zero]; omega, CsOk.zero rows, R1.out, R2.out, R3.out, by assumption, ?_, ⟨rfl, .inl ⟨rfl, rfl⟩⟩, rfl⟩
        intro i c ps hi hc
        rw [List.getElem?_replicate] at hc
        split at hc
        · simp only [Option.some.injEq] at hc
          subst hc
          rw [R6.out i ps hi]
        · simp at hc
      case round =>
        obtain ⟨ov, hov, hr⟩ := hrel
        subst hov
        obtain ⟨cs, acc, ws2, ats2, q1, q2, q3, q4, q5, q6, q7, q8, q9⟩ := hr.out
        clear hr
        cases hsc : scan (heads rows cs) rows.length with
        | none =>
          have hw : winV (heads rows cs) = noWin := by unfold winV; rw [heads_len q2, hsc]
          have hm0 := mgr_none hsc
          have HW := Lib.hid hw
          have t0 := q4.t.cell (i := 0) rfl
          have Q3 := Lib.hid q3
          have Q5 := Lib.hid q5
          have Q8 := Lib.hid q8
          rw [hm0, List.append_nil] at q9
          subst q9
          clear hw hsc hm0 q1 q2 q3 q4 q5 q6 q7 q8
          go_wp2_with (go_at_call 21; refine (win_ok _ bt bl bw none 0 _ _ (heads rows cs) ws2 Q3.out).mono ?_; rw [HW.out]; simp only [noWin]; rintro e w2 ⟨rfl, hk2⟩)
          go_ret2
          refine ⟨_, rfl, ?_, (Q5.out.trans hk2).alloc _⟩
          exact own_kept Q8.out (hk2.alloc _) (by simp)
        | some v =>
          obtain ⟨ps, c, p, hps, hcs, hp, hcl, hvl⟩ := scan_heads q2 hsc
          have hle : leafAt ps c = ⟨p.k, p.t, true⟩ := by simp [leafAt, hp]
          have hw : winV (heads rows cs) = someWin v ⟨p.k, p.t, true⟩ := by unfold winV; rw [heads_len q2, hsc]; simp only; rw [heads_at hps hcs, hle]
          have hm1 := mgr_some q2 hsc hps hcs hp
          have hq2' := q2.set hps hcs hcl
          have hsum := sum_set cs v c hcs
          have hsle := sum_le _ _ hq2'
          have hat := q7 v c ps hps hcs
          rw [if_pos hcl] at hat
          have hlen : acc.length + 1 ≤ total rows := by
            have := congrArg List.length q9
            rw [merged_len, List.length_append, hm1, List.length_cons] at this
            omega
          have hvc : v < cs.length := by rw [q2.len]; exact hvl
          have hbtl := own_sep q8 q3.t8.t (by decide)
          have hbll := own_sep q8 q3.t8.l (by decide)
          have hbwl := own_sep q8 q3.t8.w (by decide)
          have hval := own_sep q8 q4.at' (by decide)
          have hvll := own_sep q8 q4.l (by decide)
          have hvtl := own_sep q8 q4.t (by decide)
          have hbnl := own_sep q8 q4.n (by decide)
          have hob : ∀ g, ov.ownBlock = some g → w.heap.size ≤ g := fun g hg => own_base q8 hg
          have t0 := q4.t.cell (i := 0) rfl
          have hml := HM.out ps (List.mem_of_getElem? hps)
          have HW := Lib.hid hw
          have Q2 := Lib.hid hq2'
          have Q3 := Lib.hid q3
          have Q4 := Lib.hid q4
          have Q5 := Lib.hid q5
          have Q7 := Lib.hid q7
          have Q8 := Lib.hid q8
          have Q9 := Lib.hid q9
          have HPS := Lib.hid hps
          have HCS := Lib.hid hcs
          have HAT := Lib.hid hat
          have HM1 := Lib.hid hm1
          have HS1 := Lib.hid hsum
          have HLE := Lib.hid hle
          have Q1 := Lib.hid q1
          have Q2' := Lib.hid q2
          have HOB := Lib.hid (And.intro hbtl (And.intro hbll (And.intro hbwl (And.intro hval (And.intro hvll (And.intro hvtl (And.intro hbnl hob)))))))
          have hzlt := q4.t.lt
          have hwle := q5.size
          clear hw hsc hm1 q1 q2 q3 q4 q5 q7 q8 q9 hps hcs hp hat hle hsum hq2' hbtl hbll hbwl hval hvll hvtl hbnl hob
          go_wp2_with (first | (go_at_call 21; refine (win_ok _ bt bl bw none 0 _ _ (heads rows cs) ws2 Q3.out).mono ?_; rw [HW.out]; simp only [someWin]; rintro e w2 ⟨rfl, hk2⟩; have hwle2 := hk2.size) | (at_builtin; go_must (refine wpList_append_lies _ rfl _ _ 42 rfl w.heap.size 28 i0 _ 2 16 Try.underlying42 HI.out.1 HI.out.2.1 HI.out.2.2.1 HI.out.2.2.2 rfl (by decide) ov acc.length (prcells acc) rfl (own_kept Q8.out ((hk2.alloc _).alloc _) (by simp)) ⟨w2.heap.size + 1, 0, none⟩ 1 1 [.int .i64 p.k, .int .i64 p.t] rfl rfl (World.news_of_block (cs := #[.int .i64 p.k, .int .i64 p.t]) (t := 28) (fr := (0, 0)) (show Arr _ (w2.heap.size + 1) 28 [.int .i64 p.k, .int .i64 p.t] from Arr.new' (by simp) rfl)) (by simp [Value.oneCell']) (by decide) (by unfold maxLen; omega) (by omega) (by simp; omega) (w2.heap.size + 1 + 1) (by simp) ?_); intro gb cap3 w3 hown3 hgrow hatb hltb))
          have hgr := grown_kept hgrow
          have hK3 := ((((hk2.alloc (.cells #[.int .i64 p.k, .int .i64 p.t] 28)).alloc (.cells #[.int .i64 p.k, .int .i64 p.t] 28)).mono (S' := ov.ownBlock.toList) (by simp)).trans hgr)
          obtain ⟨o1, o2, o3, o4, o5, o6, o7, o8⟩ := HOB.out
          have hT3 := Q3.out.kept hK3 ⟨nmem_of o1, nmem_of o2, nmem_of o3, by simp⟩
          have hM3 := Q4.out.kept hK3 ⟨nmem_of o4, nmem_of o5, nmem_of o6, nmem_of o7⟩
          have hK3' : Kept [] w w3 := Q5.out.fresh hK3 (by intro x hx hlt; have := o8 x (by simpa using hx); omega)
          have hhl : v < (heads rows cs).length := by rw [heads_len Q2'.out]; exact hvl
          refine (step_any w _ va w.heap.size vt bt bl bw bn _ _ rows (heads rows cs) ws2 ats2 hT3 hM3 H.out hK3' hbt hbl hbw hnw v (c + 1) ps hhl HAT.out HPS.out (by omega) (by omega)).mono ?_
          rintro e w4 ⟨rfl, ws4, hT4, hM4, hK4⟩
          have HT4 := Lib.hid hT4
          have HM4 := Lib.hid hM4
          have HK4 := Lib.hid hK4
          have HK3 := Lib.hid hK3'
          have HOW := Lib.hid hown3
          have g1 := own_sep hown3 hT3.t8.t (by decide)
          have g2 := own_sep hown3 hT3.t8.l (by decide)
          have g3 := own_sep hown3 hT3.t8.w (by decide)
          have g4 := own_sep hown3 hM3.n (by decide)
          have HG := Lib.hid (And.intro g1 (And.intro g2 (And.intro g3 g4)))
          clear hT4 hM4 hK4 hK3' hown3 g1 g2 g3 g4 hT3 hM3 hK3 hgr hgrow o1 o2 o3 o4 o5 o6 o7 o8
          go_wp2
          go_roundg (total rows - (cs.sum + 1))
          case measure => have := Q1.out; have := HS1.out; omega
          case rel =>
            refine ⟨_, rfl, cs.set v (c + 1), acc ++ [p], ws4, _, by rw [HS1.out], Q2.out, ?_, HM4.out, HK3.out.fresh HK4.out (by intro x hx hlt; simp at hx; omega), by simpa using q6, ?_, ?_, ?_⟩
            · rw [← heads_set Q2'.out HPS.out]; exact HT4.out
            · intro i c' ps' hi hc'
              by_cases e : v = i
              · subst e
                rw [HPS.out] at hi
                simp only [Option.some.injEq] at hi
                subst hi
                rw [List.getElem?_set_self hvc] at hc'
                simp only [Option.some.injEq] at hc'
                subst hc'
                rw [List.getElem?_set_self (by omega)]
              · rw [List.getElem?_set_ne e] at hc' ⊢
                exact Q7.out i c' ps' hi hc'
            · obtain ⟨g1, g2, g3, g4⟩ := HG.out
              rw [prcells_snoc]
              have := own_kept HOW.out HK4.out (by intro g hg; simp only [List.mem_cons, List.not_mem_nil, or_false, not_or]; exact ⟨fun e => g1 (by rw [hg, e]), fun e => g2 (by rw [hg, e]), fun e => g3 (by rw [hg, e]), fun e => g4 (by rw [hg, e])⟩)
              simpa using this
            · rw [List.append_assoc]
              have := Q9.out
              rw [HM1.out] at this
              exact this

end Go.Proofs.Ytjedpimoemapfaa
