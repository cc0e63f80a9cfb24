/- The leaves of a shape, listed. -/
import Derived.Test.YtnfdbbjemlehnaaDoorLm
import Derived.Test.YtnfdbbjemlehnaaDoorS
namespace Go.Proofs.YtnfdbbjemlehnaaDoor
open Go.RowKit

theorem own_kept {S : List Nat} {w w' : World} {base e size n : Nat} {v : Value} {xs : List Value} (h : w.ownsRow base e size v n xs) (k : Kept S w w') (hS : ∀ g, v.ownBlock = some g → g ∉ S) : w'.ownsRow base e size v n xs := by
  obtain ⟨h1, h2⟩ := h
  refine ⟨h1, ?_⟩
  rcases h2 with h2 | ⟨g, cap, cur, hv, hg, hh, r⟩
  · exact .inl h2
  · subst hv
    exact .inr ⟨g, cap, cur, rfl, hg, (k.block g (lt_of_block hh) (hS g rfl)).trans hh, r⟩

theorem own_base {w : World} {base e size n : Nat} {v : Value} {xs : List Value} (h : w.ownsRow base e size v n xs) {g : Nat} (hg : v.ownBlock = some g) : base ≤ g ∧ g < w.heap.size := by
  obtain ⟨_, h2⟩ := h
  rcases h2 with ⟨hv, _⟩ | ⟨g', cap, cur, hv, hb, hh, r⟩
  · subst hv; simp [Value.ownBlock] at hg
  · subst hv
    simp only [Value.ownBlock, Option.some.injEq] at hg
    subst hg
    exact ⟨hb, lt_of_block hh⟩

theorem own_mono {w : World} {base base' e size n : Nat} {v : Value} {xs : List Value} (h : w.ownsRow base e size v n xs) (hb : base' ≤ base) : w.ownsRow base' e size v n xs := by
  obtain ⟨h1, h2⟩ := h
  refine ⟨h1, ?_⟩
  rcases h2 with h2 | ⟨g, cap, cur, hv, hg, r⟩
  · exact .inl h2
  · exact .inr ⟨g, cap, cur, hv, by omega, r⟩

theorem grown_kept {w w' : World} {row : Option Nat} (h : w.grownBy w' row) : Kept row.toList w w' :=
  ⟨h.os, h.tape, h.output, h.size, fun k hk hn => h.block k hk (by intro e; apply hn; rw [← e]; simp)⟩

theorem nmem_of {o : Option Nat} {b : Nat} (h : o ≠ some b) : b ∉ o.toList := by
  cases o with
  | none => simp
  | some c => simp; intro e; exact h (by rw [e])

/-- What an owned row's cells read. -/
theorem own_cell {w : World} {base e n : Nat} {g cap : Nat} {xs : List Value} (h : w.ownsRow base e 1 (.slice (some ⟨g, 0, none⟩) n cap) n xs) (j : Nat) (u : Value) (hu : xs[j]? = some u) : w.cell? ⟨g, j, none⟩ = some u := by
  obtain ⟨h1, h2⟩ := h
  rcases h2 with ⟨hv, _⟩ | ⟨g', cap', cur, hv, hg, hh, hn, hc, hs, ht⟩
  · simp at hv
  · simp only [Value.slice.injEq, Option.some.injEq, Addr.mk.injEq, and_true] at hv
    obtain ⟨rfl, _, rfl⟩ := hv
    have hjl : j < n := by
      rcases Nat.lt_or_ge j n with h | h
      · exact h
      · rw [List.getElem?_eq_none (by omega)] at hu; simp at hu
    rw [← ht, List.getElem?_take, if_pos (by omega)] at hu
    simp [World.cell?, hh]
    simpa using hu

theorem own_ints {w : World} {base : Nat} {v : Value} {l : List Int} (h : w.ownsRow base 3 1 v l.length (l.map (Value.int .i64))) : IntsAt w v l := by
  have h' := h
  obtain ⟨h1, h2⟩ := h
  rcases h2 with ⟨rfl, hn⟩ | ⟨g, cap, cur, rfl, hg, hh, r⟩
  · have := List.eq_nil_of_length_eq_zero hn
    subst this
    exact ⟨none, 0, rfl, fun j n hj => by simp at hj⟩
  · refine ⟨some ⟨g, 0, none⟩, cap, rfl, fun j n hj => ⟨g, 0, rfl, lt_of_block hh, ?_⟩⟩
    rw [Nat.zero_add]
    exact own_cell h' j _ (by rw [List.getElem?_map, hj]; rfl)

theorem Tryd.info3 : (Tryd.prog.info? 3).map (fun i => (i.zero, i.size, i.bytes)) = some (some (.int .i64 0), 1, 8) := by kernel_rfl

theorem leavesF_node (lf : Int) {l : List Sh} (h : l ≠ []) : leavesF (.node lf l) = leavesFs l := by
  cases l with
  | nil => exact absurd rfl h
  | cons a r => rfl

theorem leavesFs_append (a : List Sh) (x : Sh) : leavesFs (a ++ [x]) = leavesFs a ++ leavesF x := by
  induction a with
  | nil => simp [leavesFs]
  | cons y r ih => simp [leavesFs, ih]

theorem leavesF_pos : ∀ s, 0 < (leavesF s).length := by
  intro s
  refine Sh.ind (P := fun s => 0 < (leavesF s).length) ?_ s
  intro lf l ih
  cases l with
  | nil => simp [leavesF]
  | cons a r =>
    have := ih a (by simp)
    simp only [leavesF, List.length_append]
    omega

theorem leavesFs_take (l : List Sh) (k : Nat) : (leavesFs (l.take k)).length ≤ (leavesFs l).length := by
  induction l generalizing k with
  | nil => simp
  | cons a r ih =>
    cases k with
    | zero => simp [leavesFs]
    | succ k =>
      have := ih k
      simp only [List.take_succ_cons, leavesFs, List.length_append]
      omega

theorem leavesFs_len (l : List Sh) : l.length ≤ (leavesFs l).length := by
  induction l with
  | nil => simp
  | cons a r ih => have := leavesF_pos a; simp only [leavesFs, List.length_append, List.length_cons]; omega

theorem own_new {w : World} {base b e size n : Nat} {xs : List Value} (h : Arr w b e xs) (hx : xs.length = n * size) (hb : base ≤ b) (hn : n ≤ maxLen) : w.ownsRow base e size (.slice (some ⟨b, 0, none⟩) n n) n xs :=
  ⟨hx, .inr ⟨b, n, xs.toArray, rfl, hb, h, Nat.le_refl _, hn, by simpa using hx, by rw [← hx]; simp⟩⟩

theorem own_news {w : World} {base e n : Nat} {g cap : Nat} {xs : List Value} (h : w.ownsRow base e 1 (.slice (some ⟨g, 0, none⟩) n cap) n xs) : ∀ j u, xs[j]? = some u → w.cell? ((⟨g, 0, none⟩ : Addr).add j) = some u := fun j u hu => by
  have hadd : (⟨g, 0, none⟩ : Addr).add j = ⟨g, j, none⟩ := by unfold Addr.add; split <;> simp_all
  rw [hadd]
  exact own_cell h j u hu

def LeavesPost (s : Sh) (w : World) (en : Ending) (w' : World) : Prop :=
  ∃ v, en = .returned v ∧ w'.ownsRow w.heap.size 3 1 v (leavesF s).length ((leavesF s).map (Value.int .i64)) ∧ Kept [] w w'

set_option maxHeartbeats 3200000 in
theorem leaves_any : ∀ (s : Sh) (w : World) (v : Value), (leavesF s).length ≤ 1000 → ShAt w 0 s v → Calls Tryd.prog 10 #[v] w (LeavesPost s w) := by
  intro s
  refine Sh.ind (P := fun s => ∀ (w : World) (v : Value), (leavesF s).length ≤ 1000 → ShAt w 0 s v → Calls Tryd.prog 10 #[v] w (LeavesPost s w)) ?_ s
  clear s
  intro lf l ih w v hlen hv
  obtain ⟨a, cp, rfl, hn⟩ := hv.nth
  have HN := Lib.hid hn
  have IH := Lib.hid ih
  obtain ⟨i0, hi0, hz0, hz1, hz2⟩ := info_parts Tryd.info3
  have HI := Lib.hid (And.intro hi0 (And.intro hz0 (And.intro hz1 hz2)))
  clear hv hn ih hi0 hz0 hz1 hz2
  by_cases hl : l = []
  · subst hl
    go_enter Tryd.func10, Tryd.ntmps10
    go_wp2
    go_ret
    exact ⟨_, rfl, own_new (n := 1) (xs := [.int .i64 lf]) (Arr.new' (by simp) rfl) rfl (by omega) (by simp [maxLen]), (Kept.alloc (Kept.alloc (Kept.refl [] w) _) _)⟩
  · have hF := leavesF_node lf hl
    have hl0 : 0 < l.length := List.length_pos_iff.mpr hl
    have hl1 : ((l.length : Int) == 0) = false := by rw [beq_eq_false_iff_ne]; omega
    have hl2 : ¬ l.length = 0 := by omega
    rw [hF] at hlen
    have hll : (l.length : Int) ≤ 1000 := by have := leavesFs_len l; omega
    have HF := Lib.hid hF
    have K : Kept [] w (w.alloc (Obj.cells #[.int .i64 lf, .slice a l.length cp] 26)) := Kept.alloc (Kept.refl [] w) _
    have AS : Arr (w.alloc (Obj.cells #[.int .i64 lf, .slice a l.length cp] 26)) w.heap.size 26 [.int .i64 lf, .slice a l.length cp] := Arr.new' rfl rfl
    have HK := Lib.hid K
    have HAS := Lib.hid AS
    have hsz : (w.alloc (Obj.cells #[.int .i64 lf, .slice a l.length cp] 26)).heap.size = w.heap.size + 1 := by simp
    have HSZ := Lib.hid hsz
    clear hF hl K AS hsz
    go_enter Tryd.func10, Tryd.ntmps10
    go_wp2
    generalize hbx : w.heap.size = bx at HAS HSZ ⊢
    have HBX := Lib.hid hbx
    clear hbx
    generalize w.alloc (Obj.cells #[.int .i64 lf, .slice a l.length cp] 26) = w1 at *
    go_loopg [3, 16] l.length (fun g v3 i wr => ∃ (k : Nat) (ov : Value), k + g = l.length ∧ i = .int .i64 k ∧ v3 = ov ∧ Hid (wr.ownsRow (bx + 1) 3 1 ov (leavesFs (l.take k)).length ((leavesFs (l.take k)).map (Value.int .i64))) ∧ Hid (Kept [] w1 wr))
    case atStart => exact ⟨0, _, by omega, rfl, rfl, Lib.hid ⟨rfl, .inl ⟨rfl, rfl⟩⟩, Lib.hid (Kept.refl _ _)⟩
    case round =>
      obtain ⟨k, ov, hk, rfl, hov, hrow, hkp⟩ := hrel
      subst hov
      obtain ⟨wo, hwo⟩ : ∃ wo : World, wo = wr := ⟨_, rfl⟩
      subst hwo
      have A2 := HAS.out.kept hkp.out (by simp)
      have c1 := A2.cell (i := 1) rfl
      clear A2
      by_cases hlt : k < l.length
      · obtain ⟨s, hs⟩ : ∃ s, l[k]? = some s := ⟨l[k], by simp [hlt]⟩
        obtain ⟨b, o, x0, x1, rfl, hb, q0, q1, hsh⟩ := HN.out k s hs
        have q0 := ((HK.out.trans hkp.out).cell hb (by simp)).trans q0
        have q1 := ((HK.out.trans hkp.out).cell hb (by simp)).trans q1
        obtain ⟨lf', a', n', cp', he⟩ := hsh.form
        simp only [Value.agg.injEq, Array.mk.injEq, List.cons.injEq, and_true] at he
        obtain ⟨rfl, rfl⟩ := he
        have HSH := Lib.hid (hsh.kept (HK.out.trans hkp.out) (by simp))
        have hk0 : (0 : Int) ≤ (k : Int) := by omega
        have hk1 : (k : Int) < (l.length : Int) := by omega
        have hmem := List.mem_of_getElem? hs
        have HM := Lib.hid hmem
        have hts : leavesFs (l.take (k + 1)) = leavesFs (l.take k) ++ leavesF s := by
          rw [List.take_add_one, hs]; exact leavesFs_append _ _
        have htl := leavesFs_take l (k + 1)
        rw [hts, List.length_append] at htl
        have HTS := Lib.hid hts
        have HTL := Lib.hid htl
        have HLE := Lib.hid hlen
        have hpos := leavesF_pos s
        have HPOS := Lib.hid hpos
        clear hs hsh hmem hts htl hlen hpos
        go_wp2_with fail
        refine (IH.out s HM.out _ _ (by have := HTL.out; have := HLE.out; omega) (HSH.out.kept (Kept.alloc (Kept.refl [] wo) _) (by simp))).mono ?_
        rintro e w2 ⟨rv, rfl, ho, hk2⟩
        obtain ⟨g2, cap2, hrv, hg2, hgl2⟩ := ho.form HPOS.out
        subst hrv
        have hk3 : Kept [] wo w2 := ((Kept.refl [] wo).alloc _).trans hk2
        have HO := Lib.hid ho
        have HR2 := Lib.hid (own_kept hrow.out hk3 (by simp))
        have hbs : bx + 1 ≤ w2.heap.size := by have := HSZ.out; have := hkp.out.size; have := hk3.size; omega
        have HBS := Lib.hid hbs
        have HK3 := Lib.hid hk3
        clear ho hk2 hg2 hgl2 hk3 hbs
        go_wp2_with (at_builtin; go_must (refine wpList_append_lies _ rfl _ _ 34 rfl (bx + 1) 3 i0 _ 1 8 Tryd.underlying34 HI.out.1 HI.out.2.1 HI.out.2.2.1 HI.out.2.2.2 rfl (by decide) u3 _ _ rfl HR2.out ⟨g2, 0, none⟩ (leavesF s).length cap2 ((leavesF s).map (Value.int .i64)) rfl (by simp) (own_news HO.out) (by intro u hu; obtain ⟨z, _, rfl⟩ := List.mem_map.1 hu; rfl) HPOS.out (by have := HTL.out; have := HLE.out; unfold maxLen; omega) (by have := HTL.out; have := HLE.out; omega) HBS.out w2.heap.size rfl ?_); intro gb cap3 w3 hown3 hgrow hatb hltb; have HO3 := Lib.hid hown3; have HG3 := Lib.hid hgrow; clear hown3 hgrow hatb hltb)
        have hk4 : Kept [] w1 w3 := (hkp.out.trans HK3.out).fresh (grown_kept HG3.out) (by intro x hx hlt; have := own_base HR2.out (g := x) (by simpa using hx); have := HSZ.out; omega)
        have HK4 := Lib.hid hk4
        clear hk4
        go_roundg (l.length - (k + 1))
        case measure => omega
        case rel => exact ⟨k + 1, _, by omega, by go_num, rfl, by rw [HTS.out, List.length_append, List.map_append]; exact HO3, HK4⟩
      · obtain rfl : k = l.length := by omega
        rw [List.take_length] at hrow
        go_wp2_with fail
        go_ret
        exact ⟨_, rfl, by rw [HF.out, ← HBX.out]; exact own_mono hrow.out (by rw [HBX.out]; omega), HK.out.trans hkp.out⟩
end Go.Proofs.YtnfdbbjemlehnaaDoor
