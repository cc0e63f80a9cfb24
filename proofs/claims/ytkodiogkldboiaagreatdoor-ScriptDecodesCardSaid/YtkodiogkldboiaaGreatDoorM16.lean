/- lives. -/
import Derived.Test.YtkodiogkldboiaaGreatDoorM7
import Derived.Test.YtkodiogkldboiaaGreatDoorM15
set_option linter.unusedVariables false
set_option linter.unusedSimpArgs false
namespace Go.Proofs.YtkodiogkldboiaaGreatDoor
open Go.RowKit
attribute [local go_sem] Oper.semAt_some

theorem ML.keptS {S : List Nat} {w w' : World} (h : ML w) (k : Kept S w w') (hS : 0 < w.heap.size → 0 ∉ S) : ML w' := by
  obtain ⟨m, hm⟩ := h
  have hlt := World.block_lt_of_cell? w _ hm
  exact ⟨m, (k.cell hlt (hS hlt)).trans hm⟩

set_option maxRecDepth 100000 in
set_option maxHeartbeats 6400000 in
theorem lives (w : World) (hm : ML w) : Calls Tryz.prog 6 #[] w (BoolPost true w) := by
  have HM := Lib.hid hm
  clear hm
  go_enter Tryz.func6, Tryz.ntmps6
  go_wp2_with fail
  refine (small_script _ _).mono (fun e w1 h => ?_)
  obtain ⟨q, hq, t, rfl, ht, k1⟩ : ∃ q : ByteArray, q.size ≤ 16384 ∧ SmallSPost q _ e w1 := ⟨_, by decide +kernel, h⟩
  clear h
  have HT := Lib.hid ht
  have HK1 := Lib.hid k1
  have hw01 : w.heap.size ≤ w1.heap.size := k1.size
  have hg0 : 0 < w1.heap.size := by obtain ⟨m, hm⟩ := HM.out; exact Nat.lt_of_lt_of_le (World.block_lt_of_cell? w _ hm) hw01
  have HQ := Lib.hid hq
  clear ht k1 hq
  have HTL := Lib.hid (HT.out.next (Q := fun b => b < w1.heap.size) (Kept.refl [] w1) (by simp) (fun _ _ h => h))
  obtain ⟨ta, tc, e0, _⟩ := HT.out.form
  have e1 : t = .slice ta 2 tc := e0
  clear e0
  subst e1
  go_wp2_with fail
  have k2 : Kept [] w1 ((w1.alloc (Obj.cells #[Value.slice ta 2 tc, Value.string q, Value.int .i64 4, Value.int .i64 500, Value.int .i64 0, Value.slice (some ⟨w1.heap.size + 1, 0, none⟩) 1 1] 25)).alloc (Obj.cells #[Value.int .i64 1000] 3)) := ((Kept.refl [] w1).alloc _).alloc _
  have a2 : Arr ((w1.alloc (Obj.cells #[Value.slice ta 2 tc, Value.string q, Value.int .i64 4, Value.int .i64 500, Value.int .i64 0, Value.slice (some ⟨w1.heap.size + 1, 0, none⟩) 1 1] 25)).alloc (Obj.cells #[Value.int .i64 1000] 3)) w1.heap.size 25 [.slice ta 2 tc, .string q, .int .i64 4, .int .i64 500, .int .i64 0, .slice (some ⟨w1.heap.size + 1, 0, none⟩) 1 1] := (Arr.new' rfl rfl : Arr (w1.alloc (Obj.cells #[Value.slice ta 2 tc, Value.string q, Value.int .i64 4, Value.int .i64 500, Value.int .i64 0, Value.slice (some ⟨w1.heap.size + 1, 0, none⟩) 1 1] 25)) w1.heap.size 25 _).alloc _
  have b2 : Arr ((w1.alloc (Obj.cells #[Value.slice ta 2 tc, Value.string q, Value.int .i64 4, Value.int .i64 500, Value.int .i64 0, Value.slice (some ⟨w1.heap.size + 1, 0, none⟩) 1 1] 25)).alloc (Obj.cells #[Value.int .i64 1000] 3)) (w1.heap.size + 1) 3 [.int .i64 1000] := Arr.new' (by simp) rfl
  generalize (w1.alloc (Obj.cells #[Value.slice ta 2 tc, Value.string q, Value.int .i64 4, Value.int .i64 500, Value.int .i64 0, Value.slice (some ⟨w1.heap.size + 1, 0, none⟩) 1 1] 25)).alloc (Obj.cells #[Value.int .i64 1000] 3) = w2 at k2 a2 b2 ⊢
  have HA2 := Lib.hid a2
  have HB2 := Lib.hid b2
  have HK2 := Lib.hid (HK1.out.trans k2)
  have HS2 : Hid (ScrAt w2 Any (livS q 1000) (.agg #[.slice ta 2 tc, .string q, .int .i64 4, .int .i64 500, .int .i64 0, .slice (some ⟨w1.heap.size + 1, 0, none⟩) 1 1])) :=
    Lib.hid ⟨_, _, rfl, (HT.out.any).kept k2, (Kd.Row.one (K := kint .i64) (e := 3) (base := 0) (P := NoB) (x := 1000) b2 (Nat.zero_le _) rfl (fun _ h => h.elim)).any⟩
  have HT2 := Lib.hid (HT.out.any.kept k2)
  have HTL2 := Lib.hid (HTL.out.next (Q := fun b => b < w1.heap.size) k2 (by simp) (fun _ h _ => h))
  have hw2 : w1.heap.size + 1 < w2.heap.size := b2.lt
  clear k2 a2 b2 HT HK1 HTL
  have hok : scrOk (livS q 1000) = true := by rw [liv_ok q 1000 HQ.out]; decide
  have HOK := Lib.hid hok
  clear hok
  obtain ⟨E, hE⟩ : ∃ E, E = encB (livS q 1000) := ⟨_, rfl⟩
  have HE1 : Hid (E.length ≤ 15000000) := Lib.hid (by rw [hE]; exact enc_small HOK.out (liv_large q 1000 HQ.out))
  have HE2 : Hid (decodeM E = some (livS q 1000)) := Lib.hid (by rw [hE]; exact decode_enc _ HOK.out)
  have HE3 : Hid (decodeM (E ++ [0]) = none) := Lib.hid (by rw [hE]; exact decode_more _ HOK.out 0 [])
  have HE4 : Hid (∀ R, l_at (intsV 6 ⟨E ++ R, false⟩) 3 ≤ 16384 → FineS (decScr ⟨E ++ R, false⟩)) := Lib.hid (by rw [hE]; exact fine_dec HOK.out (liv_fine q 1000 HQ.out))
  have HE5 : Hid (sizeS (livS q 1000) = (E.length : Int)) := Lib.hid (by rw [hE]; unfold sizeS; rw [HOK.out]; rfl)
  refine (script_encode w2 _ (livS q 1000) HS2.out (HM.out.kept HK2.out) (liv_fine q 1000 HQ.out)).mono (fun e w3 h => ?_)
  obtain ⟨v3, rfl, h3, k3⟩ : ∃ v3, e = .returned (.tuple #[v3, .int .i64 0]) ∧ Bytes w3 w2.heap.size v3 E ∧ Kept [] w2 w3 := by
    obtain ⟨v, h1, h2, h3⟩ := h
    have e0 : scrErr (livS q 1000) = 0 := by unfold scrErr; rw [HOK.out]; rfl
    rw [e0] at h1
    rw [HOK.out, if_pos rfl, ← hE] at h2
    exact ⟨v, h1, h2, h3⟩
  clear h hE
  have H3 := Lib.hid h3
  have HK3 := Lib.hid k3
  obtain ⟨a3, c3, rfl, _⟩ := h3.form
  clear h3 k3
  go_wp2_with fail
  have hdec : Calls Tryz.prog 13 #[.slice a3 E.length c3] w3 (fun e w' => ∃ t f, e = .returned (.tuple #[.agg #[t, .string q, .int .i64 4, .int .i64 500, .int .i64 0, f], .int .i64 0]) ∧ ktbl.At w' (Hi w3.heap.size) t (smallS q).tables ∧ (kint .i64).At w' (Hi w3.heap.size) f [1000] ∧ Kept [] w3 w') :=
    (script_decode w3 a3 c3 E (H3.out.at (fun _ _ _ => trivial)) ((HM.out.kept HK2.out).kept HK3.out) (by have := HE1.out; omega) (by have := HE4.out []; rw [List.append_nil] at this; exact this)).mono (fun e w' h => by
      obtain ⟨v, h1, h2, h3⟩ := h
      rw [HE2.out] at h1 h2
      obtain ⟨t, f, rfl, h4, h5⟩ := h2
      exact ⟨t, f, h1, h4, h5, h3⟩)
  refine hdec.mono ?_
  rintro e w4 ⟨t4, f4, rfl, t4a, f4a, k4⟩
  have HT4 := Lib.hid t4a
  have HF4 := Lib.hid f4a
  have HK4 := Lib.hid k4
  obtain ⟨ta4, tc4, e0, _⟩ := t4a.form
  have e1 : t4 = .slice ta4 2 tc4 := e0
  clear e0
  subst e1
  obtain ⟨b4, o4, c4, e0, hb4, hl4, x4⟩ := int_at f4a (j := 0) (x := 1000) rfl
  have e1 : f4 = .slice (some ⟨b4, o4, none⟩) 1 c4 := e0
  clear e0
  subst e1
  rw [Nat.add_zero] at x4
  have hs3 := HK3.out.size
  have hs4 := k4.size
  have hb4' : w3.heap.size ≤ b4 := hb4
  have hown : ∀ x ∈ (Value.slice a3 E.length c3).ownBlock.toList, w2.heap.size ≤ x ∧ x < w3.heap.size := fun x hx => H3.out.own (g := x) (by simpa using hx)
  have HOWN := Lib.hid hown
  clear t4a f4a k4 hdec hb4 hown
  -- the world before the append
  have kA : Kept [] w4 ((w4.alloc (Obj.cells #[Value.slice ta4 2 tc4, Value.string q, Value.int .i64 4, Value.int .i64 500, Value.int .i64 0, Value.slice (some ⟨b4, o4, none⟩) 1 c4] 25)).alloc (Obj.cells #[Value.int .u8 0] 5)) := ((Kept.refl [] w4).alloc _).alloc _
  have aA : Arr ((w4.alloc (Obj.cells #[Value.slice ta4 2 tc4, Value.string q, Value.int .i64 4, Value.int .i64 500, Value.int .i64 0, Value.slice (some ⟨b4, o4, none⟩) 1 c4] 25)).alloc (Obj.cells #[Value.int .u8 0] 5)) w4.heap.size 25 [.slice ta4 2 tc4, .string q, .int .i64 4, .int .i64 500, .int .i64 0, .slice (some ⟨b4, o4, none⟩) 1 c4] := (Arr.new' rfl rfl : Arr (w4.alloc (Obj.cells #[Value.slice ta4 2 tc4, Value.string q, Value.int .i64 4, Value.int .i64 500, Value.int .i64 0, Value.slice (some ⟨b4, o4, none⟩) 1 c4] 25)) w4.heap.size 25 _).alloc _
  have HKA := Lib.hid kA
  have HAA := Lib.hid aA
  clear kA aA
  go_wp2_with (at_builtin; go_must (refine wpList_byte rfl _ _ rfl w2.heap.size (.slice a3 E.length c3) E rfl ((H3.out.kept HK4.out (by simp)).kept HKA.out (by simp)) _ 0 rfl 0 (Arr.new' (by simp) rfl) rfl (by have := HE1.out; omega) (by have := HKA.out.size; omega) ?_); intro g5 cap5 w5 ho5 hk5; have HO5 := Lib.hid ho5; have HK5 := Lib.hid hk5; clear ho5 hk5)
  have hm2 : ML w2 := HM.out.kept HK2.out
  have hmlt : 0 < w2.heap.size := by obtain ⟨m, hm⟩ := hm2; exact World.block_lt_of_cell? w2 _ hm
  have hno : ∀ b, b < w2.heap.size ∨ w3.heap.size ≤ b → b ∉ (Value.slice a3 E.length c3).ownBlock.toList := fun b hb hm => by have := HOWN.out b hm; omega
  have HM5 : Hid (ML w5) := Lib.hid ((((hm2.kept HK3.out).kept HK4.out).kept HKA.out).keptS HK5.out (fun _ => hno _ (.inl hmlt)))
  clear hm2 hmlt
  have hdec2 : Calls Tryz.prog 13 #[.slice (some ⟨g5, 0, none⟩) (E.length + 1) cap5] w5 (fun e w' => ∃ a n c a' n' c', e = .returned (.tuple #[.agg #[.slice a n c, .string ⟨#[]⟩, .int .i64 0, .int .i64 0, .int .i64 0, .slice a' n' c'], .int .i64 300]) ∧ Kept [] w5 w') := by
    have hl : (E ++ [0]).length = E.length + 1 := by simp
    have ho : Bytes w5 w2.heap.size (.slice (some ⟨g5, 0, none⟩) (E ++ [0]).length cap5) (E ++ [0]) := by rw [hl]; exact HO5.out
    have h13 := script_decode w5 _ cap5 (E ++ [0]) (ho.at (fun _ _ _ => trivial)) HM5.out (by rw [hl]; have := HE1.out; omega) (HE4.out [0])
    rw [hl] at h13
    refine h13.mono (fun e w' h => ?_)
    obtain ⟨v, h1, h2, h3⟩ := h
    rw [HE3.out] at h1 h2
    obtain ⟨t, f, rfl, h4, h5⟩ := h2
    obtain ⟨a, c, rfl, _⟩ := h4.form
    obtain ⟨a', c', rfl, _⟩ := h5.form
    exact ⟨_, _, _, _, _, _, h1, h3⟩
  refine hdec2.mono ?_
  rintro e w6 ⟨a6, n6, c6, a6', n6', c6', rfl, k6⟩
  clear hdec2
  have HK6 := Lib.hid k6
  have A6 : Arr w6 w1.heap.size 25 _ := ((((HA2.out.kept HK3.out (by simp)).kept HK4.out (by simp)).kept HKA.out (by simp)).kept HK5.out (hno _ (.inl (by omega)))).kept k6 (by simp)
  have B6 : Arr w6 (w1.heap.size + 1) 3 _ := ((((HB2.out.kept HK3.out (by simp)).kept HK4.out (by simp)).kept HKA.out (by simp)).kept HK5.out (hno _ (.inl (by omega)))).kept k6 (by simp)
  have C6 : Arr w6 w4.heap.size 25 _ := (HAA.out.kept HK5.out (hno _ (.inr (by omega)))).kept k6 (by simp)
  have hsA := HKA.out.size
  have hs5 := HK5.out.size
  have hs6 := k6.size
  have hbA := Nat.lt_of_lt_of_le hl4 HKA.out.size
  have hb5 := Nat.lt_of_lt_of_le hbA HK5.out.size
  have y4 : w6.cell? ⟨b4, o4, none⟩ = some (.int .i64 1000) := ((k6.cell hb5 (by simp)).trans (HK5.out.cell hbA (hno _ (.inr hb4')))).trans ((HKA.out.cell hl4 (by simp)).trans x4)
  clear x4
  have HA6 := Lib.hid A6
  have HB6 := Lib.hid B6
  have HC6 := Lib.hid C6
  have p0 := A6.cell (i := 0) rfl
  have p1 := A6.cell (i := 1) rfl
  have p2 := A6.cell (i := 2) rfl
  have p3 := A6.cell (i := 3) rfl
  have p4 := A6.cell (i := 4) rfl
  have p5 := A6.cell (i := 5) rfl
  have r0 := B6.cell (i := 0) rfl
  have fr := B6.free 0
  have s0 := C6.cell (i := 0) rfl
  have s1 := C6.cell (i := 1) rfl
  have s2 := C6.cell (i := 2) rfl
  have s3 := C6.cell (i := 3) rfl
  have s4 := C6.cell (i := 4) rfl
  have s5 := C6.cell (i := 5) rfl
  have lA := A6.lt
  have lB := B6.lt
  have lC := C6.lt
  have l4 : b4 < w6.heap.size := Nat.lt_of_lt_of_le hb5 k6.size
  have n1 : ¬ w4.heap.size = w1.heap.size + 1 := by omega
  have n2 : ¬ b4 = w1.heap.size + 1 := by omega
  have n3 : ¬ w1.heap.size + 1 = w4.heap.size := by omega
  have n4 : ¬ w1.heap.size + 1 = b4 := by omega
  clear A6 B6 C6 k6 hsA
  go_wp2_with fail
  have kS : Kept [w1.heap.size + 1] w6 ((w6.setCell ⟨w1.heap.size + 1, 0, none⟩ (Value.int .i64 (-1))).alloc (Obj.cells #[Value.slice a6 n6 c6, Value.string ⟨#[]⟩, Value.int .i64 0, Value.int .i64 0, Value.int .i64 0, Value.slice a6' n6' c6'] 25)) := ((Kept.refl _ w6).setCell (.inl (by simp)) _).alloc _
  have aA : Arr ((w6.setCell ⟨w1.heap.size + 1, 0, none⟩ (Value.int .i64 (-1))).alloc (Obj.cells #[Value.slice a6 n6 c6, Value.string ⟨#[]⟩, Value.int .i64 0, Value.int .i64 0, Value.int .i64 0, Value.slice a6' n6' c6'] 25)) w1.heap.size 25 _ := HA6.out.kept kS (by simp)
  have aB : Arr ((w6.setCell ⟨w1.heap.size + 1, 0, none⟩ (Value.int .i64 (-1))).alloc (Obj.cells #[Value.slice a6 n6 c6, Value.string ⟨#[]⟩, Value.int .i64 0, Value.int .i64 0, Value.int .i64 0, Value.slice a6' n6' c6'] 25)) (w1.heap.size + 1) 3 [.int .i64 (-1)] := (HB6.out.set 0 (.int .i64 (-1))).alloc _
  have aC : Arr ((w6.setCell ⟨w1.heap.size + 1, 0, none⟩ (Value.int .i64 (-1))).alloc (Obj.cells #[Value.slice a6 n6 c6, Value.string ⟨#[]⟩, Value.int .i64 0, Value.int .i64 0, Value.int .i64 0, Value.slice a6' n6' c6'] 25)) w4.heap.size 25 _ := HC6.out.kept kS (by simp; omega)
  have t7 : ktbl.At ((w6.setCell ⟨w1.heap.size + 1, 0, none⟩ (Value.int .i64 (-1))).alloc (Obj.cells #[Value.slice a6 n6 c6, Value.string ⟨#[]⟩, Value.int .i64 0, Value.int .i64 0, Value.int .i64 0, Value.slice a6' n6' c6'] 25)) Any (.slice ta4 2 tc4) (smallS q).tables :=
    ((((HT4.out.next (Q := fun b => w3.heap.size ≤ b) HKA.out (by simp) (fun _ h _ => h)).next (Q := fun b => w3.heap.size ≤ b) HK5.out (fun b hb => hno b (.inr hb)) (fun _ h _ => h)).next (Q := fun b => w3.heap.size ≤ b) HK6.out (by simp) (fun _ h _ => h)).next kS (fun b hb => by simp; omega) (fun _ _ _ => trivial))
  have u7 : ktbl.At ((w6.setCell ⟨w1.heap.size + 1, 0, none⟩ (Value.int .i64 (-1))).alloc (Obj.cells #[Value.slice a6 n6 c6, Value.string ⟨#[]⟩, Value.int .i64 0, Value.int .i64 0, Value.int .i64 0, Value.slice a6' n6' c6'] 25)) Any (.slice ta 2 tc) (smallS q).tables :=
    ((((((HTL2.out.next (Q := fun b => b < w1.heap.size) HK3.out (by simp) (fun _ h _ => h)).next (Q := fun b => b < w1.heap.size) HK4.out (by simp) (fun _ h _ => h)).next (Q := fun b => b < w1.heap.size) HKA.out (by simp) (fun _ h _ => h)).next (Q := fun b => b < w1.heap.size) HK5.out (fun b hb => hno b (.inl (by omega))) (fun _ h _ => h)).next (Q := fun b => b < w1.heap.size) HK6.out (by simp) (fun _ h _ => h)).next kS (fun b hb => by simp; omega) (fun _ _ _ => trivial))
  have f7 : (kint .i64).At ((w6.setCell ⟨w1.heap.size + 1, 0, none⟩ (Value.int .i64 (-1))).alloc (Obj.cells #[Value.slice a6 n6 c6, Value.string ⟨#[]⟩, Value.int .i64 0, Value.int .i64 0, Value.int .i64 0, Value.slice a6' n6' c6'] 25)) Any (.slice (some ⟨b4, o4, none⟩) 1 c4) [1000] :=
    ((((HF4.out.next (Q := fun b => w3.heap.size ≤ b) HKA.out (by simp) (fun _ h _ => h)).next (Q := fun b => w3.heap.size ≤ b) HK5.out (fun b hb => hno b (.inr hb)) (fun _ h _ => h)).next (Q := fun b => w3.heap.size ≤ b) HK6.out (by simp) (fun _ h _ => h)).next kS (fun b hb => by simp; omega) (fun _ _ _ => trivial))
  have m7 : ML ((w6.setCell ⟨w1.heap.size + 1, 0, none⟩ (Value.int .i64 (-1))).alloc (Obj.cells #[Value.slice a6 n6 c6, Value.string ⟨#[]⟩, Value.int .i64 0, Value.int .i64 0, Value.int .i64 0, Value.slice a6' n6' c6'] 25)) := (HM5.out.kept HK6.out).keptS kS (fun _ => by rw [List.mem_singleton]; omega)
  have g7 : (kint .i64).At ((w6.setCell ⟨w1.heap.size + 1, 0, none⟩ (Value.int .i64 (-1))).alloc (Obj.cells #[Value.slice a6 n6 c6, Value.string ⟨#[]⟩, Value.int .i64 0, Value.int .i64 0, Value.int .i64 0, Value.slice a6' n6' c6'] 25)) Any (.slice (some ⟨w1.heap.size + 1, 0, none⟩) 1 1) [-1] := (Kd.Row.one (K := kint .i64) (e := 3) (base := 0) (P := NoB) (x := -1) aB (Nat.zero_le _) rfl (fun _ h => h.elim)).any
  have k7 : Kept [] w ((w6.setCell ⟨w1.heap.size + 1, 0, none⟩ (Value.int .i64 (-1))).alloc (Obj.cells #[Value.slice a6 n6 c6, Value.string ⟨#[]⟩, Value.int .i64 0, Value.int .i64 0, Value.int .i64 0, Value.slice a6' n6' c6'] 25)) := Kept.fresh (((Kept.fresh (((HK2.out.trans HK3.out).trans HK4.out).trans HKA.out) HK5.out (fun x hx hlt => by have := (HOWN.out x hx).1; omega)).trans HK6.out)) kS (fun x hx hlt => by rw [List.mem_singleton] at hx; omega)
  clear kS p0 p1 p2 p3 p4 p5 r0 fr s0 s1 s2 s3 s4 s5 y4
  generalize (w6.setCell ⟨w1.heap.size + 1, 0, none⟩ (Value.int .i64 (-1))).alloc (Obj.cells #[Value.slice a6 n6 c6, Value.string ⟨#[]⟩, Value.int .i64 0, Value.int .i64 0, Value.int .i64 0, Value.slice a6' n6' c6'] 25) = w7 at aA aB aC t7 u7 f7 m7 g7 k7 ⊢
  have HM7 := Lib.hid m7
  have HK7 := Lib.hid k7
  have HS7 : Hid (ScrAt w7 Any (livS q 1000) (.agg #[.slice ta4 2 tc4, .string q, .int .i64 4, .int .i64 500, .int .i64 0, .slice (some ⟨b4, o4, none⟩) 1 c4])) := Lib.hid ⟨_, _, rfl, t7, f7⟩
  have HU7 : Hid (ScrAt w7 Any (livS q (-1)) (.agg #[.slice ta 2 tc, .string q, .int .i64 4, .int .i64 500, .int .i64 0, .slice (some ⟨w1.heap.size + 1, 0, none⟩) 1 1])) := Lib.hid ⟨_, _, rfl, u7, g7⟩
  have HA7 := Lib.hid aA
  have HC7 := Lib.hid aC
  clear t7 u7 f7 g7 m7 k7 aA aB aC
  have hsame : Calls Tryz.prog 8 #[.agg #[.slice ta4 2 tc4, .string q, .int .i64 4, .int .i64 500, .int .i64 0, .slice (some ⟨b4, o4, none⟩) 1 c4], .agg #[.slice ta4 2 tc4, .string q, .int .i64 4, .int .i64 500, .int .i64 0, .slice (some ⟨b4, o4, none⟩) 1 c4]] w7 (BoolPost true w7) := by
    have := script_same w7 _ _ _ _ HS7.out HS7.out (liv_fine q 1000 HQ.out)
    rw [decide_eq_true rfl] at this
    exact this
  refine hsame.mono ?_
  rintro e w8 ⟨rfl, k8⟩
  clear hsame
  have HK8 := Lib.hid k8
  have aA := HA7.out.kept k8 (by simp)
  have aC := HC7.out.kept k8 (by simp)
  have p0 := aA.cell (i := 0) rfl
  have p1 := aA.cell (i := 1) rfl
  have p2 := aA.cell (i := 2) rfl
  have p3 := aA.cell (i := 3) rfl
  have p4 := aA.cell (i := 4) rfl
  have p5 := aA.cell (i := 5) rfl
  have s0 := aC.cell (i := 0) rfl
  have s1 := aC.cell (i := 1) rfl
  have s2 := aC.cell (i := 2) rfl
  have s3 := aC.cell (i := 3) rfl
  have s4 := aC.cell (i := 4) rfl
  have s5 := aC.cell (i := 5) rfl
  clear aA aC k8
  go_wp2_with fail
  clear p0 p1 p2 p3 p4 p5 s0 s1 s2 s3 s4 s5
  have hcall : Calls Tryz.prog 8 #[.agg #[.slice ta 2 tc, .string q, .int .i64 4, .int .i64 500, .int .i64 0, .slice (some ⟨w1.heap.size + 1, 0, none⟩) 1 1], .agg #[.slice ta4 2 tc4, .string q, .int .i64 4, .int .i64 500, .int .i64 0, .slice (some ⟨b4, o4, none⟩) 1 c4]] w8 (BoolPost false w8) := by
    have := script_same w8 _ _ _ _ (HU7.out.kept HK8.out) (HS7.out.kept HK8.out) (liv_fine q (-1) HQ.out)
    rw [liv_ne q] at this
    exact this
  refine hcall.mono ?_
  rintro e w9 ⟨rfl, kn⟩
  clear hcall
  have k8 := HK8.out.trans kn
  have HK9 := Lib.hid k8
  clear kn
  have aA := HA7.out.kept k8 (by simp)
  have aC := HC7.out.kept k8 (by simp)
  have p0 := aA.cell (i := 0) rfl
  have p1 := aA.cell (i := 1) rfl
  have p2 := aA.cell (i := 2) rfl
  have p3 := aA.cell (i := 3) rfl
  have p4 := aA.cell (i := 4) rfl
  have p5 := aA.cell (i := 5) rfl
  have s0 := aC.cell (i := 0) rfl
  have s1 := aC.cell (i := 1) rfl
  have s2 := aC.cell (i := 2) rfl
  have s3 := aC.cell (i := 3) rfl
  have s4 := aC.cell (i := 4) rfl
  have s5 := aC.cell (i := 5) rfl
  clear aA aC k8
  go_wp2_with fail
  clear p0 p1 p2 p3 p4 p5 s0 s1 s2 s3 s4 s5
  have hcall : Calls Tryz.prog 11 #[.agg #[.slice ta 2 tc, .string q, .int .i64 4, .int .i64 500, .int .i64 0, .slice (some ⟨w1.heap.size + 1, 0, none⟩) 1 1]] w9 (IntPost 300 w9) := by
    have := script_check w9 _ _ (HU7.out.kept HK9.out) (HM7.out.kept HK9.out) (liv_fine q (-1) HQ.out)
    have e : scrErr (livS q (-1)) = 300 := by unfold scrErr; rw [liv_ok q (-1) HQ.out]; rfl
    rw [e] at this
    exact this
  refine hcall.mono ?_
  rintro e w10 ⟨rfl, kn⟩
  clear hcall
  have k8 := HK9.out.trans kn
  have HK10 := Lib.hid k8
  clear kn
  have aA := HA7.out.kept k8 (by simp)
  have aC := HC7.out.kept k8 (by simp)
  have p0 := aA.cell (i := 0) rfl
  have p1 := aA.cell (i := 1) rfl
  have p2 := aA.cell (i := 2) rfl
  have p3 := aA.cell (i := 3) rfl
  have p4 := aA.cell (i := 4) rfl
  have p5 := aA.cell (i := 5) rfl
  have s0 := aC.cell (i := 0) rfl
  have s1 := aC.cell (i := 1) rfl
  have s2 := aC.cell (i := 2) rfl
  have s3 := aC.cell (i := 3) rfl
  have s4 := aC.cell (i := 4) rfl
  have s5 := aC.cell (i := 5) rfl
  clear aA aC k8
  go_wp2_with fail
  clear p0 p1 p2 p3 p4 p5 s0 s1 s2 s3 s4 s5
  have hcall : Calls Tryz.prog 12 #[.agg #[.slice ta4 2 tc4, .string q, .int .i64 4, .int .i64 500, .int .i64 0, .slice (some ⟨b4, o4, none⟩) 1 c4]] w10 (IntPost (E.length : Int) w10) := by
    have := script_size w10 _ _ (HS7.out.kept HK10.out) (HM7.out.kept HK10.out) (liv_fine q 1000 HQ.out)
    rw [HE5.out] at this
    exact this
  refine hcall.mono ?_
  rintro e w11 ⟨rfl, kn⟩
  clear hcall
  have k8 := HK10.out.trans kn
  have HK11 := Lib.hid k8
  clear kn
  have aA := HA7.out.kept k8 (by simp)
  have aC := HC7.out.kept k8 (by simp)
  have p0 := aA.cell (i := 0) rfl
  have p1 := aA.cell (i := 1) rfl
  have p2 := aA.cell (i := 2) rfl
  have p3 := aA.cell (i := 3) rfl
  have p4 := aA.cell (i := 4) rfl
  have p5 := aA.cell (i := 5) rfl
  have s0 := aC.cell (i := 0) rfl
  have s1 := aC.cell (i := 1) rfl
  have s2 := aC.cell (i := 2) rfl
  have s3 := aC.cell (i := 3) rfl
  have s4 := aC.cell (i := 4) rfl
  have s5 := aC.cell (i := 5) rfl
  clear aA aC k8
  go_wp2_with fail
  go_ret
  exact ⟨ret_bool rfl, HK7.out.trans HK11.out⟩
end Go.Proofs.YtkodiogkldboiaaGreatDoor
/- The law ScriptCodes. -/
namespace Go.Proofs.YtkodiogkldboiaaGreatDoor
open Go.RowKit
attribute [local go_sem] Oper.semAt_some

theorem bool_of {c d : Bool} {w : World} {f : FuncId} {args : Array Value} (h : Calls Tryz.prog f args w (BoolPost c w)) (e : c = d) : Calls Tryz.prog f args w (BoolPost d w) := e ▸ h

set_option maxRecDepth 100000 in
set_option maxHeartbeats 6400000 in
theorem codes (w : World) (u v : Value) (x y : Scr) (hx : ScrAt w Any x u) (hy : ScrAt w Any y v) (hm : ML w) (nx : NamesFit x) (ny : NamesFit y) (qx : (x.query.size : Int) ≤ 9223372036854775807) (qy : (y.query.size : Int) ≤ 9223372036854775807) : Calls Tryz.prog 3 #[u, v] w (BoolPost true w) := by
  obtain ⟨xt, xf, rfl, hxt, hxf⟩ := hx
  obtain ⟨xta, xtc, rfl, _⟩ := hxt.form
  obtain ⟨xfa, xfc, rfl, _⟩ := hxf.form
  obtain ⟨yt, yf, rfl, hyt, hyf⟩ := hy
  obtain ⟨yta, ytc, rfl, _⟩ := hyt.form
  obtain ⟨yfa, yfc, rfl, _⟩ := hyf.form
  have HX : Hid (ScrAt w Any x (.agg #[.slice xta x.tables.length xtc, .string x.query, .int .i64 x.budget, .int .i64 x.room, .int .i64 x.seed, .slice xfa x.faults.length xfc])) := Lib.hid ⟨_, _, rfl, hxt, hxf⟩
  have HY : Hid (ScrAt w Any y (.agg #[.slice yta y.tables.length ytc, .string y.query, .int .i64 y.budget, .int .i64 y.room, .int .i64 y.seed, .slice yfa y.faults.length yfc])) := Lib.hid ⟨_, _, rfl, hyt, hyf⟩
  have HM := Lib.hid hm
  have HN := Lib.hid (And.intro nx ny)
  have HQ := Lib.hid (And.intro qx qy)
  clear hxt hxf hyt hyf hm nx ny qx qy
  generalize x.tables.length = xn at *
  generalize x.faults.length = xm at *
  generalize y.tables.length = yn at *
  generalize y.faults.length = ym at *
  have k0 : Kept [] w ((w.alloc (Obj.cells #[.slice xta xn xtc, .string x.query, .int .i64 x.budget, .int .i64 x.room, .int .i64 x.seed, .slice xfa xm xfc] 25)).alloc (Obj.cells #[.slice yta yn ytc, .string y.query, .int .i64 y.budget, .int .i64 y.room, .int .i64 y.seed, .slice yfa ym yfc] 25)) := ((Kept.refl [] w).alloc _).alloc _
  have a0 : Arr ((w.alloc (Obj.cells #[.slice xta xn xtc, .string x.query, .int .i64 x.budget, .int .i64 x.room, .int .i64 x.seed, .slice xfa xm xfc] 25)).alloc (Obj.cells #[.slice yta yn ytc, .string y.query, .int .i64 y.budget, .int .i64 y.room, .int .i64 y.seed, .slice yfa ym yfc] 25)) w.heap.size 25 [.slice xta xn xtc, .string x.query, .int .i64 x.budget, .int .i64 x.room, .int .i64 x.seed, .slice xfa xm xfc] := (Arr.new' rfl rfl : Arr (w.alloc (Obj.cells #[.slice xta xn xtc, .string x.query, .int .i64 x.budget, .int .i64 x.room, .int .i64 x.seed, .slice xfa xm xfc] 25)) w.heap.size 25 _).alloc _
  have b0 : Arr ((w.alloc (Obj.cells #[.slice xta xn xtc, .string x.query, .int .i64 x.budget, .int .i64 x.room, .int .i64 x.seed, .slice xfa xm xfc] 25)).alloc (Obj.cells #[.slice yta yn ytc, .string y.query, .int .i64 y.budget, .int .i64 y.room, .int .i64 y.seed, .slice yfa ym yfc] 25)) (w.heap.size + 1) 25 [.slice yta yn ytc, .string y.query, .int .i64 y.budget, .int .i64 y.room, .int .i64 y.seed, .slice yfa ym yfc] := Arr.new' (by simp) rfl
  go_enter Tryz.func3, Tryz.ntmps3
  go_wp2_with fail
  generalize ((w.alloc (Obj.cells #[.slice xta xn xtc, .string x.query, .int .i64 x.budget, .int .i64 x.room, .int .i64 x.seed, .slice xfa xm xfc] 25)).alloc (Obj.cells #[.slice yta yn ytc, .string y.query, .int .i64 y.budget, .int .i64 y.room, .int .i64 y.seed, .slice yfa ym yfc] 25)) = W at k0 a0 b0 ⊢
  have HA := Lib.hid a0
  have HB := Lib.hid b0
  have HK := Lib.hid k0
  have HX0 := Lib.hid (HX.out.kept k0)
  have HY0 := Lib.hid (HY.out.kept k0)
  have HM0 := Lib.hid (HM.out.kept k0)
  clear k0 a0 b0 HX HY HM
  obtain ⟨D, hD⟩ : ∃ D, D = largeS x := ⟨_, rfl⟩
  refine (bool_of (ref30_large W _ x HX0.out HQ.out.1) hD.symm).mono ?_
  rintro e w1 ⟨rfl, k1⟩
  have HK1 := Lib.hid k1
  have HD := Lib.hid hD
  clear hD
  have aX := HA.out.kept k1 (by simp)
  have aY := HB.out.kept k1 (by simp)
  have x0 := aX.cell (i := 0) rfl
  have x1 := aX.cell (i := 1) rfl
  have x2 := aX.cell (i := 2) rfl
  have x3 := aX.cell (i := 3) rfl
  have x4 := aX.cell (i := 4) rfl
  have x5 := aX.cell (i := 5) rfl
  have y0 := aY.cell (i := 0) rfl
  have y1 := aY.cell (i := 1) rfl
  have y2 := aY.cell (i := 2) rfl
  have y3 := aY.cell (i := 3) rfl
  have y4 := aY.cell (i := 4) rfl
  have y5 := aY.cell (i := 5) rfl
  clear aX aY
  clear k1
  cases D with
  | true =>
    clear x0 x1 x2 x3 x4 x5 y0 y1 y2 y3 y4 y5
    go_wp2_with fail
    refine (lives _ (HM0.out.kept HK1.out)).mono ?_
    rintro e w2 ⟨rfl, k2⟩
    have HK2 := Lib.hid k2
    clear k2
    go_wp2_with fail
    go_ret
    exact ⟨ret_bool rfl, (HK.out.trans HK1.out).trans HK2.out⟩
  | false =>
    go_wp2_with fail
    clear x0 x1 x2 x3 x4 x5 y0 y1 y2 y3 y4 y5
    obtain ⟨D2, hD2⟩ : ∃ D, D = largeS y := ⟨_, rfl⟩
    refine (bool_of (ref30_large w1 _ y (HY0.out.kept HK1.out) HQ.out.2) hD2.symm).mono ?_
    rintro e w2 ⟨rfl, k2⟩
    have HK2 := Lib.hid (HK1.out.trans k2)
    have HD2 := Lib.hid hD2
    clear hD2
    clear k2 HK1
    cases D2 with
    | true =>
      go_wp2_with fail
      refine (lives _ (HM0.out.kept HK2.out)).mono ?_
      rintro e w3 ⟨rfl, k3⟩
      have HK3 := Lib.hid k3
      clear k3
      go_wp2_with fail
      go_ret
      exact ⟨ret_bool rfl, (HK.out.trans HK2.out).trans HK3.out⟩
    | false =>
      have HFX := Lib.hid (fine_of HD.out.symm HN.out.1)
      have HFY := Lib.hid (fine_of HD2.out.symm HN.out.2)
      have HLX := Lib.hid HD.out.symm
      have aX := HA.out.kept HK2.out (by simp)
      have aY := HB.out.kept HK2.out (by simp)
      have x0 := aX.cell (i := 0) rfl
      have x1 := aX.cell (i := 1) rfl
      have x2 := aX.cell (i := 2) rfl
      have x3 := aX.cell (i := 3) rfl
      have x4 := aX.cell (i := 4) rfl
      have x5 := aX.cell (i := 5) rfl
      have y0 := aY.cell (i := 0) rfl
      have y1 := aY.cell (i := 1) rfl
      have y2 := aY.cell (i := 2) rfl
      have y3 := aY.cell (i := 3) rfl
      have y4 := aY.cell (i := 4) rfl
      have y5 := aY.cell (i := 5) rfl
      clear aX aY
      go_wp2_with fail
      clear x0 x1 x2 x3 x4 x5 y0 y1 y2 y3 y4 y5
      refine (script_encode w2 _ x (HX0.out.kept HK2.out) (HM0.out.kept HK2.out) HFX.out).mono ?_
      rintro e w3 ⟨v3, rfl, h3, k3⟩
      have H3 := Lib.hid h3
      have HK3 := Lib.hid (HK2.out.trans k3)
      obtain ⟨a3, c3, rfl, _⟩ := h3.form
      clear h3 k3 HK2
      have aX := HA.out.kept HK3.out (by simp)
      have aY := HB.out.kept HK3.out (by simp)
      have x0 := aX.cell (i := 0) rfl
      have x1 := aX.cell (i := 1) rfl
      have x2 := aX.cell (i := 2) rfl
      have x3 := aX.cell (i := 3) rfl
      have x4 := aX.cell (i := 4) rfl
      have x5 := aX.cell (i := 5) rfl
      have y0 := aY.cell (i := 0) rfl
      have y1 := aY.cell (i := 1) rfl
      have y2 := aY.cell (i := 2) rfl
      have y3 := aY.cell (i := 3) rfl
      have y4 := aY.cell (i := 4) rfl
      have y5 := aY.cell (i := 5) rfl
      clear aX aY
      obtain ⟨L, hL⟩ : ∃ L, L = (if scrOk x then encB x else []) := ⟨_, rfl⟩
      obtain ⟨n, hn⟩ : ∃ n, n = scrErr x := ⟨_, rfl⟩
      rw [← hL, ← hn]
      rw [← hL] at H3
      have HL := Lib.hid hL
      have HNN := Lib.hid hn
      clear hL hn
      have HA3 := Lib.hid (HA.out.kept HK3.out (by simp))
      have HB3 := Lib.hid (HB.out.kept HK3.out (by simp))
      have HX3 := Lib.hid (HX0.out.kept HK3.out)
      have HY3 := Lib.hid (HY0.out.kept HK3.out)
      have HM3 := Lib.hid (HM0.out.kept HK3.out)
      have HKW := Lib.hid (HK.out.trans HK3.out)
      clear HK3 HK HA HB HX0 HY0 HM0
      obtain ⟨D, hD⟩ : ∃ D, D = decide (x = y) := ⟨_, rfl⟩
      have H6 : Hid (∀ wx, Kept [] w3 wx → Calls Tryz.prog 6 #[] wx (BoolPost true wx)) := Lib.hid (fun wx k => lives wx (HM3.out.kept k))
      have H8 : Hid (∀ wx, Kept [] w3 wx → Calls Tryz.prog 8 #[.agg #[.slice xta xn xtc, .string x.query, .int .i64 x.budget, .int .i64 x.room, .int .i64 x.seed, .slice xfa xm xfc], .agg #[.slice yta yn ytc, .string y.query, .int .i64 y.budget, .int .i64 y.room, .int .i64 y.seed, .slice yfa ym yfc]] wx (BoolPost D wx)) := Lib.hid (fun wx k => bool_of (script_same wx _ _ x y (HX3.out.kept k) (HY3.out.kept k) HFX.out) hD.symm)
      have H9 : Hid (∀ wx, Kept [] w3 wx → Calls Tryz.prog 9 #[.agg #[.slice xta xn xtc, .string x.query, .int .i64 x.budget, .int .i64 x.room, .int .i64 x.seed, .slice xfa xm xfc], .agg #[.slice yta yn ytc, .string y.query, .int .i64 y.budget, .int .i64 y.room, .int .i64 y.seed, .slice yfa ym yfc]] wx (BoolPost D wx)) := Lib.hid (fun wx k => bool_of (ref30_same wx _ _ x y (HX3.out.kept k) (HY3.out.kept k) HFX.out) hD.symm)
      clear hD
      have sk : Kept [] w3 w3 := Kept.refl [] w3
      go_wp2_with fail
      go_cut [31] (fun v wx => v = .bool false ∧ Hid (Kept [] w3 wx))
      case first =>
        go_region_held3 (fun w' => w'.cell? ⟨w.heap.size, 0, none⟩ = some (.slice xta xn xtc) ∧ w'.cell? ⟨w.heap.size, 1, none⟩ = some (.string x.query) ∧ w'.cell? ⟨w.heap.size, 2, none⟩ = some (.int .i64 x.budget) ∧ w'.cell? ⟨w.heap.size, 3, none⟩ = some (.int .i64 x.room) ∧ w'.cell? ⟨w.heap.size, 4, none⟩ = some (.int .i64 x.seed) ∧ w'.cell? ⟨w.heap.size, 5, none⟩ = some (.slice xfa xm xfc) ∧ w'.cell? ⟨w.heap.size + 1, 0, none⟩ = some (.slice yta yn ytc) ∧ w'.cell? ⟨w.heap.size + 1, 1, none⟩ = some (.string y.query) ∧ w'.cell? ⟨w.heap.size + 1, 2, none⟩ = some (.int .i64 y.budget) ∧ w'.cell? ⟨w.heap.size + 1, 3, none⟩ = some (.int .i64 y.room) ∧ w'.cell? ⟨w.heap.size + 1, 4, none⟩ = some (.int .i64 y.seed) ∧ w'.cell? ⟨w.heap.size + 1, 5, none⟩ = some (.slice yfa ym yfc))
          (first | with_reducible exact ⟨x0, x1, x2, x3, x4, x5, y0, y1, y2, y3, y4, y5⟩ | go_keep)
          (first | (go_at_call 6; refine (H6.out _ (by first | exact sk | exact sk.drew | exact sk.drewN _)).mono ?_; rintro e w4 ⟨rfl, hk⟩; have sk := Kept.trans (by first | exact sk | exact sk.drew | exact sk.drewN _) hk; have aX := HA3.out.kept sk (by simp); have aY := HB3.out.kept sk (by simp); have x0 := aX.cell (i := 0) rfl; have y0 := aY.cell (i := 0) rfl; have x1 := aX.cell (i := 1) rfl; have y1 := aY.cell (i := 1) rfl; have x2 := aX.cell (i := 2) rfl; have y2 := aY.cell (i := 2) rfl; have x3 := aX.cell (i := 3) rfl; have y3 := aY.cell (i := 3) rfl; have x4 := aX.cell (i := 4) rfl; have y4 := aY.cell (i := 4) rfl; have x5 := aX.cell (i := 5) rfl; have y5 := aY.cell (i := 5) rfl; clear hk aX aY) | (go_at_call 8; refine (H8.out _ (by first | exact sk | exact sk.drew | exact sk.drewN _)).mono ?_; rintro e w4 ⟨rfl, hk⟩; have sk := Kept.trans (by first | exact sk | exact sk.drew | exact sk.drewN _) hk; have aX := HA3.out.kept sk (by simp); have aY := HB3.out.kept sk (by simp); have x0 := aX.cell (i := 0) rfl; have y0 := aY.cell (i := 0) rfl; have x1 := aX.cell (i := 1) rfl; have y1 := aY.cell (i := 1) rfl; have x2 := aX.cell (i := 2) rfl; have y2 := aY.cell (i := 2) rfl; have x3 := aX.cell (i := 3) rfl; have y3 := aY.cell (i := 3) rfl; have x4 := aX.cell (i := 4) rfl; have y4 := aY.cell (i := 4) rfl; have x5 := aX.cell (i := 5) rfl; have y5 := aY.cell (i := 5) rfl; clear hk aX aY) | (go_at_call 9; refine (H9.out _ (by first | exact sk | exact sk.drew | exact sk.drewN _)).mono ?_; rintro e w4 ⟨rfl, hk⟩; have sk := Kept.trans (by first | exact sk | exact sk.drew | exact sk.drewN _) hk; have aX := HA3.out.kept sk (by simp); have aY := HB3.out.kept sk (by simp); have x0 := aX.cell (i := 0) rfl; have y0 := aY.cell (i := 0) rfl; have x1 := aX.cell (i := 1) rfl; have y1 := aY.cell (i := 1) rfl; have x2 := aX.cell (i := 2) rfl; have y2 := aY.cell (i := 2) rfl; have x3 := aX.cell (i := 3) rfl; have y3 := aY.cell (i := 3) rfl; have x4 := aX.cell (i := 4) rfl; have y4 := aY.cell (i := 4) rfl; have x5 := aX.cell (i := 5) rfl; have y5 := aY.cell (i := 5) rfl; clear hk aX aY))
        all_goals
          have HSK := Lib.hid sk
          clear sk x0 x1 x2 x3 x4 x5 y0 y1 y2 y3 y4 y5
          go_wp2_with fail
          go_meet
          case rel => exact ⟨by simp, HSK⟩
      case rest =>
        obtain ⟨rfl, HKC⟩ := hcut
        clear x0 x1 x2 x3 x4 x5 y0 y1 y2 y3 y4 y5 sk H6 H8 H9 HY3 HB3 HFY HD2
        have aX := HA3.out.kept HKC.out (by simp)
        have x0 := aX.cell (i := 0) rfl
        have x1 := aX.cell (i := 1) rfl
        have x2 := aX.cell (i := 2) rfl
        have x3 := aX.cell (i := 3) rfl
        have x4 := aX.cell (i := 4) rfl
        have x5 := aX.cell (i := 5) rfl
        clear aX
        obtain ⟨B, hB⟩ : ∃ B, B = scrOk x := ⟨_, rfl⟩
        have HBB := Lib.hid hB
        go_wp2_with fail
        refine (bool_of (ref_script wc _ x (HX3.out.kept HKC.out) HFX.out) hB.symm).mono ?_
        rintro e w5 ⟨rfl, k5⟩
        have HK5 := Lib.hid (HKC.out.trans k5)
        clear hB k5 x0 x1 x2 x3 x4 x5
        cases B with
        | false =>
          obtain rfl : n = 300 := by rw [HNN.out]; unfold scrErr; rw [← HBB.out]; rfl
          obtain rfl : L = [] := by rw [HL.out, ← HBB.out]; rfl
          have aX := HA3.out.kept HK5.out (by simp)
          have x0 := aX.cell (i := 0) rfl
          have x1 := aX.cell (i := 1) rfl
          have x2 := aX.cell (i := 2) rfl
          have x3 := aX.cell (i := 3) rfl
          have x4 := aX.cell (i := 4) rfl
          have x5 := aX.cell (i := 5) rfl
          clear aX
          go_wp2_with fail
          have h11 : Calls Tryz.prog 11 #[.agg #[.slice xta xn xtc, .string x.query, .int .i64 x.budget, .int .i64 x.room, .int .i64 x.seed, .slice xfa xm xfc]] w5 (IntPost 300 w5) := by
            have := script_check w5 _ x (HX3.out.kept HK5.out) (HM3.out.kept HK5.out) HFX.out
            rw [← HNN.out] at this
            exact this
          refine h11.mono ?_
          rintro e w6 ⟨rfl, k6⟩
          have HK6 := Lib.hid (HK5.out.trans k6)
          clear h11 k6 x0 x1 x2 x3 x4 x5
          have aX := HA3.out.kept HK6.out (by simp)
          have x0 := aX.cell (i := 0) rfl
          have x1 := aX.cell (i := 1) rfl
          have x2 := aX.cell (i := 2) rfl
          have x3 := aX.cell (i := 3) rfl
          have x4 := aX.cell (i := 4) rfl
          have x5 := aX.cell (i := 5) rfl
          clear aX
          go_wp2_with fail
          have h12 : Calls Tryz.prog 12 #[.agg #[.slice xta xn xtc, .string x.query, .int .i64 x.budget, .int .i64 x.room, .int .i64 x.seed, .slice xfa xm xfc]] w6 (IntPost 0 w6) := by
            have := script_size w6 _ x (HX3.out.kept HK6.out) (HM3.out.kept HK6.out) HFX.out
            rw [show sizeS x = 0 by unfold sizeS; rw [← HBB.out]; rfl] at this
            exact this
          refine h12.mono ?_
          rintro e w7 ⟨rfl, k7⟩
          have HK7 := Lib.hid (HK6.out.trans k7)
          clear h12 k7 x0 x1 x2 x3 x4 x5
          go_wp2_with fail
          go_ret
          exact ⟨ret_bool rfl, HKW.out.trans HK7.out⟩
        | true =>
          obtain rfl : n = 0 := by rw [HNN.out]; unfold scrErr; rw [← HBB.out]; rfl
          obtain rfl : L = encB x := by rw [HL.out, ← HBB.out]; rfl
          have aX := HA3.out.kept HK5.out (by simp)
          have x0 := aX.cell (i := 0) rfl
          have x1 := aX.cell (i := 1) rfl
          have x2 := aX.cell (i := 2) rfl
          have x3 := aX.cell (i := 3) rfl
          have x4 := aX.cell (i := 4) rfl
          have x5 := aX.cell (i := 5) rfl
          clear aX
          go_wp2_with fail
          clear x0 x1 x2 x3 x4 x5
          have hok : scrOk x = true := HBB.out.symm
          have hen := enc_small hok HLX.out
          have hrest : l_at (intsV 6 ⟨encB x, false⟩) 3 ≤ 16384 → FineS (decScr ⟨encB x, false⟩) := by have := fine_dec hok HFX.out []; rw [List.append_nil] at this; exact this
          have h13 : Calls Tryz.prog 13 #[.slice a3 (encB x).length c3] w5 (fun e w' => ∃ zta ztn ztc zfa zfn zfc, e = .returned (.tuple #[.agg #[.slice zta ztn ztc, .string x.query, .int .i64 x.budget, .int .i64 x.room, .int .i64 x.seed, .slice zfa zfn zfc], .int .i64 0]) ∧ ScrAt w' Any x (.agg #[.slice zta ztn ztc, .string x.query, .int .i64 x.budget, .int .i64 x.room, .int .i64 x.seed, .slice zfa zfn zfc]) ∧ Kept [] w5 w') :=
            (script_decode w5 a3 c3 (encB x) ((H3.out.kept HK5.out (by simp)).at (fun _ _ _ => trivial)) (HM3.out.kept HK5.out) (by omega) hrest).mono (fun e w' h => by
              obtain ⟨v, h1, h2, h3⟩ := h
              rw [decode_enc x hok] at h1 h2
              obtain ⟨t, f, rfl, h4, h5⟩ := h2
              obtain ⟨zta, ztc, rfl, _⟩ := h4.form
              obtain ⟨zfa, zfc, rfl, _⟩ := h5.form
              exact ⟨_, _, _, _, _, _, h1, ⟨_, _, rfl, h4.any, h5.any⟩, h3⟩)
          refine h13.mono ?_
          rintro e w6 ⟨zta, ztn, ztc, zfa, zfn, zfc, rfl, z6, k6⟩
          clear h13 hrest
          have HOK := Lib.hid hok
          have HEN := Lib.hid hen
          have kz : Kept [] w6 (w6.alloc (Obj.cells #[.slice zta ztn ztc, .string x.query, .int .i64 x.budget, .int .i64 x.room, .int .i64 x.seed, .slice zfa zfn zfc] 25)) := (Kept.refl [] w6).alloc _
          have az : Arr (w6.alloc (Obj.cells #[.slice zta ztn ztc, .string x.query, .int .i64 x.budget, .int .i64 x.room, .int .i64 x.seed, .slice zfa zfn zfc] 25)) w6.heap.size 25 [.slice zta ztn ztc, .string x.query, .int .i64 x.budget, .int .i64 x.room, .int .i64 x.seed, .slice zfa zfn zfc] := Arr.new' rfl rfl
          have HKZ := Lib.hid ((HK5.out.trans k6).trans kz)
          have HZ6 := Lib.hid (z6.kept kz)
          have HAZ := Lib.hid az
          clear hok hen z6 k6 kz az HK5 HKC
          go_wp2_with fail
          generalize (w6.alloc (Obj.cells #[.slice zta ztn ztc, .string x.query, .int .i64 x.budget, .int .i64 x.room, .int .i64 x.seed, .slice zfa zfn zfc] 25)) = wz at HKZ HZ6 HAZ ⊢
          have HXB := Lib.hid (HA3.out.kept HKZ.out (by simp))
          have hws := HKZ.out.size
          have hl0 : w.heap.size < w3.heap.size := HA3.out.lt
          have hl1 : w.heap.size < wz.heap.size := by omega
          have hl2 : w6.heap.size < wz.heap.size := HAZ.out.lt
          have HCV : Hid (∀ wx, Kept [] wz wx → (convert 28 9 (Value.slice a3 (encB x).length c3)).run Tryz.prog wx = .ok (.string ⟨(encB x).toArray⟩) wx) := Lib.hid (fun wx k => bytes_conv ((H3.out.kept HKZ.out (by simp)).kept k (by simp)))
          have H11 : Hid (∀ wx, Kept [] wz wx → Calls Tryz.prog 11 #[.agg #[.slice xta xn xtc, .string x.query, .int .i64 x.budget, .int .i64 x.room, .int .i64 x.seed, .slice xfa xm xfc]] wx (IntPost 0 wx)) := Lib.hid (fun wx k => by
            have := script_check wx _ x (HX3.out.kept (HKZ.out.trans k)) (HM3.out.kept (HKZ.out.trans k)) HFX.out
            rw [← HNN.out] at this
            exact this)
          have H14 : Hid (∀ wx, Kept [] wz wx → Calls Tryz.prog 14 #[.agg #[.slice xta xn xtc, .string x.query, .int .i64 x.budget, .int .i64 x.room, .int .i64 x.seed, .slice xfa xm xfc]] wx (BytesPost (encB x) wx)) := Lib.hid (fun wx k => ref_encode wx _ x (HX3.out.kept (HKZ.out.trans k)) (SOk.of HOK.out))
          have H9 : Hid (∀ wx, Kept [] wz wx → Calls Tryz.prog 9 #[.agg #[.slice zta ztn ztc, .string x.query, .int .i64 x.budget, .int .i64 x.room, .int .i64 x.seed, .slice zfa zfn zfc], .agg #[.slice xta xn xtc, .string x.query, .int .i64 x.budget, .int .i64 x.room, .int .i64 x.seed, .slice xfa xm xfc]] wx (BoolPost true wx)) := Lib.hid (fun wx k => bool_of (ref30_same wx _ _ x x (HZ6.out.kept k) (HX3.out.kept (HKZ.out.trans k)) HFX.out) (decide_eq_true rfl))
          have H12 : Hid (∀ wx, Kept [] wz wx → Calls Tryz.prog 12 #[.agg #[.slice xta xn xtc, .string x.query, .int .i64 x.budget, .int .i64 x.room, .int .i64 x.seed, .slice xfa xm xfc]] wx (IntPost ((encB x).length : Int) wx)) := Lib.hid (fun wx k => by
            have := script_size wx _ x (HX3.out.kept (HKZ.out.trans k)) (HM3.out.kept (HKZ.out.trans k)) HFX.out
            rw [show sizeS x = ((encB x).length : Int) by unfold sizeS; rw [HOK.out]; rfl] at this
            exact this)
          have sk : Kept [] wz wz := Kept.refl [] wz
          have aX := HXB.out
          have aZ := HAZ.out
          have x0 := aX.cell (i := 0) rfl; have z0 := aZ.cell (i := 0) rfl; have x1 := aX.cell (i := 1) rfl; have z1 := aZ.cell (i := 1) rfl; have x2 := aX.cell (i := 2) rfl; have z2 := aZ.cell (i := 2) rfl; have x3 := aX.cell (i := 3) rfl; have z3 := aZ.cell (i := 3) rfl; have x4 := aX.cell (i := 4) rfl; have z4 := aZ.cell (i := 4) rfl; have x5 := aX.cell (i := 5) rfl; have z5 := aZ.cell (i := 5) rfl;
          have cv := HCV.out _ sk
          clear aX aZ
          go_cut [4] (fun v wx => v = .bool true ∧ Hid (Kept [] wz wx))
          case first =>
            go_region_held (fun w' => w'.cell? ⟨w.heap.size, 0, none⟩ = some (.slice xta xn xtc) ∧ w'.cell? ⟨w.heap.size, 1, none⟩ = some (.string x.query) ∧ w'.cell? ⟨w.heap.size, 2, none⟩ = some (.int .i64 x.budget) ∧ w'.cell? ⟨w.heap.size, 3, none⟩ = some (.int .i64 x.room) ∧ w'.cell? ⟨w.heap.size, 4, none⟩ = some (.int .i64 x.seed) ∧ w'.cell? ⟨w.heap.size, 5, none⟩ = some (.slice xfa xm xfc) ∧ w'.cell? ⟨w6.heap.size, 0, none⟩ = some (.slice zta ztn ztc) ∧ w'.cell? ⟨w6.heap.size, 1, none⟩ = some (.string x.query) ∧ w'.cell? ⟨w6.heap.size, 2, none⟩ = some (.int .i64 x.budget) ∧ w'.cell? ⟨w6.heap.size, 3, none⟩ = some (.int .i64 x.room) ∧ w'.cell? ⟨w6.heap.size, 4, none⟩ = some (.int .i64 x.seed) ∧ w'.cell? ⟨w6.heap.size, 5, none⟩ = some (.slice zfa zfn zfc) ∧ (convert 28 9 (Value.slice a3 (encB x).length c3)).run Tryz.prog w' = .ok (.string ⟨(encB x).toArray⟩) w')
              (first | with_reducible exact ⟨x0, x1, x2, x3, x4, x5, z0, z1, z2, z3, z4, z5, cv⟩ | (refine ⟨?_, ?_, ?_, ?_, ?_, ?_, ?_, ?_, ?_, ?_, ?_, ?_, HCV.out _ (by first | exact sk | exact sk.drew | exact sk.drewN _)⟩ <;> go_keep))
              (first | (go_at_call 11; refine (H11.out _ (by first | exact sk | exact sk.drew | exact sk.drewN _)).mono ?_; rintro e w8 ⟨rfl, hk⟩; have sk := Kept.trans (by first | exact sk | exact sk.drew | exact sk.drewN _) hk; have aX := HXB.out.kept sk (by simp); have aZ := HAZ.out.kept sk (by simp); have x0 := aX.cell (i := 0) rfl; have z0 := aZ.cell (i := 0) rfl; have x1 := aX.cell (i := 1) rfl; have z1 := aZ.cell (i := 1) rfl; have x2 := aX.cell (i := 2) rfl; have z2 := aZ.cell (i := 2) rfl; have x3 := aX.cell (i := 3) rfl; have z3 := aZ.cell (i := 3) rfl; have x4 := aX.cell (i := 4) rfl; have z4 := aZ.cell (i := 4) rfl; have x5 := aX.cell (i := 5) rfl; have z5 := aZ.cell (i := 5) rfl; have cv := HCV.out _ sk; clear hk aX aZ) | (go_at_call 14; refine (H14.out _ (by first | exact sk | exact sk.drew | exact sk.drewN _)).mono ?_; rintro e w8 ⟨v14, rfl, h14, hk⟩; obtain ⟨a14, c14, rfl, _⟩ := h14.form; have cw := bytes_conv h14; clear h14; have sk := Kept.trans (by first | exact sk | exact sk.drew | exact sk.drewN _) hk; have aX := HXB.out.kept sk (by simp); have aZ := HAZ.out.kept sk (by simp); have x0 := aX.cell (i := 0) rfl; have z0 := aZ.cell (i := 0) rfl; have x1 := aX.cell (i := 1) rfl; have z1 := aZ.cell (i := 1) rfl; have x2 := aX.cell (i := 2) rfl; have z2 := aZ.cell (i := 2) rfl; have x3 := aX.cell (i := 3) rfl; have z3 := aZ.cell (i := 3) rfl; have x4 := aX.cell (i := 4) rfl; have z4 := aZ.cell (i := 4) rfl; have x5 := aX.cell (i := 5) rfl; have z5 := aZ.cell (i := 5) rfl; have cv := HCV.out _ sk; clear hk aX aZ) | (go_at_call 9; refine (H9.out _ (by first | exact sk | exact sk.drew | exact sk.drewN _)).mono ?_; rintro e w8 ⟨rfl, hk⟩; have sk := Kept.trans (by first | exact sk | exact sk.drew | exact sk.drewN _) hk; have aX := HXB.out.kept sk (by simp); have aZ := HAZ.out.kept sk (by simp); have x0 := aX.cell (i := 0) rfl; have z0 := aZ.cell (i := 0) rfl; have x1 := aX.cell (i := 1) rfl; have z1 := aZ.cell (i := 1) rfl; have x2 := aX.cell (i := 2) rfl; have z2 := aZ.cell (i := 2) rfl; have x3 := aX.cell (i := 3) rfl; have z3 := aZ.cell (i := 3) rfl; have x4 := aX.cell (i := 4) rfl; have z4 := aZ.cell (i := 4) rfl; have x5 := aX.cell (i := 5) rfl; have z5 := aZ.cell (i := 5) rfl; have cv := HCV.out _ sk; clear hk aX aZ) | (go_at_call 12; refine (H12.out _ (by first | exact sk | exact sk.drew | exact sk.drewN _)).mono ?_; rintro e w8 ⟨rfl, hk⟩; have sk := Kept.trans (by first | exact sk | exact sk.drew | exact sk.drewN _) hk; have aX := HXB.out.kept sk (by simp); have aZ := HAZ.out.kept sk (by simp); have x0 := aX.cell (i := 0) rfl; have z0 := aZ.cell (i := 0) rfl; have x1 := aX.cell (i := 1) rfl; have z1 := aZ.cell (i := 1) rfl; have x2 := aX.cell (i := 2) rfl; have z2 := aZ.cell (i := 2) rfl; have x3 := aX.cell (i := 3) rfl; have z3 := aZ.cell (i := 3) rfl; have x4 := aX.cell (i := 4) rfl; have z4 := aZ.cell (i := 4) rfl; have x5 := aX.cell (i := 5) rfl; have z5 := aZ.cell (i := 5) rfl; have cv := HCV.out _ sk; clear hk aX aZ))
            all_goals
              have HSK := Lib.hid sk
              clear sk x0 x1 x2 x3 x4 x5 z0 z1 z2 z3 z4 z5 cv cw
              go_wp2_with fail
              go_meet
              case rel => exact ⟨rfl, HSK⟩
          case rest =>
            obtain ⟨rfl, HKC⟩ := hcut
            go_wp2_with fail
            go_ret
            exact ⟨ret_bool rfl, (HKW.out.trans HKZ.out).trans HKC.out⟩
end Go.Proofs.YtkodiogkldboiaaGreatDoor
