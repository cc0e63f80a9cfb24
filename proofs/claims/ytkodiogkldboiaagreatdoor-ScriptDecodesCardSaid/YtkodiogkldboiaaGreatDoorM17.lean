/- The law ScriptDecodes. -/
import Derived.Deep.RegionHeld
import Derived.ProofKit
import Derived.OpenShut
import Derived.Deep.Strs
import Derived.Deep.Slices
import Derived.SizedLaws
import Derived.HandedShaped
import Derived.LaidMore
import Derived.Lay
import Derived.Lib.LaidTab
import Derived.Stop.LaidErr
import Derived.Stop.Joined
import Derived.Shelf.Vars
import Derived.Test.YtkodiogkldboiaaGreatDoorM16
set_option linter.unusedVariables false
set_option linter.unusedSimpArgs false
namespace Go.Proofs.YtkodiogkldboiaaGreatDoor
open Go.RowKit
attribute [local go_sem] Oper.semAt_some

theorem fine_no : FineS noScr := ⟨by simp [noScr], by simp [noScr], by simp [noScr, ByteArray.size], fun t h => by simp [noScr] at h⟩
theorem short_fine {B : List UInt8} (h : (B.length : Int) ≤ 10000) : l_at (intsV 6 ⟨B, false⟩) 3 ≤ 16384 → FineS (decScr ⟨B, false⟩) := decScr_fine ⟨B, false⟩ (by show B.length ≤ 900000; omega)

set_option maxHeartbeats 1600000 in
theorem decodes_large (w : World) (ba : Option Addr) (bc : Nat) (B : List UInt8) (hm : ML w) (hl : (10000 : Int) < (B.length : Int)) : Calls Tryz.prog 4 #[.slice ba B.length bc] w (BoolPost true w) := by
  have HM := Lib.hid hm
  clear hm
  have hl0 : (10000 : Int) < (B.length : Int) ↔ True := iff_true_intro hl
  have hl1 : 10000 < B.length := by omega
  generalize B.length = n at *
  go_enter Tryz.func4, Tryz.ntmps4
  go_wp2_with fail
  refine (lives _ HM.out).mono ?_
  rintro e w2 ⟨rfl, k2⟩
  have HK2 := Lib.hid k2
  clear k2
  go_wp2_with fail
  go_ret
  exact ⟨ret_bool rfl, HK2.out⟩

theorem fine_got {B : List UInt8} {x : Scr} (hl : (B.length : Int) ≤ 10000) (h : decodeM B = some x) : FineS x := by
  have hx : decScr ⟨B, false⟩ = x := by
    unfold decodeM at h
    split at h
    · exact Option.some.inj h
    · cases h
  have hq : l_at (intsV 6 ⟨B, false⟩) 3 ≤ 16384 := by
    unfold decodeM at h
    split at h
    · rename_i hok
      simp only [Bool.and_eq_true] at hok
      have hm := hok.1
      unfold markOk at hm
      simp only [Bool.and_eq_true, decide_eq_true_eq] at hm
      exact hm.2.2
    · cases h
  rw [← hx]
  exact short_fine hl hq

set_option maxRecDepth 100000 in
set_option maxHeartbeats 6400000 in
theorem decodes_none (w : World) (ba : Option Addr) (bc : Nat) (B : List UInt8) (hB : BAt w Any (.slice ba B.length bc) B) (hm : ML w) (hl : (B.length : Int) ≤ 10000) (hg : decodeM B = none) : Calls Tryz.prog 4 #[.slice ba B.length bc] w (BoolPost true w) := by
  have HFB := Lib.hid (short_fine hl)
  have HB := Lib.hid hB
  have HM := Lib.hid hm
  have HG := Lib.hid hg
  have HFX : Hid (FineS noScr) := Lib.hid (fine_no)
  clear hB hm hg
  obtain ⟨n, hn⟩ : ∃ n, n = B.length := ⟨_, rfl⟩
  have hln : n ≤ 10000 := by omega
  have hl2 : (n : Int) ≤ 10000 := by omega
  have h13 : Hid (∀ wx, Kept [] w wx → Calls Tryz.prog 13 #[.slice ba n bc] wx (fun e w' => ∃ zta ztn ztc zfa zfn zfc, e = .returned (.tuple #[.agg #[.slice zta ztn ztc, .string (noScr).query, .int .i64 (noScr).budget, .int .i64 (noScr).room, .int .i64 (noScr).seed, .slice zfa zfn zfc], .int .i64 300]) ∧ ScrAt w' Any noScr (.agg #[.slice zta ztn ztc, .string (noScr).query, .int .i64 (noScr).budget, .int .i64 (noScr).room, .int .i64 (noScr).seed, .slice zfa zfn zfc]) ∧ Kept [] wx w')) := Lib.hid (fun wx kx => by
    rw [hn]
    refine (script_decode wx ba bc B ((HB.out.kept kx)) (HM.out.kept kx) (by omega) HFB.out).mono (fun e w' h => ?_)
    obtain ⟨v, h1, h2, h3⟩ := h
    rw [HG.out] at h1 h2
    obtain ⟨t, f, rfl, h4, h5⟩ := h2
    obtain ⟨zta, ztc, rfl, _⟩ := h4.form
    obtain ⟨zfa, zfc, rfl, _⟩ := h5.form
    exact ⟨_, _, _, _, _, _, h1, ⟨_, _, rfl, h4.any, h5.any⟩, h3⟩)
  have h15 : Hid (∀ wx, Kept [] w wx → Calls Tryz.prog 15 #[.slice ba n bc] wx (fun e w' => ∃ zta ztn ztc zfa zfn zfc, e = .returned (.tuple #[.agg #[.slice zta ztn ztc, .string (noScr).query, .int .i64 (noScr).budget, .int .i64 (noScr).room, .int .i64 (noScr).seed, .slice zfa zfn zfc], .bool false]) ∧ ScrAt w' Any noScr (.agg #[.slice zta ztn ztc, .string (noScr).query, .int .i64 (noScr).budget, .int .i64 (noScr).room, .int .i64 (noScr).seed, .slice zfa zfn zfc]) ∧ Kept [] wx w')) := Lib.hid (fun wx kx => by
    rw [hn]
    refine (ref_decode wx ba bc B ((HB.out.kept kx)) (by omega) HFB.out).mono (fun e w' h => ?_)
    obtain ⟨v, h1, h2, h3⟩ := h
    rw [HG.out] at h1 h2
    obtain ⟨t, f, rfl, h4, h5⟩ := h2
    obtain ⟨zta, ztc, rfl, _⟩ := h4.form
    obtain ⟨zfa, zfc, rfl, _⟩ := h5.form
    exact ⟨_, _, _, _, _, _, h1, ⟨_, _, rfl, h4.any, h5.any⟩, h3⟩)
  have HCB : Hid (∀ wx, Kept [] w wx → (convert 28 9 (Value.slice ba n bc)).run Tryz.prog wx = .ok (.string ⟨B.toArray⟩) wx) := Lib.hid (fun wx k => by rw [hn]; exact bat_conv (HB.out.kept k))
  rw [← hn]
  clear hn hl
  have hl3 : ¬ (10000 : Int) < (n : Int) := by omega
  generalize (noScr).query = xq at h13 h15
  generalize (noScr).budget = x1 at h13 h15
  generalize (noScr).room = x2 at h13 h15
  generalize (noScr).seed = x3 at h13 h15
  go_enter Tryz.func4, Tryz.ntmps4
  go_wp2_with fail
  refine (h13.out _ (Kept.refl [] w)).mono ?_
  rintro e w1 ⟨sta, stn, stc, sfa, sfn, sfc, rfl, s1, k1⟩
  have ks : Kept [] w1 (w1.alloc (Obj.cells #[.slice sta stn stc, .string xq, .int .i64 x1, .int .i64 x2, .int .i64 x3, .slice sfa sfn sfc] 25)) := (Kept.refl [] w1).alloc _
  have as9 : Arr (w1.alloc (Obj.cells #[.slice sta stn stc, .string xq, .int .i64 x1, .int .i64 x2, .int .i64 x3, .slice sfa sfn sfc] 25)) w1.heap.size 25 [.slice sta stn stc, .string xq, .int .i64 x1, .int .i64 x2, .int .i64 x3, .slice sfa sfn sfc] := Arr.new' rfl rfl
  have HK1 := Lib.hid (k1.trans ks)
  have HS1 := Lib.hid (s1.kept ks)
  have HA1 := Lib.hid as9
  clear k1 ks s1 as9
  go_wp2_with fail
  generalize (w1.alloc (Obj.cells #[.slice sta stn stc, .string xq, .int .i64 x1, .int .i64 x2, .int .i64 x3, .slice sfa sfn sfc] 25)) = w2 at HK1 HS1 HA1 ⊢
  refine (h15.out _ HK1.out).mono ?_
  rintro e w3 ⟨tta, ttn, ttc, tfa, tfn, tfc, rfl, s2, k2⟩
  have ks : Kept [] w3 (w3.alloc (Obj.cells #[.slice tta ttn ttc, .string xq, .int .i64 x1, .int .i64 x2, .int .i64 x3, .slice tfa tfn tfc] 25)) := (Kept.refl [] w3).alloc _
  have as9 : Arr (w3.alloc (Obj.cells #[.slice tta ttn ttc, .string xq, .int .i64 x1, .int .i64 x2, .int .i64 x3, .slice tfa tfn tfc] 25)) w3.heap.size 25 [.slice tta ttn ttc, .string xq, .int .i64 x1, .int .i64 x2, .int .i64 x3, .slice tfa tfn tfc] := Arr.new' rfl rfl
  have HKK := Lib.hid (k2.trans ks)
  have HS2 := Lib.hid (s2.kept ks)
  have HA2 := Lib.hid as9
  clear k2 ks s2 as9
  go_wp2_with fail
  generalize (w3.alloc (Obj.cells #[.slice tta ttn ttc, .string xq, .int .i64 x1, .int .i64 x2, .int .i64 x3, .slice tfa tfn tfc] 25)) = w4 at HKK HS2 HA2 ⊢
  have HAS := Lib.hid (HA1.out.kept HKK.out (by simp))
  have HSS := Lib.hid (HS1.out.kept HKK.out)
  have HKW := Lib.hid (HK1.out.trans HKK.out)
  have H6 : Hid (∀ wx, Kept [] w4 wx → Calls Tryz.prog 6 #[] wx (BoolPost true wx)) := Lib.hid (fun wx k => lives wx (HM.out.kept (HKW.out.trans k)))
  have H9 : Hid (∀ wx, Kept [] w4 wx → Calls Tryz.prog 9 #[.agg #[.slice sta stn stc, .string xq, .int .i64 x1, .int .i64 x2, .int .i64 x3, .slice sfa sfn sfc], .agg #[.slice tta ttn ttc, .string xq, .int .i64 x1, .int .i64 x2, .int .i64 x3, .slice tfa tfn tfc]] wx (BoolPost true wx)) := Lib.hid (fun wx k => bool_of (ref30_same wx _ _ noScr noScr (HSS.out.kept k) (HS2.out.kept k) HFX.out) (decide_eq_true rfl))
  clear HK1 HS1 HA1 HKK h13 h15
  have hb2 : w3.heap.size < w4.heap.size := HA2.out.lt
  have hb1 : w1.heap.size < w4.heap.size := HAS.out.lt
  have sk : Kept [] w4 w4 := Kept.refl [] w4
  refine (H6.out _ sk).mono ?_
  rintro e w5 ⟨rfl, hk⟩
  have HKC := Lib.hid (sk.trans hk)
  have aX := HAS.out.kept HKC.out (by simp)
  have aY := HA2.out.kept HKC.out (by simp)
  have x0 := aX.cell (i := 0) rfl
  have x1' := aX.cell (i := 1) rfl
  have x2' := aX.cell (i := 2) rfl
  have x3' := aX.cell (i := 3) rfl
  have x4 := aX.cell (i := 4) rfl
  have x5 := aX.cell (i := 5) rfl
  have y0 := aY.cell (i := 0) rfl
  have y1 := aY.cell (i := 1) rfl
  have y2 := aY.cell (i := 2) rfl
  have y3 := aY.cell (i := 3) rfl
  have y4 := aY.cell (i := 4) rfl
  have y5 := aY.cell (i := 5) rfl
  clear aX aY hk sk
  go_wp2_with fail
  clear x0 x1' x2' x3' x4 x5 y0 y1 y2 y3 y4 y5
  refine (H9.out _ HKC.out).mono ?_
  rintro e wc ⟨rfl, hk⟩
  have HKD := Lib.hid (HKC.out.trans hk)
  clear hk HKC
  have HKC := HKD
  clear HKD
  go_wp2_with fail
  go_ret
  exact ⟨ret_bool rfl, HKW.out.trans HKC.out⟩

set_option maxRecDepth 100000 in
set_option maxHeartbeats 6400000 in
theorem decodes_some (w : World) (ba : Option Addr) (bc : Nat) (B : List UInt8) (hB : BAt w Any (.slice ba B.length bc) B) (hm : ML w) (hl : (B.length : Int) ≤ 10000) (x : Scr) (hg : decodeM B = some x) : Calls Tryz.prog 4 #[.slice ba B.length bc] w (BoolPost true w) := by
  have HFB := Lib.hid (short_fine hl)
  have HB := Lib.hid hB
  have HM := Lib.hid hm
  have HG := Lib.hid hg
  have HFX : Hid (FineS x) := Lib.hid (fine_got hl hg)
  have HOK := Lib.hid (encode_dec B x hg)
  clear hB hm hg
  obtain ⟨n, hn⟩ : ∃ n, n = B.length := ⟨_, rfl⟩
  have hln : n ≤ 10000 := by omega
  have hl2 : (n : Int) ≤ 10000 := by omega
  have h13 : Hid (∀ wx, Kept [] w wx → Calls Tryz.prog 13 #[.slice ba n bc] wx (fun e w' => ∃ zta ztn ztc zfa zfn zfc, e = .returned (.tuple #[.agg #[.slice zta ztn ztc, .string (x).query, .int .i64 (x).budget, .int .i64 (x).room, .int .i64 (x).seed, .slice zfa zfn zfc], .int .i64 0]) ∧ ScrAt w' Any x (.agg #[.slice zta ztn ztc, .string (x).query, .int .i64 (x).budget, .int .i64 (x).room, .int .i64 (x).seed, .slice zfa zfn zfc]) ∧ Kept [] wx w')) := Lib.hid (fun wx kx => by
    rw [hn]
    refine (script_decode wx ba bc B ((HB.out.kept kx)) (HM.out.kept kx) (by omega) HFB.out).mono (fun e w' h => ?_)
    obtain ⟨v, h1, h2, h3⟩ := h
    rw [HG.out] at h1 h2
    obtain ⟨t, f, rfl, h4, h5⟩ := h2
    obtain ⟨zta, ztc, rfl, _⟩ := h4.form
    obtain ⟨zfa, zfc, rfl, _⟩ := h5.form
    exact ⟨_, _, _, _, _, _, h1, ⟨_, _, rfl, h4.any, h5.any⟩, h3⟩)
  have h15 : Hid (∀ wx, Kept [] w wx → Calls Tryz.prog 15 #[.slice ba n bc] wx (fun e w' => ∃ zta ztn ztc zfa zfn zfc, e = .returned (.tuple #[.agg #[.slice zta ztn ztc, .string (x).query, .int .i64 (x).budget, .int .i64 (x).room, .int .i64 (x).seed, .slice zfa zfn zfc], .bool true]) ∧ ScrAt w' Any x (.agg #[.slice zta ztn ztc, .string (x).query, .int .i64 (x).budget, .int .i64 (x).room, .int .i64 (x).seed, .slice zfa zfn zfc]) ∧ Kept [] wx w')) := Lib.hid (fun wx kx => by
    rw [hn]
    refine (ref_decode wx ba bc B ((HB.out.kept kx)) (by omega) HFB.out).mono (fun e w' h => ?_)
    obtain ⟨v, h1, h2, h3⟩ := h
    rw [HG.out] at h1 h2
    obtain ⟨t, f, rfl, h4, h5⟩ := h2
    obtain ⟨zta, ztc, rfl, _⟩ := h4.form
    obtain ⟨zfa, zfc, rfl, _⟩ := h5.form
    exact ⟨_, _, _, _, _, _, h1, ⟨_, _, rfl, h4.any, h5.any⟩, h3⟩)
  have HCB : Hid (∀ wx, Kept [] w wx → (convert 28 9 (Value.slice ba n bc)).run Tryz.prog wx = .ok (.string ⟨B.toArray⟩) wx) := Lib.hid (fun wx k => by rw [hn]; exact bat_conv (HB.out.kept k))
  rw [← hn]
  clear hn hl
  have hl3 : ¬ (10000 : Int) < (n : Int) := by omega
  generalize (x).query = xq at h13 h15
  generalize (x).budget = x1 at h13 h15
  generalize (x).room = x2 at h13 h15
  generalize (x).seed = x3 at h13 h15
  go_enter Tryz.func4, Tryz.ntmps4
  go_wp2_with fail
  refine (h13.out _ (Kept.refl [] w)).mono ?_
  rintro e w1 ⟨sta, stn, stc, sfa, sfn, sfc, rfl, s1, k1⟩
  have ks : Kept [] w1 (w1.alloc (Obj.cells #[.slice sta stn stc, .string xq, .int .i64 x1, .int .i64 x2, .int .i64 x3, .slice sfa sfn sfc] 25)) := (Kept.refl [] w1).alloc _
  have as9 : Arr (w1.alloc (Obj.cells #[.slice sta stn stc, .string xq, .int .i64 x1, .int .i64 x2, .int .i64 x3, .slice sfa sfn sfc] 25)) w1.heap.size 25 [.slice sta stn stc, .string xq, .int .i64 x1, .int .i64 x2, .int .i64 x3, .slice sfa sfn sfc] := Arr.new' rfl rfl
  have HK1 := Lib.hid (k1.trans ks)
  have HS1 := Lib.hid (s1.kept ks)
  have HA1 := Lib.hid as9
  clear k1 ks s1 as9
  go_wp2_with fail
  generalize (w1.alloc (Obj.cells #[.slice sta stn stc, .string xq, .int .i64 x1, .int .i64 x2, .int .i64 x3, .slice sfa sfn sfc] 25)) = w2 at HK1 HS1 HA1 ⊢
  refine (h15.out _ HK1.out).mono ?_
  rintro e w3 ⟨tta, ttn, ttc, tfa, tfn, tfc, rfl, s2, k2⟩
  have ks : Kept [] w3 (w3.alloc (Obj.cells #[.slice tta ttn ttc, .string xq, .int .i64 x1, .int .i64 x2, .int .i64 x3, .slice tfa tfn tfc] 25)) := (Kept.refl [] w3).alloc _
  have as9 : Arr (w3.alloc (Obj.cells #[.slice tta ttn ttc, .string xq, .int .i64 x1, .int .i64 x2, .int .i64 x3, .slice tfa tfn tfc] 25)) w3.heap.size 25 [.slice tta ttn ttc, .string xq, .int .i64 x1, .int .i64 x2, .int .i64 x3, .slice tfa tfn tfc] := Arr.new' rfl rfl
  have HKK := Lib.hid (k2.trans ks)
  have HS2 := Lib.hid (s2.kept ks)
  have HA2 := Lib.hid as9
  clear k2 ks s2 as9
  go_wp2_with fail
  generalize (w3.alloc (Obj.cells #[.slice tta ttn ttc, .string xq, .int .i64 x1, .int .i64 x2, .int .i64 x3, .slice tfa tfn tfc] 25)) = w4 at HKK HS2 HA2 ⊢
  have HAS := Lib.hid (HA1.out.kept HKK.out (by simp))
  have HSS := Lib.hid (HS1.out.kept HKK.out)
  have HKW := Lib.hid (HK1.out.trans HKK.out)
  have H6 : Hid (∀ wx, Kept [] w4 wx → Calls Tryz.prog 6 #[] wx (BoolPost true wx)) := Lib.hid (fun wx k => lives wx (HM.out.kept (HKW.out.trans k)))
  have H9 : Hid (∀ wx, Kept [] w4 wx → Calls Tryz.prog 9 #[.agg #[.slice sta stn stc, .string xq, .int .i64 x1, .int .i64 x2, .int .i64 x3, .slice sfa sfn sfc], .agg #[.slice tta ttn ttc, .string xq, .int .i64 x1, .int .i64 x2, .int .i64 x3, .slice tfa tfn tfc]] wx (BoolPost true wx)) := Lib.hid (fun wx k => bool_of (ref30_same wx _ _ x x (HSS.out.kept k) (HS2.out.kept k) HFX.out) (decide_eq_true rfl))
  clear HK1 HS1 HA1 HKK h13 h15
  have hb2 : w3.heap.size < w4.heap.size := HA2.out.lt
  have hb1 : w1.heap.size < w4.heap.size := HAS.out.lt
  have sk : Kept [] w4 w4 := Kept.refl [] w4
  refine (H6.out _ sk).mono ?_
  rintro e w5 ⟨rfl, hk⟩
  have HKC := Lib.hid (sk.trans hk)
  have aX := HAS.out.kept HKC.out (by simp)
  have aY := HA2.out.kept HKC.out (by simp)
  have x0 := aX.cell (i := 0) rfl
  have x1' := aX.cell (i := 1) rfl
  have x2' := aX.cell (i := 2) rfl
  have x3' := aX.cell (i := 3) rfl
  have x4 := aX.cell (i := 4) rfl
  have x5 := aX.cell (i := 5) rfl
  have y0 := aY.cell (i := 0) rfl
  have y1 := aY.cell (i := 1) rfl
  have y2 := aY.cell (i := 2) rfl
  have y3 := aY.cell (i := 3) rfl
  have y4 := aY.cell (i := 4) rfl
  have y5 := aY.cell (i := 5) rfl
  clear aX aY hk sk
  go_wp2_with fail
  clear x0 x1' x2' x3' x4 x5 y0 y1 y2 y3 y4 y5
  refine (H9.out _ HKC.out).mono ?_
  rintro e wc ⟨rfl, hk⟩
  have HKD := Lib.hid (HKC.out.trans hk)
  clear hk HKC
  have HKC := HKD
  clear HKD
  have aX := HAS.out.kept HKC.out (by simp)
  have x0 := aX.cell (i := 0) rfl
  have x1' := aX.cell (i := 1) rfl
  have x2' := aX.cell (i := 2) rfl
  have x3' := aX.cell (i := 3) rfl
  have x4 := aX.cell (i := 4) rfl
  have x5 := aX.cell (i := 5) rfl
  clear aX
  go_wp2_with fail
  clear x0 x1' x2' x3' x4 x5
  have h7 : Calls Tryz.prog 7 #[.agg #[.slice sta stn stc, .string xq, .int .i64 x1, .int .i64 x2, .int .i64 x3, .slice sfa sfn sfc]] wc (fun e w' => ∃ v, e = .returned (.tuple #[v, .int .i64 0]) ∧ Bytes w' wc.heap.size v B ∧ Kept [] wc w') := by
    have := script_encode wc _ x (HSS.out.kept HKC.out) (HM.out.kept (HKW.out.trans HKC.out)) HFX.out
    refine this.mono (fun e w' h => ?_)
    obtain ⟨v, h1, h2, h3⟩ := h
    rw [HOK.out.1] at h2
    rw [show scrErr x = 0 by unfold scrErr; rw [HOK.out.1]; rfl] at h1
    simp only [if_true] at h2
    rw [HOK.out.2] at h2
    exact ⟨v, h1, h2, h3⟩
  refine h7.mono ?_
  rintro e w5 ⟨v5, rfl, b5, k5⟩
  clear h7
  obtain ⟨ca, cc, rfl, _⟩ := b5.form
  have HKD := Lib.hid (HKC.out.trans k5)
  have HCV : Hid (∀ wx, Kept [] w5 wx → (convert 28 9 (Value.slice ca B.length cc)).run Tryz.prog wx = .ok (.string ⟨B.toArray⟩) wx) := Lib.hid (fun wx k => bytes_conv (b5.kept k (by simp)))
  have HCW : Hid (∀ wx, Kept [] w5 wx → (convert 28 9 (Value.slice ba n bc)).run Tryz.prog wx = .ok (.string ⟨B.toArray⟩) wx) := Lib.hid (fun wx k => HCB.out wx ((HKW.out.trans HKD.out).trans k))
  have sk : Kept [] w5 w5 := Kept.refl [] w5
  clear b5 k5
  have cv := HCV.out _ sk
  have cw := HCW.out _ sk
  go_wp2_with fail
  go_ret
  exact ⟨ret_bool (by simp), (HKW.out.trans HKD.out).trans sk⟩

theorem decodes (w : World) (ba : Option Addr) (bc : Nat) (B : List UInt8) (hB : BAt w Any (.slice ba B.length bc) B) (hm : ML w) : Calls Tryz.prog 4 #[.slice ba B.length bc] w (BoolPost true w) := by
  by_cases hl : (B.length : Int) ≤ 10000
  · cases hg : decodeM B with
    | none => exact decodes_none w ba bc B hB hm hl hg
    | some x => exact decodes_some w ba bc B hB hm hl x hg
  · exact decodes_large w ba bc B hm (by omega)
end Go.Proofs.YtkodiogkldboiaaGreatDoor
/- How the arguments of a call are read: each kind out of the reading of its type. -/
namespace Go.Proofs.YtkodiogkldboiaaGreatDoor
open Go.ChangeShapes Go.WideShapes Go.ChangeAt Go.RowKit

def SmallD (t : TypeId) {H : Type} (x : DataW H) : Prop := ∀ n ∈ x.weights Tryz.prog t, n ≤ reachBytes
structure Opens {α : Type} (K : Kd α) (t : TypeId) (Sz : α → Prop) : Prop where
  cells : Tryz.prog.cellsOf t = K.sz
  get : ∀ {H : Type} {enc : TypeId × Value → H} {w : World} {base : Nat} {spare : Nat → Bool} {held : Bool} {fuel : Nat} {cs : List Value} {x : DataW H × List MemPlace}, DataW.trod enc Tryz.prog w base spare held fuel t cs = some x → SmallD t x.1 → ∃ a, K.E w Any a cs ∧ Sz a

theorem weights_all {H : Type} {P : Program} {e : TypeId} : ∀ {l : List (DataW H)} {d : DataW H}, d ∈ l → ∀ n ∈ d.weights P e, n ∈ DataW.weightsAll P e l
  | d0 :: r, d, hd, n, hn => by
    simp only [DataW.weightsAll, List.mem_append]
    rcases List.mem_cons.1 hd with rfl | h
    · exact .inl hn
    · exact .inr (weights_all h n hn)
theorem choose_list {α : Type} {p : Nat → α → Prop} : ∀ (n : Nat), (∀ i, i < n → ∃ x, p i x) → ∃ l : List α, l.length = n ∧ ∀ (i : Nat) (x : α), l[i]? = some x → p i x
  | 0, _ => ⟨[], rfl, fun i x h => by simp at h⟩
  | n + 1, h => by
    obtain ⟨l, hl, hp⟩ := choose_list n (fun i hi => h i (by omega))
    obtain ⟨x, hx⟩ := h n (by omega)
    refine ⟨l ++ [x], by simp [hl], fun i y hy => ?_⟩
    by_cases hi : i < n
    · rw [List.getElem?_append_left (by omega)] at hy
      exact hp i y hy
    · have : i < (l ++ [x]).length := by
        rcases Nat.lt_or_ge i (l ++ [x]).length with h | h
        · exact h
        · rw [List.getElem?_eq_none h] at hy; cases hy
      simp [hl] at this
      obtain rfl : i = n := by omega
      rw [List.getElem?_append_right (by omega)] at hy
      simp [hl] at hy
      subst hy
      exact hx

theorem cells_head {w : World} {base : Nat} {a : Addr} {n : Nat} {cs : List Value} (h : w.cells? base (a.add 0) n = some cs) (hn : 0 < n) : a = ⟨a.block, a.off, none⟩ ∧ a.block < w.heap.size := by
  obtain ⟨_, hlen, hc⟩ := World.cells?_some h
  have h0 := hc 0 hn
  have hx : cs[0]? = some cs[0] := by simp [show 0 < cs.length by omega]
  rw [hx] at h0
  obtain ⟨b, o, sp⟩ := a
  have hs := World.cell?_spot h0
  simp [Addr.add] at hs
  subst hs
  refine ⟨rfl, ?_⟩
  have := World.block_lt_of_cell? w _ h0; simpa [Addr.add] using this
theorem cells_at {w : World} {base b o m n : Nat} {cs : List Value} (h : w.cells? base (Addr.add ⟨b, o, none⟩ m) n = some cs) : ∀ (i : Nat) (v : Value), cs[i]? = some v → w.cell? ⟨b, o + m + i, none⟩ = some v := by
  obtain ⟨_, hlen, hc⟩ := World.cells?_some h
  intro i v hv
  have hi : i < cs.length := by rcases Nat.lt_or_ge i cs.length with h | h; exact h; simp [List.getElem?_eq_none h] at hv
  have := hc i (by omega)
  rw [add_none, add_none] at this
  rw [this, hv]

theorem Opens.int {t : TypeId} {k : IntKind} (hu : Tryz.prog.underlying t = some (.int k)) (hc : Tryz.prog.cellsOf t = 1) : Opens (kint k) t (fun n => (Lit.int k n).wf = true) :=
  ⟨hc, fun h _ => by obtain ⟨n, hn, _, hw⟩ := DataW.trod_int hu h; exact ⟨n, hn, hw⟩⟩
theorem Opens.str {t : TypeId} (hu : Tryz.prog.underlying t = some .string) (hc : Tryz.prog.cellsOf t = 1) : Opens kstr t (fun s => s.size ≤ reachBytes) :=
  ⟨hc, fun h hz => by
    obtain ⟨s, hs, rfl, _⟩ := DataW.trod_string hu h
    exact ⟨s, hs, hz _ (by simp [DataW.weights])⟩⟩
theorem Opens.slice {α : Type} {K : Kd α} {e t : TypeId} {Sz : α → Prop} (h : Opens K e Sz) (hu : Tryz.prog.underlying t = some (.slice e)) (hc : Tryz.prog.cellsOf t = 1) (hs : 0 < K.sz) : Opens K.slice t (fun l => ∀ a ∈ l, Sz a) := by
  refine ⟨hc, fun {H enc w base spare held fuel cs x} hx hz => ?_⟩
  rcases Deep.open_slice hu hx with ⟨rfl, rfl⟩ | ⟨a, len, cap, m, n, D, Pl, rfl, _, hl, _, hm, rfl, he⟩
  · exact ⟨[], ⟨_, rfl, Kd.At.nil _ _ _⟩, by simp⟩
  · have hlm : len ≤ m := by rw [hm]; split <;> omega
    obtain ⟨l, hll, hp⟩ := choose_list (α := α) (p := fun i q => ∃ cs', w.cells? base (a.add (i * K.sz)) K.sz = some cs' ∧ K.E w Any q cs' ∧ Sz q) len (fun i hi => by
      obtain ⟨cs', h1, h2⟩ := he i (by omega)
      rw [h.cells] at h1
      obtain ⟨q, h3, h4⟩ := h.get h2 (fun k hk => hz k (by
        simp only [DataW.weights, hu, List.mem_cons, List.mem_append]
        exact .inr (.inl (weights_all (List.mem_map.2 ⟨i, by simpa using hi, rfl⟩) k hk))))
      exact ⟨q, cs', h1, h3, h4⟩)
    subst hll
    refine ⟨l, ⟨_, rfl, some a, cap, rfl, hl, fun j q hq => ?_⟩, fun q hq => ?_⟩
    · have h0 : ∃ q0, l[0]? = some q0 := by
        cases l with
        | nil => simp at hq
        | cons q0 _ => exact ⟨q0, rfl⟩
      obtain ⟨q0, h0⟩ := h0
      obtain ⟨_, c0, _⟩ := hp 0 q0 h0
      rw [Nat.zero_mul] at c0
      obtain ⟨ea, hb⟩ := cells_head c0 hs
      obtain ⟨cs', h1, h2, _⟩ := hp j q hq
      rw [ea] at h1
      exact ⟨a.block, a.off, cs', by rw [← ea], trivial, hb, h2, cells_at h1⟩
    · obtain ⟨i, hi⟩ := List.getElem?_of_mem hq
      obtain ⟨_, _, _, h3⟩ := hp i q hi
      exact h3
theorem opens_fields {t : TypeId} {fs : Array Field} (hu : Tryz.prog.underlying t = some (.struct fs)) {H : Type} {enc : TypeId × Value → H} {w : World} {base : Nat} {spare : Nat → Bool} {held : Bool} {fuel : Nat} {cs : List Value} {x : DataW H × List MemPlace}
    (h : DataW.trod enc Tryz.prog w base spare held fuel t cs = some x) (hz : SmallD t x.1) : cs.length = Tryz.prog.cellsOf t ∧ ∀ (i : Nat) (f : Field), fs[i]? = some f → ∀ {α : Type} {K : Kd α} {Sz : α → Prop}, Opens K f.type Sz → ∃ a, K.E w Any a ((cs.drop f.offset).take (Tryz.prog.cellsOf f.type)) ∧ Sz a := by
  obtain ⟨xs, n, _, rfl, hl, hlen, hf⟩ := DataW.trod_struct hu h
  refine ⟨hl, fun i f hi α K Sz ho => ?_⟩
  have hi2 : i < xs.length := by
    rw [hlen]
    rcases Nat.lt_or_ge i fs.size with h | h
    · exact h
    · rw [Array.getElem?_eq_none h] at hi; cases hi
  have h1 := hf i f hi
  rw [List.getElem?_eq_getElem hi2] at h1
  refine ho.get h1 (fun k hk => hz k ?_)
  simp only [DataW.weights, hu]
  exact DataW.weights_mem_each (j := i) (by simp [hi]) (by simp [hi2]) k hk

theorem Tryz.cells3 : Tryz.prog.cellsOf 3 = 1 := by kernel_rfl
theorem Tryz.cells5 : Tryz.prog.cellsOf 5 = 1 := by kernel_rfl
theorem Tryz.cells9 : Tryz.prog.cellsOf 9 = 1 := by kernel_rfl
theorem Tryz.cells22 : Tryz.prog.cellsOf 22 = 1 := by kernel_rfl
theorem Tryz.cells23 : Tryz.prog.cellsOf 23 = 1 := by kernel_rfl
theorem Tryz.cells25 : Tryz.prog.cellsOf 25 = 6 := by kernel_rfl
theorem Tryz.cells28 : Tryz.prog.cellsOf 28 = 1 := by kernel_rfl
theorem Tryz.cells50 : Tryz.prog.cellsOf 50 = 1 := by kernel_rfl
theorem Tryz.cells51 : Tryz.prog.cellsOf 51 = 1 := by kernel_rfl
theorem Tryz.cells53 : Tryz.prog.cellsOf 53 = 3 := by kernel_rfl
theorem Tryz.cells57 : Tryz.prog.cellsOf 57 = 3 := by kernel_rfl
theorem Tryz.cells59 : Tryz.prog.cellsOf 59 = 1 := by kernel_rfl
theorem Tryz.cells85 : Tryz.prog.cellsOf 85 = 3 := by kernel_rfl

theorem opens_int : Opens (kint .i64) 3 (fun n => (Lit.int .i64 n).wf = true) := Opens.int Tryz.underlying3 Tryz.cells3
theorem opens_str : Opens kstr 9 (fun s => s.size ≤ reachBytes) := Opens.str Tryz.underlying9 Tryz.cells9
set_option maxRecDepth 100000 in
theorem opens_val : Opens kval 57 (fun _ => True) := ⟨Tryz.cells57, fun {H enc w base spare held fuel cs x} h hz => by
  obtain ⟨hl, hf⟩ := opens_fields Tryz.underlying57 h hz
  obtain ⟨k, e0, _⟩ := hf 0 _ rfl opens_int
  obtain ⟨n, e1, _⟩ := hf 1 _ rfl opens_int
  obtain ⟨s, e2, _⟩ := hf 2 _ rfl opens_str
  change (cs.drop 0).take (Tryz.prog.cellsOf 3) = [.int .i64 k] at e0
  change (cs.drop 1).take (Tryz.prog.cellsOf 3) = [.int .i64 n] at e1
  change (cs.drop 2).take (Tryz.prog.cellsOf 9) = [.string s] at e2
  rw [Tryz.cells57] at hl
  simp only [Tryz.cells3, Tryz.cells9] at e0 e1 e2
  match cs, hl with
  | [c0, c1, c2], _ =>
    simp at e0 e1 e2
    subst e0; subst e1; subst e2
    exact ⟨⟨k, n, s⟩, rfl, trivial⟩⟩
set_option maxRecDepth 100000 in
theorem opens_col : Opens kcol 85 (fun c => c.name.size ≤ reachBytes) := ⟨Tryz.cells85, fun {H enc w base spare held fuel cs x} h hz => by
  obtain ⟨hl, hf⟩ := opens_fields Tryz.underlying85 h hz
  obtain ⟨k, e0, _⟩ := hf 0 _ rfl opens_str
  obtain ⟨n, e1, hn⟩ := hf 1 _ rfl opens_str
  obtain ⟨s, e2, _⟩ := hf 2 _ rfl opens_int
  change (cs.drop 0).take (Tryz.prog.cellsOf 9) = [.string k] at e0
  change (cs.drop 1).take (Tryz.prog.cellsOf 9) = [.string n] at e1
  change (cs.drop 2).take (Tryz.prog.cellsOf 3) = [.int .i64 s] at e2
  rw [Tryz.cells85] at hl
  simp only [Tryz.cells3, Tryz.cells9] at e0 e1 e2
  match cs, hl with
  | [c0, c1, c2], _ =>
    simp at e0 e1 e2
    subst e0; subst e1; subst e2
    exact ⟨⟨k, n, s⟩, rfl, hn⟩⟩
theorem opens_cols : Opens kcol.slice 50 (fun l => ∀ c ∈ l, c.name.size ≤ reachBytes) := opens_col.slice Tryz.underlying50 Tryz.cells50 (by decide)
theorem opens_row : Opens krow 59 (fun l => ∀ a ∈ l, True) := opens_val.slice Tryz.underlying59 Tryz.cells59 (by decide)
theorem opens_rows : Opens krow.slice 51 (fun l => ∀ r ∈ l, ∀ a ∈ r, True) := opens_row.slice Tryz.underlying51 Tryz.cells51 (by decide)
set_option maxRecDepth 100000 in
theorem opens_tbl : Opens ktbl 53 (fun t => t.name.size ≤ reachBytes ∧ ∀ c ∈ t.cols, c.name.size ≤ reachBytes) := ⟨Tryz.cells53, fun {H enc w base spare held fuel cs x} h hz => by
  obtain ⟨hl, hf⟩ := opens_fields Tryz.underlying53 h hz
  obtain ⟨k, e0, hk⟩ := hf 0 _ rfl opens_str
  obtain ⟨n, e1, hn⟩ := hf 1 _ rfl opens_cols
  obtain ⟨s, e2, _⟩ := hf 2 _ rfl opens_rows
  obtain ⟨c, e1, hc⟩ := e1
  obtain ⟨r, e2, hr⟩ := e2
  change (cs.drop 0).take (Tryz.prog.cellsOf 9) = [.string k] at e0
  change (cs.drop 1).take (Tryz.prog.cellsOf 50) = [c] at e1
  change (cs.drop 2).take (Tryz.prog.cellsOf 51) = [r] at e2
  rw [Tryz.cells53] at hl
  simp only [Tryz.cells9, Tryz.cells50, Tryz.cells51] at e0 e1 e2
  match cs, hl with
  | [c0, c1, c2], _ =>
    simp at e0 e1 e2
    subst e0; subst e1; subst e2
    exact ⟨⟨k, n, s⟩, ⟨_, _, rfl, hc, hr⟩, hk, hn⟩⟩
theorem opens_tbls : Opens ktbl.slice 22 (fun l => ∀ t ∈ l, t.name.size ≤ reachBytes ∧ ∀ c ∈ t.cols, c.name.size ≤ reachBytes) := opens_tbl.slice Tryz.underlying22 Tryz.cells22 (by decide)
theorem opens_ints : Opens (kint .i64).slice 23 (fun l => ∀ n ∈ l, (Lit.int .i64 n).wf = true) := opens_int.slice Tryz.underlying23 Tryz.cells23 (by decide)
set_option maxRecDepth 100000 in
/-- A script, read as a value's cells. -/
theorem opens_scr {H : Type} {enc : TypeId × Value → H} {w : World} {base : Nat} {spare : Nat → Bool} {held : Bool} {fuel : Nat} {cs : List Value} {x : DataW H × List MemPlace} (h : DataW.trod enc Tryz.prog w base spare held fuel 25 cs = some x) (hz : SmallD 25 x.1) :
    ∃ s : Scr, ScrAt w Any s (.agg cs.toArray) ∧ NamesFit s ∧ (s.query.size : Int) ≤ 9223372036854775807 := by
  obtain ⟨hl, hf⟩ := opens_fields Tryz.underlying25 h hz
  obtain ⟨t, ⟨tv, e0, ht⟩, hts⟩ := hf 0 _ rfl opens_tbls
  obtain ⟨q, e1, hq⟩ := hf 1 _ rfl opens_str
  obtain ⟨b, e2, _⟩ := hf 2 _ rfl opens_int
  obtain ⟨r, e3, _⟩ := hf 3 _ rfl opens_int
  obtain ⟨d, e4, _⟩ := hf 4 _ rfl opens_int
  obtain ⟨f, ⟨fv, e5, hf5⟩, _⟩ := hf 5 _ rfl opens_ints
  change (cs.drop 0).take (Tryz.prog.cellsOf 22) = [tv] at e0
  change (cs.drop 1).take (Tryz.prog.cellsOf 9) = [.string q] at e1
  change (cs.drop 2).take (Tryz.prog.cellsOf 3) = [.int .i64 b] at e2
  change (cs.drop 3).take (Tryz.prog.cellsOf 3) = [.int .i64 r] at e3
  change (cs.drop 4).take (Tryz.prog.cellsOf 3) = [.int .i64 d] at e4
  change (cs.drop 5).take (Tryz.prog.cellsOf 23) = [fv] at e5
  rw [Tryz.cells25] at hl
  simp only [Tryz.cells3, Tryz.cells9, Tryz.cells22, Tryz.cells23] at e0 e1 e2 e3 e4 e5
  have hr : reachBytes ≤ 140737488355328 := by decide
  match cs, hl with
  | [c0, c1, c2, c3, c4, c5], _ =>
    simp at e0 e1 e2 e3 e4 e5
    subst e0; subst e1; subst e2; subst e3; subst e4; subst e5
    refine ⟨⟨t, q, b, r, d, f⟩, ⟨_, _, rfl, ht, hf5⟩, fun t h => ?_, ?_⟩
    · obtain ⟨h1, h2⟩ := hts t h
      exact ⟨by omega, fun c hc => by have := h2 c hc; omega⟩
    · show (q.size : Int) ≤ _
      omega
theorem opens_bytes {H : Type} {enc : TypeId × Value → H} {w : World} {base : Nat} {spare : Nat → Bool} {held : Bool} {fuel : Nat} {cs : List Value} {x : DataW H × List MemPlace} (h : DataW.trod enc Tryz.prog w base spare held fuel 28 cs = some x) (hz : SmallD 28 x.1) :
    ∃ v B, cs = [v] ∧ BAt w Any v B := by
  obtain ⟨l, ⟨v, rfl, hv⟩, hw⟩ := ((Opens.int (k := .u8) Tryz.underlying5 Tryz.cells5).slice Tryz.underlying28 Tryz.cells28 (by decide)).get h hz
  refine ⟨v, l.map (fun n => UInt8.ofNat n.toNat), rfl, ?_⟩
  unfold BAt
  rw [List.map_map]
  rw [show l.map ((fun c : UInt8 => (c.toNat : Int)) ∘ fun n : Int => UInt8.ofNat n.toNat) = l by
    conv => rhs; rw [← List.map_id l]
    refine List.map_congr_left (fun n hn => ?_)
    have := hw n hn
    simp [Lit.wf, IntKind.min, IntKind.max, IntKind.signed, IntKind.bits] at this
    show ((UInt8.ofNat n.toNat).toNat : Int) = n
    simp
    omega]
  exact hv
end Go.Proofs.YtkodiogkldboiaaGreatDoor
