/- TreeNobody: whatever the call, a nil tree answers as the law says, and the argument reads as it did. No condition. -/
import Derived.Test.YtjedpimoemapfaaL
import Derived.ProofKit
import Derived.OpenShut
import Derived.Deep.Strs
namespace Go.Proofs.Ytjedpimoemapfaa
open Go.ChangeShapes Go.WideShapes Go.ChangeAt Go.RowKit

theorem Try.own : ownKnob Try.prog.godebug = none := by kernel_rfl
theorem Try.laidOut : laidOutB Try.prog = true := by kernel_rfl
theorem Try.cells33 : Try.prog.cellsOf 33 = 4 := by kernel_rfl
theorem Try.cells28 : Try.prog.cellsOf 28 = 2 := by kernel_rfl
theorem Try.cells3 : Try.prog.cellsOf 3 = 1 := by kernel_rfl

/-- The four numbers of one call. -/
theorem op_form {H : Type} {enc : TypeId × Value → H} {w : World} {base : Nat} {spare : Nat → Bool} {held : Bool} {fuel : Nat} {cs : List Value} {x : DataW H × List MemPlace}
    (h : DataW.trod enc Try.prog w base spare held fuel 33 cs = some x) : ∃ a b k t : Int, cs = [.int .i64 a, .int .i64 b, .int .i64 k, .int .i64 t] := by
  obtain ⟨y0, y1, y2, n, _, hl, h0, h1, h2⟩ := Deep.trod_struct3 Try.underlying33 h
  simp only [Try.cells33, Try.cells28, Try.cells3] at hl h0 h1 h2
  obtain ⟨a, ha, _, _⟩ := DataW.trod_int Try.underlying3 h0
  obtain ⟨b, hb, _, _⟩ := DataW.trod_int Try.underlying3 h1
  obtain ⟨z0, z1, n', _, hl', g0, g1⟩ := trod_struct2 Try.underlying28 h2
  simp only [Try.cells3] at g0 g1
  obtain ⟨k, hk, _, _⟩ := DataW.trod_int Try.underlying3 g0
  obtain ⟨t, ht, _, _⟩ := DataW.trod_int Try.underlying3 g1
  match cs, hl with
  | [c0, c1, c2, c3], _ =>
    simp at ha hb hk ht
    exact ⟨a, b, k, t, by rw [ha, hb, hk, ht]⟩

set_option maxHeartbeats 800000 in
theorem nobody_walk (w : World) (a b k t : Int) : Calls Try.prog 7 #[.agg #[.int .i64 a, .int .i64 b, .int .i64 k, .int .i64 t]] w fun e w' => e = .returned (.bool true) ∧ Below w.heap.size w w' := by
  go_enter Try.func7, Try.ntmps7
  go_wp2_with fail
  refine (win_nil _).mono ?_
  rintro e w1 ⟨rfl, hk1⟩
  simp only [noWin]
  have hA1 := (Arr.new' rfl rfl : Arr (w.alloc (.cells #[.int .i64 a, .int .i64 b, .int .i64 k, .int .i64 t] 33)) w.heap.size 33 _).kept hk1 (by simp)
  have a1 := hA1.cell (i := 1) rfl
  have l1 := hA1.lt
  have HK1 := Lib.hid (((Kept.refl [] w).alloc _).trans (hk1.alloc (.cells #[.int .i64 0, .int .i64 0] 28)))
  have HA1 := Lib.hid (hA1.alloc (.cells #[.int .i64 0, .int .i64 0] 28))
  have HP1 := Lib.hid (show Arr (w1.alloc (.cells #[.int .i64 0, .int .i64 0] 28)) w1.heap.size 28 [.int .i64 0, .int .i64 0] from Arr.new' rfl rfl)
  clear hA1 hk1
  go_wp2_with fail
  refine (get_nil _ b).mono ?_
  rintro e w2 ⟨rfl, hk2⟩
  have HK2 := Lib.hid (HK1.out.trans (hk2.alloc (.cells #[.int .i64 0, .int .i64 0] 28)))
  have HA2 := Lib.hid ((HA1.out.kept hk2 (by simp)).alloc (.cells #[.int .i64 0, .int .i64 0] 28))
  have HP2 := Lib.hid ((HP1.out.kept hk2 (by simp)).alloc (.cells #[.int .i64 0, .int .i64 0] 28))
  have HQ2 := Lib.hid (show Arr (w2.alloc (.cells #[.int .i64 0, .int .i64 0] 28)) w2.heap.size 28 [.int .i64 0, .int .i64 0] from Arr.new' rfl rfl)
  clear HK1 HA1 HP1 hk2 a1 l1
  generalize hn1 : w1.heap.size = n1 at *
  go_wp2_with fail
  refine (lives_any _).mono ?_
  rintro e w3 ⟨rfl, hk3⟩
  have hA3 := HA2.out.kept hk3 (by simp)
  have hP3 := HP2.out.kept hk3 (by simp)
  have hQ3 := HQ2.out.kept hk3 (by simp)
  have a1 := hA3.cell (i := 1) rfl
  have a2 := hA3.cell (i := 2) rfl
  have a3 := hA3.cell (i := 3) rfl
  have p0 := hP3.cell (i := 0) rfl
  have p1 := hP3.cell (i := 1) rfl
  have q0 := hQ3.cell (i := 0) rfl
  have q1 := hQ3.cell (i := 1) rfl
  have HK3 := Lib.hid (HK2.out.trans hk3)
  have HA3 := Lib.hid hA3
  clear HK2 HA2 HP2 HQ2 hk3 hA3 hP3 hQ3
  go_wp2_with fail
  refine (set_nil _ b k t).mono ?_
  rintro e w4 ⟨rfl, hk4⟩
  have hA4 := HA3.out.kept hk4 (by simp)
  have a1 := hA4.cell (i := 1) rfl
  have HK4 := Lib.hid (HK3.out.trans hk4)
  clear HK3 HA3 hk4 hA4
  go_wp2_with (first | (go_at_call 12; refine (clear_nil _ b).mono ?_; rintro e w5 ⟨rfl, hk5⟩) | (go_at_call 23; refine (len_nil _).mono ?_; rintro e w6 ⟨rfl, rfl⟩) | (go_at_call 24; refine (leaves_nil _).mono ?_; rintro e w6 ⟨rfl, rfl⟩))
  go_ret
  exact ⟨rfl, (HK4.out.trans hk5).below⟩

set_option maxRecDepth 100000 in
theorem nobody_lifted (os : Os) (started : os.Started) (H : Type) (enc : TypeId × Value → H) :
    ReturnsInHanded {} Try.checked os 7 .any (Rows.treeNobodySpec.pre6 enc Try.prog Try.f7 Rows.treeNobodyRow.domain false) (Rows.treeNobodySpec.post enc Try.prog Try.f7 false true false false) := by
  refine returnsInHanded_of_change (C := Try.checked) Try.own started (by kernel_rfl) Try.func7
    (ChangeSpec.witness6 (enc := enc) (C := Try.checked) false ⟨#[], #[.agg #[.int .i64 0, .int .i64 0, .int .i64 0, .int .i64 0]], []⟩ 8 (by kernel_rfl) (by kernel_rfl) (by kernel_rfl) (by kernel_rfl)) ?_
  intro W base args ds gs before hval0 hW hcnd _
  have hval : ∀ (j : Nat) t v, Try.f7.params[j]? = some t → args[j]? = some v → Value.okWide Try.prog W .any base t v := hval0
  have hW' := hW
  obtain ⟨p, q, hA0, hV, rfl, hfz, hnd⟩ := hW
  have hA : DataW.TrodAll enc Try.prog W 0 (fun _ => true) true Try.f7.params.toList args.toList ds p := hA0
  rw [Try.params7] at hA hval
  obtain ⟨v0, vs0, d0, ds0, p0, q0, hargs, rfl, rfl, h0, r0⟩ := trodAll_cons hA
  obtain ⟨rfl, rfl, rfl⟩ := trodAll_nil r0
  obtain rfl : args = #[v0] := by cases args; simp_all
  obtain ⟨rfl, rfl⟩ := trodVars_none hV
  obtain ⟨cs, rfl, hsz⟩ := okWide_struct Try.underlying33 (hval 0 33 v0 rfl rfl)
  have k0 := h0
  have lt0 : ∀ x ∈ p0, x.block < W.heap.size := by obtain ⟨m, hm⟩ := k0; exact DataW.trod_lt m _ _ _ hm
  obtain ⟨fuel, hf⟩ := h0
  obtain ⟨a, b, k, t, hcs⟩ := op_form hf
  obtain rfl : cs = #[.int .i64 a, .int .i64 b, .int .i64 k, .int .i64 t] := by
    simp only [Value.cells] at hcs
    cases cs; simp_all
  clear hA0 hval0
  refine (nobody_walk W a b k t).mono fun e W' ⟨he, bel⟩ => ?_
  subst he
  exact ⟨_, rfl, _, _, _, [], _, [], hW', trodAll_mk1 (shut_bool Try.underlying4 _), (trodAll_cons_mk (Below.trod Try.laidOut (by kernel_rfl) (of_decide_eq_true (by kernel_rfl)) k0 bel lt0) trodAll_mk0), rfl, bel.frame _, fun h => by cases h⟩

theorem treeNobody_holds : Rows.TreeNobodySaid :=
  OpenClaim.holds_of_wide 7 Try.f7 rfl rfl rfl rfl rfl rfl rfl ⟨rfl, rfl, rfl, rfl, rfl⟩ rfl rfl rfl rfl rfl (by kernel_rfl) Try.func7 (by kernel_rfl)
    (of_decide_eq_true (by kernel_rfl)) (by unfold Func.isWrapper; first | (rw [if_pos (by decide +kernel)]; kernel_rfl) | (rw [if_neg (by decide +kernel)]; exact ⟨rfl, rfl⟩))
    (fun os started H enc _ => nobody_lifted os started H enc)
#print axioms treeNobody_holds
end Go.Proofs.Ytjedpimoemapfaa
