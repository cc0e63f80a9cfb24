/- TreeMerges: whatever lists are merged, in order or not, the program's Merge and the reference's are the same; the law returns true, and the argument reads as it did. No condition. -/
import Derived.Test.YtjedpimoemapfaaRd
namespace Go.Proofs.Ytjedpimoemapfaa
open Go.ChangeShapes Go.WideShapes Go.ChangeAt Go.RowKit

set_option maxHeartbeats 800000 in
theorem merges_walk (w : World) (v : Value) (rows : List (List Pr)) (h : RowsAt w v rows) (hm : ∀ ps ∈ rows, ps.length ≤ 8796093022208) (hb : rows.length ≤ 8796093022208) :
    Calls Try.prog 4 #[v] w fun e w' => e = .returned (.bool true) ∧ Below w.heap.size w w' := by
  have H := Lib.hid h
  have HM := Lib.hid hm
  obtain ⟨a, cap, hv, _⟩ := h
  subst hv
  clear hm
  cases hl : largeB rows with
  | true =>
    have HL := Lib.hid hl
    clear hl
    go_enter Try.func4, Try.ntmps4
    go_wp2_with (first | (go_at_call 14; refine (large_any _ _ rows H.out HM.out hb).mono ?_; rw [HL.out]; rintro e w1 ⟨rfl, rfl⟩) | (go_at_call 10; refine (lives_any _).mono ?_; rintro e w2 ⟨rfl, hk2⟩))
    go_ret
    exact ⟨rfl, hk2.below⟩
  | false =>
    have hl2 : rows.length ≤ 100 ∧ total rows ≤ 2000 := by
      unfold largeB at hl
      simp only [decide_eq_false_iff_not, not_or, Nat.not_lt] at hl
      exact hl
    obtain ⟨hl3, hl4⟩ := hl2
    have HL := Lib.hid hl
    clear hl
    by_cases hn : rows.length < 1 ∨ 64 < rows.length
    · have HN := Lib.hid hn
      by_cases hn1 : rows.length < 1
      · have hn2 : (rows.length : Int) < 1 := by omega
        clear hn
        go_enter Try.func4, Try.ntmps4
        go_wp2_with fail
        refine (large_any _ _ rows H.out HM.out hb).mono ?_; rw [HL.out]; rintro e w1 ⟨rfl, rfl⟩
        go_wp2_with fail
        refine (merge_err _ _ rows H.out _ HN.out hb).mono ?_; rintro e w1 ⟨rfl, hk1⟩
        go_wp2_with fail
        refine (merge_nil _ _ rows (H.out.kept hk1)).mono ?_; rintro e w2 ⟨rfl, hk2⟩
        go_wp2_with (go_at_call 10; refine (lives_any _).mono ?_; rintro e w3 ⟨rfl, hk3⟩)
        go_ret
        exact ⟨rfl, ((hk1.trans hk2).trans hk3).below⟩
      · have hn2 : ¬ (rows.length : Int) < 1 := by omega
        have hn3 : (64 : Int) < (rows.length : Int) := by omega
        clear hn
        go_enter Try.func4, Try.ntmps4
        go_wp2_with fail
        refine (large_any _ _ rows H.out HM.out hb).mono ?_; rw [HL.out]; rintro e w1 ⟨rfl, rfl⟩
        go_wp2_with fail
        refine (merge_err _ _ rows H.out _ HN.out hb).mono ?_; rintro e w1 ⟨rfl, hk1⟩
        go_wp2_with fail
        refine (merge_nil _ _ rows (H.out.kept hk1)).mono ?_; rintro e w2 ⟨rfl, hk2⟩
        go_wp2_with (go_at_call 10; refine (lives_any _).mono ?_; rintro e w3 ⟨rfl, hk3⟩)
        go_ret
        exact ⟨rfl, ((hk1.trans hk2).trans hk3).below⟩
    · have hn2 : ¬ (rows.length : Int) < 1 := by omega
      have hn3 : ¬ (64 : Int) < (rows.length : Int) := by omega
      have hps : ∀ ps ∈ rows, ps.length ≤ 1000000 := fun ps h => by have := total_le_mem h; omega
      have HPS := Lib.hid hps
      have hml := merged_len rows
      have HML := Lib.hid hml
      clear hps hml
      go_enter Try.func4, Try.ntmps4
      go_wp2_with fail
      refine (large_any _ _ rows H.out HM.out hb).mono ?_; rw [HL.out]; rintro e w1 ⟨rfl, rfl⟩
      go_wp2_with fail
      refine (merge_ok _ _ rows H.out (by omega) (by omega) (by omega) HPS.out).mono ?_; rintro e w1 ⟨mv, rfl, hown, hk1⟩
      have hp1 := own_pairs hown
      have HP1 := Lib.hid hp1
      have HK1 := Lib.hid hk1
      clear hown hp1 hk1
      go_wp2_with fail
      refine (merge_nil _ _ rows (H.out.kept HK1.out)).mono ?_; rintro e w2 ⟨rfl, hk2⟩
      have HP2 := Lib.hid (HP1.out.kept hk2)
      have HK2 := Lib.hid (HK1.out.trans hk2)
      clear HP1 HK1 hk2
      go_wp2_with fail
      refine (lives_any _).mono ?_; rintro e w3 ⟨rfl, hk3⟩
      have HP3 := Lib.hid (HP2.out.kept hk3)
      have HK3 := Lib.hid (HK2.out.trans hk3)
      clear HP2 HK2 hk3
      go_wp2_with fail
      refine (rmerge_ok _ _ rows (H.out.kept HK3.out) (by omega) (by omega) HPS.out).mono ?_; rintro e w4 ⟨rv, rfl, hown4, hk4⟩
      have HP4 := Lib.hid (HP3.out.kept hk4)
      have HQ4 := Lib.hid (own_pairs hown4)
      have HK4 := Lib.hid (HK3.out.trans hk4)
      clear HP3 HK3 hk4 hown4
      go_wp2_with fail
      refine (same_yes _ _ _ (merged rows) HP4.out HQ4.out (by rw [HML.out]; omega)).mono ?_; rintro e w5 ⟨rfl, hk5⟩
      go_wp2
      go_ret
      exact ⟨rfl, (HK4.out.trans hk5).below⟩

set_option maxRecDepth 100000 in
theorem merges_lifted (os : Os) (started : os.Started) (H : Type) (enc : TypeId × Value → H) :
    ReturnsInHanded {} Try.checked os 4 .any (Rows.treeMergesSpec.pre6 enc Try.prog Try.f4 Rows.treeMergesRow.domain false) (Rows.treeMergesSpec.post enc Try.prog Try.f4 false true false false) := by
  refine returnsInHanded_of_change_sized (C := Try.checked) Try.own started (by kernel_rfl) Try.func4
    (ChangeSpec.witness6 (enc := enc) (C := Try.checked) false ⟨#[], #[.slice none 0 0], []⟩ 8 (by kernel_rfl) (by kernel_rfl) (by kernel_rfl) (by kernel_rfl)) ?_
  intro W base args ds gs before hval0 hW hcnd hsz0 _
  have hval : ∀ (j : Nat) t v, Try.f4.params[j]? = some t → args[j]? = some v → Value.okWide Try.prog W .any base t v := hval0
  have hW' := hW
  obtain ⟨p, q, hA0, hV, rfl, hfz, hnd⟩ := hW
  have hA : DataW.TrodAll enc Try.prog W 0 (fun _ => true) true Try.f4.params.toList args.toList ds p := hA0
  rw [Try.params4] at hA hval
  obtain ⟨v1, vs1, d1, ds1, p1, q1, hargs, rfl, rfl, h1, r1⟩ := trodAll_cons hA
  obtain ⟨rfl, rfl, rfl⟩ := trodAll_nil r1
  obtain rfl : args = #[v1] := by cases args; simp_all
  obtain ⟨rfl, rfl⟩ := trodVars_none hV
  have hsz : (DataW.weightsEach Try.prog [40] [d1]).all (· ≤ reachBytes) = true := hsz0
  obtain ⟨a, len, cap, rfl⟩ := okWide_slice Try.underlying40 (hval 0 40 v1 rfl rfl)
  have k1 := h1
  have lt1 : ∀ x ∈ p1, x.block < W.heap.size := by obtain ⟨m, hm⟩ := k1; exact DataW.trod_lt m _ _ _ hm
  obtain ⟨fuel, hf⟩ := h1
  obtain ⟨v, rows, hcs, hR, hM, hB⟩ := rows_open hf hsz
  obtain rfl : v = .slice a len cap := by simpa [Value.cells] using hcs.symm
  clear hA0 hval0
  refine (merges_walk W _ rows hR hM hB).mono fun e W' ⟨he, bel⟩ => ?_
  subst he
  exact ⟨_, rfl, _, _, _, [], _, [], hW', trodAll_mk1 (shut_bool Try.underlying4 _), (trodAll_cons_mk (Below.trod Try.laidOut (by kernel_rfl) (of_decide_eq_true (by kernel_rfl)) k1 bel lt1) trodAll_mk0), rfl, bel.frame _, fun h => by cases h⟩

theorem treeMerges_holds : Rows.TreeMergesSaid :=
  OpenClaim.holds_of_wide 4 Try.f4 rfl rfl rfl rfl rfl rfl rfl ⟨rfl, rfl, rfl, rfl, rfl⟩ rfl rfl rfl rfl rfl (by kernel_rfl) Try.func4 (by kernel_rfl)
    (of_decide_eq_true (by kernel_rfl)) (by unfold Func.isWrapper; first | (rw [if_pos (by decide +kernel)]; kernel_rfl) | (rw [if_neg (by decide +kernel)]; exact ⟨rfl, rfl⟩))
    (fun os started H enc _ => merges_lifted os started H enc)
#print axioms treeMerges_holds

end Go.Proofs.Ytjedpimoemapfaa
