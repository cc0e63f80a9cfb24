/- TreeSteps: whatever leaves there are asked for and whatever is set, no Set compares more often than Steps says and Win compares nothing; the law returns true, and the arguments read as they did. No condition. -/
import Derived.Test.YtjedpimoemapfaaDoes
namespace Go.Proofs.Ytjedpimoemapfaa
open Go.ChangeShapes Go.WideShapes Go.ChangeAt Go.RowKit

set_option maxHeartbeats 800000 in
set_option maxRecDepth 100000 in
theorem steps_out (w : World) (n : Int) (hn : n < 1 ∨ 64 < n) (v : Value) : Calls Try.prog 6 #[.int .i64 n, v] w fun e w' => e = .returned (.bool true) ∧ Below w.heap.size w w' := by
  by_cases h1 : n < 1
  · clear hn
    generalize hS : stepsF n = S
    have HS := Lib.hid hS
    clear hS
    go_enter Try.func6, Try.ntmps6
    go_wp2_with (first | (go_at_call 18; refine (steps_any _ n).mono ?_; rw [HS.out]; rintro e w1 ⟨rfl, rfl⟩) | (go_at_call 19; refine (rsteps_any _ n).mono ?_; rw [HS.out]; rintro e w1 ⟨rfl, rfl⟩) | (go_at_call 10; refine (lives_any _).mono ?_; rintro e w2 ⟨rfl, hk⟩))
    go_ret
    exact ⟨rfl, hk.below⟩
  · have h2 : 64 < n := by omega
    clear hn
    generalize hS : stepsF n = S
    have HS := Lib.hid hS
    clear hS
    go_enter Try.func6, Try.ntmps6
    go_wp2_with (first | (go_at_call 18; refine (steps_any _ n).mono ?_; rw [HS.out]; rintro e w1 ⟨rfl, rfl⟩) | (go_at_call 19; refine (rsteps_any _ n).mono ?_; rw [HS.out]; rintro e w1 ⟨rfl, rfl⟩) | (go_at_call 10; refine (lives_any _).mono ?_; rintro e w2 ⟨rfl, hk⟩))
    go_ret
    exact ⟨rfl, hk.below⟩

set_option maxHeartbeats 1600000 in
set_option maxRecDepth 100000 in
theorem steps_in (w : World) (n : Nat) (h1 : 1 ≤ n) (h2 : n ≤ 64) (v : Value) (os : List OpD) (hv : OpsAt w v os) (hos : os.length ≤ 4398046511104) : Calls Try.prog 6 #[.int .i64 n, v] w fun e w' => e = .returned (.bool true) ∧ Below w.heap.size w w' := by
  obtain ⟨a, cap, hv', hO⟩ := hv
  subst hv'
  have HO := Lib.hid hO
  have hmf : ∀ (fn : Fn) (first cap : Array Value) (w : World), (Instr.makeFunc fn first cap).run Try.prog w = .ok (.func fn first cap) w := fun _ _ _ _ => rfl
  have hs6 := stepsF_le n
  generalize hS : stepsF n = S at *
  have HS := Lib.hid hS
  have g1 : ¬ (n : Int) < 1 := by omega
  have g2 : ¬ 64 < (n : Int) := by omega
  have gS : ((S : Int) != (S : Int)) = false := by simp
  clear hO hS
  go_enter Try.func6, Try.ntmps6
  go_wp2_with (first | (go_at_call 18; refine (steps_any _ n).mono ?_; rw [HS.out]; rintro e w1 ⟨rfl, rfl⟩) | (go_at_call 19; refine (rsteps_any _ n).mono ?_; rw [HS.out]; rintro e w1 ⟨rfl, rfl⟩) | (go_at_call 8; refine (new_ok _ (some w.heap.size) 0 (Arr.new' rfl rfl) (by omega) n h1 h2).mono ?_; rintro e w1 ⟨bt, bl, bw, ws, m', rfl, hT, hk1, hbt, hbl, hbw, _, hm64⟩; rw [HS.out] at hT) | (go_at_call 10; refine (lives_any _).mono ?_; rintro e w2 ⟨rfl, hk2⟩))
  have hK1 : Kept [] w w2 := (((Kept.refl [] w).alloc (.cells #[.int .i64 0] 50)).fresh hk1 (by intro x hx hlt; simp at hx; omega)).trans hk2
  have hbt : w.heap.size ≤ bt := by simp at hbt; omega
  have hbl : w.heap.size ≤ bl := by simp at hbl; omega
  have hbw : w.heap.size ≤ bw := by simp at hbw; omega
  have HT := Lib.hid (hT.kept0 hk2)
  have HK := Lib.hid hK1
  clear hT hk1 hk2 hK1 hmf
  go_loopg [8, 9] os.length (fun g v8 v9 wr => ∃ k : Nat, k + g = os.length ∧ k ≤ 120 ∧ v8 = .int .i64 k ∧ Hid (∃ ls ws m, TOk wr bt bl bw (some w.heap.size) m (2 ^ S) S ls ws ∧ Kept [] w wr ∧ ls.length = n ∧ m ≤ 64 + 6 * k))
  case atStart => exact ⟨0, by omega, by omega, rfl, _, _, _, HT.out, HK.out, by simp, by omega⟩
  case round =>
    clear HT HK hm64
    obtain ⟨k, hk, hk120, rfl, hr⟩ := hrel
    obtain ⟨ls, ws', m, r1, r3, r4, r5⟩ := hr.out
    clear hr
    by_cases hlt : k < os.length ∧ k < 120
    · obtain ⟨hlt1, hlt2⟩ := hlt
      have hl0 : (0 : Int) ≤ (k : Int) := by omega
      have hl1 : (k : Int) < (os.length : Int) := by omega
      have hl2 : (k : Int) < 120 := by omega
      obtain ⟨p, hp⟩ : ∃ p, os[k]? = some p := ⟨os[k], by simp [hlt1]⟩
      obtain ⟨b, o, rfl, hbs, c0, c1, c2, c3⟩ := HO.out k p hp
      have c1 := (r3.cell hbs (by simp)).trans c1
      have c2 := (r3.cell hbs (by simp)).trans c2
      have c3 := (r3.cell hbs (by simp)).trans c3
      have hbw' : b < wr.heap.size := Nat.lt_of_lt_of_le hbs r3.size
      have hcn : Arr wr w.heap.size 50 [.int .i64 m] := r1.cnt
      have n0 := hcn.cell (i := 0) rfl
      have hnb : b ∉ [bt, bl, bw, w.heap.size] := by simp; omega
      have R1 := Lib.hid r1
      have R3 := Lib.hid r3
      have R4 := Lib.hid r4
      clear r1 r3 hp hcn c0
      by_cases hin : 0 ≤ p.b ∧ p.b < (n : Int)
      · obtain ⟨j, hj⟩ := Int.eq_ofNat_of_zero_le hin.1
        have hjl : j < ls.length := by omega
        rw [hj] at c1
        clear hin hj
        go_wp2
        go_region_held3 (fun w' => w'.cell? ⟨b, o + k * 4 + 1, none⟩ = some (.int .i64 j) ∧ w'.cell? ⟨b, o + k * 4 + 2, none⟩ = some (.int .i64 p.k) ∧ w'.cell? ⟨b, o + k * 4 + 3, none⟩ = some (.int .i64 p.t))
          (first | go_keep | exact ⟨s1, s2, s3⟩)
          (first | (go_at_call 11; refine (set_ok _ bt bl bw (some w.heap.size) m _ _ ls ws' R1.out.drew (by omega) j hjl p.k p.t).mono ?_; rintro e w3 ⟨rfl, ws3, m3, hT3, hm1, hm2, hk3⟩; have s1 := (hk3.cell hbw' hnb).trans c1; have s2 := (hk3.cell hbw' hnb).trans c2; have s3 := (hk3.cell hbw' hnb).trans c3))
        have hc3 : Arr w3 w.heap.size 50 [.int .i64 m3] := hT3.cnt
        have n1 := hc3.cell (i := 0) rfl
        have HT3 := Lib.hid hT3
        have HK3 := Lib.hid ((R3.out.drew).fresh hk3 (by intro x hx hlt; simp at hx; omega))
        clear hT3 hk3 hc3
        have HC3 : Hid (Arr w3 w.heap.size 50 [.int .i64 m3]) := HT3.out.cnt
        have d1 : ¬ (S : Int) < (m3 : Int) - (m : Int) := by omega
        have d2 : (0 : Int) ≤ (m3 : Int) := by omega
        have d3 : (m3 : Int) ≤ 1000000 := by omega
        have d4 : (0 : Int) ≤ (m : Int) := by omega
        have d5 : (m : Int) ≤ 1000000 := by omega
        have d6 : ((m3 : Int) != (m3 : Int)) = false := by simp
        have d7 : IntKind.i64.wrap ((m3 : Int) - (m : Int)) = (m3 : Int) - (m : Int) := IntWalk.i64_in _ (by omega)
        go_wp2
        go_quiet (first | (go_at_call 19; refine Calls.quiet_of_same ((rsteps_any _ n).mono fun _ _ h => ⟨by rw [h.1, HS.out], h.2.symm⟩)))
        go_wp2_with (go_at_call 21; refine (win_ok _ bt bl bw (some w.heap.size) m3 _ _ (ls.set j ⟨p.k, p.t, true⟩) ws3 (HT3.out.drewN _)).mono ?_; rintro e w4 ⟨rfl, hk4⟩; have HT4 := Lib.hid ((HT3.out.drewN _).kept0 hk4); have hc4 := ((HC3.out.kept (((Kept.refl [] _).drewN _).trans hk4) (by simp))); have n4 := hc4.cell (i := 0) rfl; have HK4 := Lib.hid ((HK3.out.drewN _).trans hk4); clear hk4 hc4)
        go_roundg (os.length - (k + 1))
        case measure => omega
        case rel => exact ⟨k + 1, by omega, by omega, by go_num, (ls.set j ⟨p.k, p.t, true⟩), ws3, m3, HT4.out, HK4.out, by simpa using R4.out, by omega⟩
      · have HOUT : Hid (p.b < 0 ∨ (ls.length : Int) ≤ p.b) := by have := R4.out; show p.b < 0 ∨ (ls.length : Int) ≤ p.b; omega
        clear hin
        go_wp2
        go_region_held3 (fun w' => w'.cell? ⟨b, o + k * 4 + 1, none⟩ = some (.int .i64 p.b) ∧ w'.cell? ⟨b, o + k * 4 + 2, none⟩ = some (.int .i64 p.k) ∧ w'.cell? ⟨b, o + k * 4 + 3, none⟩ = some (.int .i64 p.t))
          (first | go_keep | exact ⟨s1, s2, s3⟩)
          (first | (go_at_call 11; refine (set_none _ bt bl bw (some w.heap.size) m _ _ ls ws' R1.out.drew p.b HOUT.out p.k p.t).mono ?_; rintro e w3 ⟨rfl, hk3⟩; have s1 := (hk3.cell hbw' (by simp)).trans c1; have s2 := (hk3.cell hbw' (by simp)).trans c2; have s3 := (hk3.cell hbw' (by simp)).trans c3))
        obtain ⟨m3, hm3⟩ : ∃ m3 : Nat, m3 = m := ⟨m, rfl⟩
        have hT3 : TOk w3 bt bl bw (some w.heap.size) m3 (2 ^ S) S ls ws' := by subst hm3; exact R1.out.drew.kept0 hk3
        have hm1 : m ≤ m3 := by omega
        have hm2 : m3 ≤ m + S := by omega
        have hc3 : Arr w3 w.heap.size 50 [.int .i64 m3] := hT3.cnt
        have n1 := hc3.cell (i := 0) rfl
        have HT3 := Lib.hid hT3
        have HK3 := Lib.hid ((R3.out.drew).trans hk3)
        clear hT3 hk3 hc3 hm3
        have HC3 : Hid (Arr w3 w.heap.size 50 [.int .i64 m3]) := HT3.out.cnt
        have d1 : ¬ (S : Int) < (m3 : Int) - (m : Int) := by omega
        have d2 : (0 : Int) ≤ (m3 : Int) := by omega
        have d3 : (m3 : Int) ≤ 1000000 := by omega
        have d4 : (0 : Int) ≤ (m : Int) := by omega
        have d5 : (m : Int) ≤ 1000000 := by omega
        have d6 : ((m3 : Int) != (m3 : Int)) = false := by simp
        have d7 : IntKind.i64.wrap ((m3 : Int) - (m : Int)) = (m3 : Int) - (m : Int) := IntWalk.i64_in _ (by omega)
        go_wp2
        go_quiet (first | (go_at_call 19; refine Calls.quiet_of_same ((rsteps_any _ n).mono fun _ _ h => ⟨by rw [h.1, HS.out], h.2.symm⟩)))
        go_wp2_with (go_at_call 21; refine (win_ok _ bt bl bw (some w.heap.size) m3 _ _ ls ws' (HT3.out.drewN _)).mono ?_; rintro e w4 ⟨rfl, hk4⟩; have HT4 := Lib.hid ((HT3.out.drewN _).kept0 hk4); have hc4 := ((HC3.out.kept (((Kept.refl [] _).drewN _).trans hk4) (by simp))); have n4 := hc4.cell (i := 0) rfl; have HK4 := Lib.hid ((HK3.out.drewN _).trans hk4); clear hk4 hc4)
        go_roundg (os.length - (k + 1))
        case measure => omega
        case rel => exact ⟨k + 1, by omega, by omega, by go_num, ls, ws', m3, HT4.out, HK4.out, R4.out, by omega⟩
    · have HK := Lib.hid r3
      clear r1 r3
      by_cases hl : k < os.length
      · have hl1 : (k : Int) < (os.length : Int) := by omega
        have hl2 : ¬ (k : Int) < 120 := by omega
        clear hlt
        go_wp2
        go_ret
        exact ⟨rfl, HK.out.below⟩
      · have hl1 : ¬ (k : Int) < (os.length : Int) := by omega
        clear hlt
        go_wp2
        go_ret
        exact ⟨rfl, HK.out.below⟩

theorem steps_law (w : World) (n : Int) (v : Value) (os : List OpD) (hv : OpsAt w v os) (hos : os.length ≤ 4398046511104) : Calls Try.prog 6 #[.int .i64 n, v] w fun e w' => e = .returned (.bool true) ∧ Below w.heap.size w w' := by
  by_cases h : n < 1 ∨ 64 < n
  · exact steps_out w n h v
  · obtain ⟨k, rfl⟩ := Int.eq_ofNat_of_zero_le (show 0 ≤ n by omega)
    exact steps_in w k (by omega) (by omega) v os hv hos

set_option maxRecDepth 100000 in
theorem steps_lifted (os : Os) (started : os.Started) (H : Type) (enc : TypeId × Value → H) :
    ReturnsInHanded {} Try.checked os 6 .any (Rows.treeStepsSpec.pre6 enc Try.prog Try.f6 Rows.treeStepsRow.domain false) (Rows.treeStepsSpec.post enc Try.prog Try.f6 false true false false) := by
  refine returnsInHanded_of_change_sized (C := Try.checked) Try.own started (by kernel_rfl) Try.func6
    (ChangeSpec.witness6 (enc := enc) (C := Try.checked) false ⟨#[], #[.int .i64 0, .slice none 0 0], []⟩ 8 (by kernel_rfl) (by kernel_rfl) (by kernel_rfl) (by kernel_rfl)) ?_
  intro W base args ds gs before hval0 hW hcnd hsz0 _
  have hval : ∀ (j : Nat) t v, Try.f6.params[j]? = some t → args[j]? = some v → Value.okWide Try.prog W .any base t v := hval0
  have hW' := hW
  obtain ⟨p, q, hA0, hV, rfl, hfz, hnd⟩ := hW
  have hA : DataW.TrodAll enc Try.prog W 0 (fun _ => true) true Try.f6.params.toList args.toList ds p := hA0
  rw [Try.params6] at hA hval
  obtain ⟨v0, vs0, d0, ds0, p0, q0, hargs, rfl, rfl, h0, r0⟩ := trodAll_cons hA
  obtain ⟨v1, vs1, d1, ds1, p1, q1, rfl, rfl, rfl, h1, r1⟩ := trodAll_cons r0
  obtain ⟨rfl, rfl, rfl⟩ := trodAll_nil r1
  obtain rfl : args = #[v0, v1] := by cases args; simp_all
  obtain ⟨rfl, rfl⟩ := trodVars_none hV
  have hsz : (DataW.weightsEach Try.prog [3, 22] [d0, d1]).all (· ≤ reachBytes) = true := hsz0
  obtain ⟨n, rfl, rfl, rfl, wn⟩ := open_int Try.underlying3 (hval 0 3 v0 rfl rfl) h0
  obtain ⟨a, len, cap, rfl⟩ := okWide_slice Try.underlying22 (hval 1 22 v1 rfl rfl)
  have k1 := h1
  have lt1 : ∀ x ∈ p1, x.block < W.heap.size := by obtain ⟨m, hm⟩ := k1; exact DataW.trod_lt m _ _ _ hm
  obtain ⟨fuel, hf⟩ := h1
  obtain ⟨v, ops, hcs, hO, hlen⟩ := ops_open hf
  obtain rfl : v = .slice a len cap := by simpa [Value.cells] using hcs.symm
  have hos : ops.length ≤ 4398046511104 := by
    rcases hlen with rfl | ⟨es, sp, hd, he⟩
    · simp
    · simp only at hd
      subst hd
      have := sized_slice hsz (j := 1) rfl rfl Try.underlying22
      rw [Try.bytes33] at this
      have hr := reachBytes_lt
      omega
  clear hA0 hval0
  refine (steps_law W n _ ops hO hos).mono fun e W' ⟨he, bel⟩ => ?_
  subst he
  exact ⟨_, rfl, _, _, _, [], _, [], hW', trodAll_mk1 (shut_bool Try.underlying4 _), (trodAll_cons_mk (shut_int Try.underlying3 wn) (trodAll_cons_mk (Below.trod Try.laidOut (by kernel_rfl) (of_decide_eq_true (by kernel_rfl)) k1 bel lt1) trodAll_mk0)), rfl, bel.frame _, fun h => by cases h⟩

theorem treeSteps_holds : Rows.TreeStepsSaid :=
  OpenClaim.holds_of_wide 6 Try.f6 rfl rfl rfl rfl rfl rfl rfl ⟨rfl, rfl, rfl, rfl, rfl⟩ rfl rfl rfl rfl rfl (by kernel_rfl) Try.func6 (by kernel_rfl)
    (of_decide_eq_true (by kernel_rfl)) (by unfold Func.isWrapper; first | (rw [if_pos (by decide +kernel)]; kernel_rfl) | (rw [if_neg (by decide +kernel)]; exact ⟨rfl, rfl⟩))
    (fun os started H enc _ => steps_lifted os started H enc)
#print axioms treeSteps_holds

end Go.Proofs.Ytjedpimoemapfaa
