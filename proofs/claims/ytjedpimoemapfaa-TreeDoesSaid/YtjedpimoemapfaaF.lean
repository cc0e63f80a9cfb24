/- New -/
import Derived.Test.YtjedpimoemapfaaD
import Derived.Test.YtjedpimoemapfaaE
import Derived.Deep.OwnRows
namespace Go.Proofs.Ytjedpimoemapfaa
open Go.RowKit

theorem run_make_any {P : Program} (t e : TypeId) (z : Value) (size bytes : Nat) (ht : P.underlying t = some (.slice e)) (hinfo : (P.info? e).map (fun i => (i.zero, i.size, i.bytes)) = some (some z, size, bytes))
    (kl kc : IntKind) (n : Nat) (hbytes : bytes * n ≤ 281474976710656) (h63 : n ≤ 9223372036854775807) (w : World) :
    (Instr.makeSlice t (.int kl (n : Int)) (.int kc (n : Int))).run P w = .ok (.slice (some ⟨w.heap.size, 0, none⟩) n n) (w.alloc (.cells (madeCells z.cells (n * size)) e)) := by
  obtain ⟨i, hi, hzz⟩ := Option.map_eq_some_iff.1 hinfo
  simp only [Prod.mk.injEq] at hzz
  obtain ⟨hz, hs, hb⟩ := hzz
  subst hs hb
  have hb' : (i.bytes : Int) * (n : Int) ≤ 281474976710656 := by
    have h : ((i.bytes * n : Nat) : Int) ≤ 281474976710656 := by omega
    rwa [Int.natCast_mul] at h
  have hr := run_make (P := P) w t e i z ht hi hz kl kc n n (by omega) (Int.le_refl _) hb' (by omega)
  simp only [Int.toNat_natCast] at hr
  exact hr

theorem Try.info64 : (Try.prog.info? 64).map (fun i => (i.zero, i.size, i.bytes)) = some (some (.agg #[.int .i64 0, .int .i64 0, .bool false]), 3, 24) := by kernel_rfl
theorem Try.info36 : (Try.prog.info? 36).map (fun i => (i.zero, i.size, i.bytes)) = some (some (.agg #[.int .i64 0, .int .i64 0, .bool false]), 3, 24) := by kernel_rfl
theorem Try.info3 : (Try.prog.info? 3).map (fun i => (i.zero, i.size, i.bytes)) = some (some (.int .i64 0), 1, 8) := by kernel_rfl

def zeroLf : Lf := ⟨0, 0, false⟩

theorem lcells_length (ls : List Lf) : (lcells ls).length = ls.length * 3 := by
  induction ls with
  | nil => rfl
  | cons x ls ih => rw [lcells_cons]; simp [ih]; omega

theorem made_lcells (n : Nat) : madeCells #[.int .i64 0, .int .i64 0, .bool false] (n * 3) = (lcells (List.replicate n zeroLf)).toArray := by
  apply Array.ext_getElem?
  intro j
  by_cases hj : j < n * 3
  · have hq : j / 3 < n := by omega
    have hx : (List.replicate n zeroLf)[j / 3]? = some zeroLf := by simp [hq]
    obtain ⟨h0, h1, h2⟩ := lcells_at _ _ _ hx
    simp only [madeCells, Array.getElem?_map, Array.getElem?_range, hj, List.getElem?_toArray]
    rcases (by omega : j % 3 = 0 ∨ j % 3 = 1 ∨ j % 3 = 2) with e | e | e
    · rw [show j = j / 3 * 3 by omega, h0]; simp [zeroLf]
    · rw [show j = j / 3 * 3 + 1 by omega, h1]; simp [zeroLf]
    · rw [show j = j / 3 * 3 + 2 by omega, h2]; simp [zeroLf]
  · rw [Array.getElem?_eq_none (by simp [size_madeCells]; omega), Array.getElem?_eq_none (by simp [lcells_length]; omega)]

theorem made_ints (n : Nat) : madeCells #[Value.int .i64 0] n = ((List.replicate n (0 : Nat)).map fun i : Nat => Value.int .i64 (i : Int)).toArray := by
  apply Array.ext_getElem?
  intro j
  by_cases hj : j < n
  · simp [madeCells, hj, Nat.mod_one]
  · rw [Array.getElem?_eq_none (by simp [size_madeCells]; omega), Array.getElem?_eq_none (by simp; omega)]

set_option maxHeartbeats 400000 in
theorem new_err (w : World) (n : Int) (f : Value) (hn : n < 1 ∨ 64 < n) : Calls Try.prog 8 #[.int .i64 n, f] w fun e w' => e = .returned (.tuple #[.pointer none, .int .i64 1]) ∧ w = w' := by
  by_cases h1 : n < 1
  · clear hn
    go_enter Try.func8, Try.ntmps8
    go_wp2
    go_ret2
    exact ⟨rfl, rfl⟩
  · have h2 : 64 < n := by omega
    clear hn
    go_enter Try.func8, Try.ntmps8
    go_wp2
    go_ret2
    exact ⟨rfl, rfl⟩

set_option maxHeartbeats 400000 in
theorem new_nil (w : World) (n : Int) : Calls Try.prog 8 #[.int .i64 n, .nilFunc] w fun e w' => e = .returned (.tuple #[.pointer none, .int .i64 1]) ∧ w = w' := by
  by_cases hn : n < 1 ∨ 64 < n
  · exact new_err w n _ hn
  · have h1 : ¬ n < 1 := by omega
    have h2 : ¬ 64 < n := by omega
    have hcv : ∀ W, (binOp .eql 29 .nilFunc .nilFunc).run Try.prog W = .ok (.bool true) W := fun _ => rfl
    clear hn
    go_enter Try.func8, Try.ntmps8
    go_wp2
    go_ret2
    exact ⟨rfl, rfl⟩

/-- The inner places above i are right. -/
structure NB (ls : List Lf) (base : Nat) (ws : List Nat) (i : Nat) : Prop where
  len : ws.length = 2 * base
  small : ∀ (c v : Nat), ws[c]? = some v → v < base
  leaf : ∀ i, i < base → ws[base + i]? = some i
  node : ∀ a, i < a → a < base → ∃ p q, ws[2 * a]? = some p ∧ ws[2 * a + 1]? = some q ∧ ws[a]? = some (bet ls p q)

theorem NB.wins {ls : List Lf} {base : Nat} {ws : List Nat} (h : NB ls base ws 0) : Wins ls base ws :=
  ⟨h.len, h.small, h.leaf, fun a h1 h2 _ => h.node a h1 h2⟩

theorem NB.get {ls : List Lf} {base : Nat} {ws : List Nat} {i : Nat} (h : NB ls base ws i) (c : Nat) (hc : c < 2 * base) : ∃ v, ws[c]? = some v ∧ v < base := by
  have hl := h.len
  refine ⟨ws[c], by simp [show c < ws.length by omega], ?_⟩
  exact h.small c _ (by simp [show c < ws.length by omega])

theorem NB.step {ls : List Lf} {base : Nat} {ws : List Nat} {a p q : Nat} (h : NB ls base ws a) (h1 : 1 ≤ a) (h2 : a < base) (hp : ws[2 * a]? = some p) (hq : ws[2 * a + 1]? = some q) :
    NB ls base (ws.set a (bet ls p q)) (a - 1) := by
  have hl := h.len
  refine ⟨by simpa using h.len, ?_, ?_, ?_⟩
  · intro c v hv
    by_cases hc : a = c
    · subst hc
      rw [List.getElem?_set_self (by omega)] at hv
      simp only [Option.some.injEq] at hv
      subst hv
      rcases bet_or ls p q with e | e <;> rw [e]
      · exact h.small _ _ hp
      · exact h.small _ _ hq
    · rw [List.getElem?_set_ne hc] at hv
      exact h.small _ _ hv
  · intro i hi
    rw [List.getElem?_set_ne (by omega)]
    exact h.leaf i hi
  · intro b hb1 hb2
    by_cases hab : a = b
    · subst hab
      exact ⟨p, q, by rw [List.getElem?_set_ne (by omega)]; exact hp, by rw [List.getElem?_set_ne (by omega)]; exact hq, by rw [List.getElem?_set_self (by omega)]⟩
    · obtain ⟨p', q', hp', hq', ha'⟩ := h.node b (by omega) hb2
      exact ⟨p', q', by rw [List.getElem?_set_ne (by omega)]; exact hp', by rw [List.getElem?_set_ne (by omega)]; exact hq', by rw [List.getElem?_set_ne hab]; exact ha'⟩

def NewPost (w : World) (kd : Option Nat) (m : Nat) (n : Nat) (e : Ending) (w' : World) : Prop :=
  ∃ bt bl bw ws m', e = .returned (.tuple #[.pointer (some ⟨bt, 0, none⟩), .int .i64 0]) ∧ TOk w' bt bl bw kd m' (2 ^ stepsF n) (stepsF n) (List.replicate n zeroLf) ws ∧ Kept kd.toList w w' ∧ w.heap.size ≤ bt ∧ w.heap.size ≤ bl ∧ w.heap.size ≤ bw ∧ m ≤ m' ∧ m' ≤ m + 64

set_option maxHeartbeats 800000 in
theorem new_ok (w : World) (kd : Option Nat) (m : Nat) (hk : Cnt w kd m) (hm : m ≤ 900000) (n : Nat) (h1 : 1 ≤ n) (h2 : n ≤ 64) : Calls Try.prog 8 #[.int .i64 n, cmpV kd] w (NewPost w kd m n) := by
  have hp := stepsF_pow n (by omega) (by omega)
  have h6 := stepsF_le n
  have hq : 2 ^ stepsF n ≤ 64 := Nat.pow_le_pow_right (by omega) h6
  have hw : wrap64 ((2 : Int) ^ stepsF n) = ((2 ^ stepsF n : Nat) : Int) := by
    rw [show ((2 : Int) ^ stepsF n) = ((2 ^ stepsF n : Nat) : Int) by simp]
    generalize 2 ^ stepsF n = B at *
    unfold wrap64; omega
  have hmk1 := fun W => run_make_any (P := Try.prog) 57 64 _ _ _ Try.underlying57 Try.info64 .i64 .i64 n (by omega) (by omega) W
  have hmk2 : ∀ W, (Instr.makeSlice 58 (.int .i64 (2 * ((2 ^ stepsF n : Nat) : Int))) (.int .i64 (2 * ((2 ^ stepsF n : Nat) : Int)))).run Try.prog W = .ok (.slice (some ⟨W.heap.size, 0, none⟩) (2 * 2 ^ stepsF n) (2 * 2 ^ stepsF n)) (W.alloc (.cells (madeCells #[.int .i64 0] (2 * 2 ^ stepsF n)) 3)) := by
    intro W
    have := run_make_any (P := Try.prog) 58 3 _ _ _ Try.underlying58 Try.info3 .i64 .i64 (2 * 2 ^ stepsF n) (by omega) (by omega) W
    rw [Int.natCast_mul] at this
    simpa [Value.cells] using this
  have hbd1 : ¬ (n : Int) < 1 := by omega
  have hbd2 : ¬ 64 < (n : Int) := by omega
  obtain ⟨F, fa, hF⟩ : ∃ F fa, cmpV kd = .func F fa #[] := by cases kd <;> exact ⟨_, _, rfl⟩
  have hcv : ∀ W, (binOp .eql 29 (.func F fa #[]) .nilFunc).run Try.prog W = .ok (.bool false) W := fun _ => rfl
  rw [hF]
  have HF := Lib.hid hF
  clear hF
  generalize hS : stepsF n = S at *
  generalize hB : 2 ^ S = B at *
  have HS := Lib.hid hS
  have HB := Lib.hid hB
  have HK := Lib.hid hk
  clear hS hB hk
  have vB : IntKind.i64.wrap (2 * (B : Int)) = 2 * (B : Int) := IntWalk.i64_in _ (by omega)
  go_enter Try.func8, Try.ntmps8
  go_wp2_with (go_at_call 18; refine (steps_any _ _).mono ?_; rw [HS.out]; rintro e w' ⟨rfl, rfl⟩)
  go_upto_region 4 with fail
  go_cut [6, 7] (fun v6 v wx => v6 = .int .i64 B ∧ ∃ bt bl bw, v = .pointer (some ⟨bt, 0, none⟩) ∧ Hid (T8 wx bt bl bw kd B (List.replicate n zeroLf) (List.replicate (2 * B) 0) 0 ∧ Kept [] w wx ∧ w.heap.size ≤ bt ∧ w.heap.size ≤ bl ∧ w.heap.size ≤ bw))
  case first =>
    go_region
    · go_wp2
      go_meet
      case rel =>
        refine ⟨by rw [hw], w.heap.size + 1 + 1, w.heap.size, w.heap.size + 1, rfl, ⟨Arr.new' (by simp) (by simp [HF.out]), ?_, ?_⟩, (((Kept.refl _ _).alloc _).alloc _).alloc _ |>.drew, by omega, by omega, by omega⟩
        · exact ((Arr.new' rfl (made_lcells n)).alloc _).alloc _
        · exact (Arr.new' (by simp) (made_ints _)).alloc _
    · go_wp2
      go_meet
      case rel =>
        refine ⟨by rw [hw], w.heap.size + 1 + 1, w.heap.size + 1, w.heap.size, rfl, ⟨Arr.new' (by simp) (by simp [HF.out]), ?_, ?_⟩, (((Kept.refl _ _).alloc _).alloc _).alloc _ |>.drew, by omega, by omega, by omega⟩
        · exact (Arr.new' (by simp) (made_lcells n)).alloc _
        · exact ((Arr.new' rfl (made_ints _)).alloc _).alloc _
  case rest =>
    obtain ⟨rfl, bt, bl, bw, rfl, hc⟩ := hcut
    clear hcv hmk1 hmk2 hw
    obtain ⟨q1, q2, q3, q4, q5⟩ := hc.out
    clear hc
    have Q1 := Lib.hid q1
    have Q2 := Lib.hid q2
    clear q1 q2
    go_wp2
    go_loopg [8, 33] B (fun g i8 i wr => ∃ (k : Nat) (ws : List Nat), k + g = B ∧ i = .int .i64 k ∧ Hid (T8 wr bt bl bw kd B (List.replicate n zeroLf) ws 0 ∧ Kept [] w wr ∧ ws.length = 2 * B ∧ (∀ (c v : Nat), ws[c]? = some v → v < B) ∧ (∀ j, j < k → ws[B + j]? = some j)))
    case atStart =>
      refine ⟨0, List.replicate (2 * B) 0, by omega, rfl, Q1.out, Q2.out, by simp, ?_, by omega⟩
      intro c v hv
      rw [List.getElem?_replicate] at hv
      split at hv
      · simp only [Option.some.injEq] at hv; omega
      · simp at hv
    case round =>
      obtain ⟨k, ws, hg, rfl, hr⟩ := hrel
      obtain ⟨r1, r2, r3, r4, r5⟩ := hr.out
      clear hr
      have k3 := r1.t.cell (i := 3) rfl
      have R1 := Lib.hid r1
      have R2 := Lib.hid r2
      have R4 := Lib.hid r4
      have R5 := Lib.hid r5
      by_cases hk : k < B
      · have hk1 : (k : Int) < (B : Int) := by omega
        have hl1 : (B : Int) + (k : Int) < (ws.length : Int) := by omega
        have lw := r1.w.lt
        obtain ⟨z, hz⟩ : ∃ z, ws[B + k]? = some z := ⟨ws[B + k], by simp [show B + k < ws.length by omega]⟩
        have kz := r1.w.cell (i := B + k) (v := .int .i64 z) (by simp [hz])
        have fz := r1.w.free (B + k)
        clear r1 r2 r4 r5 hz
        go_wp2
        go_roundg (B - (k + 1))
        case measure => omega
        case rel =>
          refine ⟨k + 1, ws.set (B + k) k, by omega, by go_num, R1.out.setWin (B + k) k, R2.out.setCell (.inr q5) _, by simpa using r3, ?_, ?_⟩
          · intro c v hv
            by_cases e : B + k = c
            · subst e
              rw [List.getElem?_set_self (by omega)] at hv
              simp only [Option.some.injEq] at hv; omega
            · rw [List.getElem?_set_ne e] at hv; exact R4.out c v hv
          · intro j hj
            by_cases e : k = j
            · subst e; rw [List.getElem?_set_self (by omega)]
            · rw [List.getElem?_set_ne (by omega)]; exact R5.out j (by omega)
      · obtain rfl : k = B := by omega
        have hNB : NB (List.replicate n zeroLf) k ws (k - 1) := ⟨r3, R4.out, fun j hj => R5.out j hj, fun a h1 h2 => by omega⟩
        have HNB := Lib.hid hNB
        clear hNB r1 r2 r4 r5 k3
        go_wp2
        go_loopg [9] (k - 1) (fun g v wx => v = .int .i64 g ∧ Hid (∃ ws' m', T8 wx bt bl bw kd k (List.replicate n zeroLf) ws' 0 ∧ Kept kd.toList w wx ∧ NB (List.replicate n zeroLf) k ws' g ∧ Cnt wx kd m' ∧ m ≤ m' ∧ m' + g ≤ m + (k - 1)))
        case atStart =>
          refine ⟨?_, ws, m, R1.out, R2.out.mono (by simp), HNB.out, HK.out.kept R2.out (by simp), by omega, by omega⟩
          congr 1
          omega
        case round =>
          obtain ⟨rfl, hr⟩ := hrel
          obtain ⟨ws', m', g3, g8, g4, g5, g6, g7⟩ := hr.out
          clear hr
          generalize gk = a at *
          by_cases ha : 0 < a
          · have g1' : a < k := by omega
            obtain ⟨p, hp, hp'⟩ := g4.get (2 * a) (by omega)
            obtain ⟨q, hq, hq'⟩ := g4.get (2 * a + 1) (by omega)
            obtain ⟨r, hr, hr'⟩ := g4.get a (by omega)
            have hlen : (2 * (a : Int) + 1) < (ws'.length : Int) := by rw [g4.len]; omega
            have k1 := g3.t.cell (i := 3) rfl
            have k2 := g3.w.cell (i := 2 * a) (v := .int .i64 p) (by simp [hp])
            have k3 := g3.w.cell (i := 2 * a + 1) (v := .int .i64 q) (by simp [hq])
            have ha0 : (0 : Int) < (a : Int) := by omega
            have hlen2 : (2 * (a : Int)) < (ws'.length : Int) := by omega
            have hlen3 : ((a : Int)) < (ws'.length : Int) := by omega
            have k4 := g3.w.cell (i := a) (v := .int .i64 r) (by simp [hr])
            have k5 := g3.w.free a
            have lt1 := g3.t.lt
            have lt3 := g3.w.lt
            have nt0 := g3.ne.2.1
            have nt1 : bt ∉ kd.toList := by intro hh; cases hkd : kd with
              | none => rw [hkd] at hh; simp at hh
              | some c => rw [hkd] at hh; simp at hh; exact (g3.cnt g5 c hkd).1 hh.symm
            have nt2 : bl ∉ kd.toList := by intro hh; cases hkd : kd with
              | none => rw [hkd] at hh; simp at hh
              | some c => rw [hkd] at hh; simp at hh; exact (g3.cnt g5 c hkd).2.1 hh.symm
            have nt3 : bw ∉ kd.toList := by intro hh; cases hkd : kd with
              | none => rw [hkd] at hh; simp at hh
              | some c => rw [hkd] at hh; simp at hh; exact (g3.cnt g5 c hkd).2.2 hh.symm
            have G3 := Lib.hid g3
            have G4 := Lib.hid g4
            have G5 := Lib.hid g5
            have G8 := Lib.hid g8
            have HP := Lib.hid hp
            have HQ := Lib.hid hq
            have HR := Lib.hid hr
            clear g3 g4 g5 g8 hp hq hr
            have v1 : (0 : Int) ≤ 2 * (a : Int) := by omega
            have v2 : (0 : Int) ≤ 2 * (a : Int) + 1 := by omega
            have v3 : IntKind.i64.wrap (2 * (a : Int)) = 2 * (a : Int) := IntWalk.i64_in _ (by omega)
            have v4 : IntKind.i64.wrap (2 * (a : Int) + 1) = 2 * (a : Int) + 1 := IntWalk.i64_in _ (by omega)
            have v5 : (2 * (a : Int)).toNat = 2 * a := by omega
            have v6 : (2 * (a : Int) + 1).toNat = 2 * a + 1 := by omega
            go_wp2
            go_region_held3 (fun w' => w'.cell? ⟨bt, 3, none⟩ = some (.slice (some ⟨bw, 0, none⟩) ws'.length ws'.length) ∧ w'.cell? ⟨bw, 2 * a, none⟩ = some (.int .i64 p) ∧ w'.cell? ⟨bw, 2 * a + 1, none⟩ = some (.int .i64 q)) (first | go_keep | exact ⟨(hkp.cell lt1 nt1).trans k1, (hkp.cell lt3 nt3).trans k2, (hkp.cell lt3 nt3).trans k3⟩ | exact ⟨by rw [World.cell?_setCell_other _ _ _ _ (by simp <;> omega)]; exact (hkp.cell lt1 nt1).trans k1, by rw [World.cell?_setCell_other _ _ _ _ (by simp <;> omega)]; exact (hkp.cell lt3 nt3).trans k2, by rw [World.cell?_setCell_other _ _ _ _ (by simp <;> omega)]; exact (hkp.cell lt3 nt3).trans k3⟩)
              (first | (go_at_call 25; refine (better_any _ bt bl bw kd m' k (List.replicate n zeroLf) ws' _ G3.out.drew G5.out.drew (by omega) p q (by omega) (by omega) (by simpa using (show n ≤ 64 by omega))).mono ?_; rintro e w' ⟨rfl, hkp, m'', hm1, hm2, hcn⟩; have st1 := (hkp.cell lt3 nt3).trans k4; have st2 := (hkp.frozen lt3 nt3).trans k5))
            go_wp2
            go_roundg (a - 1)
            case measure => omega
            case rel =>
              refine ⟨by congr 1; omega, ws'.set a (bet (List.replicate n zeroLf) p q), m'', ?_, ?_, G4.out.step (by omega) g1' HP.out HQ.out, ?_, by omega, by omega⟩
              · exact ((G3.out.drew.kept hkp ⟨nt1, nt2, nt3⟩).setWin a _)
              · exact (G8.out.drew.trans hkp).setCell (.inr q5) _
              · cases kd with
                | none => exact trivial
                | some c => exact Arr.setOther hcn ((G3.out.cnt G5.out) c rfl).2.2 _
          · have ha' : a = 0 := by omega
            subst ha'
            go_wp2
            go_ret2
            have e1 := HS.out
            have e2 := HB.out
            subst e1 e2
            refine ⟨bt, bl, bw, ws', m', rfl, ⟨?_, g5, g4.wins, rfl, h6, ?_⟩, g8, q3, q4, q5, g6, by omega⟩
            · rw [show (cntH (List.replicate n zeroLf) : Int) = 0 by simp [cntH, zeroLf]]; exact g3
            · simp; omega
end Go.Proofs.Ytjedpimoemapfaa
