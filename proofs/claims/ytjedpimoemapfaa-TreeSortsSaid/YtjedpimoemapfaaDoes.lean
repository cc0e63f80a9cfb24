/- TreeDoes: whatever leaves there are asked for and whatever is set and cleared, the law returns true, and the arguments read as they did. No condition. -/
import Derived.Test.YtjedpimoemapfaaNobody
import Derived.Test.YtjedpimoemapfaaG
import Derived.Deep.Slices
import Derived.SizedLaws
import Derived.Deep.CutBlock
import Derived.Deep.DeepCutAuto
namespace Go.Proofs.Ytjedpimoemapfaa
open Go.ChangeShapes Go.WideShapes Go.ChangeAt Go.RowKit

structure OpD where
  a : Int
  b : Int
  k : Int
  t : Int

/-- A slice value reads as a list of calls. -/
def OpsAt (w : World) (v : Value) (os : List OpD) : Prop :=
  ∃ a cap, v = .slice a os.length cap ∧ ∀ (j : Nat) (p : OpD), os[j]? = some p → ∃ b o, a = some ⟨b, o, none⟩ ∧ b < w.heap.size ∧ w.cell? ⟨b, o + j * 4, none⟩ = some (.int .i64 p.a) ∧ w.cell? ⟨b, o + j * 4 + 1, none⟩ = some (.int .i64 p.b) ∧ w.cell? ⟨b, o + j * 4 + 2, none⟩ = some (.int .i64 p.k) ∧ w.cell? ⟨b, o + j * 4 + 3, none⟩ = some (.int .i64 p.t)

instance : Inhabited OpD := ⟨⟨0, 0, 0, 0⟩⟩

theorem add_none (b o n : Nat) : Addr.add ⟨b, o, none⟩ n = ⟨b, o + n, none⟩ := by
  unfold Addr.add
  split
  · subst_vars; rfl
  · rfl

theorem cells_head {w : World} {base : Nat} {a : Addr} {n : Nat} {cs : List Value} (h : w.cells? base (a.add 0) n = some cs) (hn : 0 < n) : a = ⟨a.block, a.off, none⟩ ∧ a.block < w.heap.size := by
  obtain ⟨_, hlen, hc⟩ := World.cells?_some h
  have h0 := hc 0 hn
  have hx : cs[0]? = some cs[0] := by simp [show 0 < cs.length by omega]
  rw [hx] at h0
  obtain ⟨b, o, sp⟩ := a
  have hs := World.cell?_spot h0
  simp [Addr.add] at hs
  subst hs
  refine ⟨rfl, ?_⟩
  have := World.block_lt_of_cell? w _ h0; simpa [Addr.add] using this

theorem cells_at {w : World} {base b o m n : Nat} {cs : List Value} (h : w.cells? base (Addr.add ⟨b, o, none⟩ m) n = some cs) : ∀ (i : Nat) (v : Value), cs[i]? = some v → w.cell? ⟨b, o + m + i, none⟩ = some v := by
  obtain ⟨_, hlen, hc⟩ := World.cells?_some h
  intro i v hv
  have hi : i < cs.length := by rcases Nat.lt_or_ge i cs.length with h | h; exact h; simp [List.getElem?_eq_none h] at hv
  have := hc i (by omega)
  rw [add_none, add_none] at this
  rw [this, hv]

theorem ops_open {H : Type} {enc : TypeId × Value → H} {w : World} {base : Nat} {spare : Nat → Bool} {held : Bool} {fuel : Nat} {cs : List Value} {x : DataW H × List MemPlace}
    (h : DataW.trod enc Try.prog w base spare held fuel 22 cs = some x) : ∃ v os, cs = [v] ∧ OpsAt w v os ∧ (os = [] ∨ ∃ es sp, x.1 = .slice es sp ∧ es.length = os.length) := by
  rcases Deep.open_slice Try.underlying22 h with ⟨rfl, _⟩ | ⟨a, len, cap, m, n, D, Pl, rfl, _, hl, _, hm, rfl, hx⟩
  · exact ⟨_, [], rfl, ⟨none, 0, rfl, by simp⟩, .inl rfl⟩
  · have hlm : len ≤ m := by rw [hm]; split <;> omega
    obtain ⟨F, hF⟩ := Deep.choose_lt (n := len) (α := OpD) (p := fun i p => ∃ cs', w.cells? base (a.add (i * 4)) 4 = some cs' ∧ cs' = [.int .i64 p.a, .int .i64 p.b, .int .i64 p.k, .int .i64 p.t]) (fun i hi => by
      obtain ⟨cs', h1, h2⟩ := hx i (by omega)
      rw [Try.cells33] at h1
      obtain ⟨a, b, k, t, e⟩ := op_form h2
      exact ⟨⟨a, b, k, t⟩, cs', h1, e⟩)
    refine ⟨_, (List.range len).map F, rfl, ⟨some a, cap, by simp, ?_⟩, .inr ⟨_, _, rfl, by simp⟩⟩
    intro j p hj
    simp only [List.getElem?_map, Option.map_eq_some_iff] at hj
    obtain ⟨i, hi, rfl⟩ := hj
    obtain ⟨hjl, rfl⟩ : j < len ∧ i = j := by
      have hjl : j < len := by
        rcases Nat.lt_or_ge j len with h | h
        · exact h
        · rw [List.getElem?_eq_none (by simpa using h)] at hi; simp at hi
      rw [List.getElem?_range hjl] at hi
      simp at hi
      exact ⟨hjl, hi.symm⟩
    obtain ⟨c0, h0, _⟩ := hF 0 (by omega)
    rw [Nat.zero_mul] at h0
    obtain ⟨ea, hb⟩ := cells_head h0 (by omega)
    obtain ⟨cs', h1, rfl⟩ := hF i hjl
    rw [ea] at h1
    have hc := cells_at h1
    exact ⟨a.block, a.off, by rw [← ea], hb, hc 0 _ rfl, hc 1 _ rfl, hc 2 _ rfl, hc 3 _ rfl⟩

theorem OpsAt.kept {w w' : World} {v : Value} {os : List OpD} (h : OpsAt w v os) (k : Kept [] w w') : OpsAt w' v os := by
  obtain ⟨a, cap, hv, h⟩ := h
  refine ⟨a, cap, hv, fun j p hp => ?_⟩
  obtain ⟨b, o, h1, h2, h3, h4, h5, h6⟩ := h j p hp
  exact ⟨b, o, h1, Nat.lt_of_lt_of_le h2 k.size, (k.cell h2 (by simp)).trans h3, (k.cell h2 (by simp)).trans h4, (k.cell h2 (by simp)).trans h5, (k.cell h2 (by simp)).trans h6⟩

set_option maxHeartbeats 800000 in
set_option maxRecDepth 100000 in
theorem does_err (w : World) (n : Int) (hn : n < 1 ∨ 64 < n) (v : Value) : Calls Try.prog 3 #[.int .i64 n, v] w fun e w' => e = .returned (.bool true) ∧ Below w.heap.size w w' := by
  by_cases h1 : n < 1
  · have HN := Lib.hid hn
    clear hn
    go_enter Try.func3, Try.ntmps3
    go_wp2_with (first | (go_at_call 8; refine (new_err _ n _ HN.out).mono ?_; rintro e w1 ⟨rfl, rfl⟩) | (go_at_call 10; refine (lives_any _).mono ?_; rintro e w2 ⟨rfl, hk⟩))
    go_ret
    exact ⟨rfl, hk.below⟩
  · have h2 : 64 < n := by omega
    have hd : decide (n ≤ 64) = false := by simp; omega
    have HN := Lib.hid hn
    clear hn
    go_enter Try.func3, Try.ntmps3
    go_wp2_with (first | (go_at_call 8; refine (new_err _ n _ HN.out).mono ?_; rintro e w1 ⟨rfl, rfl⟩) | (go_at_call 10; refine (lives_any _).mono ?_; rintro e w2 ⟨rfl, hk⟩))
    go_ret
    exact ⟨rfl, hk.below⟩

def Zs (ls : List Lf) : Prop := ∀ (j : Nat) (y : Lf), ls[j]? = some y → y.h = false → y.k = 0 ∧ y.t = 0

theorem Zs.rep (n : Nat) : Zs (List.replicate n zeroLf) := by
  intro j y hy _
  rw [List.getElem?_replicate] at hy
  split at hy
  · simp only [Option.some.injEq] at hy; subst hy; exact ⟨rfl, rfl⟩
  · simp at hy

theorem Zs.set {ls : List Lf} (h : Zs ls) (i : Nat) (x : Lf) (hx : x.h = false → x.k = 0 ∧ x.t = 0) : Zs (ls.set i x) := by
  intro j y hy hh
  by_cases e : i = j
  · subst e
    have hil : i < ls.length := by
      rcases Nat.lt_or_ge i ls.length with h | h
      · exact h
      · rw [List.getElem?_eq_none (by simpa using h)] at hy; simp at hy
    rw [List.getElem?_set_self hil] at hy
    simp only [Option.some.injEq] at hy
    subst hy; exact hx hh
  · rw [List.getElem?_set_ne e] at hy; exact h j y hy hh

set_option maxHeartbeats 1600000 in
set_option maxRecDepth 100000 in
theorem does_ok (w : World) (n : Nat) (h1 : 1 ≤ n) (h2 : n ≤ 64) (v : Value) (os : List OpD) (hv : OpsAt w v os) (_hos : os.length ≤ 4398046511104) : Calls Try.prog 3 #[.int .i64 n, v] w fun e w' => e = .returned (.bool true) ∧ Below w.heap.size w w' := by
  have hmk := fun W => run_make_any (P := Try.prog) 31 36 _ _ _ Try.underlying31 Try.info36 .i64 .i64 n (by omega) (by omega) W
  obtain ⟨a, cap, hv', hO⟩ := hv
  subst hv'
  have HO := Lib.hid hO
  have g1 : (1 : Int) ≤ (n : Int) := by omega
  have g2 : (n : Int) ≤ 64 := by omega
  have gd : decide ((n : Int) ≤ 64) = true := by simpa using g2
  have gd1 : decide (1 ≤ (n : Int)) = true := by simpa using g1
  clear hO
  go_enter Try.func3, Try.ntmps3
  go_wp2_with (first | (go_at_call 8; refine (new_ok _ none 0 trivial (by omega) n h1 h2).mono ?_; rintro e w1 ⟨bt, bl, bw, ws, m', rfl, hT, hk1, hbt, hbl, hbw, _, _⟩) | (go_at_call 10; refine (lives_any _).mono ?_; rintro e w2 ⟨rfl, hk2⟩))
  have HB := Lib.hid (show Arr (w2.alloc (.cells (madeCells #[.int .i64 0, .int .i64 0, .bool false] (n * 3)) 36)) w2.heap.size 36 (lcells (List.replicate n zeroLf)) from Arr.new' rfl (made_lcells n))
  have HT := Lib.hid ((hT.zero.kept0 hk2).alloc (.cells (madeCells #[.int .i64 0, .int .i64 0, .bool false] (n * 3)) 36))
  have HK := Lib.hid (hk1.trans (hk2.alloc (.cells (madeCells #[.int .i64 0, .int .i64 0, .bool false] (n * 3)) 36)))
  have hbx : w.heap.size ≤ w2.heap.size := Nat.le_trans hk1.size hk2.size
  clear hT hk1 hk2 hmk
  generalize hx2 : w2.heap.size = bx at *
  clear hx2
  go_loopg [9, 10, 11, 12, 76, 93] os.length (fun g v9 v10 v11 v12 v76 v93 wr => ∃ k : Nat, k + g = os.length ∧ k ≤ 120 ∧ v9 = .int .i64 k ∧ Hid (∃ ls ws, TOk wr bt bl bw none 0 (2 ^ stepsF n) (stepsF n) ls ws ∧ Arr wr bx 36 (lcells ls) ∧ Kept [] w wr ∧ ls.length = n ∧ Zs ls))
  case atStart => exact ⟨0, by omega, by omega, rfl, _, _, HT.out, HB.out, HK.out, by simp, Zs.rep n⟩
  case round =>
    clear HT HB HK
    obtain ⟨k, hk, hk120, rfl, hr⟩ := hrel
    obtain ⟨ls, ws', r1, r2, r3, r4, r5⟩ := hr.out
    clear hr
    by_cases hlt : k < os.length ∧ k < 120
    · obtain ⟨hlt1, hlt2⟩ := hlt
      have hl1 : (k : Int) < (os.length : Int) := by omega
      have hl2 : (k : Int) < 120 := by omega
      obtain ⟨p, hp⟩ : ∃ p, os[k]? = some p := ⟨os[k], by simp [hlt1]⟩
      obtain ⟨b, o, rfl, hbs, c0, c1, c2, c3⟩ := HO.out k p hp
      have c0 := (r3.cell hbs (by simp)).trans c0
      have c1 := (r3.cell hbs (by simp)).trans c1
      have c2 := (r3.cell hbs (by simp)).trans c2
      have c3 := (r3.cell hbs (by simp)).trans c3
      have hbw' : b < wr.heap.size := Nat.lt_of_lt_of_le hbs r3.size
      have R1 := Lib.hid r1
      have R2 := Lib.hid r2
      have R3 := Lib.hid r3
      have R5 := Lib.hid r5
      have R4 := Lib.hid r4
      clear r1 r2 r3 r5 hp
      by_cases hin : 0 ≤ p.b ∧ p.b < (n : Int)
      · obtain ⟨j, hj⟩ := Int.eq_ofNat_of_zero_le hin.1
        have hjn : j < n := by omega
        have HIN := Lib.hid hin
        rw [hj] at c1
        have hj0 : (0 : Int) ≤ (j : Int) := by omega
        have hj1 : (j : Int) < (n : Int) := by omega
        clear hin
        have HJ := Lib.hid hj
        clear hj
        go_upto_block 2 with fail
        have HZ1 := Lib.hid (show Arr (wr.alloc (.cells #[.int .i64 p.a, .int .i64 j, .int .i64 p.k, .int .i64 p.t] 33)) wr.heap.size 33 [.int .i64 p.a, .int .i64 j, .int .i64 p.k, .int .i64 p.t] from Arr.new' rfl rfl)
        have HR1 := Lib.hid (R1.out.alloc (.cells #[.int .i64 p.a, .int .i64 j, .int .i64 p.k, .int .i64 p.t] 33))
        have HR2 := Lib.hid (R2.out.alloc (.cells #[.int .i64 p.a, .int .i64 j, .int .i64 p.k, .int .i64 p.t] 33))
        have HR3 := Lib.hid (R3.out.alloc (.cells #[.int .i64 p.a, .int .i64 j, .int .i64 p.k, .int .i64 p.t] 33))
        clear R1 R2 R3 c0 c1 c2 c3
        have hbz : bx ∉ [bt, bl, bw] := by
          have n1 := HR2.out.ne HR1.out.t8.t (by decide)
          have n2 := HR2.out.ne HR1.out.t8.l (by decide)
          have n3 := HR2.out.ne HR1.out.t8.w (by decide)
          simp [n1, n2, n3]
        have hzz : wr.heap.size ∉ [bt, bl, bw] := by
          have n1 := HZ1.out.ne HR1.out.t8.t (by decide)
          have n2 := HZ1.out.ne HR1.out.t8.l (by decide)
          have n3 := HZ1.out.ne HR1.out.t8.w (by decide)
          simp [n1, n2, n3]
        have hzx : wr.heap.size ≠ bx := HZ1.out.ne HR2.out (by decide)
        have hjl : j < ls.length := by rw [R4.out]; exact hjn
        obtain ⟨y, hy⟩ : ∃ y, ls[j]? = some y := ⟨ls[j], by simp [hjl]⟩
        go_cut [12, 76, 93] (fun v12 v76 v93 wx => v12 = .int .i64 0 ∧ Hid (∃ ls ws, TOk wx bt bl bw none 0 (2 ^ stepsF n) (stepsF n) ls ws ∧ Arr wx bx 36 (lcells ls) ∧ Kept [] w wx ∧ ls.length = n ∧ Zs ls ∧ Arr wx wr.heap.size 33 [.int .i64 p.a, .int .i64 j, .int .i64 p.k, .int .i64 p.t]))
        case first =>
          by_cases ka : p.a = 1
          · have kab : (p.a == 1) = true := by simp [ka]
            clear ka
            go_wp2_with (go_at_call 11; refine (set_ok _ bt bl bw none 0 _ _ ls ws' HR1.out (by omega) j hjl p.k p.t).mono ?_; rintro e w3 ⟨rfl, ws3, m3, hT3, _, _, hk3⟩; have hX3 := HR2.out.kept hk3 hbz; have hZ3 := HZ1.out.kept hk3 hzz; have x0 := hX3.cell (lcells_at ls j y hy).1; have x1 := hX3.cell (lcells_at ls j y hy).2.1; have x2 := hX3.cell (lcells_at ls j y hy).2.2; have f0 := hX3.free (j * 3); have f1 := hX3.free (j * 3 + 1); have f2 := hX3.free (j * 3 + 2); have z1 := hZ3.cell (i := 1) rfl; have z2 := hZ3.cell (i := 2) rfl; have z3 := hZ3.cell (i := 3) rfl; have HT3 := Lib.hid hT3.zero; have HX3 := Lib.hid hX3; have HZ3 := Lib.hid hZ3; have HK3 := Lib.hid (HR3.out.fresh hk3 (by intro x hx hlt; simp at hx; omega)); clear hT3 hX3 hZ3 hk3)
            go_meet
            case rel =>
              refine ⟨rfl, ls.set j ⟨p.k, p.t, true⟩, ws3, ?_, ?_, ?_, by simpa using R4.out, R5.out.set j _ (by simp), ?_⟩
              · exact HT3.out.kept ((((Kept.refl [bx] _).setCell (.inl (by simp)) _).setCell (.inl (by simp)) _).setCell (.inl (by simp)) _) (by simp at hbz; simp; omega)
              · rw [lcells_set _ _ _ hjl]
                exact ((HX3.out.set _ _).set _ _).set _ _
              · exact ((HK3.out.setCell (.inr hbx) _).setCell (.inr hbx) _).setCell (.inr hbx) _
              · exact ((HZ3.out.setOther hzx _).setOther hzx _).setOther hzx _
          · have kab : (p.a == 1) = false := by simp [ka]
            clear ka
            by_cases ka2 : p.a = 2
            · have kab2 : (p.a == 2) = true := by simp [ka2]
              clear ka2
              go_wp2_with (go_at_call 12; refine (clear_ok _ bt bl bw none 0 _ _ ls ws' HR1.out (by omega) j hjl).mono ?_; rintro e w3 ⟨rfl, ws3, m3, hT3, _, _, hk3⟩; have hX3 := HR2.out.kept hk3 hbz; have hZ3 := HZ1.out.kept hk3 hzz; have x0 := hX3.cell (lcells_at ls j y hy).1; have x1 := hX3.cell (lcells_at ls j y hy).2.1; have x2 := hX3.cell (lcells_at ls j y hy).2.2; have f0 := hX3.free (j * 3); have f1 := hX3.free (j * 3 + 1); have f2 := hX3.free (j * 3 + 2); have z1 := hZ3.cell (i := 1) rfl; have z2 := hZ3.cell (i := 2) rfl; have z3 := hZ3.cell (i := 3) rfl; have HT3 := Lib.hid hT3.zero; have HX3 := Lib.hid hX3; have HZ3 := Lib.hid hZ3; have HK3 := Lib.hid (HR3.out.fresh hk3 (by intro x hx hlt; simp at hx; omega)); clear hT3 hX3 hZ3 hk3)
              go_meet
              case rel =>
                refine ⟨rfl, ls.set j ⟨0, 0, false⟩, ws3, ?_, ?_, ?_, by simpa using R4.out, R5.out.set j _ (by simp), ?_⟩
                · exact HT3.out.kept ((((Kept.refl [bx] _).setCell (.inl (by simp)) _).setCell (.inl (by simp)) _).setCell (.inl (by simp)) _) (by simp at hbz; simp; omega)
                · rw [lcells_set _ _ _ hjl]
                  exact ((HX3.out.set _ _).set _ _).set _ _
                · exact ((HK3.out.setCell (.inr hbx) _).setCell (.inr hbx) _).setCell (.inr hbx) _
                · exact ((HZ3.out.setOther hzx _).setOther hzx _).setOther hzx _
            · have kab2 : (p.a == 2) = false := by simp [ka2]
              clear ka2
              go_wp2
              go_meet
              case rel => exact ⟨rfl, ls, ws', HR1.out, HR2.out, HR3.out, R4.out, R5.out, HZ1.out⟩
        case rest =>
          obtain ⟨rfl, hc⟩ := hcut
          clear HR1 HR2 HR3 HZ1 hbz hzz hzx hy hjl R4 R5
          obtain ⟨ls, ws', s1, s2, s3, s4, s5, s6⟩ := hc.out
          have z1 := s6.cell (i := 1) rfl
          have S1 := Lib.hid s1
          have S2 := Lib.hid s2
          have S3 := Lib.hid s3
          have S5 := Lib.hid s5
          have S4 := Lib.hid s4
          clear hc s1 s2 s3 s5 s6
          go_wp2_with (go_at_call 13; rw [← s4]; refine (alike_any _ bt bl bw bx none 0 _ _ ls ws' S1.out S2.out S5.out j).mono ?_; rintro e w4 ⟨rfl, hk4⟩)
          go_roundg (os.length - (k + 1))
          case measure => omega
          case rel => exact ⟨k + 1, by omega, by omega, by go_num, ls, ws', S1.out.kept0 hk4, S2.out.kept hk4 (by simp), S3.out.trans hk4, S4.out, S5.out⟩
      · by_cases hneg : p.b < 0
        · clear hin
          have HOUT : Hid (p.b < 0 ∨ (n : Int) ≤ p.b) := by first | exact .inl (by assumption) | exact .inr (by assumption)
          go_upto_block 2 with fail
          have HZ1 := Lib.hid (show Arr (wr.alloc (.cells #[.int .i64 p.a, .int .i64 p.b, .int .i64 p.k, .int .i64 p.t] 33)) wr.heap.size 33 [.int .i64 p.a, .int .i64 p.b, .int .i64 p.k, .int .i64 p.t] from Arr.new' rfl rfl)
          have HR1 := Lib.hid (R1.out.alloc (.cells #[.int .i64 p.a, .int .i64 p.b, .int .i64 p.k, .int .i64 p.t] 33))
          have HR2 := Lib.hid (R2.out.alloc (.cells #[.int .i64 p.a, .int .i64 p.b, .int .i64 p.k, .int .i64 p.t] 33))
          have HR3 := Lib.hid (R3.out.alloc (.cells #[.int .i64 p.a, .int .i64 p.b, .int .i64 p.k, .int .i64 p.t] 33))
          clear R1 R2 R3 c0 c1 c2 c3
          go_cut [12, 76, 93] (fun v12 v76 v93 wx => v12 = .int .i64 4 ∧ Hid (∃ ls ws, TOk wx bt bl bw none 0 (2 ^ stepsF n) (stepsF n) ls ws ∧ Arr wx bx 36 (lcells ls) ∧ Kept [] w wx ∧ ls.length = n ∧ Zs ls ∧ Arr wx wr.heap.size 33 [.int .i64 p.a, .int .i64 p.b, .int .i64 p.k, .int .i64 p.t]))
          case first =>
            by_cases ka : p.a = 1
            · have kab : (p.a == 1) = true := by simp [ka]
              clear ka
              go_wp2_with (go_at_call 11; refine (set_none _ bt bl bw none 0 _ _ ls ws' HR1.out p.b (by rw [R4.out]; exact HOUT.out) p.k p.t).mono ?_; rintro e w3 ⟨rfl, hk3⟩)
              go_meet
              case rel => exact ⟨rfl, ls, ws', HR1.out.kept0 hk3, HR2.out.kept hk3 (by simp), HR3.out.trans hk3, R4.out, R5.out, HZ1.out.kept hk3 (by simp)⟩
            · have kab : (p.a == 1) = false := by simp [ka]
              clear ka
              by_cases ka2 : p.a = 2
              · have kab2 : (p.a == 2) = true := by simp [ka2]
                clear ka2
                go_wp2_with (go_at_call 12; refine (clear_none _ bt bl bw none 0 _ _ ls ws' HR1.out p.b (by rw [R4.out]; exact HOUT.out)).mono ?_; rintro e w3 ⟨rfl, hk3⟩)
                go_meet
                case rel => exact ⟨rfl, ls, ws', HR1.out.kept0 hk3, HR2.out.kept hk3 (by simp), HR3.out.trans hk3, R4.out, R5.out, HZ1.out.kept hk3 (by simp)⟩
              · have kab2 : (p.a == 2) = false := by simp [ka2]
                clear ka2
                go_wp2
                go_meet
                case rel => exact ⟨rfl, ls, ws', HR1.out, HR2.out, HR3.out, R4.out, R5.out, HZ1.out⟩
          case rest =>
            obtain ⟨rfl, hc⟩ := hcut
            clear HR1 HR2 HR3 HZ1 R4 R5
            obtain ⟨ls, ws', s1, s2, s3, s4, s5, s6⟩ := hc.out
            have z1 := s6.cell (i := 1) rfl
            have S1 := Lib.hid s1
            have S2 := Lib.hid s2
            have S3 := Lib.hid s3
            have S5 := Lib.hid s5
            have S4 := Lib.hid s4
            clear hc s1 s2 s3 s5 s6
            go_wp2_with (go_at_call 13; rw [← s4]; refine (alike_any _ bt bl bw bx none 0 _ _ ls ws' S1.out S2.out S5.out p.b).mono ?_; rintro e w4 ⟨rfl, hk4⟩)
            go_roundg (os.length - (k + 1))
            case measure => omega
            case rel => exact ⟨k + 1, by omega, by omega, by go_num, ls, ws', S1.out.kept0 hk4, S2.out.kept hk4 (by simp), S3.out.trans hk4, S4.out, S5.out⟩
        · have hge : (n : Int) ≤ p.b := by omega
          clear hin
          have HOUT : Hid (p.b < 0 ∨ (n : Int) ≤ p.b) := by first | exact .inl (by assumption) | exact .inr (by assumption)
          go_upto_block 2 with fail
          have HZ1 := Lib.hid (show Arr (wr.alloc (.cells #[.int .i64 p.a, .int .i64 p.b, .int .i64 p.k, .int .i64 p.t] 33)) wr.heap.size 33 [.int .i64 p.a, .int .i64 p.b, .int .i64 p.k, .int .i64 p.t] from Arr.new' rfl rfl)
          have HR1 := Lib.hid (R1.out.alloc (.cells #[.int .i64 p.a, .int .i64 p.b, .int .i64 p.k, .int .i64 p.t] 33))
          have HR2 := Lib.hid (R2.out.alloc (.cells #[.int .i64 p.a, .int .i64 p.b, .int .i64 p.k, .int .i64 p.t] 33))
          have HR3 := Lib.hid (R3.out.alloc (.cells #[.int .i64 p.a, .int .i64 p.b, .int .i64 p.k, .int .i64 p.t] 33))
          clear R1 R2 R3 c0 c1 c2 c3
          go_cut [12, 76, 93] (fun v12 v76 v93 wx => v12 = .int .i64 4 ∧ Hid (∃ ls ws, TOk wx bt bl bw none 0 (2 ^ stepsF n) (stepsF n) ls ws ∧ Arr wx bx 36 (lcells ls) ∧ Kept [] w wx ∧ ls.length = n ∧ Zs ls ∧ Arr wx wr.heap.size 33 [.int .i64 p.a, .int .i64 p.b, .int .i64 p.k, .int .i64 p.t]))
          case first =>
            by_cases ka : p.a = 1
            · have kab : (p.a == 1) = true := by simp [ka]
              clear ka
              go_wp2_with (go_at_call 11; refine (set_none _ bt bl bw none 0 _ _ ls ws' HR1.out p.b (by rw [R4.out]; exact HOUT.out) p.k p.t).mono ?_; rintro e w3 ⟨rfl, hk3⟩)
              go_meet
              case rel => exact ⟨rfl, ls, ws', HR1.out.kept0 hk3, HR2.out.kept hk3 (by simp), HR3.out.trans hk3, R4.out, R5.out, HZ1.out.kept hk3 (by simp)⟩
            · have kab : (p.a == 1) = false := by simp [ka]
              clear ka
              by_cases ka2 : p.a = 2
              · have kab2 : (p.a == 2) = true := by simp [ka2]
                clear ka2
                go_wp2_with (go_at_call 12; refine (clear_none _ bt bl bw none 0 _ _ ls ws' HR1.out p.b (by rw [R4.out]; exact HOUT.out)).mono ?_; rintro e w3 ⟨rfl, hk3⟩)
                go_meet
                case rel => exact ⟨rfl, ls, ws', HR1.out.kept0 hk3, HR2.out.kept hk3 (by simp), HR3.out.trans hk3, R4.out, R5.out, HZ1.out.kept hk3 (by simp)⟩
              · have kab2 : (p.a == 2) = false := by simp [ka2]
                clear ka2
                go_wp2
                go_meet
                case rel => exact ⟨rfl, ls, ws', HR1.out, HR2.out, HR3.out, R4.out, R5.out, HZ1.out⟩
          case rest =>
            obtain ⟨rfl, hc⟩ := hcut
            clear HR1 HR2 HR3 HZ1 R4 R5
            obtain ⟨ls, ws', s1, s2, s3, s4, s5, s6⟩ := hc.out
            have z1 := s6.cell (i := 1) rfl
            have S1 := Lib.hid s1
            have S2 := Lib.hid s2
            have S3 := Lib.hid s3
            have S5 := Lib.hid s5
            have S4 := Lib.hid s4
            clear hc s1 s2 s3 s5 s6
            go_wp2_with (go_at_call 13; rw [← s4]; refine (alike_any _ bt bl bw bx none 0 _ _ ls ws' S1.out S2.out S5.out p.b).mono ?_; rintro e w4 ⟨rfl, hk4⟩)
            go_roundg (os.length - (k + 1))
            case measure => omega
            case rel => exact ⟨k + 1, by omega, by omega, by go_num, ls, ws', S1.out.kept0 hk4, S2.out.kept hk4 (by simp), S3.out.trans hk4, S4.out, S5.out⟩
    · have HK := Lib.hid r3
      have HT := Lib.hid r1
      clear r1 r2 r3 r5
      by_cases hl : k < os.length
      · have hl1 : (k : Int) < (os.length : Int) := by omega
        have hl2 : ¬ (k : Int) < 120 := by omega
        clear hlt
        go_wp2
        go_ret
        exact ⟨rfl, HK.out.below⟩
      · have hl1 : ¬ (k : Int) < (os.length : Int) := by omega
        clear hlt
        go_wp2
        go_ret
        exact ⟨rfl, HK.out.below⟩

theorem does_any (w : World) (n : Int) (v : Value) (os : List OpD) (hv : OpsAt w v os) (hos : os.length ≤ 4398046511104) : Calls Try.prog 3 #[.int .i64 n, v] w fun e w' => e = .returned (.bool true) ∧ Below w.heap.size w w' := by
  by_cases h : n < 1 ∨ 64 < n
  · exact does_err w n h v
  · obtain ⟨k, rfl⟩ := Int.eq_ofNat_of_zero_le (show 0 ≤ n by omega)
    exact does_ok w k (by omega) (by omega) v os hv hos

theorem Try.bytes33 : Try.prog.bytesOf 33 = 32 := by kernel_rfl

set_option maxRecDepth 100000 in
theorem does_lifted (os : Os) (started : os.Started) (H : Type) (enc : TypeId × Value → H) :
    ReturnsInHanded {} Try.checked os 3 .any (Rows.treeDoesSpec.pre6 enc Try.prog Try.f3 Rows.treeDoesRow.domain false) (Rows.treeDoesSpec.post enc Try.prog Try.f3 false true false false) := by
  refine returnsInHanded_of_change_sized (C := Try.checked) Try.own started (by kernel_rfl) Try.func3
    (ChangeSpec.witness6 (enc := enc) (C := Try.checked) false ⟨#[], #[.int .i64 0, .slice none 0 0], []⟩ 8 (by kernel_rfl) (by kernel_rfl) (by kernel_rfl) (by kernel_rfl)) ?_
  intro W base args ds gs before hval0 hW hcnd hsz0 _
  have hval : ∀ (j : Nat) t v, Try.f3.params[j]? = some t → args[j]? = some v → Value.okWide Try.prog W .any base t v := hval0
  have hW' := hW
  obtain ⟨p, q, hA0, hV, rfl, hfz, hnd⟩ := hW
  have hA : DataW.TrodAll enc Try.prog W 0 (fun _ => true) true Try.f3.params.toList args.toList ds p := hA0
  rw [Try.params3] at hA hval
  obtain ⟨v0, vs0, d0, ds0, p0, q0, hargs, rfl, rfl, h0, r0⟩ := trodAll_cons hA
  obtain ⟨v1, vs1, d1, ds1, p1, q1, rfl, rfl, rfl, h1, r1⟩ := trodAll_cons r0
  obtain ⟨rfl, rfl, rfl⟩ := trodAll_nil r1
  obtain rfl : args = #[v0, v1] := by cases args; simp_all
  obtain ⟨rfl, rfl⟩ := trodVars_none hV
  have hsz : (DataW.weightsEach Try.prog [3, 22] [d0, d1]).all (· ≤ reachBytes) = true := hsz0
  obtain ⟨n, rfl, rfl, rfl, wn⟩ := open_int Try.underlying3 (hval 0 3 v0 rfl rfl) h0
  obtain ⟨a, len, cap, rfl⟩ := okWide_slice Try.underlying22 (hval 1 22 v1 rfl rfl)
  have k1 := h1
  have lt1 : ∀ x ∈ p1, x.block < W.heap.size := by obtain ⟨m, hm⟩ := k1; exact DataW.trod_lt m _ _ _ hm
  obtain ⟨fuel, hf⟩ := h1
  obtain ⟨v, ops, hcs, hO, hlen⟩ := ops_open hf
  obtain rfl : v = .slice a len cap := by simpa [Value.cells] using hcs.symm
  have hos : ops.length ≤ 4398046511104 := by
    rcases hlen with rfl | ⟨es, sp, hd, he⟩
    · simp
    · simp only at hd
      subst hd
      have := sized_slice hsz (j := 1) rfl rfl Try.underlying22
      rw [Try.bytes33] at this
      have hr := reachBytes_lt
      omega
  clear hA0 hval0
  refine (does_any W n _ ops hO hos).mono fun e W' ⟨he, bel⟩ => ?_
  subst he
  exact ⟨_, rfl, _, _, _, [], _, [], hW', trodAll_mk1 (shut_bool Try.underlying4 _), (trodAll_cons_mk (shut_int Try.underlying3 wn) (trodAll_cons_mk (Below.trod Try.laidOut (by kernel_rfl) (of_decide_eq_true (by kernel_rfl)) k1 bel lt1) trodAll_mk0)), rfl, bel.frame _, fun h => by cases h⟩

theorem treeDoes_holds : Rows.TreeDoesSaid :=
  OpenClaim.holds_of_wide 3 Try.f3 rfl rfl rfl rfl rfl rfl rfl ⟨rfl, rfl, rfl, rfl, rfl⟩ rfl rfl rfl rfl rfl (by kernel_rfl) Try.func3 (by kernel_rfl)
    (of_decide_eq_true (by kernel_rfl)) (by unfold Func.isWrapper; first | (rw [if_pos (by decide +kernel)]; kernel_rfl) | (rw [if_neg (by decide +kernel)]; exact ⟨rfl, rfl⟩))
    (fun os started H enc _ => does_lifted os started H enc)
#print axioms treeDoes_holds

end Go.Proofs.Ytjedpimoemapfaa
