/- Bytes: rows of them, how one is appended, or a text. -/
import Derived.Lib.AppendStr
import Derived.Maps.OwnSet
import Derived.Test.YtkodiogkldboiaaGreatDoorM2
set_option linter.unusedVariables false
set_option linter.unusedSimpArgs false
namespace Go.Proofs.YtkodiogkldboiaaGreatDoor
open Go.RowKit

def bcell (c : UInt8) : Value := .int .u8 (c.toNat : Int)
/-- A row of bytes of one's own. -/
def Bytes (w : World) (base : Nat) (v : Value) (l : List UInt8) : Prop := w.ownsRow base 5 1 v l.length (l.map bcell)
theorem Kept.to {S : List Nat} {w w' : World} {base : Nat} (h : Kept S w w') (hS : ∀ x ∈ S, base ≤ x) (hb : base ≤ w.heap.size) : Below base w w' :=
  ⟨h.os, h.tape, h.output, h.size, fun k hk => h.block k (by omega) (fun hm => by have := hS k hm; omega)⟩
theorem below_keep {w w' : World} (h : Below w.heap.size w w') : Kept [] w w' := Kept.of_below h
theorem Bytes.kept {S : List Nat} {w w' : World} {base : Nat} {v : Value} {l : List UInt8} (h : Bytes w base v l) (k : Kept S w w') (hS : ∀ g, v.ownBlock = some g → g ∉ S) : Bytes w' base v l := own_kept h k hS
theorem Bytes.own {w : World} {base : Nat} {v : Value} {l : List UInt8} (h : Bytes w base v l) {g : Nat} (hg : v.ownBlock = some g) : base ≤ g ∧ g < w.heap.size := own_base h hg
theorem Bytes.form {w : World} {base : Nat} {v : Value} {l : List UInt8} (h : Bytes w base v l) : ∃ a cap, v = .slice a l.length cap ∧ l.length ≤ cap := by
  obtain ⟨a, cap, e, h1, _⟩ := own_slice h; exact ⟨a, cap, e, h1⟩

theorem Bytes.sep {w : World} {base bx T : Nat} {v : Value} {l : List UInt8} {xs : List Value} (h : Bytes w base v l) (A : Arr w bx T xs) (hT : T ≠ 5) : bx ∉ v.ownBlock.toList := by
  intro hm
  have hv : v.ownBlock = some bx := by simpa using hm
  obtain ⟨_, h2⟩ := h
  rcases h2 with ⟨rfl, _⟩ | ⟨g, cap, cur, rfl, _, hh, _⟩
  · simp [Value.ownBlock] at hv
  · simp only [Value.ownBlock, Option.some.injEq] at hv
    subst hv
    unfold Arr at A
    rw [A] at hh
    simp at hh
    exact hT hh.2
/-- What is left of a box behind an append. -/
theorem Arr.put {w wb w1 : World} {base bx T : Nat} {v : Value} {l : List UInt8} {xs : List Value} (A : Arr w bx T xs) (hT : T ≠ 5) (h : Bytes w base v l) (k : Kept [] w wb) (k1 : Kept v.ownBlock.toList wb w1) : Arr w1 bx T xs :=
  (A.kept k (by simp)).kept k1 (h.sep A hT)
theorem below_put {w0 w wb w1 : World} {base : Nat} {v : Value} {l : List UInt8} (B : Below base w0 w) (h : Bytes w base v l) (hb : base ≤ w0.heap.size) (k : Kept [] w wb) (k1 : Kept v.ownBlock.toList wb w1) : Below base w0 w1 :=
  (B.trans (k.to (by simp) (Nat.le_trans hb B.size))).trans (k1.to (fun x hx => (h.own (g := x) (by simpa using hx)).1) (Nat.le_trans hb (Nat.le_trans B.size k.size)))

theorem Tryz.info5 : (Tryz.prog.info? 5).map (fun i => (i.zero, i.size, i.bytes)) = some (some (.int .u8 0), 1, 1) := by kernel_rfl

theorem wpList_byte {ops : Array Oper} {rest : List Oper} {o : Oper} {a : Act} {Q : Exit → Act → World → Prop} {w : World} (hgd : o.guard = none) (sl x : Operand)
    (ho : o.op = .call { callee := .builtin .append, args := #[sl, x], argTypes := #[28, 28] }) (base : Nat) (v : Value) (l : List UInt8) (hs : a.eval sl = v) (hown : Bytes w base v l)
    (b : Nat) (d : UInt8) (hx : a.eval x = .slice (some ⟨b, 0, none⟩) 1 1) (c : Int) (hb : Arr w b 5 [.int .u8 c]) (hc : bcell d = .int .u8 c) (hl : l.length ≤ 70368744177664) (hbase : base ≤ w.heap.size)
    (h : ∀ g cap w', Bytes w' base (.slice (some ⟨g, 0, none⟩) (l.length + 1) cap) (l ++ [d]) → Kept v.ownBlock.toList w w' → wpList Tryz.prog ops Q rest (a.put o.dst (.slice (some ⟨g, 0, none⟩) (l.length + 1) cap)) w') : wpList Tryz.prog ops Q (o :: rest) a w := by
  obtain ⟨i0, hi0, hz0, hz1, hz2⟩ := info_parts Tryz.info5
  rw [← hc] at hb
  refine wpList_append_lies _ hgd sl x 28 ho base 5 i0 _ 1 1 Tryz.underlying28 hi0 hz0 hz1 hz2 rfl (by decide) v l.length (l.map bcell) hs hown ⟨b, 0, none⟩ 1 1 [bcell d] hx rfl (World.news_of_block (cs := #[bcell d]) (t := 5) (fr := (0, 0)) hb) (by simp [bcell, Value.oneCell']) (by decide) (by unfold maxLen; omega) (by omega) hbase w.heap.size rfl ?_
  intro g cap w' ho hg hat hlt
  exact h g cap w' (by unfold Bytes; simpa using ho) (grown_kept hg)

theorem wpList_text {ops : Array Oper} {rest : List Oper} {o : Oper} {a : Act} {Q : Exit → Act → World → Prop} {w : World} (hgd : o.guard = none) (sl x : Operand)
    (ho : o.op = .call { callee := .builtin .append, args := #[sl, x], argTypes := #[28, 9] }) (base : Nat) (v : Value) (l : List UInt8) (hs : a.eval sl = v) (hown : Bytes w base v l)
    (s : ByteArray) (hx : a.eval x = .string s) (hl : l.length ≤ 1073741824) (hsz : s.size ≤ 1073741824) (hbase : base ≤ w.heap.size)
    (h : ∀ ad cap w', Bytes w' base (.slice ad (l.length + s.size) cap) (l ++ s.data.toList) → Kept v.ownBlock.toList w w' → wpList Tryz.prog ops Q rest (a.put o.dst (.slice ad (l.length + s.size) cap)) w') : wpList Tryz.prog ops Q (o :: rest) a w := by
  obtain ⟨i0, hi0, hz0, hz1, hz2⟩ := info_parts Tryz.info5
  refine Lib.wpList_append_own_string w hgd sl x 28 9 ho base 5 i0 Tryz.underlying28 Tryz.underlying9 hi0 hz0 hz1 hz2 v l.length (l.map bcell) hs hown s hx (by unfold maxLen; omega) (by omega) hbase ?_
  intro v' w' ho hg hnil
  obtain ⟨ad, cap, rfl, _, _⟩ := own_slice ho
  refine h ad cap w' ?_ (grown_kept hg)
  unfold Bytes
  have hcs : Lib.strCells s = s.data.toList.map bcell := rfl
  rw [hcs, ← List.map_append] at ho
  have hl2 : (l ++ s.data.toList).length = l.length + s.size := by simp
  rw [hl2]; exact ho

/-- The same at a step of a region that draws its order. -/
theorem step_text {ops : Array Oper} {o : Oper} {a : Act} {K : Act → World → Prop} {Q : Exit → Act → World → Prop} {E : Prop} {w : World} (hgd : o.guard = none) (sl x : Operand)
    (ho : o.op = .call { callee := .builtin .append, args := #[sl, x], argTypes := #[28, 9] }) (base : Nat) (v : Value) (l : List UInt8) (hs : a.eval sl = v) (hown : Bytes w base v l)
    (s : ByteArray) (hx : a.eval x = .string s) (hl : l.length ≤ 1073741824) (hsz : s.size ≤ 1073741824) (hbase : base ≤ w.heap.size)
    (h : ∀ ad cap w', Bytes w' base (.slice ad (l.length + s.size) cap) (l ++ s.data.toList) → Kept v.ownBlock.toList w w' → K (a.put o.dst (.slice ad (l.length + s.size) cap)) w') :
    if Region.wanted o (yielded ops a.tmps) = true then Oper.wp Tryz.prog o a w K Q else E := by
  have hw : Region.wanted o (yielded ops a.tmps) = true := by simp [Region.wanted, hgd]
  rw [if_pos hw]
  obtain ⟨i0, hi0, hz0, hz1, hz2⟩ := info_parts Tryz.info5
  obtain ⟨v', w', hr, h2, h3, _⟩ := Lib.run_append_own_string (P := Tryz.prog) w base 28 9 o.type 5 i0 Tryz.underlying28 Tryz.underlying9 hi0 hz0 hz1 hz2 v l.length (l.map bcell) hown s (by unfold maxLen; omega) (by omega) hbase
  obtain ⟨ad, cap, rfl, _, _⟩ := own_slice h2
  unfold Oper.wp execOp
  simp only [ho, resolve, invoke, builtin, Sem.run_bind, Sem.run_pure, Result.andThen_ok, List.map_toArray, List.map_cons, List.map_nil, hs, hx, hr]
  refine h ad cap w' ?_ (grown_kept h3)
  unfold Bytes
  have hcs : Lib.strCells s = s.data.toList.map bcell := rfl
  rw [hcs, ← List.map_append] at h2
  have hl2 : (l ++ s.data.toList).length = l.length + s.size := by simp
  rw [hl2]; exact h2

theorem step_byte {ops : Array Oper} {o : Oper} {a : Act} {K : Act → World → Prop} {Q : Exit → Act → World → Prop} {E : Prop} {w : World} (hgd : o.guard = none) (sl x : Operand)
    (ho : o.op = .call { callee := .builtin .append, args := #[sl, x], argTypes := #[28, 28] }) (base : Nat) (v : Value) (l : List UInt8) (hs : a.eval sl = v) (hown : Bytes w base v l)
    (b : Nat) (d : UInt8) (hx : a.eval x = .slice (some ⟨b, 0, none⟩) 1 1) (c : Int) (hb : Arr w b 5 [.int .u8 c]) (hc : bcell d = .int .u8 c) (hl : l.length ≤ 70368744177664) (hbase : base ≤ w.heap.size)
    (h : ∀ g cap w', Bytes w' base (.slice (some ⟨g, 0, none⟩) (l.length + 1) cap) (l ++ [d]) → Kept v.ownBlock.toList w w' → K (a.put o.dst (.slice (some ⟨g, 0, none⟩) (l.length + 1) cap)) w') :
    if Region.wanted o (yielded ops a.tmps) = true then Oper.wp Tryz.prog o a w K Q else E := by
  obtain ⟨i0, hi0, hz0, hz1, hz2⟩ := info_parts Tryz.info5
  rw [← hc] at hb
  refine step_append_lies _ hgd sl x 28 ho base 5 i0 _ 1 1 Tryz.underlying28 hi0 hz0 hz1 hz2 rfl (by decide) v l.length (l.map bcell) hs hown ⟨b, 0, none⟩ 1 1 [bcell d] hx rfl (World.news_of_block (cs := #[bcell d]) (t := 5) (fr := (0, 0)) hb) (by simp [bcell, Value.oneCell']) (by decide) (by unfold maxLen; omega) (by omega) hbase w.heap.size rfl ?_
  intro g cap w' ho hg hat hlt
  exact h g cap w' (by unfold Bytes; simpa using ho) (grown_kept hg)

theorem wpList_bytes {ops : Array Oper} {rest : List Oper} {o : Oper} {a : Act} {Q : Exit → Act → World → Prop} {w : World} (hgd : o.guard = none) (sl x : Operand)
    (ho : o.op = .call { callee := .builtin .append, args := #[sl, x], argTypes := #[28, 28] }) (base : Nat) (v : Value) (l : List UInt8) (hs : a.eval sl = v) (hown : Bytes w base v l)
    (bb : Nat) (u : Value) (m : List UInt8) (hx : a.eval x = u) (hb : Bytes w bb u m) (hm : 0 < m.length) (hl : l.length ≤ 1073741824) (hml : m.length ≤ 1073741824) (hbase : base ≤ w.heap.size)
    (h : ∀ ad cap w', Bytes w' base (.slice ad (l.length + m.length) cap) (l ++ m) → Kept v.ownBlock.toList w w' → wpList Tryz.prog ops Q rest (a.put o.dst (.slice ad (l.length + m.length) cap)) w') : wpList Tryz.prog ops Q (o :: rest) a w := by
  obtain ⟨i0, hi0, hz0, hz1, hz2⟩ := info_parts Tryz.info5
  obtain ⟨g2, cap2, rfl, _, _⟩ := World.ownsRow.form hb hm
  refine wpList_append_lies _ hgd sl x 28 ho base 5 i0 _ 1 1 Tryz.underlying28 hi0 hz0 hz1 hz2 rfl (by decide) v l.length (l.map bcell) hs hown ⟨g2, 0, none⟩ m.length cap2 (m.map bcell) hx (by simp) (own_news hb) (by intro u hu; obtain ⟨z, _, rfl⟩ := List.mem_map.1 hu; rfl) hm (by unfold maxLen; omega) (by omega) hbase w.heap.size rfl ?_
  intro g cap w' ho hg hat hlt
  exact h _ cap w' (by unfold Bytes; rw [← List.map_append] at ho; simpa using ho) (grown_kept hg)
end Go.Proofs.YtkodiogkldboiaaGreatDoor
/- A value's bytes, a row's bytes. -/
namespace Go.Proofs.YtkodiogkldboiaaGreatDoor
open Go.RowKit

/-- The low byte. -/
def lowB (n : Nat) : UInt8 := UInt8.ofNat (n % 256)
def be7 (m : Nat) : List UInt8 := [lowB (m / 281474976710656), lowB (m / 1099511627776), lowB (m / 4294967296), lowB (m / 16777216), lowB (m / 65536), lowB (m / 256), lowB m]
/-- An int, from 0 on. -/
def up (n : Int) : Nat := (n + 9007199254740992).toNat
def putV (v : Val) : List UInt8 :=
  if v.k = 1 then [1, lowB v.n.toNat] else if v.k = 2 then 2 :: be7 (up v.n) else if v.k = 3 then 3 :: lowB v.s.size :: v.s.data.toList else [0]
def putR (r : List Val) : List UInt8 := lowB r.length :: r.flatMap putV

def PutPost (base : Nat) (l : List UInt8) (w : World) (en : Ending) (w' : World) : Prop := ∃ v, en = .returned v ∧ Bytes w' base v l ∧ Below base w w'

theorem low_cell (n : Nat) : bcell (lowB n) = .int .u8 ((n % 256 : Nat) : Int) := by
  unfold bcell lowB
  congr 1
  simp

set_option maxHeartbeats 3200000 in
theorem row_put (w : World) (base : Nat) (bv : Value) (l : List UInt8) (x : Val) (hx : valOk x = true) (hb : Bytes w base bv l) (hl : (l.length : Int) ≤ 1000000) (hbase : base ≤ w.heap.size) :
    Calls Tryz.prog 67 #[bv, .agg #[.int .i64 x.k, .int .i64 x.n, .string x.s]] w (PutPost base (l ++ putV x) w) := by
  have HB := Lib.hid hb
  obtain ⟨a, cap, rfl, _⟩ := hb.form
  obtain ⟨k, n, s⟩ := x
  have HX := Lib.hid hx
  have K : Kept [] w (w.alloc (Obj.cells #[.int .i64 k, .int .i64 n, .string s] 57)) := Kept.alloc (Kept.refl [] w) _
  have AX : Arr (w.alloc (Obj.cells #[.int .i64 k, .int .i64 n, .string s] 57)) w.heap.size 57 [.int .i64 k, .int .i64 n, .string s] := Arr.new' rfl rfl
  have HK := Lib.hid K
  have HA := Lib.hid AX
  clear hb hx K AX
  by_cases h2 : k = 2
  · subst h2
    have hn : -9007199254740991 ≤ n ∧ n ≤ 9007199254740991 := by
      have := HX.out
      unfold valOk maxInt at this
      simp at this
      omega
    obtain ⟨hn1, hn2⟩ := hn
    have hP : putV ⟨2, n, s⟩ = 2 :: be7 (up n) := by simp [putV]
    have HP := Lib.hid hP
    clear hP
    go_enter Tryz.func67, Tryz.ntmps67
    go_wp2_with (at_builtin; go_must (refine wpList_byte rfl _ _ rfl base (.slice a l.length cap) l rfl (HB.out.kept (HK.out.alloc _) (by simp)) _ 2 rfl 2 (Arr.new' (by simp) rfl) rfl (by omega) (by simp; omega) ?_); intro g1 cap1 w1 ho1 hk1; have hA1 := HA.out.put (by decide) (HB.out.kept HK.out (by simp)) (Kept.alloc (Kept.refl [] _) _) hk1; have c0 := hA1.cell (i := 0) rfl; have c1 := hA1.cell (i := 1) rfl; have HO1 := Lib.hid ho1; have HB1 := Lib.hid (below_put (Below.refl base w) HB.out hbase (HK.out.alloc _) hk1); clear ho1 hk1 hA1)
    clear c0 c1
    go_loopg [0, 29] 7 (fun g v0 v29 wr => ∃ (j : Nat) (v : Value), j + g = 7 ∧ v29 = .int .i64 j ∧ v0 = v ∧ Hid (Bytes wr base v (l ++ 2 :: (be7 (up n)).take j)) ∧ Hid (Below base w wr))
    case atStart => exact ⟨0, _, by omega, rfl, rfl, by simpa using HO1, HB1⟩
    case round =>
      obtain ⟨j, v, hj, rfl, hv, hby, hbe⟩ := hrel
      subst hv
      obtain ⟨wo, hwo⟩ : ∃ wo : World, wo = wr := ⟨_, rfl⟩
      subst hwo
      obtain ⟨a1, cp1, hf, _⟩ := hby.out.form
      subst hf
      by_cases hlt : j < 7
      · have hll : (l ++ 2 :: (be7 (up n)).take j).length ≤ 1000010 := by
          rw [List.length_append, List.length_cons]
          have := List.length_take_le j (be7 (up n))
          omega
        have HLL := Lib.hid hll
        clear hll
        generalize hLL : l ++ 2 :: (be7 (up n)).take j = LL at hby HLL ⊢
        have HE := Lib.hid hLL
        clear hLL
        rcases (show j = 0 ∨ j = 1 ∨ j = 2 ∨ j = 3 ∨ j = 4 ∨ j = 5 ∨ j = 6 by omega) with rfl | rfl | rfl | rfl | rfl | rfl | rfl
        · go_wp2_with (at_builtin; go_must (refine wpList_byte rfl _ _ rfl base (.slice a1 LL.length cp1) LL rfl (hby.out.kept ((Kept.refl [] wo).alloc _) (by simp)) _ (lowB (up n / 281474976710656)) rfl _ (Arr.new' (by simp) rfl) (by rw [low_cell]; unfold up; congr 1; omega) (by have := HLL.out; omega) (by have := hbe.out.size; simp; omega) ?_); intro g2 cap2 w2 ho2 hk2; have HO2 := Lib.hid ho2; have HB2 := Lib.hid (below_put hbe.out hby.out hbase (Kept.alloc (Kept.refl [] wo) _) hk2); clear ho2 hk2)
          go_roundg (7 - (0 + 1))
          case measure => omega
          case rel => exact ⟨0 + 1, _, by omega, by go_num, rfl, by rw [show l ++ 2 :: (be7 (up n)).take (0 + 1) = LL ++ [lowB (up n / 281474976710656)] by rw [← HE.out]; simp [be7]]; exact HO2, HB2⟩
        · go_wp2_with (at_builtin; go_must (refine wpList_byte rfl _ _ rfl base (.slice a1 LL.length cp1) LL rfl (hby.out.kept ((Kept.refl [] wo).alloc _) (by simp)) _ (lowB (up n / 1099511627776)) rfl _ (Arr.new' (by simp) rfl) (by rw [low_cell]; unfold up; congr 1; omega) (by have := HLL.out; omega) (by have := hbe.out.size; simp; omega) ?_); intro g2 cap2 w2 ho2 hk2; have HO2 := Lib.hid ho2; have HB2 := Lib.hid (below_put hbe.out hby.out hbase (Kept.alloc (Kept.refl [] wo) _) hk2); clear ho2 hk2)
          go_roundg (7 - (1 + 1))
          case measure => omega
          case rel => exact ⟨1 + 1, _, by omega, by go_num, rfl, by rw [show l ++ 2 :: (be7 (up n)).take (1 + 1) = LL ++ [lowB (up n / 1099511627776)] by rw [← HE.out]; simp [be7]]; exact HO2, HB2⟩
        · go_wp2_with (at_builtin; go_must (refine wpList_byte rfl _ _ rfl base (.slice a1 LL.length cp1) LL rfl (hby.out.kept ((Kept.refl [] wo).alloc _) (by simp)) _ (lowB (up n / 4294967296)) rfl _ (Arr.new' (by simp) rfl) (by rw [low_cell]; unfold up; congr 1; omega) (by have := HLL.out; omega) (by have := hbe.out.size; simp; omega) ?_); intro g2 cap2 w2 ho2 hk2; have HO2 := Lib.hid ho2; have HB2 := Lib.hid (below_put hbe.out hby.out hbase (Kept.alloc (Kept.refl [] wo) _) hk2); clear ho2 hk2)
          go_roundg (7 - (2 + 1))
          case measure => omega
          case rel => exact ⟨2 + 1, _, by omega, by go_num, rfl, by rw [show l ++ 2 :: (be7 (up n)).take (2 + 1) = LL ++ [lowB (up n / 4294967296)] by rw [← HE.out]; simp [be7]]; exact HO2, HB2⟩
        · go_wp2_with (at_builtin; go_must (refine wpList_byte rfl _ _ rfl base (.slice a1 LL.length cp1) LL rfl (hby.out.kept ((Kept.refl [] wo).alloc _) (by simp)) _ (lowB (up n / 16777216)) rfl _ (Arr.new' (by simp) rfl) (by rw [low_cell]; unfold up; congr 1; omega) (by have := HLL.out; omega) (by have := hbe.out.size; simp; omega) ?_); intro g2 cap2 w2 ho2 hk2; have HO2 := Lib.hid ho2; have HB2 := Lib.hid (below_put hbe.out hby.out hbase (Kept.alloc (Kept.refl [] wo) _) hk2); clear ho2 hk2)
          go_roundg (7 - (3 + 1))
          case measure => omega
          case rel => exact ⟨3 + 1, _, by omega, by go_num, rfl, by rw [show l ++ 2 :: (be7 (up n)).take (3 + 1) = LL ++ [lowB (up n / 16777216)] by rw [← HE.out]; simp [be7]]; exact HO2, HB2⟩
        · go_wp2_with (at_builtin; go_must (refine wpList_byte rfl _ _ rfl base (.slice a1 LL.length cp1) LL rfl (hby.out.kept ((Kept.refl [] wo).alloc _) (by simp)) _ (lowB (up n / 65536)) rfl _ (Arr.new' (by simp) rfl) (by rw [low_cell]; unfold up; congr 1; omega) (by have := HLL.out; omega) (by have := hbe.out.size; simp; omega) ?_); intro g2 cap2 w2 ho2 hk2; have HO2 := Lib.hid ho2; have HB2 := Lib.hid (below_put hbe.out hby.out hbase (Kept.alloc (Kept.refl [] wo) _) hk2); clear ho2 hk2)
          go_roundg (7 - (4 + 1))
          case measure => omega
          case rel => exact ⟨4 + 1, _, by omega, by go_num, rfl, by rw [show l ++ 2 :: (be7 (up n)).take (4 + 1) = LL ++ [lowB (up n / 65536)] by rw [← HE.out]; simp [be7]]; exact HO2, HB2⟩
        · go_wp2_with (at_builtin; go_must (refine wpList_byte rfl _ _ rfl base (.slice a1 LL.length cp1) LL rfl (hby.out.kept ((Kept.refl [] wo).alloc _) (by simp)) _ (lowB (up n / 256)) rfl _ (Arr.new' (by simp) rfl) (by rw [low_cell]; unfold up; congr 1; omega) (by have := HLL.out; omega) (by have := hbe.out.size; simp; omega) ?_); intro g2 cap2 w2 ho2 hk2; have HO2 := Lib.hid ho2; have HB2 := Lib.hid (below_put hbe.out hby.out hbase (Kept.alloc (Kept.refl [] wo) _) hk2); clear ho2 hk2)
          go_roundg (7 - (5 + 1))
          case measure => omega
          case rel => exact ⟨5 + 1, _, by omega, by go_num, rfl, by rw [show l ++ 2 :: (be7 (up n)).take (5 + 1) = LL ++ [lowB (up n / 256)] by rw [← HE.out]; simp [be7]]; exact HO2, HB2⟩
        · go_wp2_with (at_builtin; go_must (refine wpList_byte rfl _ _ rfl base (.slice a1 LL.length cp1) LL rfl (hby.out.kept ((Kept.refl [] wo).alloc _) (by simp)) _ (lowB (up n)) rfl _ (Arr.new' (by simp) rfl) (by rw [low_cell]; unfold up; congr 1; omega) (by have := HLL.out; omega) (by have := hbe.out.size; simp; omega) ?_); intro g2 cap2 w2 ho2 hk2; have HO2 := Lib.hid ho2; have HB2 := Lib.hid (below_put hbe.out hby.out hbase (Kept.alloc (Kept.refl [] wo) _) hk2); clear ho2 hk2)
          go_roundg (7 - (6 + 1))
          case measure => omega
          case rel => exact ⟨6 + 1, _, by omega, by go_num, rfl, by rw [show l ++ 2 :: (be7 (up n)).take (6 + 1) = LL ++ [lowB (up n)] by rw [← HE.out]; simp [be7]]; exact HO2, HB2⟩
      · obtain rfl : j = 7 := by omega
        go_wp2_with fail
        go_ret
        exact ⟨_, rfl, by rw [HP.out]; exact hby.out, hbe.out⟩
  · by_cases h1 : k = 1
    · subst h1
      have hn : n = 0 ∨ n = 1 := by
        have := HX.out
        unfold valOk at this
        simp at this
        omega
      have hP : putV ⟨1, n, s⟩ = [1, lowB n.toNat] := by simp [putV]
      have HP := Lib.hid hP
      have hn1 : 0 ≤ n := by omega
      have hn2 : n ≤ 1 := by omega
      clear hP hn h2
      go_enter Tryz.func67, Tryz.ntmps67
      go_wp2_with (first | (at_builtin; refine wpList_byte rfl _ _ rfl base (.slice a l.length cap) l rfl (HB.out.kept (HK.out.alloc _) (by simp)) _ 1 rfl 1 (Arr.new' (by simp) rfl) rfl (by omega) (by simp; omega) ?_; intro g1 cap1 w1 ho1 hk1; have hA1 := HA.out.put (by decide) (HB.out.kept HK.out (by simp)) (Kept.alloc (Kept.refl [] _) _) hk1; have c0 := hA1.cell (i := 0) rfl; have c1 := hA1.cell (i := 1) rfl; have c2 := hA1.cell (i := 2) rfl; have HA1 := Lib.hid hA1; have HO1 := Lib.hid ho1; have HB1 := Lib.hid (below_put (Below.refl base w) HB.out hbase (HK.out.alloc _) hk1); clear ho1 hk1 hA1) | (at_builtin; refine wpList_byte rfl _ _ rfl base (.slice (some ⟨g1, 0, none⟩) (l.length + 1) cap1) (l ++ [1]) rfl (HO1.out.kept (Kept.alloc (Kept.refl [] w1) _) (by simp)) _ (lowB n.toNat) rfl _ (Arr.new' (by simp) rfl) (by rw [low_cell]; congr 1; omega) (by simp; omega) (by have := HB1.out.size; simp; omega) ?_; intro g2 cap2 w2 ho2 hk2; have hA2 := HA1.out.put (by decide) HO1.out (Kept.alloc (Kept.refl [] _) _) hk2; have c0 := hA2.cell (i := 0) rfl; have c1 := hA2.cell (i := 1) rfl; have c2 := hA2.cell (i := 2) rfl; have HO2 := Lib.hid ho2; have HB2 := Lib.hid (below_put HB1.out HO1.out hbase (Kept.alloc (Kept.refl [] w1) _) hk2); clear ho2 hk2 hA2))
      go_ret
      exact ⟨_, rfl, by rw [HP.out]; simpa using HO2.out, HB2.out⟩
    · by_cases h3 : k = 3
      · subst h3
        have hs : n = 0 ∧ s.size ≤ 64 := by
          have := HX.out
          unfold valOk at this
          simp at this
          exact this
        obtain ⟨hn, hs⟩ := hs
        subst hn
        have hs' : (s.size : Int) ≤ 64 := by omega
        have hP : putV ⟨3, 0, s⟩ = 3 :: lowB s.size :: s.data.toList := by simp [putV]
        have HP := Lib.hid hP
        clear hP h1 h2
        go_enter Tryz.func67, Tryz.ntmps67
        go_wp2_with (at_builtin; refine wpList_byte rfl _ _ rfl base (.slice a l.length cap) l rfl (HB.out.kept (HK.out.alloc _) (by simp)) _ 3 rfl 3 (Arr.new' (by simp) rfl) rfl (by omega) (by simp; omega) ?_; intro g1 cap1 w1 ho1 hk1; have hA1 := HA.out.put (by decide) (HB.out.kept HK.out (by simp)) (Kept.alloc (Kept.refl [] _) _) hk1; have c0 := hA1.cell (i := 0) rfl; have c1 := hA1.cell (i := 1) rfl; have c2 := hA1.cell (i := 2) rfl; have HA1 := Lib.hid hA1; have HO1 := Lib.hid ho1; have HB1 := Lib.hid (below_put (Below.refl base w) HB.out hbase (HK.out.alloc _) hk1); clear ho1 hk1 hA1)
        go_region_held3 (fun w' => w'.cell? ⟨w.heap.size, 2, none⟩ = some (.string s))
          (first | exact s1 | go_keep)
          (first
            | (refine step_byte rfl _ _ (by rfl) base (.slice (some ⟨g1, 0, none⟩) (l.length + 1) cap1) (l ++ [3]) (by rfl) (HO1.out.kept (((Kept.refl [] w1).drewN _).alloc _) (by simp)) _ (lowB s.size) (by rfl) _ (Arr.new' (by simp) rfl) (by first | (rw [low_cell]; done) | (rw [low_cell]; congr 1; omega) | (rw [low_cell]; congr 1)) (by simp; omega) (by have := HB1.out.size; simp; omega) ?_; intro g2 cap2 w2 ho2 hk2; have hA2 := HA1.out.put (by decide) HO1.out (((Kept.refl [] w1).drewN _).alloc _) hk2; have s1 := hA2.cell (i := 2) rfl; have HA2 := Lib.hid hA2; have HO2 := Lib.hid ho2; have HB2 := Lib.hid (below_put HB1.out HO1.out hbase (((Kept.refl [] w1).drewN _).alloc _) hk2); clear ho2 hk2 hA2)
            | (refine step_text rfl _ _ (by rfl) base _ (l ++ [3] ++ [lowB s.size]) (by rfl) HO2.out s (by rfl) (by simp; omega) (by omega) (by have := HB2.out.size; omega) ?_; intro g3 cap3 w3 ho3 hk3; have hA3 := HA2.out.put (by decide) HO2.out (Kept.refl [] _) hk3; have s1 := hA3.cell (i := 2) rfl; have HO3 := Lib.hid ho3; have HB3 := Lib.hid (below_put HB2.out HO2.out hbase (Kept.refl [] _) hk3); clear ho3 hk3 hA3))
        rename_i hHeld
        clear hHeld s1
        go_wp2_with fail
        go_ret
        exact ⟨_, rfl, by rw [HP.out]; simpa [List.append_assoc] using HO3.out, HB3.out⟩
      · have h0 : k = 0 := by
          have := HX.out
          unfold valOk at this
          simp [h1, h2, h3] at this
          exact this.1
        subst h0
        have hP : putV ⟨0, n, s⟩ = [0] := by simp [putV]
        have HP := Lib.hid hP
        clear hP h1 h2 h3
        go_enter Tryz.func67, Tryz.ntmps67
        go_wp2_with (at_builtin; refine wpList_byte rfl _ _ rfl base (.slice a l.length cap) l rfl (HB.out.kept (HK.out.alloc _) (by simp)) _ 0 rfl 0 (Arr.new' (by simp) rfl) rfl (by omega) (by simp; omega) ?_; intro g1 cap1 w1 ho1 hk1; have hA1 := HA.out.put (by decide) (HB.out.kept HK.out (by simp)) (Kept.alloc (Kept.refl [] _) _) hk1; have c0 := hA1.cell (i := 0) rfl; have c1 := hA1.cell (i := 1) rfl; have c2 := hA1.cell (i := 2) rfl; have HA1 := Lib.hid hA1; have HO1 := Lib.hid ho1; have HB1 := Lib.hid (below_put (Below.refl base w) HB.out hbase (HK.out.alloc _) hk1); clear ho1 hk1 hA1)
        go_ret
        exact ⟨_, rfl, by rw [HP.out]; exact HO1.out, HB1.out⟩
end Go.Proofs.YtkodiogkldboiaaGreatDoor
/- A row's bytes: row.Put. -/
namespace Go.Proofs.YtkodiogkldboiaaGreatDoor
open Go.RowKit

theorem putV_len {v : Val} (h : valOk v = true) : (putV v).length = valSize v := by
  unfold putV valSize be7
  have := valOk_size h
  split
  · rfl
  · split
    · rfl
    · split
      · simp; omega
      · rfl
theorem flat_len (r : List Val) (h : r.all valOk = true) : (r.flatMap putV).length = sizes r := by
  induction r with
  | nil => rfl
  | cons a r ih =>
    simp only [List.all_cons, Bool.and_eq_true] at h
    simp only [List.flatMap_cons, List.length_append, ih h.2, putV_len h.1, sizes, List.map_cons, List.sum_cons]
theorem flat_snoc (r : List Val) (k : Nat) (x : Val) (h : r[k]? = some x) : (r.take (k + 1)).flatMap putV = (r.take k).flatMap putV ++ putV x := by
  rw [take_snoc r k x h, List.flatMap_append]; simp
theorem rowOk_parts {r : List Val} (h : rowOk r = true) : r.length ≤ 32 ∧ r.all valOk = true := by
  unfold rowOk at h
  simp only [Bool.and_eq_true, decide_eq_true_eq] at h
  exact h
theorem putR_len {r : List Val} (h : rowOk r = true) : (putR r).length = rowSize r ∧ (putR r).length ≤ 2200 := by
  obtain ⟨h1, h2⟩ := rowOk_parts h
  have e : (putR r).length = 1 + sizes r := by unfold putR; rw [List.length_cons, flat_len r h2]; omega
  have := sizes_le r h2
  exact ⟨by unfold rowSize; rw [if_pos h, e], by omega⟩

def RowPut (r : List Val) (w : World) (en : Ending) (w' : World) : Prop :=
  ∃ v, en = .returned (.tuple #[v, .int .i64 (rowErr r)]) ∧ Bytes w' w.heap.size v (if rowOk r then putR r else []) ∧ Kept [] w w'

theorem Bytes.nil (w : World) (base : Nat) : Bytes w base (.slice none 0 0) [] := ⟨rfl, .inl ⟨rfl, rfl⟩⟩

set_option maxHeartbeats 3200000 in
theorem row_Put (w : World) (v : Value) (r : List Val) (h : kval.At w Any v r) (hb : r.length ≤ 1000000) : Calls Tryz.prog 48 #[v] w (RowPut r w) := by
  have H := Lib.hid h
  obtain ⟨a, cap, rfl, _⟩ := h.form
  clear h
  go_enter Tryz.func48, Tryz.ntmps48
  go_wp2_with fail
  refine (row_check _ _ r H.out hb).mono ?_
  rintro e w2 ⟨rfl, hk⟩
  have HK := Lib.hid hk
  clear hk
  cases hok : rowOk r with
  | false =>
    have he : rowErr r = 20 := by simp [rowErr, hok]
    have HE := Lib.hid he
    have HOK := Lib.hid hok
    rw [he]
    clear he hok
    go_wp2_with fail
    go_ret2
    exact ⟨.slice none 0 0, by rw [HE.out]; rfl, by rw [HOK.out]; exact Bytes.nil _ _, HK.out⟩
  | true =>
    have he : rowErr r = 0 := by simp [rowErr, hok]
    obtain ⟨hl, hall⟩ := rowOk_parts hok
    have HE := Lib.hid he
    have HOK := Lib.hid hok
    have HALL := Lib.hid hall
    have hl1 : (r.length : Int) ≤ 32 := by omega
    rw [he]
    clear he hok hall hb
    go_wp2_with fail
    have hb0 : Bytes (w2.alloc (Obj.cells #[.int .u8 (r.length : Int)] 5)) w.heap.size (.slice (some ⟨w2.heap.size, 0, none⟩) 1 1) [lowB r.length] := by
      refine own_new (n := 1) (Arr.new' rfl ?_) rfl HK.out.size (by simp [maxLen])
      rw [List.map_cons, List.map_nil, low_cell, Nat.mod_eq_of_lt (by omega)]
    have HB0 := Lib.hid hb0
    clear hb0
    go_loopg [5, 19] r.length (fun g v5 i wr => ∃ (k : Nat) (bv : Value), k + g = r.length ∧ i = .int .i64 k ∧ v5 = bv ∧ Hid (Bytes wr w.heap.size bv (lowB r.length :: (r.take k).flatMap putV)) ∧ Hid (Below w.heap.size w wr))
    case atStart => exact ⟨0, _, by omega, rfl, rfl, by simpa using HB0, Lib.hid (HK.out.alloc _).below⟩
    case round =>
      obtain ⟨k, bv, hk, rfl, hbv, hby, hbe⟩ := hrel
      subst hbv
      obtain ⟨wo, hwo⟩ : ∃ wo : World, wo = wr := ⟨_, rfl⟩
      subst hwo
      obtain ⟨a1, cp1, hf, _⟩ := hby.out.form
      subst hf
      by_cases hlt : k < r.length
      · obtain ⟨x, hx⟩ : ∃ x, r[k]? = some x := ⟨r[k], by simp [hlt]⟩
        obtain ⟨b0, o0, cap', he, _, hbs, x0, x1, x2⟩ := val_at (H.out.kept (below_keep hbe.out)) hx
        simp only [Value.slice.injEq, true_and] at he
        obtain ⟨rfl, rfl⟩ := he
        have hk0 : (0 : Int) ≤ (k : Int) := by omega
        have hk1 : (k : Int) < (r.length : Int) := by omega
        have hxo : valOk x = true := List.all_eq_true.1 HALL.out x (List.mem_of_getElem? hx)
        have HXO := Lib.hid hxo
        have HSN := Lib.hid (flat_snoc r k x hx)
        have hlen : (lowB r.length :: (r.take k).flatMap putV).length ≤ 3000 := by
          have hta : (r.take k).all valOk = true := List.all_eq_true.2 fun y hy => List.all_eq_true.1 HALL.out y (List.mem_of_mem_take hy)
          have h1 := flat_len (r.take k) hta
          have h2 := sizes_le (r.take k) hta
          have h3 : (r.take k).length ≤ k := List.length_take_le _ _
          rw [List.length_cons, h1]; omega
        have HLEN := Lib.hid hlen
        clear hx hxo hlen
        generalize hLL : lowB r.length :: (r.take k).flatMap putV = LL at hby HLEN ⊢
        have HLL := Lib.hid hLL
        clear hLL
        go_wp2_with fail
        refine (row_put _ w.heap.size _ LL x HXO.out (hby.out.kept (Kept.alloc (Kept.refl [] wo) _) (by simp)) (by have := HLEN.out; omega) (by have := hbe.out.size; simp; omega)).mono ?_
        rintro e w3 ⟨v3, rfl, hb3, hk3⟩
        obtain ⟨a3, cp3, hf3, _⟩ := hb3.form
        subst hf3
        have HB3 := Lib.hid hb3
        have HK3 := Lib.hid (hbe.out.trans (((Kept.alloc (Kept.refl [] wo) (Obj.cells #[.int .i64 x.k, .int .i64 x.n, .string x.s] 57)).to (by simp) hbe.out.size).trans hk3))
        clear hb3 hk3 x0 x1 x2
        go_wp2_with fail
        go_roundg (r.length - (k + 1))
        case measure => omega
        case rel => exact ⟨k + 1, _, by omega, by go_num, rfl, by rw [HSN.out, ← List.cons_append, HLL.out]; have := HB3.out; rw [List.length_append] at this; exact Lib.hid this, HK3⟩
      · obtain rfl : k = r.length := by omega
        rw [List.take_length] at *
        go_wp2_with fail
        go_ret2
        exact ⟨_, by rw [HE.out]; rfl, by rw [HOK.out]; exact hby.out, below_keep hbe.out⟩
end Go.Proofs.YtkodiogkldboiaaGreatDoor
/- A row's bytes: the reference's Put. Printed by gen_refput.py. -/
namespace Go.Proofs.YtkodiogkldboiaaGreatDoor
open Go.RowKit

/-- The bytes are made anew. -/
def NewBytes (l : List UInt8) (w : World) (en : Ending) (w' : World) : Prop := ∃ v, en = .returned v ∧ Bytes w' w.heap.size v l ∧ Kept [] w w'

theorem byte_num (k : Nat) (hk : k < 256) (d : UInt8) (h : d.toNat = k) : lowB k = d := by
  unfold lowB; rw [← h, Nat.mod_eq_of_lt (UInt8.toNat_lt _)]; simp

set_option maxHeartbeats 6400000 in
theorem ref_put (w : World) (v : Value) (r : List Val) (h : kval.At w Any v r) (hok : rowOk r = true) : Calls Tryz.prog 40 #[v] w (NewBytes (putR r) w) := by
  have H := Lib.hid h
  obtain ⟨a, cap, rfl, _⟩ := h.form
  obtain ⟨hl, hall⟩ := rowOk_parts hok
  have HALL := Lib.hid hall
  have hl1 : (r.length : Int) ≤ 32 := by omega
  clear h hok hall
  go_enter Tryz.func40, Tryz.ntmps40
  go_wp2_with fail
  have hb0 : Bytes (w.alloc (Obj.cells #[.int .u8 (r.length : Int)] 5)) w.heap.size (.slice (some ⟨w.heap.size, 0, none⟩) 1 1) [lowB r.length] := by
    refine own_new (n := 1) (Arr.new' rfl ?_) rfl (Nat.le_refl _) (by simp [maxLen])
    rw [List.map_cons, List.map_nil, low_cell, Nat.mod_eq_of_lt (by omega)]
  have HB0 := Lib.hid hb0
  clear hb0
  go_loopg [3, 4] r.length (fun g v3 i wr => ∃ (k : Nat) (bv : Value), k + g = r.length ∧ i = .int .i64 k ∧ v3 = bv ∧ Hid (Bytes wr w.heap.size bv (lowB r.length :: (r.take k).flatMap putV)) ∧ Hid (Below w.heap.size w wr))
  case atStart => exact ⟨0, _, by omega, rfl, rfl, by simpa using HB0, Lib.hid ((Kept.refl [] w).alloc _).below⟩
  case round =>
    obtain ⟨k, bv, hk, rfl, hbv, hby, hbe⟩ := hrel
    subst hbv
    obtain ⟨wo, hwo⟩ : ∃ wo : World, wo = wr := ⟨_, rfl⟩
    subst hwo
    obtain ⟨a1, cp1, hf, _⟩ := hby.out.form
    subst hf
    by_cases hlt : k < r.length
    · obtain ⟨x, hx⟩ : ∃ x, r[k]? = some x := ⟨r[k], by simp [hlt]⟩
      obtain ⟨b0, o0, cap', he, _, hbs, x0, x1, x2⟩ := val_at (H.out.kept (below_keep hbe.out)) hx
      simp only [Value.slice.injEq, true_and] at he
      obtain ⟨rfl, rfl⟩ := he
      have hk0 : (0 : Int) ≤ (k : Int) := by omega
      have hk1 : (k : Int) < (r.length : Int) := by omega
      have hxo : valOk x = true := List.all_eq_true.1 HALL.out x (List.mem_of_getElem? hx)
      have HX := Lib.hid hxo
      have HSN := Lib.hid (flat_snoc r k x hx)
      have hlen : (lowB r.length :: (r.take k).flatMap putV).length ≤ 3000 := by
        have hta : (r.take k).all valOk = true := List.all_eq_true.2 fun y hy => List.all_eq_true.1 HALL.out y (List.mem_of_mem_take hy)
        have h1 := flat_len (r.take k) hta
        have h2 := sizes_le (r.take k) hta
        have h3 : (r.take k).length ≤ k := List.length_take_le _ _
        rw [List.length_cons, h1]; omega
      have HLEN := Lib.hid hlen
      clear hx hxo hlen
      generalize hLL : lowB r.length :: (r.take k).flatMap putV = LL at hby HLEN ⊢
      have HLL := Lib.hid hLL
      clear hLL
      have K : Kept [] wo (wo.alloc (Obj.cells #[.int .i64 x.k, .int .i64 x.n, .string x.s] 57)) := Kept.alloc (Kept.refl [] wo) _
      have AX : Arr (wo.alloc (Obj.cells #[.int .i64 x.k, .int .i64 x.n, .string x.s] 57)) wo.heap.size 57 [.int .i64 x.k, .int .i64 x.n, .string x.s] := Arr.new' rfl rfl
      have HK := Lib.hid K
      have HA := Lib.hid AX
      clear K AX
      by_cases h2 : x.k = 2
      · have hn : -9007199254740991 ≤ x.n ∧ x.n ≤ 9007199254740991 := by
          have := HX.out
          unfold valOk maxInt at this
          simp [h2] at this
          omega
        obtain ⟨hn1, hn2⟩ := hn
        have hP : putV x = 2 :: be7 (up x.n) := by simp [putV, h2]
        have HP := Lib.hid hP
        rw [h2] at x0 HA HK
        clear hP
        have h2' := Lib.hid h2
        clear h2
        go_wp2_with (at_builtin; refine wpList_byte rfl _ _ rfl w.heap.size (.slice a1 LL.length cp1) LL rfl (hby.out.kept (HK.out.alloc _) (by simp)) _ 2 rfl 2 (Arr.new' (by simp) rfl) rfl (by have := HLEN.out; omega) (by have := hbe.out.size; simp; omega) ?_; intro g1 cap1 w1 ho1 hk1; have hA1 := HA.out.put (by decide) (hby.out.kept HK.out (by simp)) (Kept.alloc (Kept.refl [] _) _) hk1; have c0 := hA1.cell (i := 0) rfl; have c1 := hA1.cell (i := 1) rfl; have c2 := hA1.cell (i := 2) rfl; have HA1 := Lib.hid hA1; have HO1 := Lib.hid ho1; have HB1 := Lib.hid (below_put hbe.out hby.out (Nat.le_refl _) (HK.out.alloc _) hk1); clear ho1 hk1 hA1)
        clear c0 c1 c2
        go_loopg [3, 7] 7 (fun g v3 v7 wr => ∃ (j : Nat) (v : Value), j + g = 7 ∧ v7 = .int .i64 (6 - (j : Int)) ∧ v3 = v ∧ Hid (Bytes wr w.heap.size v (LL ++ 2 :: (be7 (up x.n)).take j)) ∧ Hid (Below w.heap.size w wr))
        case atStart => exact ⟨0, _, by omega, rfl, rfl, by simpa using HO1, HB1⟩
        case round =>
          obtain ⟨j, v, hj, rfl, hv, hby, hbe⟩ := hrel
          subst hv
          obtain ⟨wn, hwn⟩ : ∃ wn : World, wn = wr := ⟨_, rfl⟩
          subst hwn
          obtain ⟨a1, cp1, hf, _⟩ := hby.out.form
          subst hf
          by_cases hlt : j < 7
          · have hll : (LL ++ 2 :: (be7 (up x.n)).take j).length ≤ 4000 := by
              rw [List.length_append, List.length_cons]
              have := List.length_take_le j (be7 (up x.n))
              have := HLEN.out
              omega
            have HLL2 := Lib.hid hll
            clear hll
            generalize hLM : LL ++ 2 :: (be7 (up x.n)).take j = LM at hby HLL2 ⊢
            have HE := Lib.hid hLM
            clear hLM
            rcases (show j = 0 ∨ j = 1 ∨ j = 2 ∨ j = 3 ∨ j = 4 ∨ j = 5 ∨ j = 6 by omega) with rfl | rfl | rfl | rfl | rfl | rfl | rfl
            · go_wp2_with (at_builtin; go_must (refine wpList_byte rfl _ _ rfl w.heap.size (.slice a1 LM.length cp1) LM rfl (hby.out.kept ((Kept.refl [] wn).alloc _) (by simp)) _ (lowB (up x.n / 281474976710656)) rfl _ (Arr.new' (by simp) rfl) (by rw [low_cell]; unfold up; congr 1; omega) (by have := HLL2.out; omega) (by have := hbe.out.size; simp; omega) ?_); intro g2 cap2 w2 ho2 hk2; have HO2 := Lib.hid ho2; have HB2 := Lib.hid (below_put hbe.out hby.out (Nat.le_refl _) (Kept.alloc (Kept.refl [] wn) _) hk2); clear ho2 hk2)
              go_roundg (7 - (0 + 1))
              case measure => omega
              case rel => exact ⟨0 + 1, _, by omega, by go_num, rfl, by rw [show LL ++ 2 :: (be7 (up x.n)).take (0 + 1) = LM ++ [lowB (up x.n / 281474976710656)] by rw [← HE.out]; simp [be7]]; exact HO2, HB2⟩
            · go_wp2_with (at_builtin; go_must (refine wpList_byte rfl _ _ rfl w.heap.size (.slice a1 LM.length cp1) LM rfl (hby.out.kept ((Kept.refl [] wn).alloc _) (by simp)) _ (lowB (up x.n / 1099511627776)) rfl _ (Arr.new' (by simp) rfl) (by rw [low_cell]; unfold up; congr 1; omega) (by have := HLL2.out; omega) (by have := hbe.out.size; simp; omega) ?_); intro g2 cap2 w2 ho2 hk2; have HO2 := Lib.hid ho2; have HB2 := Lib.hid (below_put hbe.out hby.out (Nat.le_refl _) (Kept.alloc (Kept.refl [] wn) _) hk2); clear ho2 hk2)
              go_roundg (7 - (1 + 1))
              case measure => omega
              case rel => exact ⟨1 + 1, _, by omega, by go_num, rfl, by rw [show LL ++ 2 :: (be7 (up x.n)).take (1 + 1) = LM ++ [lowB (up x.n / 1099511627776)] by rw [← HE.out]; simp [be7]]; exact HO2, HB2⟩
            · go_wp2_with (at_builtin; go_must (refine wpList_byte rfl _ _ rfl w.heap.size (.slice a1 LM.length cp1) LM rfl (hby.out.kept ((Kept.refl [] wn).alloc _) (by simp)) _ (lowB (up x.n / 4294967296)) rfl _ (Arr.new' (by simp) rfl) (by rw [low_cell]; unfold up; congr 1; omega) (by have := HLL2.out; omega) (by have := hbe.out.size; simp; omega) ?_); intro g2 cap2 w2 ho2 hk2; have HO2 := Lib.hid ho2; have HB2 := Lib.hid (below_put hbe.out hby.out (Nat.le_refl _) (Kept.alloc (Kept.refl [] wn) _) hk2); clear ho2 hk2)
              go_roundg (7 - (2 + 1))
              case measure => omega
              case rel => exact ⟨2 + 1, _, by omega, by go_num, rfl, by rw [show LL ++ 2 :: (be7 (up x.n)).take (2 + 1) = LM ++ [lowB (up x.n / 4294967296)] by rw [← HE.out]; simp [be7]]; exact HO2, HB2⟩
            · go_wp2_with (at_builtin; go_must (refine wpList_byte rfl _ _ rfl w.heap.size (.slice a1 LM.length cp1) LM rfl (hby.out.kept ((Kept.refl [] wn).alloc _) (by simp)) _ (lowB (up x.n / 16777216)) rfl _ (Arr.new' (by simp) rfl) (by rw [low_cell]; unfold up; congr 1; omega) (by have := HLL2.out; omega) (by have := hbe.out.size; simp; omega) ?_); intro g2 cap2 w2 ho2 hk2; have HO2 := Lib.hid ho2; have HB2 := Lib.hid (below_put hbe.out hby.out (Nat.le_refl _) (Kept.alloc (Kept.refl [] wn) _) hk2); clear ho2 hk2)
              go_roundg (7 - (3 + 1))
              case measure => omega
              case rel => exact ⟨3 + 1, _, by omega, by go_num, rfl, by rw [show LL ++ 2 :: (be7 (up x.n)).take (3 + 1) = LM ++ [lowB (up x.n / 16777216)] by rw [← HE.out]; simp [be7]]; exact HO2, HB2⟩
            · go_wp2_with (at_builtin; go_must (refine wpList_byte rfl _ _ rfl w.heap.size (.slice a1 LM.length cp1) LM rfl (hby.out.kept ((Kept.refl [] wn).alloc _) (by simp)) _ (lowB (up x.n / 65536)) rfl _ (Arr.new' (by simp) rfl) (by rw [low_cell]; unfold up; congr 1; omega) (by have := HLL2.out; omega) (by have := hbe.out.size; simp; omega) ?_); intro g2 cap2 w2 ho2 hk2; have HO2 := Lib.hid ho2; have HB2 := Lib.hid (below_put hbe.out hby.out (Nat.le_refl _) (Kept.alloc (Kept.refl [] wn) _) hk2); clear ho2 hk2)
              go_roundg (7 - (4 + 1))
              case measure => omega
              case rel => exact ⟨4 + 1, _, by omega, by go_num, rfl, by rw [show LL ++ 2 :: (be7 (up x.n)).take (4 + 1) = LM ++ [lowB (up x.n / 65536)] by rw [← HE.out]; simp [be7]]; exact HO2, HB2⟩
            · go_wp2_with (at_builtin; go_must (refine wpList_byte rfl _ _ rfl w.heap.size (.slice a1 LM.length cp1) LM rfl (hby.out.kept ((Kept.refl [] wn).alloc _) (by simp)) _ (lowB (up x.n / 256)) rfl _ (Arr.new' (by simp) rfl) (by rw [low_cell]; unfold up; congr 1; omega) (by have := HLL2.out; omega) (by have := hbe.out.size; simp; omega) ?_); intro g2 cap2 w2 ho2 hk2; have HO2 := Lib.hid ho2; have HB2 := Lib.hid (below_put hbe.out hby.out (Nat.le_refl _) (Kept.alloc (Kept.refl [] wn) _) hk2); clear ho2 hk2)
              go_roundg (7 - (5 + 1))
              case measure => omega
              case rel => exact ⟨5 + 1, _, by omega, by go_num, rfl, by rw [show LL ++ 2 :: (be7 (up x.n)).take (5 + 1) = LM ++ [lowB (up x.n / 256)] by rw [← HE.out]; simp [be7]]; exact HO2, HB2⟩
            · go_wp2_with (at_builtin; go_must (refine wpList_byte rfl _ _ rfl w.heap.size (.slice a1 LM.length cp1) LM rfl (hby.out.kept ((Kept.refl [] wn).alloc _) (by simp)) _ (lowB (up x.n)) rfl _ (Arr.new' (by simp) rfl) (by rw [low_cell]; unfold up; congr 1; omega) (by have := HLL2.out; omega) (by have := hbe.out.size; simp; omega) ?_); intro g2 cap2 w2 ho2 hk2; have HO2 := Lib.hid ho2; have HB2 := Lib.hid (below_put hbe.out hby.out (Nat.le_refl _) (Kept.alloc (Kept.refl [] wn) _) hk2); clear ho2 hk2)
              go_roundg (7 - (6 + 1))
              case measure => omega
              case rel => exact ⟨6 + 1, _, by omega, by go_num, rfl, by rw [show LL ++ 2 :: (be7 (up x.n)).take (6 + 1) = LM ++ [lowB (up x.n)] by rw [← HE.out]; simp [be7]]; exact HO2, HB2⟩
          · obtain rfl : j = 7 := by omega
            have hby' : Hid (Bytes wn w.heap.size (.slice a1 (LL ++ 2 :: be7 (up x.n)).length cp1) (LL ++ 2 :: be7 (up x.n))) := hby
            go_wp2_with fail
            go_roundg (r.length - (k + 1))
            case measure => omega
            case rel => exact ⟨k + 1, _, by omega, by go_num, rfl, by rw [HSN.out, ← List.cons_append, HLL.out, HP.out]; exact hby', hbe⟩
      · by_cases h1 : x.k = 1
        · have hn : x.n = 0 ∨ x.n = 1 := by
            have := HX.out
            unfold valOk at this
            simp [h1] at this
            omega
          have hP : putV x = [1, lowB x.n.toNat] := by simp [putV, h1]
          have HP := Lib.hid hP
          have hn1 : 0 ≤ x.n := by omega
          have hn2 : x.n ≤ 1 := by omega
          rw [h1] at x0 HA HK
          clear hP hn h2 h1
          go_wp2_with (first | (at_builtin; refine wpList_byte rfl _ _ rfl w.heap.size (.slice a1 LL.length cp1) LL rfl (hby.out.kept (HK.out.alloc _) (by simp)) _ 1 rfl 1 (Arr.new' (by simp) rfl) rfl (by have := HLEN.out; omega) (by have := hbe.out.size; simp; omega) ?_; intro g1 cap1 w1 ho1 hk1; have hA1 := HA.out.put (by decide) (hby.out.kept HK.out (by simp)) (Kept.alloc (Kept.refl [] _) _) hk1; have c0 := hA1.cell (i := 0) rfl; have c1 := hA1.cell (i := 1) rfl; have c2 := hA1.cell (i := 2) rfl; have HA1 := Lib.hid hA1; have HO1 := Lib.hid ho1; have HB1 := Lib.hid (below_put hbe.out hby.out (Nat.le_refl _) (HK.out.alloc _) hk1); clear ho1 hk1 hA1) | (at_builtin; refine wpList_byte rfl _ _ rfl w.heap.size (.slice (some ⟨g1, 0, none⟩) (LL.length + 1) cap1) (LL ++ [1]) rfl (HO1.out.kept (Kept.alloc (Kept.refl [] w1) _) (by simp)) _ (lowB x.n.toNat) rfl _ (Arr.new' (by simp) rfl) (by first | (rw [low_cell]; done) | (rw [low_cell]; congr 1; omega) | (rw [low_cell]; congr 1)) (by have := HLEN.out; simp; omega) (by have := HB1.out.size; simp; omega) ?_; intro g2 cap2 w2 ho2 hk2; have hA2 := HA1.out.put (by decide) HO1.out (Kept.alloc (Kept.refl [] _) _) hk2; have c0 := hA2.cell (i := 0) rfl; have c1 := hA2.cell (i := 1) rfl; have c2 := hA2.cell (i := 2) rfl; have HO2 := Lib.hid ho2; have HA2 := Lib.hid hA2; have HB2 := Lib.hid (below_put HB1.out HO1.out (Nat.le_refl _) (Kept.alloc (Kept.refl [] w1) _) hk2); clear ho2 hk2 hA2))
          go_roundg (r.length - (k + 1))
          case measure => omega
          case rel => exact ⟨k + 1, _, by omega, by go_num, rfl, by rw [HSN.out, ← List.cons_append, HLL.out, HP.out]; have := HO2.out; rw [List.append_assoc] at this; simpa using Lib.hid this, HB2⟩
        · by_cases h3 : x.k = 3
          · have hs : x.n = 0 ∧ x.s.size ≤ 64 := by
              have := HX.out
              unfold valOk at this
              simp [h3] at this
              exact this
            replace hs := hs.2
            have hs' : (x.s.size : Int) ≤ 64 := by omega
            have hP : putV x = 3 :: lowB x.s.size :: x.s.data.toList := by simp [putV, h3]
            have HP := Lib.hid hP
            rw [h3] at x0 HA HK
            clear hP h1 h2 h3
            go_wp2_with (first | (at_builtin; refine wpList_byte rfl _ _ rfl w.heap.size (.slice a1 LL.length cp1) LL rfl (hby.out.kept (HK.out.alloc _) (by simp)) _ 3 rfl 3 (Arr.new' (by simp) rfl) rfl (by have := HLEN.out; omega) (by have := hbe.out.size; simp; omega) ?_; intro g1 cap1 w1 ho1 hk1; have hA1 := HA.out.put (by decide) (hby.out.kept HK.out (by simp)) (Kept.alloc (Kept.refl [] _) _) hk1; have c0 := hA1.cell (i := 0) rfl; have c1 := hA1.cell (i := 1) rfl; have c2 := hA1.cell (i := 2) rfl; have HA1 := Lib.hid hA1; have HO1 := Lib.hid ho1; have HB1 := Lib.hid (below_put hbe.out hby.out (Nat.le_refl _) (HK.out.alloc _) hk1); clear ho1 hk1 hA1) | (at_builtin; refine wpList_byte rfl _ _ rfl w.heap.size (.slice (some ⟨g1, 0, none⟩) (LL.length + 1) cap1) (LL ++ [3]) rfl (HO1.out.kept (Kept.alloc (Kept.refl [] w1) _) (by simp)) _ (lowB x.s.size) rfl _ (Arr.new' (by simp) rfl) (by first | (rw [low_cell]; done) | (rw [low_cell]; congr 1; omega) | (rw [low_cell]; congr 1)) (by have := HLEN.out; simp; omega) (by have := HB1.out.size; simp; omega) ?_; intro g2 cap2 w2 ho2 hk2; have hA2 := HA1.out.put (by decide) HO1.out (Kept.alloc (Kept.refl [] _) _) hk2; have c0 := hA2.cell (i := 0) rfl; have c1 := hA2.cell (i := 1) rfl; have c2 := hA2.cell (i := 2) rfl; have HO2 := Lib.hid ho2; have HA2 := Lib.hid hA2; have HB2 := Lib.hid (below_put HB1.out HO1.out (Nat.le_refl _) (Kept.alloc (Kept.refl [] w1) _) hk2); clear ho2 hk2 hA2) | (at_builtin; go_must (refine wpList_text rfl _ _ rfl w.heap.size (.slice (some ⟨g2, 0, none⟩) (LL.length + 1 + 1) cap2) (LL ++ [3] ++ [lowB x.s.size]) rfl (by have := HO2.out; simp only [List.length_append, List.length_cons, List.length_nil, Nat.zero_add] at this; exact this) x.s rfl (by have := HLEN.out; simp; omega) (by omega) (by have := HB2.out.size; omega) ?_); intro g3 cap3 w3 ho3 hk3; have HO3 := Lib.hid ho3; have HB3 := Lib.hid (below_put HB2.out HO2.out (Nat.le_refl _) (Kept.refl [] _) hk3); clear ho3 hk3))
            go_roundg (r.length - (k + 1))
            case measure => omega
            case rel => exact ⟨k + 1, _, by omega, by go_num, rfl, by rw [HSN.out, ← List.cons_append, HLL.out, HP.out]; have := HO3.out; rw [List.append_assoc, List.append_assoc] at this; simpa using Lib.hid this, HB3⟩
          · have h0 : x.k = 0 := by
              have := HX.out
              unfold valOk at this
              simp [h1, h2, h3] at this
              exact this.1
            have hP : putV x = [0] := by simp [putV, h0]
            have HP := Lib.hid hP
            rw [h0] at x0 HA HK
            clear hP h1 h2 h3 h0
            go_wp2_with (at_builtin; refine wpList_byte rfl _ _ rfl w.heap.size (.slice a1 LL.length cp1) LL rfl (hby.out.kept (HK.out.alloc _) (by simp)) _ 0 rfl 0 (Arr.new' (by simp) rfl) rfl (by have := HLEN.out; omega) (by have := hbe.out.size; simp; omega) ?_; intro g1 cap1 w1 ho1 hk1; have hA1 := HA.out.put (by decide) (hby.out.kept HK.out (by simp)) (Kept.alloc (Kept.refl [] _) _) hk1; have c0 := hA1.cell (i := 0) rfl; have c1 := hA1.cell (i := 1) rfl; have c2 := hA1.cell (i := 2) rfl; have HA1 := Lib.hid hA1; have HO1 := Lib.hid ho1; have HB1 := Lib.hid (below_put hbe.out hby.out (Nat.le_refl _) (HK.out.alloc _) hk1); clear ho1 hk1 hA1)
            go_roundg (r.length - (k + 1))
            case measure => omega
            case rel => exact ⟨k + 1, _, by omega, by go_num, rfl, by rw [HSN.out, ← List.cons_append, HLL.out, HP.out]; exact HO1, HB1⟩
    · obtain rfl : k = r.length := by omega
      rw [List.take_length] at *
      go_wp2_with fail
      go_ret
      exact ⟨_, rfl, hby.out, below_keep hbe.out⟩
end Go.Proofs.YtkodiogkldboiaaGreatDoor
/- Sets of texts, kept in a map; catalog.unlike at both types. Printed by gen_unlike.py. -/
namespace Go.Proofs.YtkodiogkldboiaaGreatDoor
open Go.RowKit Go.Maps Go.WideMaps

def namesL (ns : List ByteArray) : List (List UInt8) := ns.map (fun s => s.data.toList)
/-- No text twice. -/
def distinctS (ns : List ByteArray) : Bool := decide (namesL ns).Nodup

theorem lit_same (a b : List UInt8) : (Lit.string a).sameKey (.string b) = decide (a = b) := by
  rw [Bool.eq_iff_iff, WideAt.sameKey_iff (by trivial)]
  simp
theorem any_same (acc : List (List UInt8)) (x : List UInt8) : (acc.map Lit.string).any (fun y => y.sameKey (.string x)) = decide (x ∈ acc) := by
  induction acc with
  | nil => simp
  | cons a acc ih =>
    rw [List.map_cons, List.any_cons, ih, lit_same, Bool.eq_iff_iff]
    simp only [Bool.or_eq_true, decide_eq_true_eq, List.mem_cons]
    exact ⟨fun h => h.imp Eq.symm id, fun h => h.imp Eq.symm id⟩
theorem add_len : ∀ (xs acc : List (List UInt8)),
    ((xs.map Lit.string).foldl addKey (acc.map Lit.string)).length ≤ acc.length + xs.length ∧ (((xs.map Lit.string).foldl addKey (acc.map Lit.string)).length = acc.length + xs.length ↔ xs.Nodup ∧ ∀ x ∈ xs, x ∉ acc)
  | [], acc => by simp
  | x :: xs, acc => by
    rw [List.map_cons, List.foldl_cons]
    unfold addKey
    rw [any_same]
    by_cases h : x ∈ acc
    · have ih := add_len xs acc
      unfold addKey at ih
      rw [if_pos (by simpa using h)]
      refine ⟨by rw [List.length_cons]; omega, ?_⟩
      constructor
      · intro e; rw [List.length_cons] at e; omega
      · intro ⟨_, h2⟩; exact absurd h (h2 x (by simp))
    · have ih := add_len xs (acc ++ [x])
      unfold addKey at ih
      rw [if_neg (by simpa using h)]
      rw [show acc.map Lit.string ++ [Lit.string x] = (acc ++ [x]).map Lit.string by simp]
      rw [List.length_append, List.length_singleton] at ih
      rw [List.length_cons, show acc.length + (xs.length + 1) = acc.length + 1 + xs.length by omega]
      refine ⟨ih.1, ih.2.trans ?_⟩
      constructor
      · intro ⟨h1, h2⟩
        refine ⟨List.nodup_cons.2 ⟨fun hm => h2 x hm (by simp), h1⟩, fun y hy => ?_⟩
        rcases List.mem_cons.1 hy with rfl | hy
        · exact h
        · exact fun hm => h2 y hy (by simp [hm])
      · intro ⟨h1, h2⟩
        obtain ⟨h3, h4⟩ := List.nodup_cons.1 h1
        refine ⟨h4, fun y hy hm => ?_⟩
        rcases List.mem_append.1 hm with hm | hm
        · exact h2 y (by simp [hy]) hm
        · rw [List.mem_singleton] at hm; subst hm; exact h3 hy

def setL (ns : List ByteArray) : DataW Unit := setOf (.agg []) ((namesL ns).map Lit.string)
theorem setL_size (ns : List ByteArray) : (Maps.size (setL ns) == ns.length) = distinctS ns ∧ Maps.size (setL ns) ≤ ns.length := by
  have h := add_len (namesL ns) []
  have hs : Maps.size (setL ns) = (((namesL ns).map Lit.string).foldl addKey []).length := size_setOf _ _ (fun x hx => by
    obtain ⟨y, _, rfl⟩ := List.mem_map.1 hx; trivial)
  have hl : (namesL ns).length = ns.length := by unfold namesL; simp
  rw [hs]
  simp only [List.map_nil, List.length_nil, Nat.zero_add, hl, List.not_mem_nil, not_false_eq_true, implies_true, and_true] at h
  refine ⟨?_, h.1⟩
  unfold distinctS
  rw [Bool.eq_iff_iff]
  simp [h.2]
theorem setL_snoc (ns : List ByteArray) (s : ByteArray) : setL (ns ++ [s]) = (setL ns).put (.string s.data.toList) (.agg []) := by
  unfold setL namesL
  rw [List.map_append, List.map_append, List.map_singleton, List.map_singleton, setOf_snoc]
theorem map_kept {H : Type} {S : List Nat} {w w' : World} {P : Program} {k : TypeId} {R : Value → Option (DataW H × List MemPlace)} {b n : Nat} {D : DataW H} (h : w.ownsMap P k R b n D) (K : Kept S w w') (hb : b ∉ S) : w'.ownsMap P k R b n D := by
  obtain ⟨es, clock, h1, h2⟩ := h
  exact ⟨es, clock, (K.block b (lt_of_block h1) hb).trans h1, h2⟩
theorem law9 : Keyed Tryz.prog 9 := string_keyed Tryz.underlying9


theorem col_name (w : World) (x : Col)  : Calls Tryz.prog 92 #[.agg #[.string x.tab, .string x.name, .int .i64 x.type]] w (StrPost x.name w) := by
  go_enter Tryz.func92, Tryz.ntmps92
  go_wp2
  go_ret
  exact ⟨rfl, Kept.alloc (Kept.refl [] w) _⟩

set_option maxHeartbeats 3200000 in
theorem col_unlike (w : World) (v : Value) (xs : List Col) (h : kcol.At w Any v xs) (hb : xs.length ≤ 1000000) (hs : ∀ x ∈ xs, (x.name.size : Int) ≤ 140737488355328) : Calls Tryz.prog 91 #[v, .func (.func 92) #[] #[]] w (BoolPost (distinctS (xs.map (·.name))) w) := by
  have HA := Lib.hid h
  obtain ⟨a0, cap, rfl, _⟩ := h.form
  have HS := Lib.hid hs
  clear h hs
  have hmm := @run_makeMap Tryz.prog
  go_enter Tryz.func91, Tryz.ntmps91
  go_wp2_with fail
  go_loopg [11] xs.length (fun g i wr => ∃ k : Nat, k + g = xs.length ∧ i = .int .i64 k ∧ Hid (wr.ownsMap Tryz.prog 9 (unitElem (H := Unit)) w.heap.size k (setL ((xs.take k).map (·.name))) ∧ Kept [] w wr))
  case atStart => exact ⟨0, by omega, rfl, by simpa [setL, namesL, setOf] using World.ownsMap_made _ _ _ _, Kept.alloc (Kept.refl [] w) _⟩
  case round =>
    obtain ⟨k, hk, rfl, hkp⟩ := hrel
    obtain ⟨wo, hwo⟩ : ∃ wo : World, wo = wr := ⟨_, rfl⟩
    subst hwo
    by_cases hlt : k < xs.length
    · obtain ⟨x, hx⟩ : ∃ x, xs[k]? = some x := ⟨xs[k], by simp [hlt]⟩
      obtain ⟨b0, o0, cap', he, _, hbs, x0, x1, x2⟩ := col_at (HA.out.kept hkp.out.2) hx
      simp only [Value.slice.injEq, true_and] at he
      obtain ⟨rfl, rfl⟩ := he
      have hk0 : (0 : Int) ≤ (k : Int) := by omega
      have hk1 : (k : Int) < (xs.length : Int) := by omega
      have HT := Lib.hid (take_snoc xs k x hx)
      have HM := Lib.hid (List.mem_of_getElem? hx)
      have hsz := HS.out x HM.out
      have HKEY := Lib.hid (keyOf_string_mk (P := Tryz.prog) Tryz.underlying9 (s := x.name) (by unfold maxLen; omega))
      clear hx hsz
      go_wp2_with fail
      refine (col_name _ x).mono ?_
      rintro e w1 ⟨rfl, hk1'⟩
      have HN := Lib.hid (Kept.trans (Kept.alloc (Kept.refl [] wo) _) hk1')
      clear hk1' x0 x1 x2
      go_wp2_with (at_mapUpdate; refine wpList_mapUpdate_own _ rfl _ _ _ 123 rfl 9 124 law9 Tryz.underlying123 (unitElem (H := Unit)) w.heap.size k _ rfl (map_kept hkp.out.1 HN.out (by simp)) (by unfold maxLen; omega) _ _ _ rfl rfl HKEY.out _ [] unitElem_mk ?_; intro w2 hown2 hgrow2; have HO := Lib.hid hown2; have HG := Lib.hid (Kept.fresh (hkp.out.2.trans HN.out) (grown_kept hgrow2) (fun x hx hlt => by simp at hx; omega)); clear hown2 hgrow2)
      go_roundg (xs.length - (k + 1))
      case measure => omega
      case rel => exact ⟨k + 1, by omega, by go_num, by rw [HT.out, List.map_append, List.map_singleton, setL_snoc]; exact HO.out, HG.out⟩
    · obtain rfl : k = xs.length := by omega
      rw [List.take_length] at *
      have hsl := setL_size (xs.map (·.name))
      rw [List.length_map] at hsl
      have HSL := Lib.hid hsl
      clear hsl
      go_wp2_with (at_len; refine wpList_len_own _ rfl _ 123 rfl 9 124 Tryz.underlying123 _ w.heap.size _ _ rfl hkp.out.1 ?_)
      go_ret
      exact ⟨ret_bool (by rw [← HSL.out.1, Bool.eq_iff_iff]; simp; omega), hkp.out.2⟩


theorem tbl_name (w : World) (x : Tbl) (ca : Option Addr) (cn cc : Nat) (ra : Option Addr) (rn rc : Nat) : Calls Tryz.prog 75 #[.agg #[.string x.name, .slice ca cn cc, .slice ra rn rc]] w (StrPost x.name w) := by
  go_enter Tryz.func75, Tryz.ntmps75
  go_wp2
  go_ret
  exact ⟨rfl, Kept.alloc (Kept.refl [] w) _⟩

set_option maxHeartbeats 3200000 in
theorem tbl_unlike (w : World) (v : Value) (xs : List Tbl) (h : ktbl.At w Any v xs) (hb : xs.length ≤ 1000000) (hs : ∀ x ∈ xs, (x.name.size : Int) ≤ 140737488355328) : Calls Tryz.prog 74 #[v, .func (.func 75) #[] #[]] w (BoolPost (distinctS (xs.map (·.name))) w) := by
  have HA := Lib.hid h
  obtain ⟨a0, cap, rfl, _⟩ := h.form
  have HS := Lib.hid hs
  clear h hs
  have hmm := @run_makeMap Tryz.prog
  go_enter Tryz.func74, Tryz.ntmps74
  go_wp2_with fail
  go_loopg [11] xs.length (fun g i wr => ∃ k : Nat, k + g = xs.length ∧ i = .int .i64 k ∧ Hid (wr.ownsMap Tryz.prog 9 (unitElem (H := Unit)) w.heap.size k (setL ((xs.take k).map (·.name))) ∧ Kept [] w wr))
  case atStart => exact ⟨0, by omega, rfl, by simpa [setL, namesL, setOf] using World.ownsMap_made _ _ _ _, Kept.alloc (Kept.refl [] w) _⟩
  case round =>
    obtain ⟨k, hk, rfl, hkp⟩ := hrel
    obtain ⟨wo, hwo⟩ : ∃ wo : World, wo = wr := ⟨_, rfl⟩
    subst hwo
    by_cases hlt : k < xs.length
    · obtain ⟨x, hx⟩ : ∃ x, xs[k]? = some x := ⟨xs[k], by simp [hlt]⟩
      obtain ⟨b0, o0, cap', ca, cn, cc, ra, rn, rc, he, _, hbs, x0, x1, x2, hE1, hE2⟩ := tbl_at (HA.out.kept hkp.out.2) hx
      simp only [Value.slice.injEq, true_and] at he
      obtain ⟨rfl, rfl⟩ := he
      have hk0 : (0 : Int) ≤ (k : Int) := by omega
      have hk1 : (k : Int) < (xs.length : Int) := by omega
      have HT := Lib.hid (take_snoc xs k x hx)
      have HM := Lib.hid (List.mem_of_getElem? hx)
      have hsz := HS.out x HM.out
      have HKEY := Lib.hid (keyOf_string_mk (P := Tryz.prog) Tryz.underlying9 (s := x.name) (by unfold maxLen; omega))
      clear hx hsz
      go_wp2_with fail
      refine (tbl_name _ x _ _ _ _ _ _).mono ?_
      rintro e w1 ⟨rfl, hk1'⟩
      have HN := Lib.hid (Kept.trans (Kept.alloc (Kept.refl [] wo) _) hk1')
      clear hk1' x0 x1 x2
      go_wp2_with (at_mapUpdate; refine wpList_mapUpdate_own _ rfl _ _ _ 123 rfl 9 124 law9 Tryz.underlying123 (unitElem (H := Unit)) w.heap.size k _ rfl (map_kept hkp.out.1 HN.out (by simp)) (by unfold maxLen; omega) _ _ _ rfl rfl HKEY.out _ [] unitElem_mk ?_; intro w2 hown2 hgrow2; have HO := Lib.hid hown2; have HG := Lib.hid (Kept.fresh (hkp.out.2.trans HN.out) (grown_kept hgrow2) (fun x hx hlt => by simp at hx; omega)); clear hown2 hgrow2)
      go_roundg (xs.length - (k + 1))
      case measure => omega
      case rel => exact ⟨k + 1, by omega, by go_num, by rw [HT.out, List.map_append, List.map_singleton, setL_snoc]; exact HO.out, HG.out⟩
    · obtain rfl : k = xs.length := by omega
      rw [List.take_length] at *
      have hsl := setL_size (xs.map (·.name))
      rw [List.length_map] at hsl
      have HSL := Lib.hid hsl
      clear hsl
      go_wp2_with (at_len; refine wpList_len_own _ rfl _ 123 rfl 9 124 Tryz.underlying123 _ w.heap.size _ _ rfl hkp.out.1 ?_)
      go_ret
      exact ⟨ret_bool (by rw [← HSL.out.1, Bool.eq_iff_iff]; simp; omega), hkp.out.2⟩

end Go.Proofs.YtkodiogkldboiaaGreatDoor
