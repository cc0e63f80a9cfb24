/- Shapes in memory; the shape that was found is built. -/
import Derived.Test.YtnfdbbjemlehnaaDoorK
namespace Go.Proofs.YtnfdbbjemlehnaaDoor
open Go.RowKit

inductive Sh
  | node (leaf : Int) (l : List Sh)

/-- A value reads as a shape; no block of it lies below base. -/
inductive ShAt (w : World) (base : Nat) : Sh → Value → Prop
  | mk (lf : Int) (l : List Sh) (a : Option Addr) (cp : Nat) (c0 c1 : Nat → Value)
      (ha : ∀ j, j < l.length → ∃ b o, a = some ⟨b, o, none⟩ ∧ base ≤ b ∧ b < w.heap.size ∧ w.cell? ⟨b, o + j * 2, none⟩ = some (c0 j) ∧ w.cell? ⟨b, o + j * 2 + 1, none⟩ = some (c1 j))
      (h : ∀ j s, l[j]? = some s → ShAt w base s (.agg #[c0 j, c1 j])) : ShAt w base (.node lf l) (.agg #[.int .i64 lf, .slice a l.length cp])

theorem ShAt.kept {S : List Nat} {w w' : World} {base : Nat} {v : Value} {s : Sh} (h : ShAt w base s v) (k : Kept S w w') (hS : ∀ x ∈ S, x < base) : ShAt w' base s v := by
  induction h with
  | mk lf l a cp c0 c1 ha _ ih =>
    refine .mk lf l a cp c0 c1 (fun j hj => ?_) ih
    obtain ⟨b, o, h1, h0, h2, h3, h4⟩ := ha j hj
    have hn : b ∉ S := fun hm => by have := hS b hm; omega
    exact ⟨b, o, h1, h0, Nat.lt_of_lt_of_le h2 k.size, (k.cell h2 hn).trans h3, (k.cell h2 hn).trans h4⟩

theorem ShAt.mono {w : World} {base base' : Nat} {v : Value} {s : Sh} (h : ShAt w base s v) (hb : base' ≤ base) : ShAt w base' s v := by
  induction h with
  | mk lf l a cp c0 c1 ha _ ih =>
    refine .mk lf l a cp c0 c1 (fun j hj => ?_) ih
    obtain ⟨b, o, h1, h0, h2⟩ := ha j hj
    exact ⟨b, o, h1, by omega, h2⟩

theorem ShAt.two {w : World} {base : Nat} {s : Sh} {v : Value} (h : ShAt w base s v) : ∃ x y, v = .agg #[x, y] := by
  cases h; exact ⟨_, _, rfl⟩

theorem ShAt.leaf (w : World) (base : Nat) (n : Int) : ShAt w base (.node n []) (.agg #[.int .i64 n, .slice none 0 0]) :=
  .mk n [] none 0 (fun _ => default) (fun _ => default) (fun j hj => by simp at hj) (fun j s hs => by simp at hs)

theorem ShAt.pair {w : World} {base b : Nat} {x0 x1 y0 y1 : Value} {s t : Sh} (n : Int) (hb : Arr w b 26 [x0, x1, y0, y1]) (hbb : base ≤ b) (h1 : ShAt w base s (.agg #[x0, x1])) (h2 : ShAt w base t (.agg #[y0, y1])) :
    ShAt w base (.node n [s, t]) (.agg #[.int .i64 n, .slice (some ⟨b, 0, none⟩) 2 2]) := by
  refine .mk n [s, t] (some ⟨b, 0, none⟩) 2 (fun j => if j = 0 then x0 else y0) (fun j => if j = 0 then x1 else y1) (fun j hj => ⟨b, 0, rfl, hbb, hb.lt, ?_⟩) (fun j u hu => ?_)
  · match j, hj with
    | 0, _ => exact ⟨hb.cell (i := 0) rfl, hb.cell (i := 1) rfl⟩
    | 1, _ => exact ⟨hb.cell (i := 2) rfl, hb.cell (i := 3) rfl⟩
  · match j, hu with
    | 0, hu => simp at hu; subst hu; exact h1
    | 1, hu => simp at hu; subst hu; exact h2

def buildF (T : List Pr) : Nat → Nat → Sh
  | 0, _ => .node 0 []
  | f + 1, set =>
    if (T[set]?.getD default).k = 0 then .node (tz set) []
    else .node (-1) [buildF T f (T[set]?.getD default).k.toNat, buildF T f (set - (T[set]?.getD default).k.toNat)]

/-- A table whose first parts are parts. -/
def Parts (T : List Pr) : Prop := ∀ (set : Nat) (p : Pr), T[set]? = some p → p.k ≠ 0 → 1 ≤ p.k ∧ p.k < (set : Int)

set_option maxHeartbeats 3200000 in
theorem build_any (bt : Nat) (T : List Pr) (hG : Parts T) : ∀ (f : Nat) (w : World) (_ : TabAt w bt T) (_ : Tab w) (set : Nat) (_ : 1 ≤ set) (_ : set ≤ f) (_ : set < 64),
    Calls Tryd.prog 20 #[.pointer (some ⟨bt, 0, none⟩), .int .i64 set] w fun en w' => ∃ v, en = .returned v ∧ ShAt w' w.heap.size (buildF T f set) v ∧ Kept [] w w' := by
  intro f
  induction f with
  | zero => intro w _ _ set h1 h2; omega
  | succ f ih =>
    intro w hT hTab set h1 hf h64
    obtain ⟨p, hp⟩ : ∃ p, T[set]? = some p := ⟨T[set]'(by rw [hT.len]; omega), by rw [List.getElem?_eq_getElem]⟩
    have hB : buildF T (f + 1) set = if p.k = 0 then .node (tz set) [] else .node (-1) [buildF T f p.k.toNat, buildF T f (set - p.k.toNat)] := by simp [buildF, hp]
    have q := hT.arr.cell (tcells_at T set p hp).1
    have hblt := hT.arr.lt
    have i1 : (set : Int) < 64 := by omega
    have i2 : (0 : Int) ≤ (set : Int) := by omega
    have HT := Lib.hid hT
    have HTab := Lib.hid hTab
    have hgp := hG set p hp
    have hset : IntKind.u64.wrap (set : Int) = (set : Int) := by rw [IntKind.wrap_u64]; omega
    clear hT hTab hG
    rw [hB]
    clear hB hp
    by_cases hk : p.k = 0
    · rw [if_pos hk]
      rw [hk] at q
      have q' := q
      clear hgp
      go_enter Tryd.func20, Tryd.ntmps20
      have K := Kept.alloc (Kept.refl [] w) (Obj.cells #[.int .i64 0, .slice none 0 0] 26)
      have HK := Lib.hid K
      clear K
      go_wp2_with (go_at_call 31; refine (tz_any _ (HTab.out.kept HK.out) set h64 (by omega)).mono ?_; rintro e w1 ⟨rfl, rfl⟩)
      exact bodyPost_ret (v := .agg #[.int .i64 (tz set : Nat), .slice none 0 0]) (by simp [results, Tryd.results20, go_sem]) rfl ⟨_, rfl, ShAt.leaf _ _ _, Kept.alloc (Kept.refl [] w) _⟩
    · rw [if_neg hk]
      obtain ⟨g1, g2⟩ := hgp hk
      obtain ⟨k, hkn⟩ := Int.eq_ofNat_of_zero_le (show 0 ≤ p.k by omega)
      rw [hkn] at q g1 g2 hk ⊢
      have hk0 : ((k : Int) == 0) = false := by simp; omega
      have hsub : (set : Int) - (k : Int) = ((set - k : Nat) : Int) := by omega
      have hk3 : ¬ k = 0 := by omega
      clear hgp hkn
      go_enter Tryd.func20, Tryd.ntmps20
      have K := Kept.alloc (Kept.refl [] w) (Obj.cells #[.int .i64 0, .slice none 0 0] 26)
      have HK := Lib.hid K
      clear K
      have AR : Arr (w.alloc (Obj.cells #[.int .i64 0, .slice none 0 0] 26)) w.heap.size 26 [.int .i64 0, .slice none 0 0] := Arr.new _ _ _
      have HAR := Lib.hid AR
      clear AR
      go_wp2_with fail
      refine (ih _ (HT.out.kept HK.out) (HTab.out.kept HK.out) k (by omega) (by omega) (by omega)).mono ?_
      rintro e w2 ⟨v1, rfl, hs1, hk1⟩
      obtain ⟨x0, x1, rfl⟩ := hs1.two
      have HS1 := Lib.hid hs1
      have HK1 := Lib.hid hk1
      clear hs1 hk1
      go_wp2_with fail
      refine (ih _ (HT.out.kept (HK.out.trans HK1.out)) (HTab.out.kept (HK.out.trans HK1.out)) (set - k) (by omega) (by omega) (by omega)).mono ?_
      rintro e w3 ⟨v2, rfl, hs2, hk2⟩
      obtain ⟨y0, y1, rfl⟩ := hs2.two
      have AR3 := HAR.out.kept (HK1.out.trans hk2) (by simp)
      have r0 := AR3.free 0
      have r1 := AR3.free 1
      have c0 := AR3.cell (i := 0) rfl
      have c1 := AR3.cell (i := 1) rfl
      have hlt := AR3.lt
      have HS2 := Lib.hid hs2
      have HS1 := Lib.hid (HS1.out.kept hk2 (by simp))
      have z2 : w.heap.size < w2.heap.size := by have := HK1.out.size; simp at this; omega
      have HK2 := Lib.hid ((HK.out.trans HK1.out).trans hk2)
      have HA3 := Lib.hid AR3
      clear hs2 hk2 AR3
      go_wp2_with fail
      have hsz : ((w3.setCell ⟨w.heap.size, 0, none⟩ (.int .i64 (-1))).setCell ⟨w.heap.size, 1, none⟩ (.slice (some ⟨w3.heap.size, 0, none⟩) 2 2)).heap.size = w3.heap.size := by simp
      have K5 : Kept [w.heap.size] w3 (((w3.setCell ⟨w.heap.size, 0, none⟩ (.int .i64 (-1))).setCell ⟨w.heap.size, 1, none⟩ (.slice (some ⟨w3.heap.size, 0, none⟩) 2 2)).alloc (Obj.cells #[x0, x1, y0, y1] 26)) :=
        (((Kept.refl [w.heap.size] w3).setCell (.inl (by simp)) _).setCell (.inl (by simp)) _).alloc _
      have hs1 := HS1.out.kept K5 (by simp)
      have hs2 := HS2.out.kept K5 (by simpa using z2)
      refine bodyPost_ret (v := .agg #[.int .i64 (-1), .slice (some ⟨w3.heap.size, 0, none⟩) 2 2]) ?_ rfl ⟨_, rfl, ?_, ?_⟩
      · have A5 := ((HA3.out.set 0 (.int .i64 (-1))).set 1 (.slice (some ⟨w3.heap.size, 0, none⟩) 2 2)).alloc (Obj.cells #[x0, x1, y0, y1] 26)
        have e0 := A5.cell (i := 0) rfl
        have e1 := A5.cell (i := 1) rfl
        simp [results, Tryd.results20, go_sem, e0, e1]
      · exact ShAt.pair (-1) (Arr.new' hsz.symm rfl) (by omega) (hs1.mono (by simp)) (hs2.mono (by omega))
      · exact HK2.out.fresh K5 (by simp)
end Go.Proofs.YtnfdbbjemlehnaaDoor
