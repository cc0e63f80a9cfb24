/- What a shape costs. -/
import Derived.Test.YtnfdbbjemlehnaaDoorM
namespace Go.Proofs.YtnfdbbjemlehnaaDoor
open Go.RowKit

def shapeF (gs es : List Pr) : Sh → Nat × Int × Bool
  | .node lf [] => (bitN lf, 0, decide (0 ≤ lf ∧ lf < gs.length))
  | .node lf [p, q] =>
    if lf ≠ -1 then (0, 0, false) else
    let a := shapeF gs es p
    let b := shapeF gs es q
    if !a.2.2 || !b.2.2 || (a.1 &&& b.1) != 0 || !mayF es a.1 b.1 then (0, 0, false) else (a.1 ||| b.1, cap (a.2.1 + (b.2.1 + stepF gs es a.1 b.1)), true)
  | .node _ _ => (0, 0, false)
termination_by structural s => s

theorem bitN_below {i : Int} {n : Nat} (h0 : 0 ≤ i) (h1 : i < n) (hn : n ≤ 6) : bitN i < 2 ^ n := by
  unfold bitN
  rw [if_neg (by omega)]
  exact Nat.pow_lt_pow_right (by decide) (by omega)

theorem stepF_bounds (gs es : List Pr) (a b : Nat) : stepF gs es a b ≤ 9007199254740991 := by
  unfold stepF
  simp only
  split <;> (unfold cap maxCost; omega)

theorem Sh.ind {P : Sh → Prop} (h : ∀ lf l, (∀ s, s ∈ l → P s) → P (.node lf l)) : ∀ s, P s
  | .node lf l => h lf l (fun s hs => Sh.ind h s)
termination_by s => _root_.SizeOf.sizeOf s
decreasing_by
  have := List.sizeOf_lt_of_mem hs
  simp
  omega

/-- What 'shape' leaves. -/
def ShapePost (gs es : List Pr) (s : Sh) (w : World) (en : Ending) (w' : World) : Prop :=
  ∃ (a : Nat) (x : Int) (ok : Bool), shapeF gs es s = (a, x, ok) ∧ en = .returned (.tuple #[.int .i64 a, .int .i64 x, .bool ok]) ∧ (ok = true → a < 2 ^ gs.length ∧ 0 ≤ x ∧ x ≤ 9007199254740991) ∧ Kept [] w w'

theorem ShAt.kids {w : World} {lf : Int} {p q : Sh} {v : Value} (h : ShAt w 0 (.node lf [p, q]) v) : ∃ b o cp x0 x1 y0 y1, v = .agg #[.int .i64 lf, .slice (some ⟨b, o, none⟩) 2 cp] ∧ b < w.heap.size ∧ w.cell? ⟨b, o, none⟩ = some x0 ∧ w.cell? ⟨b, o + 1, none⟩ = some x1 ∧ w.cell? ⟨b, o + 2, none⟩ = some y0 ∧ w.cell? ⟨b, o + 3, none⟩ = some y1 ∧
    ShAt w 0 p (.agg #[x0, x1]) ∧ ShAt w 0 q (.agg #[y0, y1]) := by
  cases h with
  | mk _ _ a cp c0 c1 ha hs =>
    obtain ⟨b, o, rfl, _, h1, h2, h3⟩ := ha 0 (by simp)
    obtain ⟨b', o', e, _, _, h4, h5⟩ := ha 1 (by simp)
    simp only [Option.some.injEq, Addr.mk.injEq, and_true] at e
    obtain ⟨rfl, rfl⟩ := e
    exact ⟨b, o, cp, c0 0, c1 0, c0 1, c1 1, rfl, h1, by simpa using h2, by simpa using h3, by simpa using h4, by simpa using h5, hs 0 p rfl, hs 1 q rfl⟩

set_option maxHeartbeats 6400000 in
set_option maxRecDepth 100000 in
theorem shape_other (w : World) (al : Option Addr) (cl : Nat) (ev : Value) (gs es : List Pr) (lf : Int) (l : List Sh) (a : Option Addr) (cp : Nat) (h0 : l.length ≠ 0) (h2 : l.length ≠ 2 ∨ lf ≠ -1) :
    Calls Tryd.prog 21 #[.agg #[.slice al gs.length cl, ev], .agg #[.int .i64 lf, .slice a l.length cp]] w (ShapePost gs es (.node lf l) w) := by
  have hF : shapeF gs es (.node lf l) = (0, 0, false) := by
    match l, h0, h2 with
    | [], h, _ => simp at h
    | [x], _, _ => rfl
    | [x, y], _, h => have : lf ≠ -1 := by simpa using h
                      rw [shapeF, if_pos this]
    | x :: y :: z :: r, _, _ => rfl
  have HF := Lib.hid hF
  clear hF
  have K : Kept [] w ((w.alloc (Obj.cells #[.slice al gs.length cl, ev] 49)).alloc (Obj.cells #[.int .i64 lf, .slice a l.length cp] 26)) := Kept.alloc (Kept.alloc (Kept.refl [] w) _) _
  have HK := Lib.hid K
  clear K
  have hl0 : ((l.length : Int) == 0) = false := by rw [beq_eq_false_iff_ne]; omega
  by_cases hl2 : l.length = 2
  · have hlf : lf ≠ -1 := by rcases h2 with h | h; exact absurd hl2 h; exact h
    have hlf2 : (lf == -1) = false := by simpa using hlf
    have hl2' : (l.length : Int) = 2 := by omega
    clear h2
    go_enter Tryd.func21, Tryd.ntmps21
    go_wp2
    exact bodyPost_ret (v := .tuple #[.int .i64 0, .int .i64 0, .bool false]) (by simp [results, Tryd.results21, go_sem]) rfl ⟨0, 0, false, HF.out, rfl, by simp, Kept.alloc (Kept.alloc (Kept.refl [] w) _) _⟩
  · have hl2' : ((l.length : Int) == 2) = false := by rw [beq_eq_false_iff_ne]; omega
    clear h2
    go_enter Tryd.func21, Tryd.ntmps21
    go_wp2
    exact bodyPost_ret (v := .tuple #[.int .i64 0, .int .i64 0, .bool false]) (by simp [results, Tryd.results21, go_sem]) rfl ⟨0, 0, false, HF.out, rfl, by simp, Kept.alloc (Kept.alloc (Kept.refl [] w) _) _⟩

set_option maxHeartbeats 6400000 in
set_option maxRecDepth 100000 in
theorem shape_leaf (w : World) (al : Option Addr) (cl : Nat) (ev : Value) (gs es : List Pr) (lf : Int) (a : Option Addr) (cp : Nat) (n6 : gs.length ≤ 6) :
    Calls Tryd.prog 21 #[.agg #[.slice al gs.length cl, ev], .agg #[.int .i64 lf, .slice a 0 cp]] w (ShapePost gs es (.node lf []) w) := by
  have hF : shapeF gs es (.node lf []) = (bitN lf, 0, decide (0 ≤ lf ∧ lf < gs.length)) := rfl
  have HF := Lib.hid hF
  clear hF
  have K : Kept [] w ((w.alloc (Obj.cells #[.slice al gs.length cl, ev] 49)).alloc (Obj.cells #[.int .i64 lf, .slice a 0 cp] 26)) := Kept.alloc (Kept.alloc (Kept.refl [] w) _) _
  have HK := Lib.hid K
  clear K
  by_cases hg0 : 0 ≤ lf
  · go_enter Tryd.func21, Tryd.ntmps21
    go_wp2_with fail
    go_quiet (first | (go_at_call 32; refine Calls.quiet_of_same ((bit_any _ _).mono fun _ _ h => ⟨h.1, h.2.symm⟩)))
    go_wp2
    refine bodyPost_ret (v := .tuple #[.int .i64 (bitN lf : Nat), .int .i64 0, .bool (decide (lf < gs.length))]) (by simp [results, Tryd.results21, go_sem]) rfl ⟨bitN lf, 0, decide (lf < gs.length), by rw [HF.out]; simp [hg0], rfl, fun h => ⟨bitN_below hg0 (by simpa using h) n6, by omega, by omega⟩, HK.out.drewN _⟩
  · have hd : decide (0 ≤ lf) = false := by simp [hg0]
    have hd2 : lf < 0 := by omega
    go_enter Tryd.func21, Tryd.ntmps21
    go_wp2_with fail
    go_quiet (first | (go_at_call 32; refine Calls.quiet_of_same ((bit_any _ _).mono fun _ _ h => ⟨h.1, h.2.symm⟩)))
    go_wp2
    refine bodyPost_ret (v := .tuple #[.int .i64 (bitN lf : Nat), .int .i64 0, .bool false]) (by simp [results, Tryd.results21, go_sem]) rfl ⟨bitN lf, 0, false, by rw [HF.out, decide_eq_false (fun h => by omega)], rfl, by simp, HK.out.drewN _⟩
end Go.Proofs.YtnfdbbjemlehnaaDoor
