/- Lists in memory; a join; edges, checks -/
import Derived.Test.YtnfdbbjemlehnaaDoorT
namespace Go.Proofs.YtnfdbbjemlehnaaDoor
open Go.RowKit

theorem Kept.drewN {S : List Nat} {a w : World} (h : Kept S a w) (n : Nat) : Kept S a (w.drewN n) := ⟨h.os, h.tape, h.output, h.size, h.block⟩

structure Pr where
  k : Int
  t : Int

instance : Inhabited Pr := ⟨⟨0, 0⟩⟩

/-- A slice value reads as a list of pairs. -/
def PairsAt (w : World) (v : Value) (ps : List Pr) : Prop :=
  ∃ a cap, v = .slice a ps.length cap ∧ ∀ (j : Nat) (p : Pr), ps[j]? = some p → ∃ b o, a = some ⟨b, o, none⟩ ∧ b < w.heap.size ∧ w.cell? ⟨b, o + j * 2, none⟩ = some (.int .i64 p.k) ∧ w.cell? ⟨b, o + j * 2 + 1, none⟩ = some (.int .i64 p.t)

theorem PairsAt.kept {w w' : World} {v : Value} {ps : List Pr} (h : PairsAt w v ps) (k : Kept [] w w') : PairsAt w' v ps := by
  obtain ⟨a, cap, hv, h⟩ := h
  refine ⟨a, cap, hv, fun j p hp => ?_⟩
  obtain ⟨b, o, h1, h2, h3, h4⟩ := h j p hp
  exact ⟨b, o, h1, Nat.lt_of_lt_of_le h2 k.size, (k.cell h2 (by simp)).trans h3, (k.cell h2 (by simp)).trans h4⟩

/-- The leaves and the edges of a join, in memory. -/
structure JAt (w : World) (lv ev : Value) (gs es : List Pr) : Prop where
  l : PairsAt w lv gs
  e : PairsAt w ev es

theorem JAt.kept {w w' : World} {lv ev : Value} {gs es : List Pr} (h : JAt w lv ev gs es) (k : Kept [] w w') : JAt w' lv ev gs es := ⟨h.l.kept k, h.e.kept k⟩

/-- One edge goes from some leaves to others. -/
def hit (a b : Nat) (e : Pr) : Bool := (a &&& bitN e.k != 0 && b &&& bitN e.t != 0) || (b &&& bitN e.k != 0 && a &&& bitN e.t != 0)
def edgeF (es : List Pr) (a b : Nat) : Bool := es.any (hit a b)

theorem and_test (a b : Nat) (ha : a < 9223372036854775808) (hb : b < 9223372036854775808) : (bits BinOp.and IntKind.i64 (a : Int) (b : Int) == 0) = ((a &&& b) == 0) := by
  rw [and_nat a b ha hb, Bool.eq_iff_iff, beq_iff_eq, beq_iff_eq]; omega

set_option maxHeartbeats 800000 in
theorem edge1_any (w : World) (ba bb : Nat) (a b : Nat) (ha : a < 64) (hb : b < 64) (h1 : Arr w ba 3 [.int .i64 a]) (h2 : Arr w bb 3 [.int .i64 b]) (e : Pr) :
    Calls Tryd.prog 41 #[.agg #[.int .i64 e.k, .int .i64 e.t], .pointer (some ⟨ba, 0, none⟩), .pointer (some ⟨bb, 0, none⟩)] w fun en w' => en = .returned (.bool (hit a b e)) ∧ Kept [] w w' := by
  have x1 := bitN_lt e.k
  have x2 := bitN_lt e.t
  have y1 := and_test a (bitN e.k) (by omega) (by omega)
  have y2 := and_test a (bitN e.t) (by omega) (by omega)
  have y3 := and_test b (bitN e.k) (by omega) (by omega)
  have y4 := and_test b (bitN e.t) (by omega) (by omega)
  have c1 := h1.cell (i := 0) rfl
  have c2 := h2.cell (i := 0) rfl
  have l1 := h1.lt
  have l2 := h2.lt
  simp only [hit, bne]
  clear h1 h2 ha hb x1 x2
  generalize hq1 : (a &&& bitN e.k == 0) = q1 at *
  generalize hq2 : (a &&& bitN e.t == 0) = q2 at *
  generalize hq3 : (b &&& bitN e.k == 0) = q3 at *
  generalize hq4 : (b &&& bitN e.t == 0) = q4 at *
  clear hq1 hq2 hq3 hq4
  go_enter Tryd.func41, Tryd.ntmps41
  go_wp2
  go_quiet (first | (go_at_call 32; refine Calls.quiet_of_same ((bit_any _ _).mono fun _ _ h => ⟨h.1, h.2.symm⟩)))
  generalize bitN e.k = B1 at *
  generalize bitN e.t = B2 at *
  have K0 : Kept [] w ((w.alloc (Obj.cells #[Value.int IntKind.i64 e.k, Value.int IntKind.i64 e.t] 39)).drewN nq) := (Kept.alloc (Kept.refl [] w) _).drewN _
  have d1 := (K0.cell l1 (by simp)).trans c1
  have d2 := (K0.cell l2 (by simp)).trans c2
  have HK := Lib.hid K0
  clear K0 c1 c2
  generalize ((w.alloc (Obj.cells #[Value.int IntKind.i64 e.k, Value.int IntKind.i64 e.t] 39)).drewN nq) = w1 at *
  go_wp2
  all_goals (go_ret; refine ⟨?_, HK.out⟩; subst y1 y2 y3 y4; clear HK d1 d2; simp [bne, *])
end Go.Proofs.YtnfdbbjemlehnaaDoor
