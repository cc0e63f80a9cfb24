/- A leaf, a pair, as the law makes them. -/
import Derived.Test.YtnfdbbjemlehnaaDoorR
namespace Go.Proofs.YtnfdbbjemlehnaaDoor
open Go.RowKit

/-- A new shape is handed on. -/
def NewSh (s : Sh) (base : Nat) (w : World) (en : Ending) (w' : World) : Prop := ∃ v, en = .returned v ∧ ShAt w' base s v ∧ Kept [] w w'

set_option maxHeartbeats 1600000 in
theorem leaf_any (w : World) (n : Int) (base : Nat) : Calls Tryd.prog 14 #[.int .i64 n] w (NewSh (.node n []) base w) := by
  go_enter Tryd.func14, Tryd.ntmps14
  go_wp2
  exact bodyPost_ret (v := .agg #[.int .i64 n, .slice none 0 0]) (by simp [results, Tryd.results14, go_sem]) rfl ⟨_, rfl, ShAt.leaf _ _ _, Kept.alloc (Kept.refl [] w) _⟩

set_option maxHeartbeats 1600000 in
theorem pair_any (w : World) (base : Nat) (hb : base ≤ w.heap.size) (s t : Sh) (u v : Value) (hs : ShAt w base s u) (ht : ShAt w base t v) : Calls Tryd.prog 13 #[u, v] w (NewSh (.node (-1) [s, t]) base w) := by
  obtain ⟨lf, a, n, cp, rfl⟩ := hs.form
  obtain ⟨lf', a', n', cp', rfl⟩ := ht.form
  have HS := Lib.hid hs
  have HT := Lib.hid ht
  clear hs ht
  go_enter Tryd.func13, Tryd.ntmps13
  go_wp2
  have K := fun (A B C D : Obj) => Kept.alloc (Kept.alloc (Kept.alloc (Kept.alloc (Kept.refl [] w) A) B) C) D
  refine bodyPost_ret (v := .agg #[.int .i64 (-1), .slice (some ⟨w.heap.size + 1 + 1 + 1, 0, none⟩) 2 2]) (by simp [results, Tryd.results13, go_sem]) rfl ⟨_, rfl, ShAt.pair (-1) (Arr.new' (by simp) rfl) (by omega) (HS.out.kept (K _ _ _ _) (by simp)) (HT.out.kept (K _ _ _ _) (by simp)), K _ _ _ _⟩
end Go.Proofs.YtnfdbbjemlehnaaDoor
