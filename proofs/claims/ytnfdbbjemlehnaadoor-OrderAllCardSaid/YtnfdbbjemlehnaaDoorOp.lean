/- How the arguments are read: pairs, shapes; the laid tables. -/
import Derived.Test.YtnfdbbjemlehnaaDoorLeast
import Derived.ProofKit
import Derived.OpenShut
import Derived.Deep.Strs
import Derived.Deep.Slices
import Derived.SizedLaws
import Derived.LaidMore
import Derived.Lay
import Derived.Lib.LaidTab
import Derived.Stop.LaidErr
import Derived.Stop.Joined
namespace Go.Proofs.YtnfdbbjemlehnaaDoor
open Go.ChangeShapes Go.WideShapes Go.ChangeAt Go.RowKit

theorem Tryd.own : ownKnob Tryd.prog.godebug = none := by kernel_rfl
theorem Tryd.laidOut : laidOutB Tryd.prog = true := by kernel_rfl
theorem Tryd.cells3 : Tryd.prog.cellsOf 3 = 1 := by kernel_rfl
theorem Tryd.cells5 : Tryd.prog.cellsOf 5 = 1 := by kernel_rfl
theorem Tryd.cells24 : Tryd.prog.cellsOf 24 = 1 := by kernel_rfl
theorem Tryd.cells26 : Tryd.prog.cellsOf 26 = 2 := by kernel_rfl
theorem Tryd.cells39 : Tryd.prog.cellsOf 39 = 2 := by kernel_rfl
theorem Tryd.cells43 : Tryd.prog.cellsOf 43 = 2 := by kernel_rfl
theorem Tryd.cells79 : Tryd.prog.cellsOf 79 = 64 := by kernel_rfl

theorem add_none (b o n : Nat) : Addr.add ⟨b, o, none⟩ n = ⟨b, o + n, none⟩ := by
  unfold Addr.add
  split
  · subst_vars; rfl
  · rfl

theorem cells_head {w : World} {base : Nat} {a : Addr} {n : Nat} {cs : List Value} (h : w.cells? base (a.add 0) n = some cs) (hn : 0 < n) : a = ⟨a.block, a.off, none⟩ ∧ a.block < w.heap.size := by
  obtain ⟨_, hlen, hc⟩ := World.cells?_some h
  have h0 := hc 0 hn
  have hx : cs[0]? = some cs[0] := by simp [show 0 < cs.length by omega]
  rw [hx] at h0
  obtain ⟨b, o, sp⟩ := a
  have hs := World.cell?_spot h0
  simp [Addr.add] at hs
  subst hs
  refine ⟨rfl, ?_⟩
  have := World.block_lt_of_cell? w _ h0; simpa [Addr.add] using this

theorem cells_at {w : World} {base b o m n : Nat} {cs : List Value} (h : w.cells? base (Addr.add ⟨b, o, none⟩ m) n = some cs) : ∀ (i : Nat) (v : Value), cs[i]? = some v → w.cell? ⟨b, o + m + i, none⟩ = some v := by
  obtain ⟨_, hlen, hc⟩ := World.cells?_some h
  intro i v hv
  have hi : i < cs.length := by rcases Nat.lt_or_ge i cs.length with h | h; exact h; simp [List.getElem?_eq_none h] at hv
  have := hc i (by omega)
  rw [add_none, add_none] at this
  rw [this, hv]

theorem guess_form {H : Type} {enc : TypeId × Value → H} {w : World} {base : Nat} {spare : Nat → Bool} {held : Bool} {fuel : Nat} {cs : List Value} {x : DataW H × List MemPlace}
    (h : DataW.trod enc Tryd.prog w base spare held fuel 43 cs = some x) : ∃ k t : Int, cs = [.int .i64 k, .int .i64 t] := by
  obtain ⟨z0, z1, n', _, hl', g0, g1⟩ := trod_struct2 Tryd.underlying43 h
  simp only [Tryd.cells3, Tryd.cells43] at hl' g0 g1
  obtain ⟨k, hk, _, _⟩ := DataW.trod_int Tryd.underlying3 g0
  obtain ⟨t, ht, _, _⟩ := DataW.trod_int Tryd.underlying3 g1
  match cs, hl' with
  | [c0, c1], _ =>
    simp at hk ht
    exact ⟨k, t, by rw [hk, ht]⟩

theorem edge_form {H : Type} {enc : TypeId × Value → H} {w : World} {base : Nat} {spare : Nat → Bool} {held : Bool} {fuel : Nat} {cs : List Value} {x : DataW H × List MemPlace}
    (h : DataW.trod enc Tryd.prog w base spare held fuel 39 cs = some x) : ∃ k t : Int, cs = [.int .i64 k, .int .i64 t] := by
  obtain ⟨xs, m, _, _, hl, hx, hel⟩ := DataW.trod_array Tryd.underlying39 h
  rw [Tryd.cells39] at hl
  have g0 := hel 0 (by omega)
  have g1 := hel 1 (by omega)
  rw [Tryd.cells3, List.getElem?_eq_getElem (by omega)] at g0 g1
  obtain ⟨k, hk, _, _⟩ := DataW.trod_int Tryd.underlying3 g0
  obtain ⟨t, ht, _, _⟩ := DataW.trod_int Tryd.underlying3 g1
  match cs, hl with
  | [c0, c1], _ =>
    simp at hk ht
    exact ⟨k, t, by rw [hk, ht]⟩

theorem pairs_open {e t : TypeId} (hf : ∀ {H : Type} {enc : TypeId × Value → H} {w : World} {base : Nat} {spare : Nat → Bool} {held : Bool} {fuel : Nat} {cs : List Value} {x : DataW H × List MemPlace}, DataW.trod enc Tryd.prog w base spare held fuel e cs = some x → ∃ k t : Int, cs = [.int .i64 k, .int .i64 t])
    (hu : Tryd.prog.underlying t = some (.slice e)) (hc : Tryd.prog.cellsOf e = 2)
    {H : Type} {enc : TypeId × Value → H} {w : World} {base : Nat} {spare : Nat → Bool} {held : Bool} {fuel : Nat} {cs : List Value} {x : DataW H × List MemPlace}
    (h : DataW.trod enc Tryd.prog w base spare held fuel t cs = some x) : ∃ v ps, cs = [v] ∧ PairsAt w v ps := by
  rcases Deep.open_slice hu h with ⟨rfl, _⟩ | ⟨a, len, cap, m, n, D, Pl, rfl, _, hl, _, hm, rfl, hx⟩
  · exact ⟨_, [], rfl, none, 0, rfl, by simp⟩
  · have hlm : len ≤ m := by rw [hm]; split <;> omega
    obtain ⟨F, hF⟩ := Deep.choose_lt (n := len) (α := Pr) (p := fun i p => ∃ cs', w.cells? base (a.add (i * 2)) 2 = some cs' ∧ cs' = [.int .i64 p.k, .int .i64 p.t]) (fun i hi => by
      obtain ⟨cs', h1, h2⟩ := hx i (by omega)
      rw [hc] at h1
      obtain ⟨k, t, e⟩ := hf h2
      exact ⟨⟨k, t⟩, cs', h1, e⟩)
    refine ⟨_, (List.range len).map F, rfl, some a, cap, by simp, ?_⟩
    intro j p hj
    simp only [List.getElem?_map, Option.map_eq_some_iff] at hj
    obtain ⟨i, hi, rfl⟩ := hj
    obtain ⟨hjl, rfl⟩ : j < len ∧ i = j := by
      have hjl : j < len := by
        rcases Nat.lt_or_ge j len with h | h
        · exact h
        · rw [List.getElem?_eq_none (by simpa using h)] at hi; simp at hi
      rw [List.getElem?_range hjl] at hi
      simp at hi
      exact ⟨hjl, hi.symm⟩
    obtain ⟨c0, h0, _⟩ := hF 0 (by omega)
    rw [Nat.zero_mul] at h0
    obtain ⟨ea, hb⟩ := cells_head h0 (by omega)
    obtain ⟨cs', h1, rfl⟩ := hF i hjl
    rw [ea] at h1
    have hc := cells_at h1
    exact ⟨a.block, a.off, by rw [← ea], hb, hc 0 _ rfl, hc 1 _ rfl⟩

instance : Inhabited Sh := ⟨.node 0 []⟩

theorem shape_open : ∀ {H : Type} {enc : TypeId × Value → H} {w : World} {base : Nat} {spare : Nat → Bool} {held : Bool} (fuel : Nat) {cs : List Value} {x : DataW H × List MemPlace},
    DataW.trod enc Tryd.prog w base spare held fuel 26 cs = some x → ∃ s lf a n cp, cs = [.int .i64 lf, .slice a n cp] ∧ ShAt w 0 s (.agg #[.int .i64 lf, .slice a n cp]) := by
  intro H enc w base spare held fuel
  induction fuel using Nat.strongRecOn with
  | _ fuel ih =>
  intro cs x h
  obtain ⟨xs, n', rfl, _, hl, hlen, hel⟩ := DataW.trod_struct Tryd.underlying26 h
  have g0 := hel 0 _ rfl
  have g1 := hel 1 _ rfl
  change DataW.trod _ _ _ _ _ _ _ 3 ((cs.drop 0).take (Tryd.prog.cellsOf 3)) = _ at g0
  change DataW.trod _ _ _ _ _ _ _ 24 ((cs.drop 1).take (Tryd.prog.cellsOf 24)) = _ at g1
  simp only [Tryd.cells3, Tryd.cells24, Tryd.cells26] at hl g0 g1
  have hlen2 : xs.length = 2 := hlen
  rw [List.getElem?_eq_getElem (by omega)] at g0 g1
  obtain ⟨lf, hk, _, _⟩ := DataW.trod_int Tryd.underlying3 g0
  match cs, hl with
  | [c0, c1], _ =>
    simp at hk
    subst hk
    simp at g1
    rcases DataW.trod_slice Tryd.underlying24 g1 with ⟨h1, _⟩ | ⟨a, len, cap, elems, rest, n, rfl, h1, _, _, _, _, hel1, hel2, _, _⟩
    · simp at h1
      subst h1
      exact ⟨.node lf [], lf, none, 0, 0, rfl, ShAt.leaf _ _ _⟩
    · simp at h1
      subst h1
      have each : ∀ i, i < len → ∃ p : Sh × Value × Value, w.cells? base (a.add (i * 2)) 2 = some [p.2.1, p.2.2] ∧ ShAt w 0 p.1 (.agg #[p.2.1, p.2.2]) := by
        intro i hi
        have hk := hel2 i hi
        rw [List.getElem?_eq_getElem (by omega), Tryd.cells26] at hk
        obtain ⟨cs', h2, h3⟩ := Option.bind_eq_some_iff.1 hk
        obtain ⟨s, lf', a', n'', cp', rfl, hs⟩ := ih n (by omega) h3
        exact ⟨⟨s, _, _⟩, h2, hs⟩
      obtain ⟨F, hF⟩ := Deep.choose_lt (n := len) (α := Sh × Value × Value) (p := fun i p => w.cells? base (a.add (i * 2)) 2 = some [p.2.1, p.2.2] ∧ ShAt w 0 p.1 (.agg #[p.2.1, p.2.2])) each
      refine ⟨.node lf ((List.range len).map fun i => (F i).1), lf, some a, len, cap, rfl, ?_⟩
      have hll : ((List.range len).map fun i => (F i).1).length = len := by simp
      have key : ShAt w 0 (.node lf ((List.range len).map fun i => (F i).1)) (.agg #[.int .i64 lf, .slice (some a) ((List.range len).map fun i => (F i).1).length cap]) := by
        refine ShAt.mk lf _ (some a) cap (fun i => (F i).2.1) (fun i => (F i).2.2) (fun j hj => ?_) (fun j s hs => ?_)
        · rw [hll] at hj
          obtain ⟨h0, _⟩ := hF 0 (by omega)
          rw [Nat.zero_mul] at h0
          obtain ⟨ea, hb⟩ := cells_head h0 (by omega)
          obtain ⟨h1, _⟩ := hF j hj
          rw [ea] at h1
          have hc := cells_at h1
          exact ⟨a.block, a.off, by rw [← ea], Nat.zero_le _, hb, hc 0 _ rfl, hc 1 _ rfl⟩
        · have hj : j < len := by
            rcases Nat.lt_or_ge j len with h | h
            · exact h
            · rw [List.getElem?_eq_none (by simpa using h)] at hs; simp at hs
          rw [List.getElem?_map, List.getElem?_range hj] at hs
          simp at hs
          subst hs
          exact (hF j hj).2
      rw [hll] at key
      exact key

theorem tab_of_laid {W : World} {l : List (String × DataW Unit)} (hl : l = [("math/bits.deBruijn32tab", Rows.laid_math_bits_deBruijn32tab), ("math/bits.deBruijn64tab", Rows.laid_math_bits_deBruijn64tab)]) (h : laidMetH Tryd.prog l W) : Tab W := by
  subst hl
  rw [MakeChecks.laidMetH_plain _ _ _ (by kernel_rfl)] at h
  have h2 := laidMet.tail h
  have ht : Lib.TabIs Tryd.prog W "math/bits.deBruijn64tab" .u8 tab64 := Lib.tabIs_of_head (P := Tryd.prog) (g := 1) (t := 79) (e := 5) (n := 64) (by kernel_rfl) (by kernel_rfl) Tryd.underlying79 Tryd.underlying5 Tryd.cells5 Tryd.cells79 h2
  have hc : ∀ (k : Nat) (v : Int), tab64[k]? = some v → W.cell? ⟨1, k, none⟩ = some (.int .u8 v) := by
    intro k v hv
    have hk : k < tab64.length := by
      rcases Nat.lt_or_ge k tab64.length with h | h
      · exact h
      · rw [List.getElem?_eq_none h] at hv; simp at hv
    have := ht.cell (g := 1) (by kernel_rfl) k hk
    rw [this]
    simp [List.getD, hv]
  exact ⟨World.block_lt_of_cell? W _ (hc 0 0 rfl), hc⟩
end Go.Proofs.YtnfdbbjemlehnaaDoor
