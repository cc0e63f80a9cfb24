/- Is a shape large: it is told; which answer does not matter here. A leaf, a pair. -/
import Derived.Test.YtnfdbbjemlehnaaDoorQ
namespace Go.Proofs.YtnfdbbjemlehnaaDoor
open Go.RowKit

theorem ShAt.nth {w : World} {base : Nat} {lf : Int} {l : List Sh} {v : Value} (h : ShAt w base (.node lf l) v) : ∃ a cp, v = .agg #[.int .i64 lf, .slice a l.length cp] ∧ ∀ (j : Nat) (s : Sh), l[j]? = some s → ∃ b o x0 x1, a = some ⟨b, o, none⟩ ∧ b < w.heap.size ∧ w.cell? ⟨b, o + j * 2, none⟩ = some x0 ∧ w.cell? ⟨b, o + j * 2 + 1, none⟩ = some x1 ∧ ShAt w base s (.agg #[x0, x1]) := by
  cases h with
  | mk _ _ a cp c0 c1 ha hs =>
    refine ⟨a, cp, rfl, fun j s hj => ?_⟩
    have hlt : j < l.length := by
      rcases Nat.lt_or_ge j l.length with h | h
      · exact h
      · rw [List.getElem?_eq_none h] at hj; simp at hj
    obtain ⟨b, o, h1, _, h2, h3, h4⟩ := ha j hlt
    exact ⟨b, o, c0 j, c1 j, h1, h2, h3, h4, hs j s hj⟩

/-- A truth value is told. -/
def SomeBool (w : World) (en : Ending) (w' : World) : Prop := ∃ r, en = .returned (.bool r) ∧ Kept [] w w'

set_option maxHeartbeats 3200000 in
theorem large_any : ∀ (s : Sh) (w : World) (v : Value) (deep : Int), 0 ≤ deep → deep ≤ 21 → ShAt w 0 s v → Calls Tryd.prog 6 #[v, .int .i64 deep] w (SomeBool w) := by
  intro s
  refine Sh.ind (P := fun s => ∀ (w : World) (v : Value) (deep : Int), 0 ≤ deep → deep ≤ 21 → ShAt w 0 s v → Calls Tryd.prog 6 #[v, .int .i64 deep] w (SomeBool w)) ?_ s
  clear s
  intro lf l ih w v deep hd0 hd1 hv
  obtain ⟨a, cp, rfl, hn⟩ := hv.nth
  have HN := Lib.hid hn
  have IH := Lib.hid ih
  clear hv hn ih
  have K : Kept [] w (w.alloc (Obj.cells #[.int .i64 lf, .slice a l.length cp] 26)) := Kept.alloc (Kept.refl [] w) _
  have AS : Arr (w.alloc (Obj.cells #[.int .i64 lf, .slice a l.length cp] 26)) w.heap.size 26 [.int .i64 lf, .slice a l.length cp] := Arr.new' rfl rfl
  have HK := Lib.hid K
  have HAS := Lib.hid AS
  clear K AS
  by_cases hd : 20 < deep
  · go_enter Tryd.func6, Tryd.ntmps6
    go_wp2
    go_ret
    exact ⟨true, rfl, HK.out⟩
  · by_cases hl : (4 : Int) < (l.length : Int)
    · go_enter Tryd.func6, Tryd.ntmps6
      go_wp2
      go_ret
      exact ⟨true, rfl, Kept.alloc (Kept.refl [] w) _⟩
    · go_enter Tryd.func6, Tryd.ntmps6
      go_wp2
      generalize hbx : w.heap.size = bx at HAS ⊢
      generalize w.alloc (Obj.cells #[.int .i64 lf, .slice a l.length cp] 26) = w1 at *
      go_loopg [5] l.length (fun g i wr => ∃ k : Nat, k + g = l.length ∧ i = .int .i64 k ∧ Hid (Kept [] w1 wr))
      case atStart => exact ⟨0, by omega, rfl, Lib.hid (Kept.refl _ _)⟩
      case round =>
        obtain ⟨k, hk, rfl, hkp⟩ := hrel
        obtain ⟨wo, hwo⟩ : ∃ wo : World, wo = wr := ⟨_, rfl⟩
        subst hwo
        have A2 := HAS.out.kept hkp.out (by simp)
        have c1 := A2.cell (i := 1) rfl
        clear A2
        by_cases hlt : k < l.length
        · obtain ⟨s, hs⟩ : ∃ s, l[k]? = some s := ⟨l[k], by simp [hlt]⟩
          obtain ⟨b, o, x0, x1, rfl, hb, q0, q1, hsh⟩ := HN.out k s hs
          have q0 := ((HK.out.trans hkp.out).cell hb (by simp)).trans q0
          have q1 := ((HK.out.trans hkp.out).cell hb (by simp)).trans q1
          have HSH := Lib.hid (hsh.kept (HK.out.trans hkp.out) (by simp))
          have hk0 : (0 : Int) ≤ (k : Int) := by omega
          have hk1 : (k : Int) < (l.length : Int) := by omega
          have hmem := List.mem_of_getElem? hs
          have HM := Lib.hid hmem
          clear hs hsh hmem
          go_wp2_with fail
          refine (IH.out s HM.out _ _ _ (by omega) (by omega) HSH.out).mono ?_
          rintro e w2 ⟨r, rfl, hk2⟩
          have HK2 := Lib.hid hk2
          clear hk2
          cases r with
          | true =>
            go_wp2_with fail
            go_ret
            exact ⟨true, rfl, HK.out.trans (hkp.out.trans HK2.out)⟩
          | false =>
            go_wp2_with fail
            go_roundg (l.length - (k + 1))
            case measure => omega
            case rel => exact ⟨k + 1, by omega, by go_num, Lib.hid (hkp.out.trans HK2.out)⟩
        · obtain rfl : k = l.length := by omega
          go_wp2_with fail
          go_ret
          exact ⟨false, rfl, HK.out.trans hkp.out⟩
end Go.Proofs.YtnfdbbjemlehnaaDoor
