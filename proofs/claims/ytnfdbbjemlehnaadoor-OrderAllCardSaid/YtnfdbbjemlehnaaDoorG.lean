/- How many pages some leaves have; what a step costs. -/
import Derived.Test.YtnfdbbjemlehnaaDoorF
namespace Go.Proofs.YtnfdbbjemlehnaaDoor
open Go.RowKit

theorem pc_one : ∀ x : Nat, x < 64 → pc x = 1 → 0 < x ∧ ∀ n : Nat, n < 7 → x < 2 ^ n → tz x < n := by decide +kernel

def pagesF (gs es : List Pr) (set : Nat) : Int := if pc set = 1 then (gs[tz set]?.map Pr.t).getD 0 else (rowsF gs es set + 9) / 10

/-- What the steps of a join need. -/
structure Join (w : World) (lv ev : Value) (gs es : List Pr) : Prop where
  at_ : JAt w lv ev gs es
  ok : Ok gs es
  lb : es.length ≤ 1000
  tab : Tab w

theorem Join.kept {w w' : World} {lv ev : Value} {gs es : List Pr} (h : Join w lv ev gs es) (k : Kept [] w w') : Join w' lv ev gs es := ⟨h.at_.kept k, h.ok, h.lb, h.tab.kept k⟩

set_option maxHeartbeats 1600000 in
theorem pages_any (w : World) (lv ev : Value) (gs es : List Pr) (h : Join w lv ev gs es) (set : Nat) (hs : set < 2 ^ gs.length) :
    Calls Tryd.prog 38 #[.agg #[lv, ev], .int .i64 set] w fun en w' => en = .returned (.int .i64 (pagesF gs es set)) ∧ 0 ≤ pagesF gs es set ∧ pagesF gs es set ≤ 1099511627776 ∧ Kept [] w w' := by
  have hlt : set < 64 := Nat.lt_of_lt_of_le hs (Nat.pow_le_pow_right (by decide) h.ok.n6 : 2 ^ gs.length ≤ 2 ^ 6)
  have hset : IntKind.u64.wrap (set : Int) = (set : Int) := by rw [IntKind.wrap_u64]; omega
  by_cases hp : pc set = 1
  · obtain ⟨h0, h1⟩ := pc_one set hlt hp
    have htz := h1 gs.length (by have := h.ok.n6; omega) hs
    obtain ⟨g, hg⟩ : ∃ g, gs[tz set]? = some g := ⟨gs[tz set], by rw [List.getElem?_eq_getElem]⟩
    have hv : pagesF gs es set = g.t := by simp [pagesF, hp, hg]
    obtain ⟨_, _, g1, g2⟩ := h.ok.g g (List.mem_of_getElem? hg)
    rw [hv]
    obtain ⟨al, cl, rfl, hl⟩ := h.at_.l
    obtain ⟨b0, o0, rfl, hbs, x0, x1⟩ := hl _ g hg
    have H := Lib.hid h
    have hpi : ((pc set : Nat) : Int) = 1 := by omega
    have htz2 : ((tz set : Nat) : Int) < (gs.length : Int) := by omega
    clear h hg hv hp h1 hs hl
    go_enter Tryd.func38, Tryd.ntmps38
    go_wp2_with (go_at_call 42; refine (ones_any _ set hlt).mono ?_; rintro e w1 ⟨rfl, rfl⟩)
    have K := Kept.alloc (Kept.refl [] w) (Obj.cells #[Value.slice (some ⟨b0, o0, none⟩) gs.length cl, ev] 49)
    have HK := Lib.hid K
    have x1 := (K.cell hbs (by simp)).trans x1
    have hbs2 := Nat.lt_of_lt_of_le hbs K.size
    clear K
    have AN : Arr (w.alloc (Obj.cells #[Value.slice (some ⟨b0, o0, none⟩) gs.length cl, ev] 49)) w.heap.size 49 [Value.slice (some ⟨b0, o0, none⟩) gs.length cl, ev] := Arr.new _ _ _
    have n0 := AN.cell (i := 0) rfl
    have hnb := AN.lt
    clear AN
    generalize hbn : w.heap.size = bn at n0 hnb ⊢
    generalize (w.alloc (Obj.cells #[Value.slice (some ⟨b0, o0, none⟩) gs.length cl, ev] 49)) = w2 at *
    clear hbn
    go_quiet (first | (go_at_call 31; refine Calls.quiet_of_same ((tz_any _ (H.out.tab.kept (HK.out.drewN _)) set hlt h0).mono fun _ _ h => ⟨h.1, h.2.symm⟩)))
    go_wp2
    go_ret
    exact ⟨rfl, g1, g2, HK.out.drewN _⟩
  · have hv : pagesF gs es set = (rowsF gs es set + 9) / 10 := by simp [pagesF, hp]
    rw [hv]
    have hpi : (((pc set : Nat) : Int) == 1) = false := by simp; omega
    have H := Lib.hid h
    clear h hp hv hs
    go_enter Tryd.func38, Tryd.ntmps38
    have K := Kept.alloc (Kept.refl [] w) (Obj.cells #[lv, ev] 49)
    have HK := Lib.hid K
    clear K
    go_wp2_with (first | (go_at_call 42; refine (ones_any _ set hlt).mono ?_; rintro e w1 ⟨rfl, rfl⟩) | (go_at_call 22; refine (rows_any _ lv ev gs es (H.out.at_.kept HK.out) H.out.ok H.out.lb set hlt).mono ?_; rintro e w1 ⟨rfl, hr0, hr1, hk1⟩; have HK1 := Lib.hid hk1; clear hk1; have hr2 : 0 ≤ rowsF gs es set + 9 := (by omega)))
    go_ret
    exact ⟨rfl, by omega, by omega, HK.out.trans HK1.out⟩

end Go.Proofs.YtnfdbbjemlehnaaDoor
