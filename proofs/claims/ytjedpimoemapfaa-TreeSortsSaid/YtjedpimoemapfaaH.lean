/- Lists of pairs in memory; large, same -/
import Derived.Test.YtjedpimoemapfaaE
import Derived.Test.YtjedpimoemapfaaMg
namespace Go.Proofs.Ytjedpimoemapfaa
open Go.RowKit

/-- A slice value reads as a list of pairs. -/
def PairsAt (w : World) (v : Value) (ps : List Pr) : Prop :=
  ∃ a cap, v = .slice a ps.length cap ∧ ∀ (j : Nat) (p : Pr), ps[j]? = some p → ∃ b o, a = some ⟨b, o, none⟩ ∧ b < w.heap.size ∧ w.cell? ⟨b, o + j * 2, none⟩ = some (.int .i64 p.k) ∧ w.cell? ⟨b, o + j * 2 + 1, none⟩ = some (.int .i64 p.t)

/-- A slice value reads as a list of lists of pairs. -/
def RowsAt (w : World) (v : Value) (rows : List (List Pr)) : Prop :=
  ∃ a cap, v = .slice a rows.length cap ∧ ∀ (r : Nat) (ps : List Pr), rows[r]? = some ps → ∃ b o rv, a = some ⟨b, o, none⟩ ∧ b < w.heap.size ∧ w.cell? ⟨b, o + r, none⟩ = some rv ∧ PairsAt w rv ps

theorem PairsAt.kept {w w' : World} {v : Value} {ps : List Pr} (h : PairsAt w v ps) (k : Kept [] w w') : PairsAt w' v ps := by
  obtain ⟨a, cap, hv, h⟩ := h
  refine ⟨a, cap, hv, fun j p hp => ?_⟩
  obtain ⟨b, o, h1, h2, h3, h4⟩ := h j p hp
  exact ⟨b, o, h1, Nat.lt_of_lt_of_le h2 k.size, (k.cell h2 (by simp)).trans h3, (k.cell h2 (by simp)).trans h4⟩

theorem RowsAt.kept {w w' : World} {v : Value} {rows : List (List Pr)} (h : RowsAt w v rows) (k : Kept [] w w') : RowsAt w' v rows := by
  obtain ⟨a, cap, hv, h⟩ := h
  refine ⟨a, cap, hv, fun r ps hp => ?_⟩
  obtain ⟨b, o, rv, h1, h2, h3, h4⟩ := h r ps hp
  exact ⟨b, o, rv, h1, Nat.lt_of_lt_of_le h2 k.size, (k.cell h2 (by simp)).trans h3, h4.kept k⟩

theorem total_take (rows : List (List Pr)) (k : Nat) (ps : List Pr) (h : rows[k]? = some ps) : total (rows.take (k + 1)) = total (rows.take k) + ps.length := by
  rw [List.take_add_one, h]; simp [total]

theorem total_take_le (rows : List (List Pr)) (k : Nat) : total (rows.take k) ≤ total rows := by
  have h : total (rows.take k ++ rows.drop k) = total (rows.take k) + total (rows.drop k) := by simp only [total, List.map_append, List.sum_append]
  rw [List.take_append_drop] at h
  omega

theorem total_small (rows : List (List Pr)) (M : Nat) (h : ∀ ps ∈ rows, ps.length ≤ M) (k : Nat) : total (rows.take k) ≤ k * M := by
  induction k with
  | zero => simp [total]
  | succ k ih =>
    rcases Nat.lt_or_ge k rows.length with hk | hk
    · rw [total_take rows k rows[k] (by simp [hk])]
      have := h rows[k] (List.getElem_mem hk)
      rw [Nat.succ_mul]; omega
    · rw [List.take_of_length_le (by omega)]
      rw [List.take_of_length_le (by omega)] at ih
      rw [Nat.succ_mul]; omega

def largeB (rows : List (List Pr)) : Bool := decide (100 < rows.length ∨ 2000 < total rows)

set_option maxHeartbeats 400000 in
theorem large_any (w : World) (v : Value) (rows : List (List Pr)) (h : RowsAt w v rows) (hm : ∀ ps ∈ rows, ps.length ≤ 8796093022208) (hb : rows.length ≤ 8796093022208) :
    Calls Try.prog 14 #[v] w fun e w' => e = .returned (.bool (largeB rows)) ∧ w = w' := by
  obtain ⟨a, cap, rfl, h⟩ := h
  have H := Lib.hid h
  have HM := Lib.hid hm
  clear h hm
  by_cases hl : 100 < rows.length
  · have hlv : largeB rows = true := by simp [largeB, hl]
    have HL := Lib.hid hlv
    clear hlv
    have hl' : (100 : Int) < (rows.length : Int) := by omega
    go_enter Try.func14, Try.ntmps14
    go_wp2
    go_ret
    exact ⟨by rw [HL.out]; rfl, rfl⟩
  · have hlv : largeB rows = decide (2000 < total rows) := by simp [largeB, hl]
    have HL := Lib.hid hlv
    clear hlv
    have hl' : ¬ (100 : Int) < (rows.length : Int) := by omega
    go_enter Try.func14, Try.ntmps14
    go_wp2
    go_loopg [3, 4] rows.length (fun g n i wr => ∃ k : Nat, k + g = rows.length ∧ i = .int .i64 k ∧ n = .int .i64 (total (rows.take k)) ∧ wr = w)
    case atStart => exact ⟨0, by omega, rfl, rfl, rfl⟩
    case round =>
      obtain ⟨k, hk, rfl, rfl, rfl⟩ := hrel
      have htk := total_small rows _ HM.out k
      have htk2 : k * 8796093022208 ≤ 100 * 8796093022208 := Nat.mul_le_mul_right _ (by omega)
      by_cases hlt : k < rows.length
      · obtain ⟨ps, hps⟩ : ∃ ps, rows[k]? = some ps := ⟨rows[k], by simp [hlt]⟩
        obtain ⟨b, o, rv, rfl, hbs, hrv, a2, cap2, rfl, hps2⟩ := H.out k ps hps
        have hc := total_take rows k ps hps
        have hml := HM.out ps (List.mem_of_getElem? hps)
        have HC := Lib.hid hc
        have hk1 : (k : Int) < (rows.length : Int) := by omega
        generalize hT : total (rows.take k) = T at *
        have hT1 : (T : Int) ≤ 879609302220800 := by omega
        have hT2 : (ps.length : Int) ≤ 8796093022208 := by omega
        clear hc hT hps2 hps htk htk2
        go_wp2
        go_roundg (rows.length - (k + 1))
        case measure => omega
        case rel => exact ⟨k + 1, by omega, by go_num, by rw [HC.out]; go_num, rfl⟩
      · obtain rfl : k = rows.length := by omega
        rw [List.take_length] at *
        go_wp2
        go_ret
        exact ⟨by rw [HL.out]; simp; omega, rfl⟩

set_option maxHeartbeats 400000 in
theorem same_yes (w : World) (v u : Value) (ps : List Pr) (h : PairsAt w v ps) (h' : PairsAt w u ps) (hb : ps.length ≤ 8796093022208) :
    Calls Try.prog 16 #[v, u] w fun e w' => e = .returned (.bool true) ∧ Kept [] w w' := by
  obtain ⟨a, cap, rfl, h⟩ := h
  obtain ⟨a', cap', rfl, h'⟩ := h'
  have H := Lib.hid h
  have H' := Lib.hid h'
  clear h h'
  have hd2 : (((ps.length : Nat) : Int) != ((ps.length : Nat) : Int)) = false := by simp
  go_enter Try.func16, Try.ntmps16
  go_wp2
  go_loopg [5] ps.length (fun g i wr => ∃ k : Nat, k + g = ps.length ∧ i = .int .i64 k ∧ Hid (Kept [] w wr))
  case atStart => exact ⟨0, by omega, rfl, Kept.refl _ _⟩
  case round =>
    obtain ⟨k, hk, rfl, hkp⟩ := hrel
    by_cases hlt : k < ps.length
    · obtain ⟨p, hp⟩ : ∃ p, ps[k]? = some p := ⟨ps[k], by simp [hlt]⟩
      obtain ⟨b, o, rfl, hbs, x0, x1⟩ := H.out k p hp
      obtain ⟨b', o', rfl, hbs', y0, y1⟩ := H'.out k p hp
      have x0 := (hkp.out.cell hbs (by simp)).trans x0
      have x1 := (hkp.out.cell hbs (by simp)).trans x1
      have y0 := (hkp.out.cell hbs' (by simp)).trans y0
      have y1 := (hkp.out.cell hbs' (by simp)).trans y1
      have hk0 : (0 : Int) ≤ (k : Int) := by omega
      have hk1 : (k : Int) < (ps.length : Int) := by omega
      clear hp
      go_wp2
      go_quiet (fail)
      go_wp2
      go_roundg (ps.length - (k + 1))
      case measure => omega
      case rel => exact ⟨k + 1, by omega, by go_num, hkp.out.drewN _⟩
    · obtain rfl : k = ps.length := by omega
      go_wp2
      go_ret
      exact ⟨rfl, hkp.out⟩

end Go.Proofs.Ytjedpimoemapfaa
