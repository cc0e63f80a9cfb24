/- Small functions on numbers. -/
import Derived.Test.YtnfdbbjemlehnaaDoorRows
import Derived.Test.YtnfdbbjemlehnaaDoorBase
import Derived.Deep.RegionHeld3
import Derived.Deep.QuietTactic
import Derived.BigQuiet
import Derived.WalkSpells
import Derived.WalkLawsBesides
import Derived.Deep.LoopGhost
import Derived.Deep.DeepCutAuto
import Derived.Deep.CutBlock
import Derived.Deep.AppendLies
import Derived.Deep.Slices
import Derived.Deep.OwnRows
namespace Go.Proofs.YtnfdbbjemlehnaaDoor
open Go.RowKit

/-- A leaf's bit. -/
def bitN (i : Int) : Nat := if i < 0 ∨ 62 ≤ i then 0 else 2 ^ i.toNat

theorem bitN_lt (i : Int) : bitN i < 2 ^ 62 := by
  unfold bitN; split
  · decide
  · exact Nat.pow_lt_pow_right (by omega) (by omega)

set_option maxHeartbeats 400000 in
theorem bit_any (w : World) (i : Int) : Calls Tryd.prog 32 #[.int .i64 i] w fun e w' => e = .returned (.int .i64 (bitN i)) ∧ w = w' := by
  by_cases h1 : i < 0
  · have hb : bitN i = 0 := by unfold bitN; rw [if_pos (.inl h1)]
    rw [hb]
    clear hb
    go_enter Tryd.func32, Tryd.ntmps32
    go_wp2
    go_ret
    exact ⟨rfl, rfl⟩
  · by_cases h2 : 62 ≤ i
    · have hb : bitN i = 0 := by unfold bitN; rw [if_pos (.inr h2)]
      rw [hb]
      clear hb
      go_enter Tryd.func32, Tryd.ntmps32
      go_wp2
      go_ret
      exact ⟨rfl, rfl⟩
    · obtain ⟨k, rfl⟩ := Int.eq_ofNat_of_zero_le (show 0 ≤ i by omega)
      have hb : bitN (k : Int) = 2 ^ k := by unfold bitN; rw [if_neg (by omega)]; simp
      have hw : wrap64 ((2 : Int) ^ k) = ((2 ^ k : Nat) : Int) := by
        have := bitN_lt k
        rw [hb] at this
        rw [show ((2 : Int) ^ k) = ((2 ^ k : Nat) : Int) by simp]
        generalize 2 ^ k = B at *
        unfold wrap64; omega
      have HW := Lib.hid hw
      have HB := Lib.hid hb
      clear hb hw
      go_enter Tryd.func32, Tryd.ntmps32
      go_wp2
      go_ret
      exact ⟨by rw [HB.out, ← HW.out]; rfl, rfl⟩

end Go.Proofs.YtnfdbbjemlehnaaDoor
