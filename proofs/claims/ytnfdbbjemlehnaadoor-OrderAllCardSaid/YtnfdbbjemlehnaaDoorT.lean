/- The library's counts of bits, of numbers below 64. -/
import Derived.Test.YtnfdbbjemlehnaaDoorA
namespace Go.Proofs.YtnfdbbjemlehnaaDoor
open Go.RowKit

/-- How many bits a number below 64 has; the place of its least one. -/
def pc (x : Nat) : Nat := (x % 2) + (x / 2 % 2) + (x / 4 % 2) + (x / 8 % 2) + (x / 16 % 2) + (x / 32 % 2)
def tz (x : Nat) : Nat := if x % 2 = 1 then 0 else if x / 2 % 2 = 1 then 1 else if x / 4 % 2 = 1 then 2 else if x / 8 % 2 = 1 then 3 else if x / 16 % 2 = 1 then 4 else 5

theorem tz_lt (x : Nat) : tz x < 64 := by
  unfold tz; repeat' split
  all_goals omega

def ones1 (x : Int) : Int := IntKind.u64.wrap (bits BinOp.and IntKind.u64 (x / 2) 6148914691236517205 + bits BinOp.and IntKind.u64 x 6148914691236517205)

set_option maxHeartbeats 800000 in
theorem ones64 (w : World) (x : Nat) (hx : x < 64) : Calls Tryd.prog 44 #[.int .u64 x] w fun e w' => e = .returned (.int .i64 (pc x : Nat)) ∧ w = w' := by
  have h0 : (0 : Int) ≤ x := by omega
  have h1 : (x : Int) < 64 := by omega
  go_enter Tryd.func44, Tryd.ntmps44
  go_wp2
  go_ret
  refine ⟨congrArg (fun n => Ending.returned (.int .i64 n)) ?_, rfl⟩
  clear h0 h1
  revert x
  decide +kernel

def tabI (x : Nat) : Nat := (IntKind.u64.wrap (bits BinOp.and IntKind.u64 (x : Int) (IntKind.u64.wrap (-(x : Int))) * 285870213051353865) / 288230376151711744).toNat
def tab64 : List Int := [0, 1, 56, 2, 57, 49, 28, 3, 61, 58, 42, 50, 38, 29, 17, 4, 62, 47, 59, 36, 45, 43, 51, 22, 53, 39, 33, 30, 24, 18, 12, 5, 63, 55, 48, 27, 60, 41, 37, 16, 46, 35, 44, 21, 52, 32, 23, 11, 54, 26, 40, 15, 34, 20, 31, 10, 25, 14, 19, 9, 13, 8, 7, 6]

theorem tabI_ok : ∀ x : Nat, x < 64 → IntKind.u64.wrap (bits BinOp.and IntKind.u64 (x : Int) (IntKind.u64.wrap (-(x : Int))) * 285870213051353865) / 288230376151711744 = (tabI x : Int) ∧ tabI x < 64 ∧ (0 < x → tab64[tabI x]? = some (tz x : Int)) := by decide +kernel

/-- The library's table lies where it was laid. -/
def Tab (w : World) : Prop := 1 < w.heap.size ∧ ∀ (k : Nat) (v : Int), tab64[k]? = some v → w.cell? ⟨1, k, none⟩ = some (.int .u8 v)

theorem Tab.kept {w w' : World} (h : Tab w) (k : Kept [] w w') : Tab w' :=
  ⟨Nat.lt_of_lt_of_le h.1 k.size, fun i v hv => (k.cell h.1 (by simp)).trans (h.2 i v hv)⟩

set_option maxHeartbeats 1000000 in
theorem tz64_core (x k idx : Nat) (w : World) (hx0 : ((x : Int) == 0) = false)
    (key : IntKind.u64.wrap (bits BinOp.and IntKind.u64 (x : Int) (IntKind.u64.wrap (-(x : Int))) * 285870213051353865) / 288230376151711744 = (idx : Int))
    (hi : idx < 64) (hk : k < 64) (hcell : w.cell? ⟨1, idx, none⟩ = some (.int .u8 k)) :
    Calls Tryd.prog 40 #[.int .u64 x] w fun e w' => e = .returned (.int .i64 k) ∧ w = w' := by
  go_enter Tryd.func40, Tryd.ntmps40
  go_wp2_with (simp only [key])
  go_ret
  exact ⟨rfl, rfl⟩

theorem tz64 (w : World) (hT : Tab w) (x : Nat) (hx : x < 64) (h2 : 0 < x) : Calls Tryd.prog 40 #[.int .u64 x] w fun e w' => e = .returned (.int .i64 (tz x : Nat)) ∧ w = w' := by
  obtain ⟨t1, t2, t3⟩ := tabI_ok x hx
  exact tz64_core x (tz x) (tabI x) w (by simp; omega) t1 t2 (tz_lt x) (hT.2 _ _ (t3 h2))

set_option maxHeartbeats 400000 in
theorem ones_any (w : World) (x : Nat) (hx : x < 64) : Calls Tryd.prog 42 #[.int .u64 x] w fun e w' => e = .returned (.int .i64 (pc x : Nat)) ∧ w = w' := by
  go_enter Tryd.func42, Tryd.ntmps42
  go_wp2_with (go_at_call 44; refine (ones64 _ x hx).mono ?_; rintro e w1 ⟨rfl, rfl⟩)
  go_ret
  exact ⟨rfl, rfl⟩

set_option maxHeartbeats 400000 in
theorem tz_any (w : World) (hT : Tab w) (x : Nat) (hx : x < 64) (h2 : 0 < x) : Calls Tryd.prog 31 #[.int .u64 x] w fun e w' => e = .returned (.int .i64 (tz x : Nat)) ∧ w = w' := by
  have HT := Lib.hid hT
  clear hT
  go_enter Tryd.func31, Tryd.ntmps31
  go_wp2_with (go_at_call 40; refine (tz64 _ HT.out x hx h2).mono ?_; rintro e w1 ⟨rfl, rfl⟩)
  go_ret
  exact ⟨rfl, rfl⟩

/-! ### 'and', 'or' and the like, of numbers that are not negative -/

theorem i64_wrap_nat (n : Nat) (h : n < 9223372036854775808) : IntKind.i64.wrap (n : Int) = (n : Int) := IntWalk.i64_in _ (by omega)

theorem ofInt64_nat (a : Nat) (ha : a < 9223372036854775808) : (BitVec.ofInt 64 (a : Int)).toNat = a := by
  simp [BitVec.toNat_ofInt]; omega

theorem and_nat (a b : Nat) (ha : a < 9223372036854775808) (hb : b < 9223372036854775808) : bits .and .i64 (a : Int) (b : Int) = ((a &&& b : Nat) : Int) := by
  have h : a &&& b < 9223372036854775808 := Nat.lt_of_le_of_lt Nat.and_le_left ha
  show IntKind.i64.wrap ((BitVec.ofInt 64 (a : Int) &&& BitVec.ofInt 64 (b : Int)).toNat : Int) = _
  rw [BitVec.toNat_and, ofInt64_nat a ha, ofInt64_nat b hb, i64_wrap_nat _ h]

theorem or_nat (a b : Nat) (ha : a < 4611686018427387904) (hb : b < 4611686018427387904) : bits .or .i64 (a : Int) (b : Int) = ((a ||| b : Nat) : Int) := by
  have h : a ||| b < 2 ^ 62 := Nat.or_lt_two_pow (by simpa using ha) (by simpa using hb)
  show IntKind.i64.wrap ((BitVec.ofInt 64 (a : Int) ||| BitVec.ofInt 64 (b : Int)).toNat : Int) = _
  rw [BitVec.toNat_or, ofInt64_nat a (by omega), ofInt64_nat b (by omega), i64_wrap_nat _ (by omega)]

end Go.Proofs.YtnfdbbjemlehnaaDoor
