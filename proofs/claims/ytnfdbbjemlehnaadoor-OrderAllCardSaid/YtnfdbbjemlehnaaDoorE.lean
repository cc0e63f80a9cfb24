/- Edges between sets of leaves; sums and products with a cap. -/
import Derived.Test.YtnfdbbjemlehnaaDoorD
namespace Go.Proofs.YtnfdbbjemlehnaaDoor
open Go.RowKit

set_option maxHeartbeats 800000 in
theorem edge_any (w : World) (lv ev : Value) (es : List Pr) (hP : PairsAt w ev es) (hb : es.length ≤ 1000) (a b : Nat) (ha : a < 64) (hb2 : b < 64) :
    Calls Tryd.prog 34 #[.agg #[lv, ev], .int .i64 a, .int .i64 b] w fun en w' => en = .returned (.bool (edgeF es a b)) ∧ Kept [] w w' := by
  have H := Lib.hid hP
  clear hP
  go_enter Tryd.func34, Tryd.ntmps34
  go_wp2_with fail
  have K := Kept.alloc (Kept.alloc (Kept.alloc (Kept.refl [] w) (Obj.cells #[lv, ev] 49)) (Obj.cells #[.int .i64 ↑a] 3)) (Obj.cells #[.int .i64 ↑b] 3)
  refine (any41 _ ev es (H.out.kept K) hb (w.heap.size + 1) (w.heap.size + 1 + 1) a b ha hb2 (Arr.alloc (Arr.new' (by simp) rfl) _) (Arr.new' (by simp) rfl)).mono ?_
  rintro e w1 ⟨rfl, hk1⟩
  have HK := Lib.hid (K.trans hk1)
  clear K hk1
  go_wp2
  go_ret
  exact ⟨rfl, HK.out⟩

/-- A slice value reads as a list of numbers. -/
def IntsAt (w : World) (v : Value) (ns : List Int) : Prop :=
  ∃ a cap, v = .slice a ns.length cap ∧ ∀ (j : Nat) (n : Int), ns[j]? = some n → ∃ b o, a = some ⟨b, o, none⟩ ∧ b < w.heap.size ∧ w.cell? ⟨b, o + j, none⟩ = some (.int .i64 n)

theorem IntsAt.kept {w w' : World} {v : Value} {ns : List Int} (h : IntsAt w v ns) (k : Kept [] w w') : IntsAt w' v ns := by
  obtain ⟨a, cap, hv, h⟩ := h
  refine ⟨a, cap, hv, fun j p hp => ?_⟩
  obtain ⟨b, o, h1, h2, h3⟩ := h j p hp
  exact ⟨b, o, h1, Nat.lt_of_lt_of_le h2 k.size, (k.cell h2 (by simp)).trans h3⟩

def maxCost : Int := 9007199254740991
def cap (n : Int) : Int := min n maxCost

theorem sum_take_le (ns : List Int) (h : ∀ n ∈ ns, 0 ≤ n) (k : Nat) : (ns.take k).sum ≤ ns.sum := by
  induction ns generalizing k with
  | nil => simp
  | cons a r ih =>
    cases k with
    | zero =>
      have := ih (fun n hn => h n (by simp [hn])) 0
      have := h a (by simp)
      simp only [List.take_zero, List.sum_nil, List.sum_cons] at *
      omega
    | succ k =>
      have := ih (fun n hn => h n (by simp [hn])) k
      simp only [List.take_succ_cons, List.sum_cons] at *
      omega

set_option maxHeartbeats 800000 in
theorem plus_any (w : World) (v : Value) (ns : List Int) (h : IntsAt w v ns) (hl : ns.length ≤ 1000) (hn : ∀ n ∈ ns, 0 ≤ n ∧ n ≤ 9007199254740991) :
    Calls Tryd.prog 29 #[v] w fun en w' => en = .returned (.int .i64 (cap ns.sum)) ∧ w = w' := by
  obtain ⟨a, cp, rfl, h⟩ := h
  have H := Lib.hid h
  have HN := Lib.hid hn
  clear h hn
  go_enter Tryd.func29, Tryd.ntmps29
  go_wp2
  go_loopg [3, 5, 8] ns.length (fun g o i5 i wr => ∃ (k : Nat) (s : Int), k + g = ns.length ∧ i = .int .i64 k ∧ o = .int .i64 s ∧ s ≤ 9007199254740991 ∧ 0 ≤ s ∧ Hid (s = (ns.take k).sum) ∧ w = wr)
  case atStart => exact ⟨0, 0, by omega, rfl, rfl, by omega, by omega, Lib.hid (by simp), rfl⟩
  case round =>
    obtain ⟨k, s, hk, rfl, rfl, hs1, hs2, hs, rfl⟩ := hrel
    by_cases hlt : k < ns.length
    · obtain ⟨n, hn⟩ : ∃ n, ns[k]? = some n := ⟨ns[k], by simp [hlt]⟩
      obtain ⟨b0, o0, rfl, hbs, x0⟩ := H.out k n hn
      have hk0 : (0 : Int) ≤ (k : Int) := by omega
      have hk1 : (k : Int) < (ns.length : Int) := by omega
      have hn2 := HN.out n (List.mem_of_getElem? hn)
      have htk : ns.take (k + 1) = ns.take k ++ [n] := by rw [List.take_add_one, hn]; rfl
      have hst : (ns.take (k + 1)).sum = s + n := by rw [htk, hs.out]; simp
      have hle := sum_take_le ns (fun n h => (HN.out n h).1) (k + 1)
      rw [hst] at hle
      have HS := Lib.hid hst
      clear hn htk hst
      obtain ⟨hn3, hn4⟩ := hn2
      by_cases hov : 9007199254740991 - n < s
      · have HL := Lib.hid hle
        have HO := Lib.hid hov
        clear hle
        go_wp2
        go_ret
        have h1 := HL.out
        have h2 := HO.out
        refine ⟨?_, rfl⟩
        show _ = Ending.returned (Value.int IntKind.i64 (cap ns.sum))
        unfold cap maxCost
        rw [Int.min_eq_right (by omega)]
        rfl
      · have hw : IntKind.i64.wrap (s + n) = s + n := IntWalk.i64_in _ (by omega)
        go_wp2
        go_roundg (ns.length - (k + 1))
        case measure => omega
        case rel => exact ⟨k + 1, s + n, by omega, by go_num, by go_num, by omega, by omega, HS.out.symm, rfl⟩
    · obtain rfl : k = ns.length := by omega
      rw [List.take_length] at *
      go_wp2
      go_ret
      refine ⟨?_, rfl⟩
      have h1 := hs.out
      show _ = Ending.returned (Value.int IntKind.i64 (cap ns.sum))
      unfold cap maxCost
      rw [Int.min_eq_left (by omega), ← h1]
      rfl

theorem times_test (a b most : Int) (ha : 0 < a) (hb : 0 ≤ b) (hm : 0 ≤ most) : (most / a < b) ↔ most < a * b := by
  rw [Int.ediv_lt_iff_lt_mul ha, Int.mul_comm]

set_option maxHeartbeats 800000 in
theorem times_any (w : World) (a b most : Int) (ha : 0 ≤ a) (hb : 0 ≤ b) (hm : 0 ≤ most) (ha2 : a ≤ 9007199254740991) (hb2 : b ≤ 9007199254740991) (hm2 : most ≤ 9007199254740991) :
    Calls Tryd.prog 33 #[.int .i64 a, .int .i64 b, .int .i64 most] w fun en w' => en = .returned (.int .i64 (min (a * b) most)) ∧ w = w' := by
  by_cases h0 : a = 0
  · subst h0
    have hb' : min (0 * b) most = 0 := by rw [Int.zero_mul]; omega
    rw [hb']
    go_enter Tryd.func33, Tryd.ntmps33
    go_wp2
    go_ret
    exact ⟨by simp, rfl⟩
  · have h1 := times_test a b most (by omega) hb hm
    have hne : (a == 0) = false := by simp [h0]
    by_cases h2 : most < a * b
    · have h3 := h1.mpr h2
      have h4 : min (a * b) most = most := by omega
      rw [h4]
      clear h1 h2 h4
      go_enter Tryd.func33, Tryd.ntmps33
      go_wp2
      go_ret
      exact ⟨rfl, rfl⟩
    · have h3 : ¬ (most / a < b) := fun h => h2 (h1.mp h)
      have h4 : min (a * b) most = a * b := by omega
      have h5 : 0 ≤ a * b := Int.mul_nonneg ha hb
      have hw : IntKind.i64.wrap (a * b) = a * b := IntWalk.i64_in _ (by omega)
      rw [h4]
      clear h1 h4
      go_enter Tryd.func33, Tryd.ntmps33
      go_wp2
      go_ret
      exact ⟨rfl, rfl⟩

end Go.Proofs.YtnfdbbjemlehnaaDoor
