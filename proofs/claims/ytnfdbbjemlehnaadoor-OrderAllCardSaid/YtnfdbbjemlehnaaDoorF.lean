/- How many rows and pages some leaves have. -/
import Derived.Test.YtnfdbbjemlehnaaDoorE
namespace Go.Proofs.YtnfdbbjemlehnaaDoor
open Go.RowKit

/-- Leaves and edges that may be. -/
structure Ok (gs es : List Pr) : Prop where
  n1 : 1 ≤ gs.length
  n6 : gs.length ≤ 6
  g : ∀ g ∈ gs, 0 ≤ g.k ∧ g.k ≤ 1099511627776 ∧ 0 ≤ g.t ∧ g.t ≤ 1099511627776
  e : ∀ e ∈ es, 0 ≤ e.k ∧ e.k < (gs.length : Int) ∧ 0 ≤ e.t ∧ e.t < (gs.length : Int) ∧ e.k ≠ e.t

def rows1 (set : Nat) : List Pr → Nat → Int → Int
  | [], _, n => n
  | g :: r, i, n => rows1 set r (i + 1) (if (set &&& bitN i) == 0 then n else min (n * g.k) 1099511627776)

def gkF (gs : List Pr) (i : Int) : Int := (gs[i.toNat]?.map Pr.k).getD 0
def byF (gs : List Pr) (e : Pr) : Int := max (max (gkF gs e.k) (gkF gs e.t)) 1

def rows2 (gs : List Pr) (set : Nat) : List Pr → Int → Int
  | [], n => n
  | e :: r, n => rows2 gs set r (if (set &&& (bitN e.k ||| bitN e.t)) = (bitN e.k ||| bitN e.t) then (n + byF gs e - 1) / byF gs e else n)

def rowsF (gs es : List Pr) (set : Nat) : Int := rows2 gs set es (rows1 set gs 0 1)

theorem wrapped_div (n b : Int) (h0 : 0 ≤ n) (h1 : n ≤ 1099511627776) (hb : 1 ≤ b) : 0 ≤ (n + b - 1) / b ∧ (n + b - 1) / b ≤ 1099511627776 := by
  refine ⟨Int.ediv_nonneg (by omega) (by omega), ?_⟩
  have h : n + b - 1 < (1099511627776 + 1) * b := by
    have h2 : 1099511627776 * 1 ≤ 1099511627776 * b := Int.mul_le_mul_of_nonneg_left hb (by omega)
    rw [Int.add_mul]
    have h3 : n + b - 1 < n * 1 + 1 * b := by omega
    have h4 : n * 1 ≤ 1099511627776 * b := by omega
    omega
  have := Int.ediv_lt_of_lt_mul (by omega) h
  omega

set_option maxHeartbeats 3200000 in
theorem rows_any (w : World) (lv ev : Value) (gs es : List Pr) (h : JAt w lv ev gs es) (ok : Ok gs es) (hb : es.length ≤ 1000) (set : Nat) (hs : set < 64) :
    Calls Tryd.prog 22 #[.agg #[lv, ev], .int .i64 set] w fun en w' => en = .returned (.int .i64 (rowsF gs es set)) ∧ 0 ≤ rowsF gs es set ∧ rowsF gs es set ≤ 1099511627776 ∧ Kept [] w w' := by
  obtain ⟨⟨al, cl, rfl, hl⟩, ⟨ae, ce, rfl, he⟩⟩ := h
  have HL := Lib.hid hl
  have HE := Lib.hid he
  have HO := Lib.hid ok
  have hn6 := ok.n6
  clear hl he ok
  go_enter Tryd.func22, Tryd.ntmps22
  go_wp2
  have A1 : Arr (w.alloc (Obj.cells #[Value.slice al gs.length cl, Value.slice ae es.length ce] 49)) w.heap.size 49 [Value.slice al gs.length cl, Value.slice ae es.length ce] := Arr.new _ _ _
  have K1 := Kept.alloc (Kept.refl [] w) (Obj.cells #[Value.slice al gs.length cl, Value.slice ae es.length ce] 49)
  generalize hw1 : w.alloc (Obj.cells #[Value.slice al gs.length cl, Value.slice ae es.length ce] 49) = w1 at *
  generalize hbx : w.heap.size = bx at A1 ⊢
  have A := Lib.hid A1
  have K := Lib.hid K1
  clear A1 K1 hw1 hbx
  go_loopg [5, 6, 7, 15] gs.length (fun g n i6 i7 i wr => ∃ (k : Nat) (m : Int), k + g = gs.length ∧ i = .int .i64 k ∧ n = .int .i64 m ∧ 0 ≤ m ∧ m ≤ 1099511627776 ∧ Hid (rows1 set (gs.drop k) k m = rows1 set gs 0 1) ∧ Hid (Kept [] w1 wr))
  case atStart => exact ⟨0, 1, by omega, rfl, rfl, by omega, by omega, Lib.hid rfl, Kept.refl _ _⟩
  case round =>
    obtain ⟨k, m, hk, rfl, rfl, hm0, hm1, hr, hkp⟩ := hrel
    obtain ⟨wo, hwo⟩ : ∃ wo : World, wo = wr := ⟨_, rfl⟩
    subst hwo
    by_cases hlt : k < gs.length
    · obtain ⟨g, hg⟩ : ∃ g, gs[k]? = some g := ⟨gs[k], by simp [hlt]⟩
      obtain ⟨b0, o0, rfl, hbs, x0, x1⟩ := HL.out k g hg
      have hd : gs.drop k = g :: gs.drop (k + 1) := by
        rw [List.drop_eq_getElem_cons hlt]
        congr
        rw [List.getElem?_eq_getElem hlt] at hg
        exact Option.some.inj hg
      have hgm := HO.out.g g (List.mem_of_getElem? hg)
      have hr' := hr.out
      rw [hd, rows1] at hr'
      have KW := K.out.trans hkp.out
      have x0 := (KW.cell hbs (by simp)).trans x0
      have x1 := (KW.cell hbs (by simp)).trans x1
      have hk0 : (0 : Int) ≤ (k : Int) := by omega
      have hk1 : (k : Int) < (gs.length : Int) := by omega
      obtain ⟨hg1, hg2, hg3, hg4⟩ := hgm
      have hbk := bitN_lt k
      have y1 := and_test set (bitN k) (by omega) (by omega)
      have hnn : 0 ≤ m * g.k := Int.mul_nonneg hm0 hg1
      clear hg hd hr KW hbk
      cases hq : (set &&& bitN (k : Int) == 0) with
      | true =>
        rw [hq] at y1
        rw [hq, if_pos rfl] at hr'
        have HR := Lib.hid hr'
        clear hq hr'
        go_wp2_with (first | (go_at_call 32; refine (bit_any _ _).mono ?_; rintro e w2 ⟨rfl, rfl⟩))
        go_roundg (gs.length - (k + 1))
        case measure => omega
        case rel => exact ⟨k + 1, m, by omega, by go_num, rfl, hm0, hm1, HR, Lib.hid (hkp.out.alloc _)⟩
      | false =>
        rw [hq] at y1
        rw [hq, if_neg (by simp)] at hr'
        have HR := Lib.hid hr'
        clear hq hr'
        go_wp2_with (first | (go_at_call 32; refine (bit_any _ _).mono ?_; rintro e w2 ⟨rfl, rfl⟩) | (go_at_call 33; refine (times_any _ _ _ _ (by omega) (by omega) (by omega) (by omega) (by omega) (by omega)).mono ?_; rintro e w2 ⟨rfl, rfl⟩))
        go_roundg (gs.length - (k + 1))
        case measure => omega
        case rel => exact ⟨k + 1, min (m * g.k) 1099511627776, by omega, by go_num, rfl, by omega, by omega, HR, Lib.hid (hkp.out.alloc _)⟩
    · obtain rfl : k = gs.length := by omega
      have hr' := hr.out
      rw [List.drop_length, rows1] at hr'
      have HR := Lib.hid hr'
      clear hr hr'
      have x0 := (hkp.out.cell A.out.lt (by simp)).trans (A.out.cell (i := 0) rfl)
      have x1 := (hkp.out.cell A.out.lt (by simp)).trans (A.out.cell (i := 1) rfl)
      go_wp2
      go_loopg [5, 9, 10, 11, 33] es.length (fun g n i9 i10 i11 i wr => ∃ (k : Nat) (m : Int), k + g = es.length ∧ i = .int .i64 k ∧ n = .int .i64 m ∧ 0 ≤ m ∧ m ≤ 1099511627776 ∧ Hid (rows2 gs set (es.drop k) m = rowsF gs es set) ∧ Hid (Kept [] w1 wr))
      case atStart => exact ⟨0, m, by omega, rfl, rfl, hm0, hm1, Lib.hid (by unfold rowsF; rw [← HR.out]; rfl), hkp⟩
      case round =>
        clear x0 x1 hkp HR hk
        obtain ⟨k, m, hk, rfl, rfl, hm0, hm1, hr, hkp⟩ := hrel
        obtain ⟨wo, hwo⟩ : ∃ wo : World, wo = wr := ⟨_, rfl⟩
        subst hwo
        by_cases hlt : k < es.length
        · obtain ⟨e, he⟩ : ∃ e, es[k]? = some e := ⟨es[k], by simp [hlt]⟩
          obtain ⟨b0, o0, rfl, hbs, x0, x1⟩ := HE.out k e he
          have hd : es.drop k = e :: es.drop (k + 1) := by
            rw [List.drop_eq_getElem_cons hlt]
            congr
            rw [List.getElem?_eq_getElem hlt] at he
            exact Option.some.inj he
          obtain ⟨e1, e2, e3, e4, e5⟩ := HO.out.e e (List.mem_of_getElem? he)
          have hr' := hr.out
          rw [hd, rows2] at hr'
          have KW := K.out.trans hkp.out
          have x0 := (KW.cell hbs (by simp)).trans x0
          have x1 := (KW.cell hbs (by simp)).trans x1
          have hk0 : (0 : Int) ≤ (k : Int) := by omega
          have hk1 : (k : Int) < (es.length : Int) := by omega
          have z0 := (hkp.out.cell A.out.lt (by simp)).trans (A.out.cell (i := 0) rfl)
          have z1 := (hkp.out.cell A.out.lt (by simp)).trans (A.out.cell (i := 1) rfl)
          have hbk := bitN_lt e.k
          have hbt := bitN_lt e.t
          have y1 := or_nat (bitN e.k) (bitN e.t) (by omega) (by omega)
          clear he hd hr
          have hB : bitN e.k ||| bitN e.t < 2 ^ 62 := Nat.or_lt_two_pow hbk hbt
          have hB2 : bitN e.k ||| bitN e.t < 9223372036854775808 := Nat.lt_of_lt_of_le hB (by decide)
          have y2 : (bits BinOp.and IntKind.i64 (set : Int) ((bitN e.k ||| bitN e.t : Nat) : Int) == ((bitN e.k ||| bitN e.t : Nat) : Int)) = decide ((set &&& (bitN e.k ||| bitN e.t)) = (bitN e.k ||| bitN e.t)) := by
            rw [and_nat _ _ (by omega) hB2, Bool.eq_iff_iff, beq_iff_eq, decide_eq_true_iff]; omega
          obtain ⟨ga, hga⟩ : ∃ ga, gs[e.k.toNat]? = some ga := ⟨gs[e.k.toNat], by rw [List.getElem?_eq_getElem]⟩
          obtain ⟨gb, hgb⟩ : ∃ gb, gs[e.t.toNat]? = some gb := ⟨gs[e.t.toNat], by rw [List.getElem?_eq_getElem]⟩
          obtain ⟨a1, a2, _, _⟩ := HO.out.g ga (List.mem_of_getElem? hga)
          obtain ⟨b1, b2, _, _⟩ := HO.out.g gb (List.mem_of_getElem? hgb)
          have hby : byF gs e = max (max ga.k gb.k) 1 := by simp [byF, gkF, hga, hgb]
          rw [hby] at hr'
          obtain ⟨bl, ol, rfl, hls, q0, _⟩ := HL.out e.k.toNat ga hga
          obtain ⟨bl2, ol2, hal, _, q1, _⟩ := HL.out e.t.toNat gb hgb
          simp only [Option.some.injEq, Addr.mk.injEq, and_true] at hal
          obtain ⟨rfl, rfl⟩ := hal
          have q0 := (KW.cell hls (by simp)).trans q0
          have q1 := (KW.cell hls (by simp)).trans q1
          have hls2 := Nat.lt_of_lt_of_le hls KW.size
          have hbx2 := Nat.lt_of_lt_of_le A.out.lt hkp.out.size
          have hdv := wrapped_div m (max (max ga.k gb.k) 1) hm0 hm1 (by omega)
          have HD := Lib.hid hdv
          clear KW hB hB2 hga hgb hby hdv hbk hbt
          by_cases hq : (set &&& (bitN e.k ||| bitN e.t)) = (bitN e.k ||| bitN e.t)
          · rw [if_pos hq] at hr'
            rw [decide_eq_true hq] at y2
            have HR := Lib.hid hr'
            clear hr' hq
            go_wp2
            go_quiet (first | (go_at_call 32; refine Calls.quiet_of_same ((bit_any _ _).mono fun _ _ h => ⟨h.1, h.2.symm⟩)))
            have KQ : Kept [] wo ((wo.alloc (Obj.cells #[Value.int IntKind.i64 e.k, Value.int IntKind.i64 e.t] 39)).drewN nq) := (Kept.alloc (Kept.refl [] wo) _).drewN nq
            have q0 := (KQ.cell hls2 (by simp)).trans q0
            have q1 := (KQ.cell hls2 (by simp)).trans q1
            have z0 := (KQ.cell hbx2 (by simp)).trans z0
            have z1 := (KQ.cell hbx2 (by simp)).trans z1
            have AN : Arr ((wo.alloc (Obj.cells #[Value.int IntKind.i64 e.k, Value.int IntKind.i64 e.t] 39)).drewN nq) wo.heap.size 39 [Value.int IntKind.i64 e.k, Value.int IntKind.i64 e.t] := Arr.new _ _ _
            have n0 := AN.cell (i := 0) rfl
            have n1 := AN.cell (i := 1) rfl
            have hnb := AN.lt
            have HK := Lib.hid (hkp.out.trans KQ)
            generalize hbn : wo.heap.size = bn at n0 n1 hnb ⊢
            generalize ((wo.alloc (Obj.cells #[Value.int IntKind.i64 e.k, Value.int IntKind.i64 e.t] 39)).drewN nq) = w2 at *
            clear KQ AN hbn x0 x1
            go_wp2
            go_region
            have hmx : (if (if ga.k < gb.k then gb.k else ga.k) < 1 then 1 else if ga.k < gb.k then gb.k else ga.k) = max (max ga.k gb.k) 1 := by
              repeat' split
              all_goals omega
            rw [hmx]
            have hM0 : 1 ≤ max (max ga.k gb.k) 1 := by omega
            have hM1 : max (max ga.k gb.k) 1 ≤ 1099511627776 := by omega
            clear hmx
            generalize max (max ga.k gb.k) 1 = M at *
            have hnn : 0 ≤ m + M - 1 := by omega
            go_wp2
            go_roundg (es.length - (k + 1))
            case measure => omega
            case rel => exact ⟨k + 1, (m + M - 1) / M, by omega, by go_num, rfl, HD.out.1, HD.out.2, HR, Lib.hid HK.out.drew⟩
          · rw [if_neg hq] at hr'
            rw [decide_eq_false hq] at y2
            have HR := Lib.hid hr'
            clear hr' hq
            go_wp2
            go_quiet (first | (go_at_call 32; refine Calls.quiet_of_same ((bit_any _ _).mono fun _ _ h => ⟨h.1, h.2.symm⟩)))
            go_wp2
            go_roundg (es.length - (k + 1))
            case measure => omega
            case rel => exact ⟨k + 1, m, by omega, by go_num, rfl, hm0, hm1, HR, Lib.hid ((hkp.out.alloc _).drewN _)⟩
        · obtain rfl : k = es.length := by omega
          have hr' := hr.out
          rw [List.drop_length, rows2] at hr'
          have HR := Lib.hid hr'
          have HK := Lib.hid (K.out.trans hkp.out)
          clear hr hr'
          go_wp2
          go_ret
          rw [← HR.out]
          exact ⟨rfl, hm0, hm1, HK.out⟩
end Go.Proofs.YtnfdbbjemlehnaaDoor
