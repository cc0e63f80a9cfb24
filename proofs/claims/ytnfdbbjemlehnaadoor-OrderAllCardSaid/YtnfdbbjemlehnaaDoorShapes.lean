/- All shapes of some leaves, walked. -/
import Derived.Test.YtnfdbbjemlehnaaDoorShp
namespace Go.Proofs.YtnfdbbjemlehnaaDoor
open Go.RowKit

theorem flat_len {α β γ : Type} (Y : List β) (g : α → β → γ) : ∀ X : List α, (X.flatMap fun x => Y.map (g x)).length = X.length * Y.length
  | [] => by simp
  | x :: r => by
    rw [List.flatMap_cons, List.length_append, flat_len Y g r, List.length_map, List.length_cons, Nat.succ_mul]; omega

def ShapesPost (L : List Sh) (w : World) (en : Ending) (w' : World) : Prop := ∃ v, en = .returned v ∧ RowSh w' w.heap.size v L (fun b => w.heap.size ≤ b) ∧ Kept [] w w'

theorem shl_pow (k : Nat) (h : k < 62) : wrap64 ((2 : Int) ^ k) = ((2 ^ k : Nat) : Int) := by
  have h2 : 2 ^ k < 2 ^ 62 := Nat.pow_lt_pow_right (by decide) h
  rw [show ((2 : Int) ^ k) = ((2 ^ k : Nat) : Int) by simp]
  generalize 2 ^ k = B at *
  unfold wrap64; omega

theorem Tryd.info26 : (Tryd.prog.info? 26).map (fun i => (i.zero, i.size, i.bytes)) = some (some (.agg #[.int .i64 0, .slice none 0 0]), 2, 32) := by kernel_rfl

theorem own_slice {w : World} {base e size n : Nat} {v : Value} {xs : List Value} (h : w.ownsRow base e size v n xs) : ∃ a cap, v = .slice a n cap := by
  rcases h.2 with ⟨rfl, h0⟩ | ⟨g, cap, cur, rfl, _⟩
  · subst h0; exact ⟨_, _, rfl⟩
  · exact ⟨_, _, rfl⟩

theorem RowSh.one {w : World} {base b : Nat} {x0 x1 : Value} {s : Sh} {P : Nat → Prop} (h : Arr w b 26 [x0, x1]) (hb : base ≤ b) (hs : ShP w P s (.agg #[x0, x1])) : RowSh w base (.slice (some ⟨b, 0, none⟩) 1 1) [s] P := by
  refine ⟨[x0, x1], own_new h rfl hb (by simp [maxLen]), fun j t hj => ?_⟩
  match j, hj with
  | 0, hj => simp at hj; subst hj; exact ⟨x0, x1, rfl, rfl, hs⟩
  | j + 1, hj => simp at hj

def Av (h : Nat) (ov : Value) (b : Nat) : Prop := h ≤ b ∧ ov.ownBlock ≠ some b

structure Sta (h : Nat) (wi : World) (ov xv yv : Value) (L X Y : List Sh) : Prop where
  o : RowSh wi h ov L (Av h ov)
  x : RowSh wi h xv X (Av h ov)
  y : RowSh wi h yv Y (Av h ov)
  sx : ∀ g, ov.ownBlock = some g → xv.ownBlock ≠ some g
  sy : ∀ g, ov.ownBlock = some g → yv.ownBlock ≠ some g

theorem RowSh.block {w : World} {base : Nat} {v : Value} {L : List Sh} {P : Nat → Prop} (h : RowSh w base v L P) {g : Nat} (hg : v.ownBlock = some g) : base ≤ g ∧ g < w.heap.size := by
  obtain ⟨xs, h1, _⟩ := h
  exact own_base h1 hg

theorem Sta.kept {h : Nat} {w w' : World} {ov xv yv : Value} {L X Y : List Sh} (s : Sta h w ov xv yv L X Y) (k : Kept [] w w') : Sta h w' ov xv yv L X Y :=
  ⟨s.o.next k (by simp) (by simp) (fun _ h _ => h), s.x.next k (by simp) (by simp) (fun _ h _ => h), s.y.next k (by simp) (by simp) (fun _ h _ => h), s.sx, s.sy⟩

theorem Sta.push {h : Nat} {wi wb w3 : World} {ov xv yv : Value} {L X Y : List Sh} {s : Sh} {x0 x1 : Value} {xs : List Value} {g n cap : Nat} (S : Sta h wi ov xv yv L X Y) (hk : Kept [] wi wb) (hs : ShP wb (Av h ov) s (.agg #[x0, x1]))
    (hxs : wi.ownsRow h 26 2 ov L.length xs) (hel : ∀ j s, L[j]? = some s → ∃ x0 x1, xs[j * 2]? = some x0 ∧ xs[j * 2 + 1]? = some x1 ∧ ShP wi (Av h ov) s (.agg #[x0, x1]))
    (hown : w3.ownsRow h 26 2 (.slice (some ⟨g, 0, none⟩) n cap) (L.length + 1) (xs ++ [x0, x1])) (hgrow : wb.grownBy w3 ov.ownBlock) (hat : ov.ownBlock = some g ∨ g = wb.heap.size) :
    Sta h w3 (.slice (some ⟨g, 0, none⟩) n cap) xv yv (L ++ [s]) X Y := by
  have kg := grown_kept hgrow
  have avS : ∀ x, Av h ov x → x ∉ ov.ownBlock.toList := fun x hx => nmem_of hx.2
  have avQ : ∀ x, Av h ov x → x < wb.heap.size → Av h (.slice (some ⟨g, 0, none⟩) n cap) x := by
    intro x hx hlt
    refine ⟨hx.1, fun e => ?_⟩
    simp only [Value.ownBlock, Option.some.injEq] at e
    rcases hat with ha | ha
    · exact hx.2 (by rw [ha, e])
    · omega
  have S' := S.kept hk
  have sepx : ∀ q, xv.ownBlock = some q → q ∉ ov.ownBlock.toList := fun q hq hm => by
    have : ov.ownBlock = some q := by simpa using hm
    exact S.sx q this hq
  have sepy : ∀ q, yv.ownBlock = some q → q ∉ ov.ownBlock.toList := fun q hq hm => by
    have : ov.ownBlock = some q := by simpa using hm
    exact S.sy q this hq
  have hl := hxs.1
  refine ⟨RowSh.snoc hown hl (fun j t hj => ?_) (hs.next kg avS avQ), S'.x.next kg sepx avS avQ, S'.y.next kg sepy avS avQ, ?_, ?_⟩
  · obtain ⟨y0, y1, e0, e1, hp⟩ := hel j t hj
    exact ⟨y0, y1, e0, e1, (hp.next hk (by simp) (fun _ h _ => h)).next kg avS avQ⟩
  · intro q hq hx
    simp only [Value.ownBlock, Option.some.injEq] at hq
    subst hq
    rcases hat with ha | ha
    · exact S.sx g ha hx
    · have := (S'.x.block hx).2; omega
  · intro q hq hx
    simp only [Value.ownBlock, Option.some.injEq] at hq
    subst hq
    rcases hat with ha | ha
    · exact S.sy g ha hx
    · have := (S'.y.block hx).2; omega

theorem take_snoc' {α : Type} (l : List α) (k : Nat) (x : α) (h : l[k]? = some x) : l.take (k + 1) = l.take k ++ [x] := by
  rw [List.take_add_one, h]; rfl

set_option maxHeartbeats 6400000 in
set_option maxRecDepth 100000 in
theorem shapes_any : ∀ (f : Nat) (_ : f < 17) (set : Nat) (_ : 1 ≤ set) (_ : set ≤ f) (_ : set < 16) (w : World), Calls Tryd.prog 11 #[.int .i64 set] w (ShapesPost (shapesF f set) w) := by
  intro f
  induction f with
  | zero => intro _ set h1 h2; omega
  | succ f ih =>
    intro hf set h1 h2 h3 w
    have IH := Lib.hid ih
    obtain ⟨i0, hi0, hz0, hz1, hz2⟩ := info_parts Tryd.info26
    have HI := Lib.hid (And.intro hi0 (And.intro hz0 (And.intro hz1 hz2)))
    clear ih hi0 hz0 hz1 hz2
    have i1 : (set : Int) < 16 := by omega
    have i2 : (0 : Int) < (set : Int) := by omega
    go_enter Tryd.func11, Tryd.ntmps11
    go_wp2_with fail
    go_loopg [3] 6 (fun g v3 wr => ∃ k : Nat, k + g = 6 ∧ v3 = .int .i64 k ∧ Hid (wr = w) ∧ Hid (∀ j, j < k → set ≠ 2 ^ j))
    case atStart => exact ⟨0, by omega, rfl, Lib.hid rfl, Lib.hid (fun j hj => by omega)⟩
    case round =>
      obtain ⟨k, hk, rfl, hw, hn⟩ := hrel
      by_cases hlt : k < 6
      · have hs := shl_pow k (by omega)
        by_cases he : set = 2 ^ k
        · have hOne := one_back k hlt
          rw [← he] at hOne
          have hres := shapesF_one f set hOne.1
          have HR := Lib.hid hres
          have HO := Lib.hid hOne
          have ht : ((set : Int) == wrap64 ((2 : Int) ^ k)) = true := by rw [hs, he]; simp
          clear hres hOne hs he
          go_wp2_with fail
          refine (leaf_p _ _ (fun b => w.heap.size ≤ b)).mono ?_
          rintro e w2 ⟨v, rfl, hs, hk2⟩
          obtain ⟨lf, a, n, cp, rfl⟩ := hs.form
          have hw' := hw.out
          subst hw'
          have HS := Lib.hid hs
          have HK2 := Lib.hid hk2
          clear hs hk2 hw
          go_wp2_with fail
          go_ret
          refine ⟨_, rfl, ?_, HK2.out.alloc _⟩
          rw [HR.out, HO.out.2]
          exact RowSh.one (Arr.new' rfl rfl) HK2.out.size (HS.out.next ((Kept.refl [] w2).alloc _) (by simp) (fun _ h _ => h))
        · have ht : ((set : Int) == wrap64 ((2 : Int) ^ k)) = false := by rw [hs, beq_eq_false_iff_ne]; omega
          have hn' : ∀ j, j < k + 1 → set ≠ 2 ^ j := fun j hj => by
            rcases Nat.eq_or_lt_of_le (Nat.le_of_lt_succ hj) with e | e
            · rw [e]; exact he
            · exact hn.out j e
          have HN := Lib.hid hn'
          clear hn' hs he
          go_wp2_with fail
          go_roundg (6 - (k + 1))
          case measure => omega
          case rel => exact ⟨k + 1, by omega, by go_num, hw, HN⟩
      · obtain rfl : k = 6 := by omega
        have hw' := hw.out
        subst hw'
        obtain ⟨wo, hwo⟩ : ∃ wo : World, wo = wr := ⟨_, rfl⟩
        subst hwo
        have hmany : ¬ pc set = 1 := fun e => by
          obtain ⟨j, hj, he⟩ := one_form set h3 e
          exact hn.out j hj he
        have HR := Lib.hid (shapesF_many f set hmany)
        clear hw hn hmany
        go_wp2_with fail
        go_loopg [4, 5] (set - 1) (fun g v4 v5 wr => ∃ (a : Nat) (ov : Value), a + g = set ∧ 1 ≤ a ∧ v5 = .int .i64 a ∧ v4 = ov ∧ Hid (RowSh wr wo.heap.size ov (accF f set (a - 1)) (Av wo.heap.size ov)) ∧ Hid (Kept [] wo wr))
        case atStart => exact ⟨1, _, by omega, by omega, rfl, rfl, Lib.hid (RowSh.nil _ _ _), Lib.hid (Kept.refl _ _)⟩
        case round =>
          obtain ⟨a, ov, ha, ha1, rfl, hov, hrow, hkp⟩ := hrel
          subst hov
          obtain ⟨w1, hw1⟩ : ∃ w1 : World, w1 = wr := ⟨_, rfl⟩
          subst hw1
          by_cases hlt : a < set
          · have ia1 : (a : Int) < (set : Int) := by omega
            have ia0 : (0 : Int) ≤ (a : Int) := by omega
            have hac := accF_succ f set (a - 1)
            rw [show a - 1 + 1 = a by omega] at hac
            have hlen := shapes_len (f + 1) hf set h3
            rw [HR.out] at hlen
            have hle := accF_le f set a (set - 1) (by omega)
            have hand := and_nat a set (by omega) (by omega)
            by_cases hsub : a &&& set = a
            · have hra : rowA f set a = (shapesF f a).flatMap fun x => (shapesF f (set - a)).map fun y => .node (-1) [x, y] := by unfold rowA; rw [if_pos hsub]
              rw [hra] at hac
              have hb : (bits BinOp.and IntKind.i64 (a : Int) (set : Int) != (a : Int)) = false := by rw [hand, hsub]; simp
              have hX := shapes_len f (by omega) a (by omega)
              have hY := shapes_len f (by omega) (set - a) (by omega)
              have HX := Lib.hid hX
              have HY := Lib.hid hY
              have HAC := Lib.hid hac
              have HLEN := Lib.hid (Nat.le_trans hle hlen)
              have HSUB := Lib.hid (show (set : Int) - (a : Int) = ((set - a : Nat) : Int) by omega)
              clear hra hac hlen hle hand hsub hX hY
              go_wp2_with fail
              refine (IH.out (by omega) a (by omega) (by omega) (by omega) _).mono ?_
              rintro e w2 ⟨xv, rfl, hx, hk2⟩
              have HX2 := Lib.hid hx
              have HK2 := Lib.hid hk2
              have hsub2 := HSUB.out
              clear hx hk2
              go_wp2_with fail
              refine (IH.out (by omega) (set - a) (by omega) (by omega) (by omega) _).mono ?_
              rintro e w3 ⟨yv, rfl, hy, hk3⟩
              obtain ⟨xs0, xo1, xo2⟩ := HX2.out
              obtain ⟨ax, cx, hxv⟩ := own_slice xo1
              obtain ⟨ys0, yo1, yo2⟩ := hy
              obtain ⟨ay, cy, hyv⟩ := own_slice yo1
              have hS0 : Sta wo.heap.size w3 u4 xv yv (accF f set (a - 1)) (shapesF f a) (shapesF f (set - a)) := by
                have hb1 : ∀ g, u4.ownBlock = some g → g < w1.heap.size := fun g hg => (hrow.out.block hg).2
                have z1 := hkp.out.size
                have z2 := HK2.out.size
                have z3 := hk3.size
                refine ⟨(hrow.out.next (HK2.out.trans hk3) (by simp) (by simp) (fun _ h _ => h)), ?_, ?_, ?_, ?_⟩
                · exact (HX2.out.base z1).next hk3 (by simp) (by simp) (fun b hb _ => ⟨by omega, fun e => by have := hb1 b e; omega⟩)
                · exact RowSh.next (S := []) (RowSh.base ⟨ys0, yo1, yo2⟩ (by omega)) (Kept.refl [] _) (by simp) (by simp) (fun b hb _ => ⟨by omega, fun e => by have := hb1 b e; omega⟩)
                · intro g hg hx; have := hb1 g hg; have := (HX2.out.block hx).1; omega
                · intro g hg hx; have := hb1 g hg; have := (own_base yo1 hx).1; omega
              have HS0 := Lib.hid hS0
              have HK3 := Lib.hid (hkp.out.trans (HK2.out.trans hk3))
              subst hxv hyv
              clear hS0 hk3 HK2 HX2 xo1 xo2 yo1 yo2 hsub2 HSUB hrow hkp
              generalize shapesF f a = X at *
              generalize shapesF f (set - a) = Y at *
              have hXl : (X.length : Int) ≤ 120 := by have := HX.out; omega
              have hYl : (Y.length : Int) ≤ 120 := by have := HY.out; omega
              go_wp2_with fail
              go_loopg [4, 8] X.length (fun g v4 v8 wr => ∃ (i : Nat) (ov : Value), i + g = X.length ∧ v8 = .int .i64 i ∧ v4 = ov ∧ Hid (Sta wo.heap.size wr ov (.slice ax X.length cx) (.slice ay Y.length cy) (accF f set (a - 1) ++ (X.take i).flatMap fun x => Y.map fun y => .node (-1) [x, y]) X Y) ∧ Hid (Kept [] wo wr))
              case atStart => exact ⟨0, _, by omega, rfl, rfl, by simpa using HS0, HK3⟩
              case round =>
                obtain ⟨i, ov, hi, rfl, hov, hst, hkp⟩ := hrel
                subst hov
                obtain ⟨w4, hw4⟩ : ∃ w4 : World, w4 = wr := ⟨_, rfl⟩
                subst hw4
                by_cases hlt3 : i < X.length
                · obtain ⟨x, hx⟩ : ∃ x, X[i]? = some x := ⟨X[i], by simp [hlt3]⟩
                  have hi0 : (0 : Int) ≤ (i : Int) := by omega
                  have hi1 : (i : Int) < (X.length : Int) := by omega
                  have HXI := Lib.hid hx
                  have HTS := Lib.hid (take_snoc' X i x hx)
                  have hlen2 : ((X.take i).flatMap fun x => Y.map fun y => Sh.node (-1) [x, y]).length ≤ 120 * 120 := by
                    rw [flat_len]
                    exact Nat.mul_le_mul (Nat.le_trans (List.length_take_le' _ _) HX.out) HY.out
                  have HL2 := Lib.hid hlen2
                  have HLA := Lib.hid (Nat.le_trans (accF_le f set (a - 1) a (by omega)) HLEN.out)
                  clear hx hlen2
                  go_wp2_with fail
                  go_loopg [4, 9] Y.length (fun g v4 v9 wr => ∃ (k : Nat) (ov : Value), k + g = Y.length ∧ v9 = .int .i64 k ∧ v4 = ov ∧ Hid (Sta wo.heap.size wr ov (.slice ax X.length cx) (.slice ay Y.length cy) ((accF f set (a - 1) ++ (X.take i).flatMap fun x => Y.map fun y => .node (-1) [x, y]) ++ (Y.take k).map fun y => .node (-1) [x, y]) X Y) ∧ Hid (Kept [] wo wr))
                  case atStart => exact ⟨0, _, by omega, rfl, rfl, by simpa using hst, hkp⟩
                  case round =>
                    obtain ⟨k, ov, hk, rfl, hov, hst, hkp⟩ := hrel
                    subst hov
                    obtain ⟨w5, hw5⟩ : ∃ w5 : World, w5 = wr := ⟨_, rfl⟩
                    subst hw5
                    by_cases hlt4 : k < Y.length
                    · obtain ⟨y, hy⟩ : ∃ y, Y[k]? = some y := ⟨Y[k], by simp [hlt4]⟩
                      have hk0 : (0 : Int) ≤ (k : Int) := by omega
                      have hk1 : (k : Int) < (Y.length : Int) := by omega
                      have HTK := Lib.hid (take_snoc' Y k y hy)
                      obtain ⟨g1, cap1, lf1, a1, n1, cp1, e1, _, hg1, p0, p1, hs1⟩ := hst.out.x.at HXI.out
                      obtain ⟨g2, cap2, lf2, a2, n2, cp2, e2, _, hg2, q0, q1, hs2⟩ := hst.out.y.at hy
                      simp only [Value.slice.injEq, true_and] at e1 e2
                      obtain ⟨rfl, rfl⟩ := e1
                      obtain ⟨rfl, rfl⟩ := e2
                      have HS1 := Lib.hid hs1
                      have HS2 := Lib.hid hs2
                      have HST := Lib.hid hst.out
                      have HKP := Lib.hid hkp.out
                      have HLN : Hid (((accF f set (a - 1) ++ (X.take i).flatMap fun x => Y.map fun y => Sh.node (-1) [x, y]) ++ (Y.take k).map fun y => Sh.node (-1) [x, y]).length ≤ 15000) := by
                        have h1 := HLA.out
                        have h2 := HL2.out
                        have h3 : (Y.take k).length ≤ k := List.length_take_le _ _
                        have h4 : ((accF f set (a - 1) ++ (X.take i).flatMap fun x => Y.map fun y => Sh.node (-1) [x, y]) ++ (Y.take k).map fun y => Sh.node (-1) [x, y]).length = (accF f set (a - 1)).length + ((X.take i).flatMap fun x => Y.map fun y => Sh.node (-1) [x, y]).length + (Y.take k).length := by
                          rw [List.length_append, List.length_append, List.length_map]
                        have h5 := HY.out
                        show _ ≤ _
                        omega
                      have n1' := nmem_of (show u4.ownBlock ≠ some g1 from fun e => hst.out.sx g1 e rfl)
                      have n2' := nmem_of (show u4.ownBlock ≠ some g2 from fun e => hst.out.sy g2 e rfl)
                      generalize hLL : (accF f set (a - 1) ++ (X.take i).flatMap fun x => Y.map fun y => Sh.node (-1) [x, y]) ++ (Y.take k).map (fun y => Sh.node (-1) [x, y]) = LL at *
                      have HLL := Lib.hid hLL
                      obtain ⟨xs, o1, o2⟩ := HST.out.o
                      have HO1 := Lib.hid o1
                      have HO2 := Lib.hid o2
                      have HN1 := Lib.hid n1'
                      have HN2 := Lib.hid n2'
                      clear hy hs1 hs2 hst hkp hLL o1 o2 n1' n2'
                      go_wp2_with fail
                      have sk := Kept.refl [] w5
                      go_region_held3 (fun w' => w'.cell? ⟨g1, i * 2, none⟩ = some (.int .i64 lf1) ∧ w'.cell? ⟨g1, i * 2 + 1, none⟩ = some (.slice a1 n1 cp1) ∧ w'.cell? ⟨g2, k * 2, none⟩ = some (.int .i64 lf2) ∧ w'.cell? ⟨g2, k * 2 + 1, none⟩ = some (.slice a2 n2 cp2))
                        (first | exact ⟨s1, s2, s3, s4⟩ | go_keep)
                        (first | (go_at_call 13; refine (pair_p _ (Av wo.heap.size u4) (fun b hb => ⟨by have := HKP.out.size; have : w5.heap.size ≤ b := hb; omega, fun e => by have := (HST.out.o.block e).2; have : w5.heap.size ≤ b := hb; omega⟩) _ _ _ _ (HS1.out.next (by first | exact sk | exact sk.drew | exact sk.drewN _) (by simp) (fun _ h _ => h)) (HS2.out.next (by first | exact sk | exact sk.drew | exact sk.drewN _) (by simp) (fun _ h _ => h))).mono ?_; rintro e w7 ⟨v, rfl, hs7, hk7⟩; obtain ⟨lf, sa, sn, scp, rfl⟩ := hs7.form; have sk := Kept.trans (by first | exact sk | exact sk.drew | exact sk.drewN _) hk7; have HS7 := Lib.hid hs7; have HSK := Lib.hid sk; have s1 := (sk.cell hg1 (by simp)).trans p0; have s2 := (sk.cell hg1 (by simp)).trans p1; have s3 := (sk.cell hg2 (by simp)).trans q0; have s4 := (sk.cell hg2 (by simp)).trans q1; clear hs7 hk7) | (refine step_append_lies _ (by rfl) _ _ _ (by rfl) wo.heap.size 26 i0 _ 2 32 Tryd.underlying24 HI.out.1 HI.out.2.1 HI.out.2.2.1 HI.out.2.2.2 rfl (by decide) u4 LL.length xs (by rfl) (own_kept HO1.out (HSK.out.alloc _) (by simp)) ⟨w7.heap.size, 0, none⟩ 1 1 [.int .i64 lf, .slice sa sn scp] (by rfl) (by rfl) (World.news_of_block (cs := #[.int .i64 lf, .slice sa sn scp]) (t := 26) (fr := (0, 0)) (show Arr _ w7.heap.size 26 [.int .i64 lf, .slice sa sn scp] from Arr.new' rfl rfl)) (by simp [Value.oneCell']) (by decide) (by have := HLN.out; unfold maxLen; omega) (by have := HLN.out; omega) (by have := HKP.out.size; have := HSK.out.size; simp; omega) (w7.heap.size + 1) (by simp) ?_; intro gb cap3 w8 hown3 hgrow hatb hltb; have hk5 : Kept u4.ownBlock.toList w5 w8 := ((HSK.out.alloc (Obj.cells #[.int .i64 lf, .slice sa sn scp] 26)).mono (by simp)).trans (grown_kept hgrow); have s1 := (hk5.cell hg1 HN1.out).trans p0; have s2 := (hk5.cell hg1 HN1.out).trans p1; have s3 := (hk5.cell hg2 HN2.out).trans q0; have s4 := (hk5.cell hg2 HN2.out).trans q1))
                      have hS3 := HST.out.push (HSK.out.alloc (Obj.cells #[.int .i64 lf, .slice sa sn scp] 26)) (HS7.out.next (Kept.alloc (Kept.refl [] w7) (Obj.cells #[.int .i64 lf, .slice sa sn scp] 26)) (by simp) (fun _ h _ => h)) HO1.out HO2.out hown3 hgrow (by simpa using hatb)
                      have hk8 : Kept [] wo w8 := HKP.out.fresh hk5 (by intro x hx hlt; have := (HST.out.o.block (g := x) (by simpa using hx)).1; omega)
                      have HS3 := Lib.hid hS3
                      have HK8 := Lib.hid hk8
                      rename_i hHeld
                      clear hS3 hk8 hown3 hgrow hatb hltb hk5 s1 s2 s3 s4 hHeld sk p0 p1 q0 q1
                      go_wp2_with fail
                      go_roundg (Y.length - (k + 1))
                      case measure => omega
                      case rel => exact ⟨k + 1, _, by omega, by go_num, rfl, by rw [HTK.out, List.map_append, ← List.append_assoc, HLL.out]; exact HS3, HK8⟩
                    · obtain rfl : k = Y.length := by omega
                      rw [List.take_length] at hst
                      go_wp2_with fail
                      go_roundg (X.length - (i + 1))
                      case measure => omega
                      case rel => exact ⟨i + 1, _, by omega, by go_num, rfl, by rw [HTS.out, List.flatMap_append, ← List.append_assoc]; simpa using hst, hkp⟩
                · obtain rfl : i = X.length := by omega
                  rw [List.take_length] at hst
                  have HST := Lib.hid hst.out
                  go_wp2_with fail
                  go_roundg (set - (a + 1))
                  case measure => omega
                  case rel => exact ⟨a + 1, _, by omega, by omega, by go_num, rfl, by rw [show a + 1 - 1 = a by omega, HAC.out]; exact Lib.hid HST.out.o, hkp⟩
            · have hra : rowA f set a = [] := by unfold rowA; rw [if_neg hsub]
              rw [hra, List.append_nil] at hac
              have hb : (bits BinOp.and IntKind.i64 (a : Int) (set : Int) != (a : Int)) = true := by rw [hand, bne_iff_ne]; omega
              have HAC := Lib.hid hac
              clear hra hac hlen hle hand hsub
              go_wp2_with fail
              go_roundg (set - (a + 1))
              case measure => omega
              case rel => exact ⟨a + 1, u4, by omega, by omega, by go_num, rfl, by rw [show a + 1 - 1 = a by omega, HAC.out]; exact hrow, hkp⟩
          · obtain rfl : a = set := by omega
            go_wp2_with fail
            go_ret
            exact ⟨_, rfl, by rw [HR.out]; exact hrow.out.next (Kept.refl [] _) (by simp) (by simp) (fun _ h _ => h.1), hkp.out⟩
end Go.Proofs.YtnfdbbjemlehnaaDoor
