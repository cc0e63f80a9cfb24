/- Set, Clear, Len, Leaves, Get -/
import Derived.Test.YtjedpimoemapfaaB
namespace Go.Proofs.Ytjedpimoemapfaa
open Go.RowKit

set_option maxHeartbeats 400000 in
set_option maxRecDepth 100000 in
theorem put_none (w : World) (bt bl bw : Nat) (kd : Option Nat) (base : Nat) (ls : List Lf) (ws : List Nat) (n : Int) (h : T8 w bt bl bw kd base ls ws n) (i : Int) (hi : i < 0 ∨ (ls.length : Int) ≤ i) (k t : Int) (b : Bool) :
   Calls Try.prog 26 #[.pointer (some ⟨bt, 0, none⟩), .int .i64 i, .agg #[.int .i64 k, .int .i64 t, .bool b]] w fun e w' => e = .returned (.int .i64 4) ∧ Kept [] w w' := by
  have c1 := h.t.cell (i := 1) rfl
  have l1 := h.t.lt
  clear h
  by_cases h0 : i < 0
  · go_enter Try.func26, Try.ntmps26
    go_wp2
    go_ret
    exact ⟨rfl, (Kept.refl _ _).alloc _⟩
  · have h1 : (ls.length : Int) ≤ i := by omega
    clear hi
    go_enter Try.func26, Try.ntmps26
    go_wp2
    go_ret
    exact ⟨rfl, (Kept.refl _ _).alloc _⟩

set_option maxHeartbeats 400000 in
set_option maxRecDepth 100000 in
theorem put_nil (w : World) (i : Int) (k t : Int) (b : Bool) :
   Calls Try.prog 26 #[.pointer none, .int .i64 i, .agg #[.int .i64 k, .int .i64 t, .bool b]] w fun e w' => e = .returned (.int .i64 6) ∧ Kept [] w w' := by
  go_enter Try.func26, Try.ntmps26
  go_wp2
  go_ret
  exact ⟨rfl, (Kept.refl _ _).alloc _⟩

theorem PutPost.of_alloc {w : World} {o : Obj} {bt bl bw : Nat} {kd : Option Nat} {m base s : Nat} {ls : List Lf} {i : Nat} {x : Lf} {w' : World} (h : PutPost (w.alloc o) bt bl bw kd m base s ls i x w') : PutPost w bt bl bw kd m base s ls i x w' := by
  obtain ⟨ws', m', h1, h2, h3, h4, h5, h6⟩ := h
  exact ⟨ws', m', h1, h2, h3, h4, h5, ((Kept.refl _ _).alloc o).trans h6⟩

/-- A tree that is as it must be. -/
structure TOk (w : World) (bt bl bw : Nat) (kd : Option Nat) (m base s : Nat) (ls : List Lf) (ws : List Nat) : Prop where
  t8 : T8 w bt bl bw kd base ls ws (cntH ls)
  cnt : Cnt w kd m
  wins : Wins ls base ws
  hb : base = 2 ^ s
  hs : s ≤ 6
  len : ls.length ≤ base

theorem TOk.le64 {w : World} {bt bl bw : Nat} {kd : Option Nat} {m base s : Nat} {ls : List Lf} {ws : List Nat} (h : TOk w bt bl bw kd m base s ls ws) : base ≤ 64 ∧ ls.length ≤ 64 := by
  have : base ≤ 64 := by rw [h.hb]; exact Nat.pow_le_pow_right (by omega) h.hs
  exact ⟨this, by have := h.len; omega⟩

theorem TOk.kept {S : List Nat} {w w' : World} {bt bl bw : Nat} {kd : Option Nat} {m base s : Nat} {ls : List Lf} {ws : List Nat} (h : TOk w bt bl bw kd m base s ls ws) (k : Kept S w w') (hS : bt ∉ S ∧ bl ∉ S ∧ bw ∉ S ∧ ∀ c, kd = some c → c ∉ S) : TOk w' bt bl bw kd m base s ls ws :=
  ⟨h.t8.kept k ⟨hS.1, hS.2.1, hS.2.2.1⟩, h.cnt.kept k hS.2.2.2, h.wins, h.hb, h.hs, h.len⟩

theorem TOk.kept0 {w w' : World} {bt bl bw : Nat} {kd : Option Nat} {m base s : Nat} {ls : List Lf} {ws : List Nat} (h : TOk w bt bl bw kd m base s ls ws) (k : Kept [] w w') : TOk w' bt bl bw kd m base s ls ws :=
  h.kept k ⟨by simp, by simp, by simp, by simp⟩

theorem TOk.alloc {w : World} {bt bl bw : Nat} {kd : Option Nat} {m base s : Nat} {ls : List Lf} {ws : List Nat} (h : TOk w bt bl bw kd m base s ls ws) (o : Obj) : TOk (w.alloc o) bt bl bw kd m base s ls ws :=
  h.kept0 ((Kept.refl _ _).alloc o)

theorem TOk.drew {w : World} {bt bl bw : Nat} {kd : Option Nat} {m base s : Nat} {ls : List Lf} {ws : List Nat} (h : TOk w bt bl bw kd m base s ls ws) : TOk w.drew bt bl bw kd m base s ls ws :=
  h.kept0 ((Kept.refl _ _).drew)

def SetPost (w : World) (bt bl bw : Nat) (kd : Option Nat) (m base s : Nat) (ls : List Lf) (i : Nat) (x : Lf) (w' : World) : Prop :=
  ∃ ws' m', TOk w' bt bl bw kd m' base s (ls.set i x) ws' ∧ m ≤ m' ∧ m' ≤ m + s ∧ Kept (bt :: bl :: bw :: kd.toList) w w'

theorem TOk.put {w : World} {bt bl bw : Nat} {kd : Option Nat} {m base s : Nat} {ls : List Lf} {ws : List Nat} (h : TOk w bt bl bw kd m base s ls ws) {i : Nat} {x : Lf} {w' : World} (hp : PutPost w bt bl bw kd m base s ls i x w') : SetPost w bt bl bw kd m base s ls i x w' := by
  obtain ⟨ws', m', h1, h2, h3, h4, h5, h6⟩ := hp
  exact ⟨ws', m', ⟨h1, h2, h5, h.hb, h.hs, by simpa using h.len⟩, h3, h4, h6⟩

set_option maxHeartbeats 400000 in
theorem set_ok (w : World) (bt bl bw : Nat) (kd : Option Nat) (m base s : Nat) (ls : List Lf) (ws : List Nat) (h : TOk w bt bl bw kd m base s ls ws) (hm : m ≤ 900000) (i : Nat) (hi : i < ls.length) (k t : Int) :
   Calls Try.prog 11 #[.pointer (some ⟨bt, 0, none⟩), .int .i64 i, .agg #[.int .i64 k, .int .i64 t]] w fun e w' => e = .returned (.int .i64 0) ∧ SetPost w bt bl bw kd m base s ls i ⟨k, t, true⟩ w' := by
  have H := Lib.hid h
  clear h
  go_enter Try.func11, Try.ntmps11
  go_wp2_with (go_at_call 26; refine (put_ok _ bt bl bw kd m base s ls ws (H.out.alloc _).t8 (H.out.alloc _).cnt hm H.out.wins H.out.hb H.out.hs H.out.len i hi ⟨k, t, true⟩).mono ?_; rintro e w' ⟨rfl, hp⟩)
  go_ret
  exact ⟨rfl, H.out.put hp.of_alloc⟩

set_option maxHeartbeats 400000 in
theorem set_none (w : World) (bt bl bw : Nat) (kd : Option Nat) (m base s : Nat) (ls : List Lf) (ws : List Nat) (h : TOk w bt bl bw kd m base s ls ws) (i : Int) (hi : i < 0 ∨ (ls.length : Int) ≤ i) (k t : Int) :
   Calls Try.prog 11 #[.pointer (some ⟨bt, 0, none⟩), .int .i64 i, .agg #[.int .i64 k, .int .i64 t]] w fun e w' => e = .returned (.int .i64 4) ∧ Kept [] w w' := by
  have H := Lib.hid h
  have HI := Lib.hid hi
  clear h hi
  go_enter Try.func11, Try.ntmps11
  go_wp2_with (go_at_call 26; refine (put_none _ bt bl bw kd base ls ws _ (H.out.alloc _).t8 i HI.out k t true).mono ?_; rintro e w' ⟨rfl, hp⟩)
  go_ret
  exact ⟨rfl, ((Kept.refl _ _).alloc _).trans hp⟩

set_option maxHeartbeats 400000 in
theorem set_nil (w : World) (i : Int) (k t : Int) :
   Calls Try.prog 11 #[.pointer none, .int .i64 i, .agg #[.int .i64 k, .int .i64 t]] w fun e w' => e = .returned (.int .i64 6) ∧ Kept [] w w' := by
  go_enter Try.func11, Try.ntmps11
  go_wp2_with (go_at_call 26; refine (put_nil _ i k t true).mono ?_; rintro e w' ⟨rfl, hp⟩)
  go_ret
  exact ⟨rfl, ((Kept.refl _ _).alloc _).trans hp⟩

set_option maxHeartbeats 400000 in
theorem clear_ok (w : World) (bt bl bw : Nat) (kd : Option Nat) (m base s : Nat) (ls : List Lf) (ws : List Nat) (h : TOk w bt bl bw kd m base s ls ws) (hm : m ≤ 900000) (i : Nat) (hi : i < ls.length) :
   Calls Try.prog 12 #[.pointer (some ⟨bt, 0, none⟩), .int .i64 i] w fun e w' => e = .returned (.int .i64 0) ∧ SetPost w bt bl bw kd m base s ls i ⟨0, 0, false⟩ w' := by
  have H := Lib.hid h
  clear h
  go_enter Try.func12, Try.ntmps12
  go_wp2_with (go_at_call 26; refine (put_ok _ bt bl bw kd m base s ls ws H.out.t8 H.out.cnt hm H.out.wins H.out.hb H.out.hs H.out.len i hi ⟨0, 0, false⟩).mono ?_; rintro e w' ⟨rfl, hp⟩)
  go_ret
  exact ⟨rfl, H.out.put hp⟩

set_option maxHeartbeats 400000 in
theorem clear_none (w : World) (bt bl bw : Nat) (kd : Option Nat) (m base s : Nat) (ls : List Lf) (ws : List Nat) (h : TOk w bt bl bw kd m base s ls ws) (i : Int) (hi : i < 0 ∨ (ls.length : Int) ≤ i) :
   Calls Try.prog 12 #[.pointer (some ⟨bt, 0, none⟩), .int .i64 i] w fun e w' => e = .returned (.int .i64 4) ∧ Kept [] w w' := by
  have H := Lib.hid h
  have HI := Lib.hid hi
  clear h hi
  go_enter Try.func12, Try.ntmps12
  go_wp2_with (go_at_call 26; refine (put_none _ bt bl bw kd base ls ws _ H.out.t8 i HI.out 0 0 false).mono ?_; rintro e w' ⟨rfl, hp⟩)
  go_ret
  exact ⟨rfl, hp⟩

set_option maxHeartbeats 400000 in
theorem clear_nil (w : World) (i : Int) :
   Calls Try.prog 12 #[.pointer none, .int .i64 i] w fun e w' => e = .returned (.int .i64 6) ∧ Kept [] w w' := by
  go_enter Try.func12, Try.ntmps12
  go_wp2_with (go_at_call 26; refine (put_nil _ i 0 0 false).mono ?_; rintro e w' ⟨rfl, hp⟩)
  go_ret
  exact ⟨rfl, hp⟩

set_option maxHeartbeats 400000 in
theorem len_nil (w : World) : Calls Try.prog 23 #[.pointer none] w fun e w' => e = .returned (.int .i64 0) ∧ w = w' := by
  go_enter Try.func23, Try.ntmps23
  go_wp2
  go_ret
  exact ⟨rfl, rfl⟩

set_option maxHeartbeats 400000 in
theorem leaves_nil (w : World) : Calls Try.prog 24 #[.pointer none] w fun e w' => e = .returned (.int .i64 0) ∧ w = w' := by
  go_enter Try.func24, Try.ntmps24
  go_wp2
  go_ret
  exact ⟨rfl, rfl⟩

set_option maxHeartbeats 400000 in
theorem len_ok (w : World) (bt bl bw : Nat) (kd : Option Nat) (m base s : Nat) (ls : List Lf) (ws : List Nat) (h : TOk w bt bl bw kd m base s ls ws) : Calls Try.prog 23 #[.pointer (some ⟨bt, 0, none⟩)] w fun e w' => e = .returned (.int .i64 (cntH ls)) ∧ w = w' := by
  have c4 := h.t8.t.cell (i := 4) rfl
  clear h
  go_enter Try.func23, Try.ntmps23
  go_wp2
  go_ret
  exact ⟨rfl, rfl⟩

set_option maxHeartbeats 400000 in
theorem leaves_ok (w : World) (bt bl bw : Nat) (kd : Option Nat) (m base s : Nat) (ls : List Lf) (ws : List Nat) (h : TOk w bt bl bw kd m base s ls ws) : Calls Try.prog 24 #[.pointer (some ⟨bt, 0, none⟩)] w fun e w' => e = .returned (.int .i64 ls.length) ∧ w = w' := by
  have c4 := h.t8.t.cell (i := 1) rfl
  clear h
  go_enter Try.func24, Try.ntmps24
  go_wp2
  go_ret
  exact ⟨rfl, rfl⟩

set_option maxHeartbeats 400000 in
theorem holds_out (w : World) (bt bl bw : Nat) (kd : Option Nat) (base : Nat) (ls : List Lf) (ws : List Nat) (n : Int) (h : T8 w bt bl bw kd base ls ws n) (i : Int) (hi : i < 0 ∨ (ls.length : Int) ≤ i) :
   Calls Try.prog 29 #[.pointer (some ⟨bt, 0, none⟩), .int .i64 i] w fun e w' => e = .returned (.bool false) ∧ w = w' := by
  have ht := h.t.cell (i := 1) rfl
  clear h
  by_cases h0 : i < 0
  · clear hi
    go_enter Try.func29, Try.ntmps29
    go_wp2
    go_ret
    exact ⟨rfl, rfl⟩
  · have h1 : (ls.length : Int) ≤ i := by omega
    clear hi
    go_enter Try.func29, Try.ntmps29
    go_wp2
    go_ret
    exact ⟨rfl, rfl⟩

set_option maxHeartbeats 400000 in
theorem get_nil (w : World) (i : Int) :
   Calls Try.prog 22 #[.pointer none, .int .i64 i] w fun e w' => e = .returned (.tuple #[.agg #[.int .i64 0, .int .i64 0], .bool false]) ∧ Kept [] w w' := by
  go_enter Try.func22, Try.ntmps22
  go_wp2
  refine bodyPost_ret (v := .tuple #[.agg #[.int .i64 0, .int .i64 0], .bool false]) (by simp [results, Try.results22, go_sem]) rfl ⟨rfl, ?_⟩
  exact ((Kept.refl _ _).alloc _).alloc _

set_option maxHeartbeats 400000 in
theorem get_out (w : World) (bt bl bw : Nat) (kd : Option Nat) (base : Nat) (ls : List Lf) (ws : List Nat) (n : Int) (h : T8 w bt bl bw kd base ls ws n) (i : Int) (hi : i < 0 ∨ (ls.length : Int) ≤ i) :
   Calls Try.prog 22 #[.pointer (some ⟨bt, 0, none⟩), .int .i64 i] w fun e w' => e = .returned (.tuple #[.agg #[.int .i64 0, .int .i64 0], .bool false]) ∧ Kept [] w w' := by
  have H := Lib.hid h
  have HI := Lib.hid hi
  clear h hi
  go_enter Try.func22, Try.ntmps22
  go_wp2_with (go_at_call 29; refine (holds_out _ bt bl bw kd base ls ws _ (H.out.alloc _) i HI.out).mono ?_; rintro e w' ⟨rfl, rfl⟩)
  refine bodyPost_ret (v := .tuple #[.agg #[.int .i64 0, .int .i64 0], .bool false]) (by simp [results, Try.results22, go_sem]) rfl ⟨rfl, ?_⟩
  exact ((Kept.refl _ _).alloc _).alloc _

def getV (ls : List Lf) (i : Nat) : Value :=
  match ls[i]? with
  | some x => if x.h then .tuple #[.agg #[.int .i64 x.k, .int .i64 x.t], .bool true] else .tuple #[.agg #[.int .i64 0, .int .i64 0], .bool false]
  | none => .tuple #[.agg #[.int .i64 0, .int .i64 0], .bool false]

set_option maxHeartbeats 400000 in
theorem get_ok (w : World) (bt bl bw : Nat) (kd : Option Nat) (base : Nat) (ls : List Lf) (ws : List Nat) (n : Int) (h : T8 w bt bl bw kd base ls ws n) (hl : ls.length ≤ 64) (i : Nat) (hi : i < ls.length) :
   Calls Try.prog 22 #[.pointer (some ⟨bt, 0, none⟩), .int .i64 i] w fun e w' => e = .returned (getV ls i) ∧ Kept [] w w' := by
  obtain ⟨y, hy⟩ : ∃ y, ls[i]? = some y := ⟨ls[i], by simp [hi]⟩
  have hh : hld ls i = y.h := by simp [hld, hy]
  have hg : getV ls i = if y.h then .tuple #[.agg #[.int .i64 y.k, .int .i64 y.t], .bool true] else .tuple #[.agg #[.int .i64 0, .int .i64 0], .bool false] := by simp [getV, hy]
  have H := Lib.hid h
  have HH := Lib.hid hh
  have HG := Lib.hid hg
  have c1 := h.t.cell (i := 1) rfl
  have x0 := h.l.cell (lcells_at ls i y hy).1
  have x1 := h.l.cell (lcells_at ls i y hy).2.1
  have l1 := h.t.lt
  have l2 := h.l.lt
  have hi0 : (0 : Int) ≤ (i : Int) := Int.natCast_nonneg _
  have hi1 : (i : Int) < (ls.length : Int) := by omega
  clear h hh hg hy
  cases hyh : y.h with
  | true =>
    go_enter Try.func22, Try.ntmps22
    go_wp2_with (go_at_call 29; refine (holds_any _ bt bl bw kd base ls ws _ (H.out.alloc _) i (by omega) hl).mono ?_; rw [HH.out, hyh]; rintro e w' ⟨rfl, rfl⟩)
    refine bodyPost_ret (v := .tuple #[.agg #[.int .i64 y.k, .int .i64 y.t], .bool true]) (by simp [results, Try.results22, go_sem]) rfl ⟨by rw [HG.out, hyh]; rfl, ?_⟩
    exact (Kept.refl _ _).alloc _
  | false =>
    go_enter Try.func22, Try.ntmps22
    go_wp2_with (go_at_call 29; refine (holds_any _ bt bl bw kd base ls ws _ (H.out.alloc _) i (by omega) hl).mono ?_; rw [HH.out, hyh]; rintro e w' ⟨rfl, rfl⟩)
    refine bodyPost_ret (v := .tuple #[.agg #[.int .i64 0, .int .i64 0], .bool false]) (by simp [results, Try.results22, go_sem]) rfl ⟨by rw [HG.out, hyh]; rfl, ?_⟩
    exact ((Kept.refl _ _).alloc _).alloc _

end Go.Proofs.Ytjedpimoemapfaa
