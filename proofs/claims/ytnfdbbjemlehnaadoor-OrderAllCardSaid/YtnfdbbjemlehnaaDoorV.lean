/- A shape is the same as itself. -/
import Derived.Test.YtnfdbbjemlehnaaDoorU
namespace Go.Proofs.YtnfdbbjemlehnaaDoor
open Go.RowKit

def TruePost (w : World) (en : Ending) (w' : World) : Prop := en = .returned (.bool true) ∧ Kept [] w w'

theorem leavesFs_mem {s : Sh} {l : List Sh} (h : s ∈ l) : (leavesF s).length ≤ (leavesFs l).length := by
  induction l with
  | nil => simp at h
  | cons a r ih =>
    simp only [leavesFs, List.length_append]
    rcases List.mem_cons.1 h with rfl | h
    · omega
    · have := ih h; omega

set_option maxHeartbeats 3200000 in
theorem same_any : ∀ (s : Sh) (w : World) (u v : Value), (leavesF s).length ≤ 1000 → ShAt w 0 s u → ShAt w 0 s v → Calls Tryd.prog 12 #[u, v] w (TruePost w) := by
  intro s
  refine Sh.ind (P := fun s => ∀ (w : World) (u v : Value), (leavesF s).length ≤ 1000 → ShAt w 0 s u → ShAt w 0 s v → Calls Tryd.prog 12 #[u, v] w (TruePost w)) ?_ s
  clear s
  intro lf l ih w u v hlen hu hv
  obtain ⟨a, cp, rfl, hn⟩ := hu.nth
  obtain ⟨a', cp', rfl, hn'⟩ := hv.nth
  have HN := Lib.hid hn
  have HN' := Lib.hid hn'
  have IH := Lib.hid ih
  have hll : (l.length : Int) ≤ 1000 := by
    by_cases hl : l = []
    · subst hl; simp
    · have := leavesFs_len l; have := leavesF_node lf hl; rw [this] at hlen; omega
  have hlm : ∀ s ∈ l, (leavesF s).length ≤ 1000 := by
    intro s hs
    have hl : l ≠ [] := by intro e; subst e; simp at hs
    have := leavesFs_mem hs; rw [leavesF_node lf hl] at hlen; omega
  have HLM := Lib.hid hlm
  have K : Kept [] w ((w.alloc (Obj.cells #[.int .i64 lf, .slice a l.length cp] 26)).alloc (Obj.cells #[.int .i64 lf, .slice a' l.length cp'] 26)) := Kept.alloc (Kept.alloc (Kept.refl [] w) _) _
  have A1 : Arr ((w.alloc (Obj.cells #[.int .i64 lf, .slice a l.length cp] 26)).alloc (Obj.cells #[.int .i64 lf, .slice a' l.length cp'] 26)) w.heap.size 26 [.int .i64 lf, .slice a l.length cp] := Arr.alloc (Arr.new' rfl rfl) _
  have A2 : Arr ((w.alloc (Obj.cells #[.int .i64 lf, .slice a l.length cp] 26)).alloc (Obj.cells #[.int .i64 lf, .slice a' l.length cp'] 26)) (w.heap.size + 1) 26 [.int .i64 lf, .slice a' l.length cp'] := Arr.new' (by simp) rfl
  have HK := Lib.hid K
  have H1 := Lib.hid A1
  have H2 := Lib.hid A2
  clear hu hv hn hn' ih hlm K A1 A2 hlen
  go_enter Tryd.func12, Tryd.ntmps12
  go_wp2
  generalize hbx : w.heap.size = bx at *
  have HBX := Lib.hid hbx
  clear hbx
  generalize (w.alloc (Obj.cells #[.int .i64 lf, .slice a l.length cp] 26)).alloc (Obj.cells #[.int .i64 lf, .slice a' l.length cp'] 26) = w1 at *
  go_loopg [5] l.length (fun g i wr => ∃ k : Nat, k + g = l.length ∧ i = .int .i64 k ∧ Hid (Kept [] w1 wr))
  case atStart => exact ⟨0, by omega, rfl, Lib.hid (Kept.refl _ _)⟩
  case round =>
    obtain ⟨k, hk, rfl, hkp⟩ := hrel
    obtain ⟨wo, hwo⟩ : ∃ wo : World, wo = wr := ⟨_, rfl⟩
    subst hwo
    have B1 := H1.out.kept hkp.out (by simp)
    have B2 := H2.out.kept hkp.out (by simp)
    have l1 := B1.lt
    have l2 := B2.lt
    have c1 := B1.cell (i := 1) rfl
    have c2 := B2.cell (i := 1) rfl
    clear B1 B2
    by_cases hlt : k < l.length
    · obtain ⟨s, hs⟩ : ∃ s, l[k]? = some s := ⟨l[k], by simp [hlt]⟩
      obtain ⟨b, o, x0, x1, rfl, hb, q0, q1, hsh⟩ := HN.out k s hs
      obtain ⟨b', o', y0, y1, rfl, hb', r0, r1, hsh'⟩ := HN'.out k s hs
      have hkw := HK.out.trans hkp.out
      rw [← HBX.out] at hb hb'
      have q0 := (hkw.cell hb (by simp)).trans q0
      have q1 := (hkw.cell hb (by simp)).trans q1
      have r0 := (hkw.cell hb' (by simp)).trans r0
      have r1 := (hkw.cell hb' (by simp)).trans r1
      have hb := Nat.lt_of_lt_of_le hb hkw.size
      have hb' := Nat.lt_of_lt_of_le hb' hkw.size
      have HS1 := Lib.hid (hsh.kept hkw (by simp))
      have HS2 := Lib.hid (hsh'.kept hkw (by simp))
      have hk0 : (0 : Int) ≤ (k : Int) := by omega
      have hk1 : (k : Int) < (l.length : Int) := by omega
      have HM := Lib.hid (List.mem_of_getElem? hs)
      clear hs hsh hsh' hkw
      go_wp2_with fail
      have sk := Kept.refl [] wo
      go_region_held3 (fun w' => w'.cell? ⟨bx, 1, none⟩ = some (.slice (some ⟨b, o, none⟩) l.length cp) ∧ w'.cell? ⟨bx + 1, 1, none⟩ = some (.slice (some ⟨b', o', none⟩) l.length cp') ∧ w'.cell? ⟨b, o + k * 2, none⟩ = some x0 ∧ w'.cell? ⟨b, o + k * 2 + 1, none⟩ = some x1 ∧ w'.cell? ⟨b', o' + k * 2, none⟩ = some y0 ∧ w'.cell? ⟨b', o' + k * 2 + 1, none⟩ = some y1)
        (first | exact ⟨s1, s2, s3, s4, s5, s6⟩ | go_keep)
        ((go_at_call 12; refine (IH.out _ HM.out _ _ _ (HLM.out _ HM.out) (HS1.out.kept (by first | exact sk | exact sk.drew | exact sk.drewN _) (by simp)) (HS2.out.kept (by first | exact sk | exact sk.drew | exact sk.drewN _) (by simp))).mono ?_; rintro e w' ⟨rfl, hk⟩; have sk := Kept.trans (by first | exact sk | exact sk.drew | exact sk.drewN _) hk; have s1 := (sk.cell l1 (by simp)).trans c1; have s2 := (sk.cell l2 (by simp)).trans c2; have s3 := (sk.cell hb (by simp)).trans q0; have s4 := (sk.cell hb (by simp)).trans q1; have s5 := (sk.cell hb' (by simp)).trans r0; have s6 := (sk.cell hb' (by simp)).trans r1))
      rename_i hHeld
      have HK3 := Lib.hid (hkp.out.trans sk)
      clear hHeld s1 s2 s3 s4 s5 s6 sk hk q0 q1 r0 r1 c1 c2
      go_wp2_with fail
      go_roundg (l.length - (k + 1))
      case measure => omega
      case rel => exact ⟨k + 1, by omega, by go_num, HK3⟩
    · obtain rfl : k = l.length := by omega
      go_wp2_with fail
      go_ret
      exact ⟨rfl, HK.out.trans hkp.out⟩
end Go.Proofs.YtnfdbbjemlehnaaDoor
