/- An edge that is turned round changes nothing: the plain law. -/
import Derived.Test.YtnfdbbjemlehnaaDoorOp
namespace Go.Proofs.YtnfdbbjemlehnaaDoor
open Go.RowKit

def swp (p : Pr) : Pr := ⟨p.t, p.k⟩

inductive Tw : List Pr → List Pr → Prop
  | nil : Tw [] []
  | same (e : Pr) {r r' : List Pr} (h : Tw r r') : Tw (e :: r) (e :: r')
  | turn (e : Pr) {r r' : List Pr} (h : Tw r r') : Tw (e :: r) (swp e :: r')

theorem Tw.refl : ∀ l, Tw l l
  | [] => .nil
  | e :: r => .same e (Tw.refl r)

theorem Tw.set : ∀ {l : List Pr} {i : Nat} {e : Pr}, l[i]? = some e → Tw l (l.set i (swp e))
  | [], i, e, h => by simp at h
  | a :: r, 0, e, h => by simp at h; subst h; exact .turn a (Tw.refl r)
  | a :: r, i + 1, e, h => by
    simp only [List.getElem?_cons_succ] at h
    exact .same a (Tw.set h)

theorem hit_swp (a b : Nat) (e : Pr) : hit a b (swp e) = hit a b e := by
  unfold hit swp
  cases (a &&& bitN e.k != 0) <;> cases (b &&& bitN e.t != 0) <;> cases (b &&& bitN e.k != 0) <;> cases (a &&& bitN e.t != 0) <;> rfl

theorem edgeF_tw {es es' : List Pr} (h : Tw es es') (a b : Nat) : edgeF es' a b = edgeF es a b := by
  unfold edgeF
  induction h with
  | nil => rfl
  | same e _ ih => simp only [List.any_cons, ih]
  | turn e _ ih => simp only [List.any_cons, ih, hit_swp]

theorem byF_swp (gs : List Pr) (e : Pr) : byF gs (swp e) = byF gs e := by
  unfold byF swp
  rw [Int.max_comm (gkF gs e.t)]

theorem rows2_tw (gs : List Pr) (set : Nat) {es es' : List Pr} (h : Tw es es') : ∀ n, rows2 gs set es' n = rows2 gs set es n := by
  induction h with
  | nil => intro n; rfl
  | same e _ ih => intro n; simp only [rows2, ih]
  | turn e _ ih =>
    intro n
    simp only [rows2, ih, byF_swp]
    simp only [swp, Nat.or_comm (bitN e.t)]

theorem rowsF_tw (gs : List Pr) {es es' : List Pr} (h : Tw es es') (set : Nat) : rowsF gs es' set = rowsF gs es set := rows2_tw gs set h _

theorem oddE_swp (n : Nat) (e : Pr) : oddE n (swp e) = oddE n e := by
  unfold oddE swp
  simp only [Int.min_comm e.t, Int.max_comm e.t]
  congr 1
  exact decide_eq_decide.2 eq_comm

theorem okF_tw (gs : List Pr) {es es' : List Pr} (h : Tw es es') : okF gs es' = okF gs es := by
  have : es'.any (oddE gs.length) = es.any (oddE gs.length) := by
    induction h with
    | nil => rfl
    | same e _ ih => simp only [List.any_cons, ih]
    | turn e _ ih => simp only [List.any_cons, ih, oddE_swp]
  unfold okF
  rw [this]

theorem growF_tw {es es' : List Pr} (h : Tw es es') (hv : Nat) : ∀ f l m, growF es' hv f l m = growF es hv f l m := by
  intro f
  induction f with
  | zero => intro l m; rfl
  | succ f ih => intro l m; simp only [growF, ih, edgeF_tw h]
theorem joinF_tw {es es' : List Pr} (h : Tw es es') (set : Nat) : ∀ f a, joinF es' set f a = joinF es set f a := by
  intro f
  induction f with
  | zero => intro a; rfl
  | succ f ih => intro a; simp only [joinF, ih, growF_tw h]
theorem joinedF_tw {es es' : List Pr} (h : Tw es es') (set : Nat) : joinedF es' set = joinedF es set := joinF_tw h set _ _
theorem mayF_tw {es es' : List Pr} (h : Tw es es') (a b : Nat) : mayF es' a b = mayF es a b := by simp only [mayF, joinedF_tw h, edgeF_tw h]
theorem pagesF_tw (gs : List Pr) {es es' : List Pr} (h : Tw es es') (set : Nat) : pagesF gs es' set = pagesF gs es set := by simp only [pagesF, rowsF_tw gs h]
theorem stepF_tw (gs : List Pr) {es es' : List Pr} (h : Tw es es') (a b : Nat) : stepF gs es' a b = stepF gs es a b := by simp only [stepF, pagesF_tw gs h, edgeF_tw h]
theorem skipB_tw {es es' : List Pr} (h : Tw es es') (set a : Nat) : skipB es' set a = skipB es set a := by simp only [skipB, mayF_tw h]
theorem costB_tw (gs : List Pr) {es es' : List Pr} (h : Tw es es') (set : Nat) (T : List Pr) (a : Nat) : costB gs es' set T a = costB gs es set T a := by simp only [costB, stepF_tw gs h]
theorem fill1_tw (gs : List Pr) {es es' : List Pr} (h : Tw es es') (set : Nat) (T : List Pr) (a : Nat) : fill1 gs es' set T a = fill1 gs es set T a := by simp only [fill1, skipB_tw h, costB_tw gs h]
theorem fillF_tw (gs : List Pr) {es es' : List Pr} (h : Tw es es') (set : Nat) : ∀ f a T, fillF gs es' set f a T = fillF gs es set f a T := by
  intro f
  induction f with
  | zero => intro a T; rfl
  | succ f ih => intro a T; simp only [fillF, ih, fill1_tw gs h]
theorem tabF_tw (gs : List Pr) {es es' : List Pr} (h : Tw es es') : ∀ f set T, tabF gs es' f set T = tabF gs es f set T := by
  intro f
  induction f with
  | zero => intro s T; rfl
  | succ f ih => intro s T; simp only [tabF, ih, fillF_tw gs h]
theorem bestT_tw (gs : List Pr) {es es' : List Pr} (h : Tw es es') : bestT gs es' = bestT gs es := tabF_tw gs h _ _ _

/-- What 'Best' tells, whatever it is told. -/
def anyS (gs es : List Pr) : Sh := if okF gs es then bestS gs es else .node 0 []
def anyC (gs es : List Pr) : Int := if okF gs es then bestC gs es else 0
def anyE (gs es : List Pr) : Int := if okF gs es then 0 else 1

theorem any_tw (gs : List Pr) {es es' : List Pr} (h : Tw es es') : anyS gs es' = anyS gs es ∧ anyC gs es' = anyC gs es ∧ anyE gs es' = anyE gs es := by
  unfold anyS anyC anyE bestS bestC
  rw [okF_tw gs h, bestT_tw gs h]
  exact ⟨rfl, rfl, rfl⟩

theorem anyS_leaves (gs es : List Pr) : (leavesF (anyS gs es)).length ≤ 1000 := by
  unfold anyS
  split
  · rename_i h
    rw [(bestS_leaves h).1]
    have := (Ok.of h).n6
    omega
  · simp [leavesF]

def AnyPost (s : Sh) (c f : Int) (w : World) (en : Ending) (w' : World) : Prop := ∃ v, en = .returned (.tuple #[v, .int .i64 c, .int .i64 f]) ∧ ShAt w' 0 s v ∧ Kept [] w w'

theorem best_all {gs es : List Pr} (w : World) (lv ev : Value) (h : JAt w lv ev gs es) (hl : gs.length ≤ 1000) (hlb : es.length ≤ 1000) (htab : Tab w) : Calls Tryd.prog 8 #[lv, ev] w (AnyPost (anyS gs es) (anyC gs es) (anyE gs es) w) := by
  cases hok : okF gs es with
  | true =>
    have e1 : anyS gs es = bestS gs es := by simp [anyS, hok]
    have e2 : anyC gs es = bestC gs es := by simp [anyC, hok]
    have e3 : anyE gs es = 0 := by simp [anyE, hok]
    rw [e1, e2, e3]
    exact (best_in w lv ev h hlb htab hok).mono fun e w' ⟨v, he, hs, hk⟩ => ⟨v, he, hs.mono (Nat.zero_le _), hk⟩
  | false =>
    have e1 : anyS gs es = .node 0 [] := by simp [anyS, hok]
    have e2 : anyC gs es = 0 := by simp [anyC, hok]
    have e3 : anyE gs es = 1 := by simp [anyE, hok]
    rw [e1, e2, e3]
    exact (best_out w lv ev h hl hlb hok).mono fun e w' ⟨he, hk⟩ => ⟨_, he, ShAt.leaf _ _ _, hk⟩
end Go.Proofs.YtnfdbbjemlehnaaDoor
