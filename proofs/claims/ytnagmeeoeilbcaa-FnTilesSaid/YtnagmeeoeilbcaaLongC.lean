/- LongestLine, spec: l06Longer, l06Search. -/
import Derived.Test.YtnagmeeoeilbcaaLongB
import Derived.Test.YtnagmeeoeilbcaaOrderB
import Derived.Test.YtnagmeeoeilbcaaClone
import Derived.Test.YtnagmeeoeilbcaaTally
import Derived.Test.YtnagmeeoeilbcaaI64
import Derived.Deep.Cut
import Derived.Deep.CutRange
namespace Go.Proofs.Ytnagmeeoeilbcaa
open Go.RowKit Go.Shelf
set_option linter.unusedVariables false

theorem lexle_at : ∀ (xs ys : List Int) (k : Nat), xs.take k = ys.take k → k < xs.length → k < ys.length → xs.getD k 0 ≠ ys.getD k 0 → lexle xs ys = decide (xs.getD k 0 < ys.getD k 0) := by
  intro xs
  induction xs with
  | nil => intro ys k _ h; simp at h
  | cons x xs ih =>
    intro ys k ht h1 h2 hne
    cases ys with
    | nil => simp at h2
    | cons y ys =>
      cases k with
      | zero =>
        simp only [List.getD_cons_zero] at hne ⊢
        simp [lexle, hne]
      | succ k =>
        simp only [List.take_succ_cons, List.cons.injEq] at ht
        simp only [List.getD_cons_succ] at hne ⊢
        simp only [List.length_cons] at h1 h2
        rw [← ih ys k ht.2 (by omega) (by omega) hne]
        simp [lexle, ht.1]
theorem take_step {xs ys : List Int} {k : Nat} (h : xs.take k = ys.take k) (h1 : k < xs.length) (h2 : k < ys.length) (e : xs.getD k 0 = ys.getD k 0) : xs.take (k + 1) = ys.take (k + 1) := by
  rw [List.take_succ_eq_append_getElem h1, List.take_succ_eq_append_getElem h2, h]
  simp [h1, h2] at e
  rw [e]

/-- how many tiles are not in a line -/
def cnt (n : Nat) (L : List Int) : Nat := (List.range n).countP fun (i : Nat) => decide ((i : Int) ∉ L)
theorem cnt_zero {n : Nat} {L : List Int} (h : cnt n L = 0) {i : Nat} (hi : i < n) : (i : Int) ∈ L := by
  have := List.countP_eq_zero.1 h i (List.mem_range.2 hi)
  simpa using this
theorem countP_lt {α : Type} (p q : α → Bool) : ∀ (l : List α) (x : α), x ∈ l → p x = true → q x = false → (∀ y, q y = true → p y = true) → l.countP q < l.countP p := by
  intro l
  induction l with
  | nil => intro x hx; cases hx
  | cons y l ih =>
    intro x hx hp hq hi
    have hle : l.countP q ≤ l.countP p := List.countP_mono_left fun z _ hz => hi z hz
    rw [List.countP_cons, List.countP_cons]
    rcases List.mem_cons.1 hx with e | e
    · subst e
      rw [hp, hq]
      simp
      omega
    · have := ih x e hp hq hi
      by_cases hy : q y = true
      · rw [hy, hi y hy]; simp; omega
      · have hy2 : q y = false := by simpa using hy
        rw [hy2]
        simp
        split <;> omega
theorem cnt_more {n : Nat} {L : List Int} {i : Nat} (hi : i < n) (hn : (i : Int) ∉ L) : cnt n (L ++ [(i : Int)]) < cnt n L := by
  refine countP_lt _ _ _ i (List.mem_range.2 hi) (by simpa using hn) (by simp) fun y hy => ?_
  simp at hy ⊢
  exact hy.1
theorem cnt_nil (n : Nat) : cnt n [] = n := by
  unfold cnt
  rw [List.countP_eq_length.2 (by intro a _; simp), List.length_range]
/-- the reference's choice up to tile k -/
def srchTo (ts : List (Int × Int)) (f : Nat) (L : List Int) (e : Int) (k : Nat) : List Int := (List.range k).foldl (fun best (i : Nat) => if (i : Int) ∈ L then best else
      let b1 := if e < 0 ∨ (tA ts i : Int) = e then longer best (srchL ts f (L ++ [(i : Int)]) (tB ts i)) else best
      if e < 0 ∨ (tB ts i : Int) = e then longer b1 (srchL ts f (L ++ [(i : Int)]) (tA ts i)) else b1) L
theorem srchTo_succ (ts : List (Int × Int)) (f : Nat) (L : List Int) (e : Int) (k : Nat) : srchTo ts f L e (k + 1) = if (k : Int) ∈ L then srchTo ts f L e k else
      let b1 := if e < 0 ∨ (tA ts k : Int) = e then longer (srchTo ts f L e k) (srchL ts f (L ++ [(k : Int)]) (tB ts k)) else srchTo ts f L e k
      if e < 0 ∨ (tB ts k : Int) = e then longer b1 (srchL ts f (L ++ [(k : Int)]) (tA ts k)) else b1 := by
  unfold srchTo
  rw [List.range_succ, List.foldl_append]
  rfl
theorem srchTo_full (ts : List (Int × Int)) (f : Nat) (L : List Int) (e : Int) : srchTo ts f L e ts.length = srchL ts (f + 1) L e := rfl
/-- More fuel tells no more, once all tiles are in the line. -/
theorem srchL_in (ts : List (Int × Int)) (f : Nat) (L : List Int) (e : Int) (h : cnt ts.length L = 0) : srchL ts (f + 1) L e = L := by
  rw [← srchTo_full]
  have : ∀ k, k ≤ ts.length → srchTo ts f L e k = L := by
    intro k
    induction k with
    | zero => intro _; rfl
    | succ k ih => intro hk; rw [srchTo_succ, if_pos (cnt_zero h (by omega)), ih (by omega)]
  exact this _ (Nat.le_refl _)

theorem longer_own {w : World} {B0 n n' c c' : Nat} {a a' : Option Addr} {xs ys : List Int} (h : w.ownsRow B0 2 1 (.slice a n c) n (intCells xs)) (h' : w.ownsRow B0 2 1 (.slice a' n' c') n' (intCells ys)) (hn : n ≤ 1000) (hn' : n' ≤ 1000) :
    ∃ va vn vc, (good xs ys = true → Value.slice va vn vc = .slice a n c) ∧ (good xs ys = false → Value.slice va vn vc = .slice a' n' c') ∧ w.ownsRow B0 2 1 (.slice va vn vc) vn (intCells (longer xs ys)) ∧ vn ≤ 1000 := by
  rcases Bool.eq_false_or_eq_true (good xs ys) with e | e
  · exact ⟨a, n, c, fun _ => rfl, fun q => (by rw [e] at q; cases q), by unfold longer; rw [if_pos e]; exact h, hn⟩
  · exact ⟨a', n', c', fun q => (by rw [e] at q; cases q), fun _ => rfl, by unfold longer; rw [if_neg (by rw [e]; exact Bool.false_ne_true)]; exact h', hn'⟩

end Go.Proofs.Ytnagmeeoeilbcaa
