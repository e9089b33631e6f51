/- Tiles: groups, in plain terms. -/
import Derived.Test.YtnagmeeoeilbcaaViews
namespace Go.Proofs.Ytnagmeeoeilbcaa
open Go.RowKit

/-- counts from 0 to 4 of nine kinds -/
def Counts (xs : List Int) : Prop := xs.length = 9 ∧ ∀ i, 0 ≤ xs.getD i 0 ∧ xs.getD i 0 ≤ 4
def sub2 (xs : List Int) (k : Nat) (r : Int) : List Int := (xs.set (k + 1) (xs.getD (k + 1) 0 - r)).set (k + 2) (xs.getD (k + 2) 0 - r)
theorem getD_set (xs : List Int) (i j : Nat) (v : Int) : (xs.set i v).getD j 0 = if i = j ∧ j < xs.length then v else xs.getD j 0 := by
  simp only [List.getD_eq_getElem?_getD, List.getElem?_set]
  by_cases h1 : i = j
  · subst h1
    by_cases h2 : i < xs.length
    · simp [h2]
    · simp [h2]
  · simp [h1]
theorem Counts.set {xs : List Int} (h : Counts xs) (i : Nat) (v : Int) (h0 : 0 ≤ v) (h1 : v ≤ 4) : Counts (xs.set i v) := by
  refine ⟨by simp [h.1], fun j => ?_⟩
  rw [getD_set]
  have := h.2 j
  split <;> omega
theorem Counts.sub2 {xs : List Int} (h : Counts xs) (k : Nat) (r : Int) (hr : 0 ≤ r) (h1 : r ≤ xs.getD (k + 1) 0) (h2 : r ≤ xs.getD (k + 2) 0) : Counts (sub2 xs k r) := by
  have a := h.2 (k + 1)
  have b := h.2 (k + 2)
  exact (h.set _ _ (by omega) (by omega)).set _ _ (by omega) (by omega)

/-- in how many ways counts from a kind on are groups -/
def gwA : Nat → List Int → Nat → Int
  | 0, _, _ => 1
  | f + 1, xs, k =>
    let step := fun r : Int => if r = 0 then gwA f xs (k + 1) else if k + 2 < xs.length ∧ r ≤ xs.getD (k + 1) 0 ∧ r ≤ xs.getD (k + 2) 0 then gwA f (sub2 xs k r) (k + 1) else 0
    step (xs.getD k 0) + (if 3 ≤ xs.getD k 0 then step (xs.getD k 0 - 3) else 0)
def gwStep (f : Nat) (xs : List Int) (k : Nat) (r : Int) : Int := if r = 0 then gwA f xs (k + 1) else if k + 2 < xs.length ∧ r ≤ xs.getD (k + 1) 0 ∧ r ≤ xs.getD (k + 2) 0 then gwA f (sub2 xs k r) (k + 1) else 0
theorem gwA_succ (f : Nat) (xs : List Int) (k : Nat) : gwA (f + 1) xs k = gwStep f xs k (xs.getD k 0) + (if 3 ≤ xs.getD k 0 then gwStep f xs k (xs.getD k 0 - 3) else 0) := rfl
theorem gwA_bd : ∀ (f : Nat) (xs : List Int) (k : Nat), 0 ≤ gwA f xs k ∧ gwA f xs k ≤ (2 ^ f : Nat) := by
  intro f
  induction f with
  | zero => intro xs k; simp [gwA]
  | succ f ih =>
    intro xs k
    have hs : ∀ r, 0 ≤ gwStep f xs k r ∧ gwStep f xs k r ≤ (2 ^ f : Nat) := by
      intro r
      unfold gwStep
      split
      · exact ih _ _
      · split
        · exact ih _ _
        · exact ⟨Int.le_refl _, Int.natCast_nonneg _⟩
    rw [gwA_succ, Nat.pow_succ]
    have a := hs (xs.getD k 0)
    have b := hs (xs.getD k 0 - 3)
    split <;> omega
theorem pow2_le (f : Nat) (h : f ≤ 9) : 2 ^ f ≤ 512 := by
  have : 2 ^ f ≤ 2 ^ 9 := Nat.pow_le_pow_right (by omega) h
  simpa using this
theorem gwStep_bd (f : Nat) (xs : List Int) (k : Nat) (r : Int) : 0 ≤ gwStep f xs k r ∧ gwStep f xs k r ≤ (2 ^ f : Nat) := by
  unfold gwStep
  split
  · exact gwA_bd _ _ _
  · split
    · exact gwA_bd _ _ _
    · exact ⟨Int.le_refl _, Int.natCast_nonneg _⟩
/-- only what stands from k on matters -/
theorem gwA_congr : ∀ (f : Nat) (xs ys : List Int) (k : Nat), xs.length = ys.length → (∀ i, k ≤ i → xs.getD i 0 = ys.getD i 0) → gwA f xs k = gwA f ys k := by
  intro f
  induction f with
  | zero => intro xs ys k _ _; rfl
  | succ f ih =>
    intro xs ys k hl h
    have h0 := h k (by omega)
    have h1 := h (k + 1) (by omega)
    have h2 := h (k + 2) (by omega)
    have hs : ∀ r, gwStep f xs k r = gwStep f ys k r := by
      intro r
      unfold gwStep
      rw [hl, h1, h2, ih xs ys (k + 1) hl (fun i hi => h i (by omega))]
      rw [ih (sub2 xs k r) (sub2 ys k r) (k + 1) (by simp [sub2, hl]) (fun i hi => by
        simp only [sub2, getD_set, List.length_set, hl, h1, h2, h i (by omega)])]
    rw [gwA_succ, gwA_succ, h0, hs, hs]
/-- the sums of the rounds -/
def gwPart (f : Nat) (xs : List Int) (k t : Nat) : Int := match t with
  | 0 => 0
  | 1 => gwStep f xs k (xs.getD k 0)
  | _ => gwStep f xs k (xs.getD k 0) + gwStep f xs k (xs.getD k 0 - 3)
theorem gwPart_succ (f : Nat) (xs : List Int) (k t : Nat) (ht : t = 0 ∨ t = 1) : gwPart f xs k (t + 1) = gwPart f xs k t + gwStep f xs k (xs.getD k 0 - 3 * t) := by
  rcases ht with rfl | rfl
  · simp [gwPart]
  · simp [gwPart]
theorem gwPart_end (f : Nat) (xs : List Int) (k t : Nat) (ht : t ≤ 2) (h1 : 3 * (t : Int) ≤ xs.getD k 0 + 3) (h2 : xs.getD k 0 < 3 * (t : Int)) (h0 : 0 ≤ xs.getD k 0) : gwPart f xs k t = gwA (f + 1) xs k := by
  rw [gwA_succ]
  rcases (show t = 0 ∨ t = 1 ∨ t = 2 by omega) with rfl | rfl | rfl
  · omega
  · rw [if_neg (by omega)]; simp [gwPart]
  · rw [if_pos (by omega)]; rfl
theorem gwA_set (f : Nat) (xs : List Int) (k : Nat) (v : Int) : gwA f (xs.set k v) (k + 1) = gwA f xs (k + 1) :=
  gwA_congr f _ _ _ (by simp) (fun i hi => by rw [getD_set, if_neg (by omega)])
theorem gwA_sub (f : Nat) (xs : List Int) (k : Nat) (r y1 y2 : Int) (h1 : xs.getD (k + 1) 0 = y1) (h2 : xs.getD (k + 2) 0 = y2) : gwA f (((xs.set k 0).set (k + 1) (y1 - r)).set (k + 2) (y2 - r)) (k + 1) = gwA f (sub2 xs k r) (k + 1) :=
  gwA_congr f _ _ _ (by simp [sub2]) (fun i hi => by simp only [sub2, getD_set, List.length_set, h1, h2]; rw [if_neg (show ¬ (k = i ∧ i < xs.length) by omega)])

end Go.Proofs.Ytnagmeeoeilbcaa
