/- Tiles: hands, and in how many ways they are full, of both: plain terms. -/
import Derived.Test.YtnagmeeoeilbcaaTilesA
namespace Go.Proofs.Ytnagmeeoeilbcaa
open Go.RowKit

/-- the sum of a list -/
def isum : List Int → Int
  | [] => 0
  | x :: xs => x + isum xs
theorem isum_snoc (xs : List Int) (x : Int) : isum (xs ++ [x]) = isum xs + x := by
  induction xs with
  | nil => simp [isum]
  | cons y ys ih => simp only [List.cons_append, isum, ih]; omega
theorem isum_take_succ (xs : List Int) (k : Nat) (hk : k < xs.length) : isum (xs.take (k + 1)) = isum (xs.take k) + xs.getD k 0 := by
  rw [List.take_succ_eq_append_getElem hk, isum_snoc, show xs.getD k 0 = xs[k] from by simp [hk]]
theorem isum_bd (b : Int) (xs : List Int) (h : ∀ i, 0 ≤ xs.getD i 0 ∧ xs.getD i 0 ≤ b) (k : Nat) (hk : k ≤ xs.length) : 0 ≤ isum (xs.take k) ∧ isum (xs.take k) ≤ b * k := by
  induction k with
  | zero => simp [isum]
  | succ k ih =>
    rw [isum_take_succ xs k (by omega)]
    have := ih (by omega)
    have hh := h k
    have : b * ((k + 1 : Nat) : Int) = b * k + b := by rw [Int.natCast_add, Int.mul_add]; simp
    omega
/-- a hand of tiles -/
def okHand (xs : List Int) : Bool := decide (xs.length = 9) && (xs.all (fun n => inB n 0 4) && decide (isum xs ≤ 14))
theorem okHand_counts {xs : List Int} (h : okHand xs = true) : Counts xs ∧ isum xs ≤ 14 := by
  simp only [okHand, Bool.and_eq_true, decide_eq_true_eq, List.all_eq_true] at h
  obtain ⟨h1, h2, h3⟩ := h
  refine ⟨⟨h1, fun i => ?_⟩, h3⟩
  by_cases hi : i < xs.length
  · have := (inB_iff _ _ _).1 (h2 _ (getD_mem (d := 0) hi))
    exact this
  · simp [List.getD_eq_getElem?_getD, List.getElem?_eq_none (show xs.length ≤ i by omega)]
/-- in how many ways full, summed up to a kind -/
def fullTo (xs : List Int) : Nat → Int
  | 0 => 0
  | k + 1 => fullTo xs k + (if 2 ≤ xs.getD k 0 then gwA 9 (xs.set k (xs.getD k 0 - 2)) 0 else 0)
theorem fullTo_bd (xs : List Int) (k : Nat) : 0 ≤ fullTo xs k ∧ fullTo xs k ≤ 512 * k := by
  induction k with
  | zero => simp [fullTo]
  | succ k ih =>
    simp only [fullTo]
    have := gwA_bd 9 (xs.set k (xs.getD k 0 - 2)) 0
    have e : ((2 ^ 9 : Nat) : Int) = 512 := by decide
    split <;> omega
/-- the sum from a kind on -/
def sumFrom : Nat → List Int → Nat → Int
  | 0, _, _ => 0
  | f + 1, xs, k => xs.getD k 0 + sumFrom f xs (k + 1)
theorem sumFrom_set_lt : ∀ (f : Nat) (xs : List Int) (k i : Nat) (v : Int), i < k → sumFrom f (xs.set i v) k = sumFrom f xs k := by
  intro f
  induction f with
  | zero => intro xs k i v _; rfl
  | succ f ih => intro xs k i v h; simp only [sumFrom]; rw [ih _ _ _ _ (by omega), getD_set, if_neg (by omega)]
theorem sumFrom_set : ∀ (f : Nat) (xs : List Int) (k i : Nat) (v : Int), k ≤ i → i < k + f → i < xs.length → sumFrom f (xs.set i v) k = sumFrom f xs k + (v - xs.getD i 0) := by
  intro f
  induction f with
  | zero => intro xs k i v _ _ _; omega
  | succ f ih =>
    intro xs k i v h1 h2 h3
    simp only [sumFrom]
    by_cases e : i = k
    · subst e
      rw [sumFrom_set_lt f xs (i + 1) i v (by omega), getD_set, if_pos ⟨rfl, h3⟩]; omega
    · rw [ih xs (k + 1) i v (by omega) (by omega) h3, getD_set, if_neg (by omega)]; omega
/-- groups have three tiles each: where there are ways, the sum is a multiple of three -/
theorem gwA_mod : ∀ (f : Nat) (xs : List Int) (k : Nat), xs.length = k + f → gwA f xs k ≠ 0 → ∃ q, sumFrom f xs k = 3 * q := by
  intro f
  induction f with
  | zero => intro xs k _ _; exact ⟨0, rfl⟩
  | succ f ih =>
    intro xs k hl h
    have hs : ∀ r, gwStep f xs k r ≠ 0 → ∃ q, r + sumFrom f xs (k + 1) = 3 * q := by
      intro r hr
      unfold gwStep at hr
      split at hr
      · rename_i h0
        obtain ⟨q, hq⟩ := ih xs (k + 1) (by omega) hr
        exact ⟨q, by omega⟩
      · split at hr
        · rename_i h0 h1
          obtain ⟨q, hq⟩ := ih (sub2 xs k r) (k + 1) (by simp [sub2]; omega) hr
          rw [sub2, sumFrom_set _ _ _ _ _ (by omega) (by omega) (by simp; omega), sumFrom_set _ _ _ _ _ (by omega) (by omega) (by omega), getD_set, if_neg (by omega)] at hq
          exact ⟨q + r, by omega⟩
        · exact absurd rfl hr
    rw [gwA_succ] at h
    simp only [sumFrom]
    by_cases a : gwStep f xs k (xs.getD k 0) = 0
    · rw [a] at h
      split at h
      · obtain ⟨q, hq⟩ := hs (xs.getD k 0 - 3) (by omega)
        exact ⟨q + 1, by omega⟩
      · omega
    · exact hs _ a
theorem isum_from : ∀ (xs : List Int), isum xs = sumFrom xs.length xs 0 := by
  have key : ∀ (f : Nat) (xs : List Int) (k : Nat), xs.length = k + f → sumFrom f xs k = isum (xs.drop k) := by
    intro f
    induction f with
    | zero => intro xs k h; rw [List.drop_of_length_le (by omega)]; rfl
    | succ f ih =>
      intro xs k h
      rw [List.drop_eq_getElem_cons (by omega)]
      simp only [sumFrom, isum]
      rw [ih xs (k + 1) (by omega), show xs.getD k 0 = xs[k] from by simp [show k < xs.length by omega]]
  intro xs
  rw [key xs.length xs 0 (by omega)]
  simp
/-- a hand that is full has two tiles more than a multiple of three -/
theorem fullTo_mod (xs : List Int) (hl : xs.length = 9) (hm : ∀ q, isum xs ≠ 3 * q + 2) (k : Nat) (hk : k ≤ 9) : fullTo xs k = 0 := by
  induction k with
  | zero => rfl
  | succ k ih =>
    simp only [fullTo, ih (by omega)]
    split
    · rename_i h2
      by_cases h : gwA 9 (xs.set k (xs.getD k 0 - 2)) 0 = 0
      · rw [h]; rfl
      · obtain ⟨q, hq⟩ := gwA_mod 9 _ 0 (by simp [hl]) h
        rw [sumFrom_set 9 xs 0 k _ (by omega) (by omega) (by omega)] at hq
        have := isum_from xs
        rw [hl] at this
        exact absurd (by omega) (hm q)
    · rfl
/-- what FullWays tells -/
def fullRes (xs : List Int) : Int × Bool := if okHand xs then (fullTo xs 9, true) else (0, false)

end Go.Proofs.Ytnagmeeoeilbcaa
