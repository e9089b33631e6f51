/- Lists of numbers in ascending order: plain facts. -/
import Derived.Test.YtgldfmkjnggedaaTieA
namespace Go.Proofs.Ytgldfmkjnggedaa
open Go.RowKit
set_option linter.unusedVariables false

def isort (xs : List Int) : List Int := xs.mergeSort (fun a b => decide (a ≤ b))
theorem isort_perm (xs : List Int) : (isort xs).Perm xs := List.mergeSort_perm _ _
theorem isort_len (xs : List Int) : (isort xs).length = xs.length := (isort_perm xs).length_eq
theorem isort_sorted (xs : List Int) : (isort xs).Pairwise (fun a b => a ≤ b) := by
  have := List.pairwise_mergeSort (le := fun a b : Int => decide (a ≤ b)) (fun a b c h k => by simp only [decide_eq_true_eq] at *; omega) (fun a b => by simp only [Bool.or_eq_true, decide_eq_true_eq]; omega) xs
  exact this.imp fun h => by simpa using h
theorem isort_eq (xs L : List Int) (hp : L.Perm xs) (hs : L.Pairwise (fun a b => a ≤ b)) : L = isort xs :=
  List.Perm.eq_of_pairwise (fun a b _ _ h k => Int.le_antisymm h k) hs (isort_sorted xs) (hp.trans (isort_perm xs).symm)
theorem isort_filter (xs : List Int) (p : Int → Bool) : isort (xs.filter p) = (isort xs).filter p :=
  (isort_eq _ _ ((isort_perm xs).filter p) ((isort_sorted xs).sublist List.filter_sublist)).symm

structure ISrt (xs : List Int) (i : Nat) (L : List Int) : Prop where
  perm : L.Perm xs
  srt : ∀ p q, p < q → q < i → q < xs.length → L.getD p 0 ≤ L.getD q 0
structure IIns (xs : List Int) (i j : Nat) (L : List Int) : Prop where
  perm : L.Perm xs
  srt : ∀ p q, p < q → q ≤ i → p ≠ j → q ≠ j → L.getD p 0 ≤ L.getD q 0
  aft : ∀ q, j < q → q ≤ i → L.getD j 0 ≤ L.getD q 0
theorem ISrt.len {xs : List Int} {i : Nat} {L : List Int} (h : ISrt xs i L) : L.length = xs.length := h.perm.length_eq
theorem IIns.len {xs : List Int} {i j : Nat} {L : List Int} (h : IIns xs i j L) : L.length = xs.length := h.perm.length_eq
theorem ISrt.one (xs : List Int) (i : Nat) (hi : i ≤ 1) : ISrt xs i xs := ⟨List.Perm.refl _, fun p q h1 h2 _ => by omega⟩
theorem ISrt.begin {xs : List Int} {i : Nat} {L : List Int} (h : ISrt xs i L) (hi : i < xs.length) : IIns xs i i L where
  perm := h.perm
  srt := fun p q h1 h2 h3 h4 => h.srt p q h1 (by omega) (by omega)
  aft := fun q h1 h2 => by omega
theorem IIns.done {xs : List Int} {i j : Nat} {L : List Int} (h : IIns xs i j L) (hj : j ≤ i) (hd : j = 0 ∨ ¬ L.getD j 0 < L.getD (j - 1) 0) : ISrt xs (i + 1) L where
  perm := h.perm
  srt := fun p q h1 h2 h3 => by
    by_cases e : p = j
    · subst e; exact h.aft q h1 (by omega)
    · by_cases e2 : q = j
      · subst e2
        rcases hd with hd | hd
        · omega
        · by_cases e3 : p = q - 1
          · subst e3; omega
          · have := h.srt p (q - 1) (by omega) (by omega) e (by omega); omega
      · exact h.srt p q h1 (by omega) e e2
theorem IIns.step {xs : List Int} {i j : Nat} {L : List Int} (h : IIns xs i j L) (hi : i < xs.length) (hj : j ≤ i) (h0 : 0 < j) (hd : L.getD j 0 < L.getD (j - 1) 0) : IIns xs i (j - 1) (swapAt L j) := by
  have hl := h.len
  have G := fun q => swapAt_getD L j q h0 (by omega)
  refine ⟨(swapAt_perm L j (by omega)).trans h.perm, fun p q h1 h2 h3 h4 => ?_, fun q h1 h2 => ?_⟩
  · rw [G p, G q, if_neg h3, if_neg h4]
    by_cases e1 : p = j
    · subst e1
      rw [if_pos rfl, if_neg (by omega)]
      exact h.srt _ _ (by omega) h2 (by omega) (by omega)
    · rw [if_neg e1]
      by_cases e2 : q = j
      · subst e2
        rw [if_pos rfl]
        exact h.srt _ _ (by omega) (by omega) e1 (by omega)
      · rw [if_neg e2]
        exact h.srt _ _ h1 h2 e1 e2
  · rw [G (j - 1), if_neg (by omega), if_pos rfl, G q]
    by_cases e1 : q = j
    · subst e1; rw [if_pos rfl]; omega
    · rw [if_neg e1, if_neg (by omega)]
      exact h.aft q (by omega) h2
theorem ISrt.full {xs : List Int} {i : Nat} {L : List Int} (h : ISrt xs i L) (hi : xs.length ≤ i) : L = isort xs := by
  have hl := h.len
  refine isort_eq xs L h.perm ?_
  rw [List.pairwise_iff_getElem]
  intro p q hp hq hpq
  have := h.srt p q hpq (by omega) (by omega)
  simpa [hp, hq] using this

/-- of the led suit -/
def suit (led c : Int) : Bool := c / 13 == led / 13
/-- the cards that may be played -/
def legalL (hand : List Int) (led : Int) : List Int := if (hand.filter (suit led)).isEmpty then isort hand else isort (hand.filter (suit led))
theorem legalL_spec (hand : List Int) (led : Int) : legalL hand led = if ((isort hand).filter (suit led)).length = 0 then isort hand else (isort hand).filter (suit led) := by
  unfold legalL
  have e := isort_filter hand (suit led)
  rw [← e, isort_len, e]
  by_cases h : (hand.filter (suit led)) = []
  · rw [h]; simp
  · rw [if_neg (by simpa using h), if_neg (by simpa using h)]
theorem legalL_mem {hand : List Int} {led x : Int} (h : x ∈ legalL hand led) : x ∈ hand := by
  unfold legalL at h
  split at h
  · exact (isort_perm hand).mem_iff.1 h
  · exact List.filter_sublist.mem ((isort_perm _).mem_iff.1 h)
theorem legalL_len (hand : List Int) (led : Int) : (legalL hand led).length ≤ hand.length := by
  unfold legalL
  split
  · rw [isort_len]; exact Nat.le_refl _
  · rw [isort_len]; exact List.length_filter_le _ _
/-- different cards -/
def okCards (xs : List Int) : Bool := (List.range xs.length).all fun i => inB (xs.getD i 0) 0 51 && !((xs.take i).any fun y => xs.getD i 0 == y)
def cardAt (xs : List Int) (i : Nat) : Bool := inB (xs.getD i 0) 0 51 && !((xs.take i).any fun y => xs.getD i 0 == y)
theorem okCards_iff (xs : List Int) : okCards xs = true ↔ ∀ i, i < xs.length → cardAt xs i = true := by
  simp only [okCards, List.all_eq_true, List.mem_range]
  rfl
theorem okCards_not {xs : List Int} {i : Nat} (h : i < xs.length) (e : cardAt xs i = false) : okCards xs = false := by
  rw [← Bool.not_eq_true]
  intro h2
  rw [okCards_iff] at h2
  rw [h2 i h] at e
  cases e
theorem okCards_rng {xs : List Int} (h : okCards xs = true) : ∀ x ∈ xs, 0 ≤ x ∧ x ≤ 51 := by
  intro x hx
  obtain ⟨i, hi, rfl⟩ := List.getElem_of_mem hx
  have := (okCards_iff xs).1 h i hi
  simp only [cardAt, Bool.and_eq_true] at this
  have := (inB_iff _ _ _).1 this.1
  simpa [hi] using this
/-- what LegalPlays tells -/
def legalRes (hand : List Int) (led : Int) : List Int × Bool :=
  if 1 ≤ hand.length ∧ hand.length ≤ 6 ∧ okCards hand = true ∧ inB led 0 51 = true then (legalL hand led, true) else ([], false)
theorem legalRes_len (hand : List Int) (led : Int) : (legalRes hand led).1.length ≤ 1048576 := by
  unfold legalRes
  split
  · rename_i h
    have := legalL_len hand led
    dsimp only
    omega
  · simp

end Go.Proofs.Ytgldfmkjnggedaa
