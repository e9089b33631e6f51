/- Logarithms: the result in plain terms; the program's logarithm. -/
import Derived.Test.YtocpahhpagkknaaLgD
import Derived.Test.YtocpahhpagkknaaRow
import Derived.Test.YtocpahhpagkknaaProg
namespace Go.Proofs.Ytocpahhpagkknaa
open Go.RowKit
set_option linter.unusedVariables false
set_option linter.unusedSimpArgs false

/-- how often it is doubled, how often it is halved -/
def up75 (q : Nat) (I : Int) : Nat := if q < 3 * 2 ^ 51 then (-52 - I).toNat else (-53 - I).toNat
def dn15 (q : Nat) (I : Int) : Nat := if q < 3 * 2 ^ 51 then (I + 52).toNat else (I + 53).toNat
theorem lt75_up (q : Nat) (I : Int) (k : Nat) (hk : k ≤ up75 q I) : lt75 q (I + k) = decide (k < up75 q I) := by
  unfold lt75 up75 at *
  rw [Bool.eq_iff_iff]
  simp only [Bool.or_eq_true, Bool.and_eq_true, decide_eq_true_eq]
  by_cases h : q < 3 * 2 ^ 51
  · rw [if_pos h] at hk ⊢
    constructor
    · rintro (z | ⟨z, _⟩) <;> omega
    · intro z
      by_cases e : I + (k : Int) = -53
      · exact .inr ⟨e, h⟩
      · left; omega
  · rw [if_neg h] at hk ⊢
    constructor
    · rintro (z | ⟨z, z2⟩)
      · omega
      · exact absurd z2 h
    · intro z; left; omega
theorem lt15_dn (q : Nat) (I : Int) (k : Nat) (hk : k ≤ dn15 q I) : lt15 q (I - k) = !decide (k < dn15 q I) := by
  unfold lt15 dn15 at *
  rw [Bool.eq_iff_iff]
  simp only [Bool.or_eq_true, Bool.and_eq_true, decide_eq_true_eq, Bool.not_eq_true', decide_eq_false_iff_not]
  by_cases h : q < 3 * 2 ^ 51
  · rw [if_pos h] at hk ⊢
    constructor
    · rintro (z | ⟨z, _⟩) <;> omega
    · intro z
      by_cases e : I - (k : Int) = -52
      · exact .inr ⟨e, h⟩
      · left; omega
  · rw [if_neg h] at hk ⊢
    constructor
    · rintro (z | ⟨z, z2⟩)
      · omega
      · exact absurd z2 h
    · intro z; left; omega
def c75 : Nat := 4604930618986332160
def c15 : Nat := 4609434218613702656
theorem c75_read : Ieee.double.read c75 = .number false (3 * 2 ^ 51) (-53) := by decide
theorem c15_read : Ieee.double.read c15 = .number false (3 * 2 ^ 51) (-52) := by decide
theorem order75 {q : Nat} {I : Int} {y : Nat} (h : Nrm false q I y) : (Ieee.double.order y c75 == some .lt) = lt75 q I := by
  rw [order_c h c75_read]
  unfold lt75
  by_cases a : I < -53 ∨ (I = -53 ∧ q < 3 * 2 ^ 51)
  · rw [if_pos a]
    have : (decide (I ≤ -54) || (decide (I = -53) && decide (q < 3 * 2 ^ 51))) = true := by
      simp only [Bool.or_eq_true, Bool.and_eq_true, decide_eq_true_eq]
      rcases a with a | a
      · left; omega
      · exact .inr a
    rw [this]; rfl
  · rw [if_neg a]
    have : (decide (I ≤ -54) || (decide (I = -53) && decide (q < 3 * 2 ^ 51))) = false := by
      rw [Bool.eq_false_iff]
      intro z
      simp only [Bool.or_eq_true, Bool.and_eq_true, decide_eq_true_eq] at z
      apply a
      rcases z with z | z
      · left; omega
      · exact .inr z
    rw [this]
    split <;> rfl
theorem order15 {q : Nat} {I : Int} {y : Nat} (h : Nrm false q I y) : (Ieee.double.order y c15 == some .gt || Ieee.double.order y c15 == some .eq) = !lt15 q I := by
  rw [order_c h c15_read]
  unfold lt15
  by_cases a : I < -52 ∨ (I = -52 ∧ q < 3 * 2 ^ 51)
  · rw [if_pos a]
    have : (decide (I ≤ -53) || (decide (I = -52) && decide (q < 3 * 2 ^ 51))) = true := by
      simp only [Bool.or_eq_true, Bool.and_eq_true, decide_eq_true_eq]
      rcases a with a | a
      · left; omega
      · exact .inr a
    rw [this]; rfl
  · rw [if_neg a]
    have : (decide (I ≤ -53) || (decide (I = -52) && decide (q < 3 * 2 ^ 51))) = false := by
      rw [Bool.eq_false_iff]
      intro z
      simp only [Bool.or_eq_true, Bool.and_eq_true, decide_eq_true_eq] at z
      apply a
      rcases z with z | z
      · left; omega
      · exact .inr z
    rw [this]
    split <;> rfl
/-- doubled k times, halved k times -/
def dblN (y : Nat) : Nat → Nat
  | 0 => y
  | k + 1 => (Ieee.double.mul (dblN y k) d2).getD 0
def hlvN (y : Nat) : Nat → Nat
  | 0 => y
  | k + 1 => (Ieee.double.div (hlvN y k) d2).getD 0
theorem dblN_nrm {q : Nat} {I : Int} {y : Nat} (h : Nrm false q I y) (h1 : -201 ≤ I) : ∀ k : Nat, I + k ≤ 700 → Nrm false q (I + k) (dblN y k) := by
  intro k
  induction k with
  | zero => intro _; rw [show I + ((0 : Nat) : Int) = I by omega]; exact h
  | succ k ih =>
    intro hk
    obtain ⟨r, a, b⟩ := (ih (by omega)).dbl (by omega) (by omega)
    have e : dblN y (k + 1) = r := by show (Ieee.double.mul (dblN y k) d2).getD 0 = r; unfold d2; rw [a]; rfl
    rw [e, show I + ((k + 1 : Nat) : Int) = I + (k : Int) + 1 by omega]
    exact b
theorem dblN_step {q : Nat} {I : Int} {y : Nat} (h : Nrm false q I y) (h1 : -201 ≤ I) (k : Nat) (hk : I + k ≤ 700) : Ieee.double.mul (dblN y k) d2 = some (dblN y (k + 1)) := by
  obtain ⟨r, a, b⟩ := (dblN_nrm h h1 k hk).dbl (by omega) (by omega)
  have e : dblN y (k + 1) = r := by show (Ieee.double.mul (dblN y k) d2).getD 0 = r; unfold d2; rw [a]; rfl
  rw [e]
  exact a
theorem hlvN_nrm {q : Nat} {I : Int} {y : Nat} (h : Nrm false q I y) (h1 : I ≤ 800) : ∀ k : Nat, -900 ≤ I - k → Nrm false q (I - k) (hlvN y k) := by
  intro k
  induction k with
  | zero => intro _; rw [show I - ((0 : Nat) : Int) = I by omega]; exact h
  | succ k ih =>
    intro hk
    obtain ⟨r, a, b⟩ := (ih (by omega)).half (by omega) (by omega)
    have e : hlvN y (k + 1) = r := by show (Ieee.double.div (hlvN y k) d2).getD 0 = r; unfold d2; rw [a]; rfl
    rw [e, show I - ((k + 1 : Nat) : Int) = I - (k : Int) - 1 by omega]
    exact b
theorem hlvN_step {q : Nat} {I : Int} {y : Nat} (h : Nrm false q I y) (h1 : I ≤ 800) (k : Nat) (hk : -900 ≤ I - k) : Ieee.double.div (hlvN y k) d2 = some (hlvN y (k + 1)) := by
  obtain ⟨r, a, b⟩ := (hlvN_nrm h h1 k hk).half (by omega) (by omega)
  have e : hlvN y (k + 1) = r := by show (Ieee.double.div (hlvN y k) d2).getD 0 = r; unfold d2; rw [a]; rfl
  rw [e]
  exact a

end Go.Proofs.Ytocpahhpagkknaa
