/- Tricks, spec: TrickBest, TrickCard. -/
import Derived.Test.YtgldfmkjnggedaaTrickC
namespace Go.Proofs.Ytgldfmkjnggedaa
open Go.RowKit
set_option linter.unusedVariables false

def okGameB (xs ys : List Int) (t : Int) : Bool := okHands xs ys && inB t (-1) 3
/-- what TrickBest tells -/
def bestRes (xs ys : List Int) (b : Bool) (t : Int) : Int × Bool := if okGameB xs ys t = true then ((if b = true then bestF t xs.length xs ys else (xs.length : Int) - bestF t xs.length ys xs), true) else (0, false)
/-- what TrickCard tells -/
def cardRes (xs ys : List Int) (b : Bool) (t : Int) : Int × Bool := if okGameB xs ys t = true ∧ xs.length ≠ 0 then ((if b = true then cardF t xs.length xs ys else cardF t xs.length ys xs), true) else (0, false)
theorem okGame_hands {xs ys : List Int} {t : Int} (h : okGameB xs ys t = true) : xs.length = ys.length ∧ xs.length ≤ 6 ∧ Hand xs.length xs ∧ Hand xs.length ys ∧ -1 ≤ t ∧ t ≤ 3 := by
  simp only [okGameB, Bool.and_eq_true] at h
  have h1 := (okHands_iff xs ys).1 h.1
  have h2 := hands_of_ok h1.2.2
  have h3 := (inB_iff _ _ _).1 h.2
  exact ⟨h1.1, h1.2.1, h2.1, by rw [h1.1]; exact h2.2, h3.1, h3.2⟩

end Go.Proofs.Ytgldfmkjnggedaa
