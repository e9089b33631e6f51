/- Lines of play, spec: l06Hands, CountLines. -/
import Derived.Test.YtgldfmkjnggedaaLinesB
namespace Go.Proofs.Ytgldfmkjnggedaa
open Go.RowKit
set_option linter.unusedVariables false

theorem okHands_no {xs ys : List Int} (h : ¬ (xs.length = ys.length ∧ xs.length ≤ 6)) : okHands xs ys = false := by
  rw [← Bool.not_eq_true, okHands_iff]
  exact fun e => h ⟨e.1, e.2.1⟩
theorem okHands_yes {xs ys : List Int} (h : xs.length = ys.length ∧ xs.length ≤ 6) : okHands xs ys = okCards (xs ++ ys) := by
  unfold okHands
  rw [decide_eq_true h.1, decide_eq_true h.2]
  rfl

theorem linesRes_no {xs ys : List Int} (h : ¬ (okHands xs ys = true ∧ xs.length ≤ 4)) : linesRes xs ys = (0, false) := by
  unfold linesRes
  rw [if_neg h]

end Go.Proofs.Ytgldfmkjnggedaa
