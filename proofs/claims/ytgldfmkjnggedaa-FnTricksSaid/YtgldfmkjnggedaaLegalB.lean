/- Cards that may be played, spec: l06Cards, l06Sorted, l06Legal, LegalPlays. -/
import Derived.Test.YtgldfmkjnggedaaSortA
import Derived.Test.YtgldfmkjnggedaaBasic
import Derived.Test.YtgldfmkjnggedaaClone
import Derived.Test.YtgldfmkjnggedaaOrderB
import Derived.Test.YtgldfmkjnggedaaChgC
import Derived.IntWalk
namespace Go.Proofs.Ytgldfmkjnggedaa
open Go.RowKit
set_option linter.unusedVariables false

/-- It returns a list of numbers of its own. -/
def RetL (w : World) (xs : List Int) (e : Ending) (w' : World) : Prop :=
  ∃ a n c, e = .returned (.slice a n c) ∧ Below w.heap.size w w' ∧ w'.ownsRow w.heap.size 2 1 (.slice a n c) n (intCells xs)

theorem filter_take_succ (p : Int → Bool) (xs : List Int) (k : Nat) (h : k < xs.length) : (xs.take (k + 1)).filter p = if p (xs.getD k 0) = true then (xs.take k).filter p ++ [xs.getD k 0] else (xs.take k).filter p := by
  rw [List.take_succ_eq_append_getElem h, List.filter_append]
  have e : xs.getD k 0 = xs[k] := by simp [h]
  rw [e]
  split
  · rename_i hp
    rw [List.filter_cons_of_pos hp]
    rfl
  · rename_i hp
    rw [List.filter_cons_of_neg hp, List.filter_nil, List.append_nil]
theorem ne_ownB {lo g n c on oc : Nat} {oa : Option Addr} (hI : ∀ x, oa = some x → lo ≤ x.block) (hg : g < lo) : (Value.slice (some ⟨g, 0, none⟩) n c).ownBlock ≠ (Value.slice oa on oc).ownBlock := by
  cases oa with
  | none => simp [Value.ownBlock]
  | some x => have := hI x rfl; simp only [Value.ownBlock]; intro e; have := Option.some_inj.1 e; omega

end Go.Proofs.Ytgldfmkjnggedaa
