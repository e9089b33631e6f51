/- How a row of Booleans comes. -/
import Derived.Test.YtndkaelpeembhaaOpen
import Derived.Test.YtndkaelpeembhaaRow
namespace Go.Proofs.Ytndkaelpeembhaa
open Go.ChangeShapes Go.WideShapes Go.ChangeAt Go.RowKit Go.Deep
set_option linter.unusedVariables false

section
variable {H : Type} {enc : TypeId × Value → H} {P : Program} {w : World} {base : Nat} {spare : Nat → Bool} {held : Bool}

theorem flat_one {α : Type} (f : α → Value) (xs : List α) : xs.flatMap (fun x => [f x]) = xs.map f := by
  induction xs with
  | nil => rfl
  | cons x xs ih => rw [List.flatMap_cons, ih]; rfl

theorem open_bools {r : Reach} {b0 : Nat} {t e : TypeId} {v : Value} {d : DataW H} {p : List MemPlace} (ht : P.underlying t = some (.slice e)) (he : P.underlying e = some .bool) (hC : P.cellsOf e = 1)
    (hv : Value.okWide P w r b0 t v) (h : DataW.Trod enc P w base spare held t v d p) :
    ∃ (a : Option Addr) (len cap : Nat) (xs : List Bool), v = .slice a len cap ∧ Bools w a len cap xs := by
  obtain ⟨a, len, cap, xs, h1, h2, h3, h4⟩ := rd_of (fun x : Bool => [Value.bool x]) (fun _ => True) 1 (fun _ => rfl) (by omega) ht hC (fun n cs' y h => by obtain ⟨b, h1, _⟩ := DataW.trod_bool he h; exact ⟨b, h1, trivial⟩) hv h
  refine ⟨a, len, cap, xs, h1, ?_⟩
  rw [flat_one] at h4
  exact h4
end
end Go.Proofs.Ytndkaelpeembhaa
