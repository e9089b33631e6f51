/- How a Boolean comes. -/
import Derived.Test.YtnlcgkfdpaffaaaOpen
namespace Go.Proofs.Ytnlcgkfdpaffaaa
open Go.ChangeShapes Go.WideShapes Go.ChangeAt Go.RowKit Go.Deep
set_option linter.unusedVariables false

section
variable {H : Type} {enc : TypeId × Value → H} {P : Program} {w : World} {base : Nat} {spare : Nat → Bool} {held : Bool}

theorem open_b {r : Reach} {b0 : Nat} {t : TypeId} {v : Value} {d : DataW H} {p : List MemPlace} (ht : P.underlying t = some .bool) (hv : Value.okWide P w r b0 t v) (h : DataW.Trod enc P w base spare held t v d p) :
    ∃ x, v = .bool x := by
  obtain ⟨x, h1, _⟩ := open_bool ht hv h
  exact ⟨x, h1⟩
end
end Go.Proofs.Ytnlcgkfdpaffaaa
