/- Tricks, spec: l06Answer, l06Lead. -/
import Derived.Test.YtgldfmkjnggedaaTrickB
namespace Go.Proofs.Ytgldfmkjnggedaa
open Go.RowKit
set_option linter.unusedVariables false

def cardF (t : Int) : Nat → List Int → List Int → Int
  | 0, _, _ => -1
  | f + 1, lead, other => leadC t f lead other

end Go.Proofs.Ytgldfmkjnggedaa
