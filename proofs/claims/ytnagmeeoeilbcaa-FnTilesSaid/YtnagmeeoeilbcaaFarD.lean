/- FarFromFull, spec: l06Near. -/
import Derived.Test.YtnagmeeoeilbcaaFarC
import Derived.Deep.Cut
import Derived.Deep.CutRange
namespace Go.Proofs.Ytnagmeeoeilbcaa
open Go.RowKit
set_option linter.unusedVariables false

end Go.Proofs.Ytnagmeeoeilbcaa
