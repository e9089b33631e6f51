/- Tiles: in how many ways they are groups, l06Groups. -/
import Derived.Test.YtnagmeeoeilbcaaTilesA
import Derived.Test.YtnagmeeoeilbcaaClone
import Derived.Test.YtnagmeeoeilbcaaTally
namespace Go.Proofs.Ytnagmeeoeilbcaa
open Go.RowKit
set_option linter.unusedVariables false

end Go.Proofs.Ytnagmeeoeilbcaa
