/- Orders of cards: l02Has, l02Orders, l02Deck; isOrder, IsDeck. -/
import Derived.Test.YtnagmeeoeilbcaaOrderA
import Derived.Test.YtnagmeeoeilbcaaBasic
import Derived.Test.YtnagmeeoeilbcaaI64
import Derived.Test.YtnagmeeoeilbcaaTally
namespace Go.Proofs.Ytnagmeeoeilbcaa
open Go.RowKit
set_option linter.unusedVariables false

theorem infoB : (Try.prog.info? 4).map (fun i => (i.zero, i.size, i.bytes)) = some (some (.bool false), 1, 1) := by kernel_rfl

end Go.Proofs.Ytnagmeeoeilbcaa
