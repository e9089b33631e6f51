/- Orders of cards: l02Has, l02Orders, l02Deck; isOrder, IsDeck. -/
import Derived.Test.YtgldfmkjnggedaaOrderA
import Derived.Test.YtgldfmkjnggedaaBasic
import Derived.Test.YtgldfmkjnggedaaI64
import Derived.Test.YtgldfmkjnggedaaTally
namespace Go.Proofs.Ytgldfmkjnggedaa
open Go.RowKit
set_option linter.unusedVariables false

theorem infoB : (Try.prog.info? 4).map (fun i => (i.zero, i.size, i.bytes)) = some (some (.bool false), 1, 1) := by kernel_rfl

end Go.Proofs.Ytgldfmkjnggedaa
