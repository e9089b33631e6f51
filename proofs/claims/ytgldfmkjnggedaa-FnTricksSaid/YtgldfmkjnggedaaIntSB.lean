/- Slices of slices of numbers: the copy of one. -/
import Derived.Test.YtgldfmkjnggedaaIntSS
namespace Go.Proofs.Ytgldfmkjnggedaa
open Go.RowKit
set_option linter.unusedVariables false

theorem infoI64S : (Try.prog.info? 25).map (fun i => (i.zero, i.size, i.bytes)) = some (some (.slice none 0 0), 1, 24) := by kernel_rfl

end Go.Proofs.Ytgldfmkjnggedaa
