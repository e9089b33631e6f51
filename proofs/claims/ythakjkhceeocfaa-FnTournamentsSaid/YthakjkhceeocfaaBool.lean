/- The laws' own words on slices of bool: toBoolS, eqBoolS, markBoolS. -/
import Derived.Test.YthakjkhceeocfaaRow
import Derived.Test.YthakjkhceeocfaaProg
namespace Go.Proofs.Ythakjkhceeocfaa
open Go.RowKit
set_option linter.unusedVariables false

theorem infoBool : (Try.prog.info? 4).map (fun i => (i.zero, i.size, i.bytes)) = some (some (.bool false), 1, 1) := by kernel_rfl

end Go.Proofs.Ythakjkhceeocfaa
