/- The laws' own words on slices of int64: eqInt64S, toInt64S, markInt64S, heldInt64S, szInt64S. -/
import Derived.Test.YtcflgmjjomiejaaViews
import Derived.Test.YtcflgmjjomiejaaProg
namespace Go.Proofs.Ytcflgmjjomiejaa
open Go.RowKit

theorem infoI64 : (Try.prog.info? 2).map (fun i => (i.zero, i.size, i.bytes)) = some (some (.int .i64 0), 1, 8) := by kernel_rfl

end Go.Proofs.Ytcflgmjjomiejaa
