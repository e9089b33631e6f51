/- The laws' own words on Game: toGame, toGameS, eqGame, eqGameS, markGameS, szGameS. -/
import Derived.Test.YtcflgmjjomiejaaViews
import Derived.Test.YtcflgmjjomiejaaProg
import Derived.StillTailTactics
namespace Go.Proofs.Ytcflgmjjomiejaa
open Go.RowKit

theorem infoGame : (Try.prog.info? 55).map (fun i => (i.zero, i.size, i.bytes)) = some (some (.agg #[.int .i64 0, .int .i64 0, .int .i64 0]), 3, 24) := by kernel_rfl

end Go.Proofs.Ytcflgmjjomiejaa
