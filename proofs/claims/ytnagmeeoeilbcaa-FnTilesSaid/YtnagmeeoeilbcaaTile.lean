/- The laws' own words on Tile: toTile, toTileS, eqTile, eqTileS, markTileS, szTileS. -/
import Derived.Test.YtnagmeeoeilbcaaDuo
import Derived.Test.YtnagmeeoeilbcaaProg
import Derived.StillTailTactics
namespace Go.Proofs.Ytnagmeeoeilbcaa
open Go.RowKit

theorem infoTile : (Try.prog.info? 44).map (fun i => (i.zero, i.size, i.bytes)) = some (some (.agg #[.int .i64 0, .int .i64 0]), 2, 16) := by kernel_rfl

end Go.Proofs.Ytnagmeeoeilbcaa
