/- How often each two have met: metOf. -/
import Derived.Test.YthakjkhceeocfaaMet
import Derived.StillTailTactics
namespace Go.Proofs.Ythakjkhceeocfaa
open Go.RowKit

end Go.Proofs.Ythakjkhceeocfaa
