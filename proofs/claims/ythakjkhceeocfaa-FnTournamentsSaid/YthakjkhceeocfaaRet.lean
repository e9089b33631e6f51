/- Small words on what is returned: pairs. -/
import Derived.Test.YthakjkhceeocfaaKit
namespace Go.Proofs.Ythakjkhceeocfaa
open Go.RowKit

theorem ret_ib {a : Int} {p : Bool} {r : Int × Bool} (h : r = (a, p)) : Ending.returned (.tuple #[.int .i64 a, .bool p]) = .returned (.tuple #[.int .i64 r.1, .bool r.2]) := by rw [h]
theorem ret_bb {a p : Bool} {r : Bool × Bool} (h : r = (a, p)) : Ending.returned (.tuple #[.bool a, .bool p]) = .returned (.tuple #[.bool r.1, .bool r.2]) := by rw [h]
theorem ret_iib {a b : Int} {p : Bool} {r : Int × Int × Bool} (h : r = (a, b, p)) : Ending.returned (.tuple #[.int .i64 a, .int .i64 b, .bool p]) = .returned (.tuple #[.int .i64 r.1, .int .i64 r.2.1, .bool r.2.2]) := by rw [h]

end Go.Proofs.Ythakjkhceeocfaa
