/- The laws' own words on Test: toTest, toTestS, eqTest, eqTestS, markTestS, szTestS. -/
import Derived.Test.YtafkfegfjjebkaaViews
import Derived.Test.YtafkfegfjjebkaaProg
import Derived.StillTailTactics
namespace Go.Proofs.Ytafkfegfjjebkaa
open Go.RowKit

theorem infoTest : (Try.prog.info? 25).map (fun i => (i.zero, i.size, i.bytes)) = some (some (.agg #[.int .i64 0, .int .i64 0, .int .i64 0]), 3, 24) := by kernel_rfl

theorem toTest_any (x0 x1 x2 : Int) (w : World) : Calls Try.prog 10 #[.agg #[.int .i64 x0, .int .i64 x1, .int .i64 x2]] w (Ret w (.agg #[.int .i64 x0, .int .i64 x1, .int .i64 x2])) := by
  go_enter Try.func10, Try.ntmps10
  go_wp2
  exact bodyPost_ret (v := .agg #[.int .i64 x0, .int .i64 x1, .int .i64 x2]) (by simp [results, Try.results10, go_sem]) rfl ⟨rfl, by
    repeat (first | exact Below.refl _ _ | refine Below.setCell ?_ (by simp) _ | refine Below.alloc ?_ (by first | (simp; done) | (simp; omega)) _)⟩

end Go.Proofs.Ytafkfegfjjebkaa
