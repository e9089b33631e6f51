/- The walk of the law FnExactValidTest. -/
import Derived.Test.YtafkfegfjjebkaaL7Tests
namespace Go.Proofs.Ytafkfegfjjebkaa
open Go.RowKit

theorem fnExactValidTest_walk (x y z : Int) (w : World) (_ : (Lit.int .i64 x).wf = true ∧ (Lit.int .i64 y).wf = true ∧ (Lit.int .i64 z).wf = true) : Calls Try.prog 3 #[.agg #[.int .i64 x, .int .i64 y, .int .i64 z]] w (Ret w (.bool true)) := by
  go_enter Try.func3, Try.ntmps3
  go_wp2_with (fail)
  refine (toTest_any _ _ _ _).mono ?_
  rintro e w1 ⟨rfl, hb1⟩
  have c0 := cell_on hb1 (p := ⟨w.heap.size, 0, none⟩) (v := .int .i64 x) (by simp)
  have c1 := cell_on hb1 (p := ⟨w.heap.size, 1, none⟩) (v := .int .i64 y) (by simp)
  have c2 := cell_on hb1 (p := ⟨w.heap.size, 2, none⟩) (v := .int .i64 z) (by simp)
  have HB1 := Lib.hid (((Below.refl w.heap.size w).alloc (Nat.le_refl _) _).trans (hb1.mono (by simp)))
  clear hb1
  go_wp2_with (fail)
  refine (specValidTest_any _ _ _ _).mono ?_
  rintro e w2 ⟨rfl, hb2⟩
  have d0 := cell_on hb2 c0
  have d1 := cell_on hb2 c1
  have d2 := cell_on hb2 c2
  have HB2 := Lib.hid (HB1.out.trans (hb2.mono HB1.out.size))
  clear hb2 c0 c1 c2
  go_wp2_with (fail)
  refine (toTest_any _ _ _ _).mono ?_
  rintro e w3 ⟨rfl, hb3⟩
  have HB3 := Lib.hid (HB2.out.trans (hb3.mono HB2.out.size))
  clear hb3
  go_wp2_with (fail)
  refine (implValidTest_any _ _ _ _).mono ?_
  rintro e w4 ⟨rfl, hb4⟩
  have HB4 := Lib.hid (HB3.out.trans (hb4.mono HB3.out.size))
  clear hb4
  go_wp2
  go_ret
  exact ⟨rfl, HB4.out⟩

end Go.Proofs.Ytafkfegfjjebkaa
