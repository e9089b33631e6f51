/- The walk of the law FnExactHasTour. -/
import Derived.Test.YtnlcgkfdpaffaaaTourD
import Derived.Test.YtnlcgkfdpaffaaaOpenD
import Derived.Test.YtnlcgkfdpaffaaaOpenC
import Derived.Test.YtnlcgkfdpaffaaaChg
namespace Go.Proofs.Ytnlcgkfdpaffaaa
open Go.RowKit
set_option linter.unusedVariables false

theorem fnExactHasTour_walk (a0 : Option Addr) (n0 c0 : Nat) (x0 : List (Int × Int)) (x1 : Bool) (w : World) (f0 : (∀ g ∈ x0, (Lit.int .i64 g.1).wf = true ∧ (Lit.int .i64 g.2).wf = true)) (v0 : Duos w a0 n0 c0 x0) :
    Calls Try.prog 5 #[.slice a0 n0 c0, .bool x1] w (Ret w (.bool true)) := by
  have m0 : n0 ≤ 9223372036854775807 := by have := v0.2.1; have := v0.2.2.1; omega
  by_cases hn0 : (n0 : Int) ≤ 1048576
  case neg =>
    go_enter Try.func5, Try.ntmps5
    go_wp2_with (fail)
    refine (szTileS_no _ _ _ _ _ m0 (by omega) (by omega) (by omega)).mono ?_
    rintro e w1 ⟨rfl, rfl⟩
    go_wp2
    go_ret
    exact ⟨rfl, Below.refl _ _⟩
  go_enter Try.func5, Try.ntmps5
  have HB := Below.refl w.heap.size w
  go_wp2_with (fail)
  refine (szTileS_ok _ _ _ _ _ m0 hn0 (by omega)).mono ?_
  rintro e w1 ⟨rfl, rfl⟩
  go_wp2_with (fail)
  refine (toTileS_any _ _ _ _ _ (Rd.mono v0 HB) (by omega)).mono ?_
  rintro e w1 ⟨g1, rfl, hb1, o1⟩
  replace HB := HB.trans (hb1.mono HB.size)
  have hs1 := hb1.size
  clear hb1
  have I1 := own_in o1
  go_wp2_with (fail)
  refine (specHasTour_any _ _ _ _ _ _ (Rd.own o1) ).mono ?_
  rintro e w2 ⟨rfl, hb2⟩
  replace o1 := ownsRow_below o1 hb2
  replace HB := HB.trans (hb2.mono HB.size)
  have hs2 := hb2.size
  clear hb2
  clear o1 I1
  go_wp2_with (fail)
  refine (toTileS_any _ _ _ _ _ (Rd.mono v0 HB) (by omega)).mono ?_
  rintro e w3 ⟨g3, rfl, hb3, o3⟩
  replace HB := HB.trans (hb3.mono HB.size)
  have hs3 := hb3.size
  clear hb3
  have I3 := own_in o3
  go_wp2_with (fail)
  refine (implHasTour_any _ _ _ _ _ _ (Rd.own o3) ).mono ?_
  rintro e w4 ⟨rfl, hb4⟩
  replace o3 := ownsRow_below o3 hb4
  replace HB := HB.trans (hb4.mono HB.size)
  have hs4 := hb4.size
  clear hb4
  go_wp2_with (fail)
  refine (toTileS_any _ _ _ _ _ (Rd.mono v0 HB) (by omega)).mono ?_
  rintro e w5 ⟨g5, rfl, hb5, o5⟩
  replace o3 := ownsRow_below o3 hb5
  replace HB := HB.trans (hb5.mono HB.size)
  have hs5 := hb5.size
  clear hb5
  have I5 := own_in o5
  go_wp2_with (fail)
  refine (eqTileS_same _ _ _ _ _ _ _ (Rd.own o3) (Rd.own o5)).mono ?_
  rintro e w6 ⟨rfl, hb6⟩
  replace o3 := ownsRow_below o3 hb6
  replace o5 := ownsRow_below o5 hb6
  replace HB := HB.trans (hb6.mono HB.size)
  have hs6 := hb6.size
  clear hb6
  clear o5 I5
  go_wp2
  go_ret
  exact ⟨rfl, HB⟩

end Go.Proofs.Ytnlcgkfdpaffaaa
