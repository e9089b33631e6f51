/- The walk of the law FnExactLikeOfGames. -/
import Derived.Test.YtocpahhpagkknaaLkC
import Derived.Test.YtocpahhpagkknaaFeB
import Derived.Test.YtocpahhpagkknaaOpenF
import Derived.Test.YtocpahhpagkknaaChg
namespace Go.Proofs.Ytocpahhpagkknaa
open Go.RowKit
set_option linter.unusedVariables false

theorem fnExactLikeOfGames_walk (a0 : Option Addr) (n0 c0 : Nat) (x0 : List Nat) (a1 : Option Addr) (n1 c1 : Nat) (x1 : List (Int × Int × Int)) (w : World) (f0 : (∀ x ∈ x0, (Lit.float .f32 x).wf = true)) (v0 : Floats w a0 n0 c0 x0) (f1 : (∀ g ∈ x1, (Lit.int .i64 g.1).wf = true ∧ (Lit.int .i64 g.2.1).wf = true ∧ (Lit.int .i64 g.2.2).wf = true)) (v1 : Trips w a1 n1 c1 x1) :
    Calls Try.prog 4 #[.slice a0 n0 c0, .slice a1 n1 c1] w (Ret w (.bool true)) := by
  have m0 : n0 ≤ 9223372036854775807 := by have := v0.2.1; have := v0.2.2.1; omega
  have m1 : n1 ≤ 9223372036854775807 := by have := v1.2.1; have := v1.2.2.1; omega
  by_cases hn0 : n0 ≤ 1048576
  case neg =>
    go_enter Try.func4, Try.ntmps4
    go_wp2
    go_ret
    exact ⟨rfl, Below.refl _ _⟩
  by_cases hn1 : (n1 : Int) ≤ 1048576
  case neg =>
    go_enter Try.func4, Try.ntmps4
    go_wp2_with (fail)
    refine (szGameS_no _ _ _ _ _ m1 (by omega) (by omega) (by omega)).mono ?_
    rintro e w1 ⟨rfl, rfl⟩
    go_wp2
    go_ret
    exact ⟨rfl, Below.refl _ _⟩
  go_enter Try.func4, Try.ntmps4
  have HB := Below.refl w.heap.size w
  go_wp2_with (fail)
  refine (szGameS_ok _ _ _ _ _ m1 hn1 (by omega)).mono ?_
  rintro e w1 ⟨rfl, rfl⟩
  go_wp2_with (fail)
  refine (toFloat32S_any _ _ _ _ _ (Rd.mono v0 HB) (by omega)).mono ?_
  rintro e w1 ⟨g1, rfl, hb1, o1⟩
  replace HB := HB.trans (hb1.mono HB.size)
  have hs1 := hb1.size
  clear hb1
  have I1 := own_in o1
  go_wp2_with (fail)
  refine (toGameS_any _ _ _ _ _ (Rd.mono v1 HB) (by omega)).mono ?_
  rintro e w2 ⟨g2, rfl, hb2, o2⟩
  replace o1 := ownsRow_below o1 hb2
  replace HB := HB.trans (hb2.mono HB.size)
  have hs2 := hb2.size
  clear hb2
  have I2 := own_in o2
  go_wp2_with (fail)
  refine (specLikeOfGames_any _ _ _ _ _ _ _ _ _ (Rd.own o1) (Rd.own o2) ).mono ?_
  rintro e w3 ⟨rfl, hb3⟩
  replace o1 := ownsRow_below o1 hb3
  replace o2 := ownsRow_below o2 hb3
  replace HB := HB.trans (hb3.mono HB.size)
  have hs3 := hb3.size
  clear hb3
  clear o1 I1
  clear o2 I2
  go_wp2_with (fail)
  refine (toFloat32S_any _ _ _ _ _ (Rd.mono v0 HB) (by omega)).mono ?_
  rintro e w4 ⟨g4, rfl, hb4, o4⟩
  replace HB := HB.trans (hb4.mono HB.size)
  have hs4 := hb4.size
  clear hb4
  have I4 := own_in o4
  go_wp2_with (fail)
  refine (toGameS_any _ _ _ _ _ (Rd.mono v1 HB) (by omega)).mono ?_
  rintro e w5 ⟨g5, rfl, hb5, o5⟩
  replace o4 := ownsRow_below o4 hb5
  replace HB := HB.trans (hb5.mono HB.size)
  have hs5 := hb5.size
  clear hb5
  have I5 := own_in o5
  go_wp2_with (fail)
  refine (implLikeOfGames_any _ _ _ _ _ _ _ _ _ (Rd.own o4) (Rd.own o5) ).mono ?_
  rintro e w6 ⟨rfl, hb6⟩
  replace o4 := ownsRow_below o4 hb6
  replace o5 := ownsRow_below o5 hb6
  replace HB := HB.trans (hb6.mono HB.size)
  have hs6 := hb6.size
  clear hb6
  obtain ⟨yR, hyR⟩ : ∃ y, Conv (likRes x0 x1).1 y := by
    rcases conv_any (likRes x0 x1).1 with q | ⟨s, t, q⟩
    · exact q
    · obtain ⟨s', m', i', q2⟩ := likRes_num x0 x1
      rw [q2] at q
      cases q
  have hop : ∀ W, (convert 31 37 (.float .f32 (likRes x0 x1).1)).run Try.prog W = .ok (.float .f64 yR) W := fun W => run_convert_float_float W _ _ .f32 .f64 _ yR rfl Try.underlying37 hyR.bits
  have CF := Lib.hid (fun W => sameFloat_eq yR W hyR.self hyR.zero)
  clear hyR
  generalize likRes x0 x1 = R at *
  go_wp2_with (fail)
  refine (CF.out _).mono ?_
  rintro e wf ⟨rfl, rfl⟩
  go_wp2_with (fail)
  refine (toFloat32S_any _ _ _ _ _ (Rd.mono v0 HB) (by omega)).mono ?_
  rintro e w7 ⟨g7, rfl, hb7, o7⟩
  replace o4 := ownsRow_below o4 hb7
  replace o5 := ownsRow_below o5 hb7
  replace HB := HB.trans (hb7.mono HB.size)
  have hs7 := hb7.size
  clear hb7
  have I7 := own_in o7
  go_wp2_with (fail)
  refine (eqFloat32S_same _ _ _ _ _ _ _ _ (Rd.own o4) (Rd.own o7)).mono ?_
  rintro e w8 ⟨rfl, hq8⟩
  have hb8 := hq8.b
  clear hq8
  replace o4 := ownsRow_below o4 hb8
  replace o5 := ownsRow_below o5 hb8
  replace o7 := ownsRow_below o7 hb8
  replace HB := HB.trans (hb8.mono HB.size)
  have hs8 := hb8.size
  clear hb8
  clear o7 I7
  go_wp2_with (fail)
  refine (toGameS_any _ _ _ _ _ (Rd.mono v1 HB) (by omega)).mono ?_
  rintro e w9 ⟨g9, rfl, hb9, o9⟩
  replace o4 := ownsRow_below o4 hb9
  replace o5 := ownsRow_below o5 hb9
  replace HB := HB.trans (hb9.mono HB.size)
  have hs9 := hb9.size
  clear hb9
  have I9 := own_in o9
  go_wp2_with (fail)
  refine (eqGameS_same _ _ _ _ _ _ _ (Rd.own o5) (Rd.own o9)).mono ?_
  rintro e w10 ⟨rfl, hb10⟩
  replace o4 := ownsRow_below o4 hb10
  replace o5 := ownsRow_below o5 hb10
  replace o9 := ownsRow_below o9 hb10
  replace HB := HB.trans (hb10.mono HB.size)
  have hs10 := hb10.size
  clear hb10
  clear o9 I9
  go_wp2
  go_ret
  exact ⟨rfl, HB⟩

end Go.Proofs.Ytocpahhpagkknaa
