/- The walk of the law FnExactFitStrengths. -/
import Derived.Test.YtocpahhpagkknaaFsC
import Derived.Test.YtocpahhpagkknaaFeB
import Derived.Test.YtocpahhpagkknaaOpenF
import Derived.Test.YtocpahhpagkknaaChg
namespace Go.Proofs.Ytocpahhpagkknaa
open Go.RowKit
set_option linter.unusedVariables false

theorem fnExactFitStrengths_walk (x0 : Int) (a1 : Option Addr) (n1 c1 : Nat) (x1 : List (Int × Int × Int)) (x2 : Int) (w : World) (f0 : ((Lit.int .i64 x0).wf = true)) (f1 : (∀ g ∈ x1, (Lit.int .i64 g.1).wf = true ∧ (Lit.int .i64 g.2.1).wf = true ∧ (Lit.int .i64 g.2.2).wf = true)) (v1 : Trips w a1 n1 c1 x1) (f2 : ((Lit.int .i64 x2).wf = true)) :
    Calls Try.prog 5 #[.int .i64 x0, .slice a1 n1 c1, .int .i64 x2] w (Ret w (.bool true)) := by
  have m1 : n1 ≤ 9223372036854775807 := by have := v1.2.1; have := v1.2.2.1; omega
  by_cases hn1 : (n1 : Int) ≤ 1048576
  case neg =>
    go_enter Try.func5, Try.ntmps5
    go_wp2_with (fail)
    refine (szGameS_no _ _ _ _ _ m1 (by omega) (by omega) (by omega)).mono ?_
    rintro e w1 ⟨rfl, rfl⟩
    go_wp2
    go_ret
    exact ⟨rfl, Below.refl _ _⟩
  go_enter Try.func5, Try.ntmps5
  have HB := Below.refl w.heap.size w
  go_wp2_with (fail)
  refine (szGameS_ok _ _ _ _ _ m1 hn1 (by omega)).mono ?_
  rintro e w1 ⟨rfl, rfl⟩
  go_wp2_with (fail)
  refine (toGameS_any _ _ _ _ _ (Rd.mono v1 HB) (by omega)).mono ?_
  rintro e w1 ⟨g1, rfl, hb1, o1⟩
  replace HB := HB.trans (hb1.mono HB.size)
  have hs1 := hb1.size
  clear hb1
  have I1 := own_in o1
  go_wp2_with (fail)
  refine (specFitStrengths_any _ _ _ _ _ _ _ (Rd.own o1) ).mono ?_
  rintro e w2 ⟨ra2, rn2, rc2, rfl, hb2, o2⟩
  replace o1 := ownsRow_below o1 hb2
  replace HB := HB.trans (hb2.mono HB.size)
  have hs2 := hb2.size
  clear hb2
  have I2 := own_in o2
  clear o1 I1
  go_wp2_with (fail)
  refine (toGameS_any _ _ _ _ _ (Rd.mono v1 HB) (by omega)).mono ?_
  rintro e w3 ⟨g3, rfl, hb3, o3⟩
  replace o2 := ownsRow_below o2 hb3
  replace HB := HB.trans (hb3.mono HB.size)
  have hs3 := hb3.size
  clear hb3
  have I3 := own_in o3
  go_wp2_with (fail)
  refine (implFitStrengths_any _ _ _ _ _ _ _ (Rd.own o3) ).mono ?_
  rintro e w4 ⟨ra4, rn4, rc4, rfl, hb4, o4⟩
  replace o2 := ownsRow_below o2 hb4
  replace o3 := ownsRow_below o3 hb4
  replace HB := HB.trans (hb4.mono HB.size)
  have hs4 := hb4.size
  clear hb4
  have I4 := own_in o4
  go_wp2_with (fail)
  refine (eqFloat32S_same _ _ _ _ _ _ _ _ (Rd.own o4) (Rd.own o2)).mono ?_
  rintro e w5 ⟨rfl, hq5⟩
  have hb5 := hq5.b
  clear hq5
  replace o2 := ownsRow_below o2 hb5
  replace o3 := ownsRow_below o3 hb5
  replace o4 := ownsRow_below o4 hb5
  replace HB := HB.trans (hb5.mono HB.size)
  have hs5 := hb5.size
  clear hb5
  go_wp2_with (fail)
  refine (toGameS_any _ _ _ _ _ (Rd.mono v1 HB) (by omega)).mono ?_
  rintro e w6 ⟨g6, rfl, hb6, o6⟩
  replace o2 := ownsRow_below o2 hb6
  replace o3 := ownsRow_below o3 hb6
  replace o4 := ownsRow_below o4 hb6
  replace HB := HB.trans (hb6.mono HB.size)
  have hs6 := hb6.size
  clear hb6
  have I6 := own_in o6
  go_wp2_with (fail)
  refine (eqGameS_same _ _ _ _ _ _ _ (Rd.own o3) (Rd.own o6)).mono ?_
  rintro e w7 ⟨rfl, hb7⟩
  replace o2 := ownsRow_below o2 hb7
  replace o3 := ownsRow_below o3 hb7
  replace o4 := ownsRow_below o4 hb7
  replace o6 := ownsRow_below o6 hb7
  replace HB := HB.trans (hb7.mono HB.size)
  have hs7 := hb7.size
  clear hb7
  clear o6 I6
  go_wp2_with (fail)
  refine (markGameS_any _ _ _ _ _ (1) _ o3 (by omega) (by omega) (by omega)).mono ?_
  rintro e w8 ⟨rfl, hg8⟩
  have hc8 := Chg.of_grown I3 hg8
  replace o2 := own_chg o2 hc8 I2 (.inl (by omega))
  replace o4 := own_chg o4 hc8 I4 (.inr (by omega))
  replace HB := below_chg HB HB.size (by have := HB.size; omega) hc8
  have hs8 := hc8.size
  clear hg8 hc8
  clear o3
  go_wp2_with (fail)
  refine (eqFloat32S_same _ _ _ _ _ _ _ _ (Rd.own o4) (Rd.own o2)).mono ?_
  rintro e w9 ⟨rfl, hq9⟩
  have hb9 := hq9.b
  clear hq9
  replace o2 := ownsRow_below o2 hb9
  replace o4 := ownsRow_below o4 hb9
  replace HB := HB.trans (hb9.mono HB.size)
  have hs9 := hb9.size
  clear hb9
  have hL : rn4 ≤ 1000 := by have h1 := o4.1; rw [List.length_map] at h1; have h2 := fitRes_len x0 x1 x2; omega
  go_wp2_with (fail)
  refine (markFloat32S_any _ _ _ _ 1 _ o4 (by omega) (by omega)).mono ?_
  rintro e w10 ⟨rfl, oM, hg10⟩
  have dM := Rd.own oM
  have hc10 := Chg.of_grown I4 hg10
  replace o2 := own_chg o2 hc10 I2 (.inl (by omega))
  replace HB := below_chg HB HB.size (by have := HB.size; omega) hc10
  have hs10 := hc10.size
  clear hg10 hc10
  clear oM
  go_wp2_with (fail)
  refine (heldFloat32S_any _ _ _ _ _ dM (by omega) (by omega)).mono ?_
  rintro e w11 ⟨rfl, rfl⟩
  go_wp2_with (fail)
  refine (toGameS_any _ _ _ _ _ (Rd.mono v1 HB) (by omega)).mono ?_
  rintro e w11 ⟨g11, rfl, hb11, o11⟩
  replace o2 := ownsRow_below o2 hb11
  replace dM := Rd.mono dM hb11
  replace HB := HB.trans (hb11.mono HB.size)
  have hs11 := hb11.size
  clear hb11
  have I11 := own_in o11
  go_wp2_with (fail)
  refine (implFitStrengths_any _ _ _ _ _ _ _ (Rd.own o11) ).mono ?_
  rintro e w12 ⟨ra12, rn12, rc12, rfl, hb12, o12⟩
  replace o2 := ownsRow_below o2 hb12
  replace dM := Rd.mono dM hb12
  replace o11 := ownsRow_below o11 hb12
  replace HB := HB.trans (hb12.mono HB.size)
  have hs12 := hb12.size
  clear hb12
  have I12 := own_in o12
  clear o11 I11
  go_wp2_with (fail)
  refine (eqFloat32S_same _ _ _ _ _ _ _ _ (Rd.own o12) (Rd.own o2)).mono ?_
  rintro e w13 ⟨rfl, hq13⟩
  have hb13 := hq13.b
  clear hq13
  replace o2 := ownsRow_below o2 hb13
  replace dM := Rd.mono dM hb13
  replace o12 := ownsRow_below o12 hb13
  replace HB := HB.trans (hb13.mono HB.size)
  have hs13 := hb13.size
  clear hb13
  go_wp2_with (fail)
  refine (heldFloat32S_any _ _ _ _ _ dM (by omega) (by omega)).mono ?_
  rintro e w14 ⟨rfl, rfl⟩
  go_wp2
  go_ret
  exact ⟨rfl, HB⟩

end Go.Proofs.Ytocpahhpagkknaa
