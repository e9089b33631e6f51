/- The walk of the law FnExactTrickLine. -/
import Derived.Test.YtaeabngamnkgjaaTrickL
import Derived.Test.YtaeabngamnkgjaaOpenC
import Derived.Test.YtaeabngamnkgjaaChg
namespace Go.Proofs.Ytaeabngamnkgjaa
open Go.RowKit
set_option linter.unusedVariables false

theorem fnExactTrickLine_walk (a0 : Option Addr) (n0 c0 : Nat) (x0 : List Int) (a1 : Option Addr) (n1 c1 : Nat) (x1 : List Int) (x2 : Bool) (x3 : Int) (w : World) (f0 : (∀ x ∈ x0, (Lit.int .i64 x).wf = true)) (v0 : Ints w a0 n0 c0 x0) (f1 : (∀ x ∈ x1, (Lit.int .i64 x).wf = true)) (v1 : Ints w a1 n1 c1 x1) (f3 : ((Lit.int .i64 x3).wf = true)) :
    Calls Try.prog 8 #[.slice a0 n0 c0, .slice a1 n1 c1, .bool x2, .int .i64 x3] w (Ret w (.bool true)) := by
  have m0 : n0 ≤ 9223372036854775807 := by have := v0.2.1; have := v0.2.2.1; omega
  have m1 : n1 ≤ 9223372036854775807 := by have := v1.2.1; have := v1.2.2.1; omega
  by_cases hn0 : n0 ≤ 1048576
  case neg =>
    go_enter Try.func8, Try.ntmps8
    go_wp2
    go_ret
    exact ⟨rfl, Below.refl _ _⟩
  by_cases hn1 : n1 ≤ 1048576
  case neg =>
    go_enter Try.func8, Try.ntmps8
    go_wp2
    go_ret
    exact ⟨rfl, Below.refl _ _⟩
  go_enter Try.func8, Try.ntmps8
  have HB := Below.refl w.heap.size w
  go_wp2_with (fail)
  refine (toInt64S_any _ _ _ _ _ (Rd.mono v0 HB) (by omega)).mono ?_
  rintro e w1 ⟨g1, rfl, hb1, o1⟩
  replace HB := HB.trans (hb1.mono HB.size)
  have hs1 := hb1.size
  clear hb1
  have I1 := own_in o1
  go_wp2_with (fail)
  refine (toInt64S_any _ _ _ _ _ (Rd.mono v1 HB) (by omega)).mono ?_
  rintro e w2 ⟨g2, rfl, hb2, o2⟩
  replace o1 := ownsRow_below o1 hb2
  replace HB := HB.trans (hb2.mono HB.size)
  have hs2 := hb2.size
  clear hb2
  have I2 := own_in o2
  go_wp2_with (fail)
  refine (specTrickLine_any _ _ _ _ _ _ _ _ _ _ _ (Rd.own o1) (Rd.own o2) ).mono ?_
  rintro e w3 ⟨ra3, rn3, rc3, rfl, hb3, o3⟩
  replace o1 := ownsRow_below o1 hb3
  replace o2 := ownsRow_below o2 hb3
  replace HB := HB.trans (hb3.mono HB.size)
  have hs3 := hb3.size
  clear hb3
  have I3 := own_in o3
  clear o1 I1
  clear o2 I2
  go_wp2_with (fail)
  refine (toInt64S_any _ _ _ _ _ (Rd.mono v0 HB) (by omega)).mono ?_
  rintro e w4 ⟨g4, rfl, hb4, o4⟩
  replace o3 := ownsRow_below o3 hb4
  replace HB := HB.trans (hb4.mono HB.size)
  have hs4 := hb4.size
  clear hb4
  have I4 := own_in o4
  go_wp2_with (fail)
  refine (toInt64S_any _ _ _ _ _ (Rd.mono v1 HB) (by omega)).mono ?_
  rintro e w5 ⟨g5, rfl, hb5, o5⟩
  replace o3 := ownsRow_below o3 hb5
  replace o4 := ownsRow_below o4 hb5
  replace HB := HB.trans (hb5.mono HB.size)
  have hs5 := hb5.size
  clear hb5
  have I5 := own_in o5
  go_wp2_with (fail)
  refine (implTrickLine_any _ _ _ _ _ _ _ _ _ _ _ (Rd.own o4) (Rd.own o5) ).mono ?_
  rintro e w6 ⟨ra6, rn6, rc6, rfl, hb6, o6⟩
  replace o3 := ownsRow_below o3 hb6
  replace o4 := ownsRow_below o4 hb6
  replace o5 := ownsRow_below o5 hb6
  replace HB := HB.trans (hb6.mono HB.size)
  have hs6 := hb6.size
  clear hb6
  have I6 := own_in o6
  go_wp2_with (fail)
  refine (eqInt64S_any _ _ _ _ _ _ _ _ _ (Rd.own o6) (Rd.own o3)).mono ?_
  rintro e w7 ⟨rfl, hq7⟩
  have hb7 := hq7.b
  clear hq7
  replace o3 := ownsRow_below o3 hb7
  replace o4 := ownsRow_below o4 hb7
  replace o5 := ownsRow_below o5 hb7
  replace o6 := ownsRow_below o6 hb7
  replace HB := HB.trans (hb7.mono HB.size)
  have hs7 := hb7.size
  clear hb7
  go_wp2_with (fail)
  refine (toInt64S_any _ _ _ _ _ (Rd.mono v0 HB) (by omega)).mono ?_
  rintro e w8 ⟨g8, rfl, hb8, o8⟩
  replace o3 := ownsRow_below o3 hb8
  replace o4 := ownsRow_below o4 hb8
  replace o5 := ownsRow_below o5 hb8
  replace o6 := ownsRow_below o6 hb8
  replace HB := HB.trans (hb8.mono HB.size)
  have hs8 := hb8.size
  clear hb8
  have I8 := own_in o8
  go_wp2_with (fail)
  refine (eqInt64S_any _ _ _ _ _ _ _ _ _ (Rd.own o4) (Rd.own o8)).mono ?_
  rintro e w9 ⟨rfl, hq9⟩
  have hb9 := hq9.b
  clear hq9
  replace o3 := ownsRow_below o3 hb9
  replace o4 := ownsRow_below o4 hb9
  replace o5 := ownsRow_below o5 hb9
  replace o6 := ownsRow_below o6 hb9
  replace o8 := ownsRow_below o8 hb9
  replace HB := HB.trans (hb9.mono HB.size)
  have hs9 := hb9.size
  clear hb9
  clear o8 I8
  go_wp2_with (fail)
  refine (toInt64S_any _ _ _ _ _ (Rd.mono v1 HB) (by omega)).mono ?_
  rintro e w10 ⟨g10, rfl, hb10, o10⟩
  replace o3 := ownsRow_below o3 hb10
  replace o4 := ownsRow_below o4 hb10
  replace o5 := ownsRow_below o5 hb10
  replace o6 := ownsRow_below o6 hb10
  replace HB := HB.trans (hb10.mono HB.size)
  have hs10 := hb10.size
  clear hb10
  have I10 := own_in o10
  go_wp2_with (fail)
  refine (eqInt64S_any _ _ _ _ _ _ _ _ _ (Rd.own o5) (Rd.own o10)).mono ?_
  rintro e w11 ⟨rfl, hq11⟩
  have hb11 := hq11.b
  clear hq11
  replace o3 := ownsRow_below o3 hb11
  replace o4 := ownsRow_below o4 hb11
  replace o5 := ownsRow_below o5 hb11
  replace o6 := ownsRow_below o6 hb11
  replace o10 := ownsRow_below o10 hb11
  replace HB := HB.trans (hb11.mono HB.size)
  have hs11 := hb11.size
  clear hb11
  clear o10 I10
  go_wp2_with (fail)
  refine (markInt64S_any _ _ _ _ (1) _ o4 (by omega) (by omega)).mono ?_
  rintro e w12 ⟨rfl, _, hg12⟩
  have hc12 := Chg.of_grown I4 hg12
  replace o3 := own_chg o3 hc12 I3 (.inl (by omega))
  replace o5 := own_chg o5 hc12 I5 (.inr (by omega))
  replace o6 := own_chg o6 hc12 I6 (.inr (by omega))
  replace HB := below_chg HB HB.size (by have := HB.size; omega) hc12
  have hs12 := hc12.size
  clear hg12 hc12
  clear o4
  go_wp2_with (fail)
  refine (markInt64S_any _ _ _ _ (1 + n0) _ o5 (by omega) (by omega)).mono ?_
  rintro e w13 ⟨rfl, _, hg13⟩
  have hc13 := Chg.of_grown I5 hg13
  replace o3 := own_chg o3 hc13 I3 (.inl (by omega))
  replace o6 := own_chg o6 hc13 I6 (.inr (by omega))
  replace HB := below_chg HB HB.size (by have := HB.size; omega) hc13
  have hs13 := hc13.size
  clear hg13 hc13
  clear o5
  go_wp2_with (fail)
  refine (eqInt64S_any _ _ _ _ _ _ _ _ _ (Rd.own o6) (Rd.own o3)).mono ?_
  rintro e w14 ⟨rfl, hq14⟩
  have hb14 := hq14.b
  clear hq14
  replace o3 := ownsRow_below o3 hb14
  replace o6 := ownsRow_below o6 hb14
  replace HB := HB.trans (hb14.mono HB.size)
  have hs14 := hb14.size
  clear hb14
  have hL : rn6 ≤ 1048576 := by have h1 := o6.1; rw [intCells_len] at h1; have h2 := lineRes_len x0 x1 x2 x3; omega
  go_wp2_with (fail)
  refine (markInt64S_any _ _ _ _ 1 _ o6 (by omega) (by omega)).mono ?_
  rintro e w15 ⟨rfl, oM, hg15⟩
  have dM := Rd.own oM
  have hc15 := Chg.of_grown I6 hg15
  replace o3 := own_chg o3 hc15 I3 (.inl (by omega))
  replace HB := below_chg HB HB.size (by have := HB.size; omega) hc15
  have hs15 := hc15.size
  clear hg15 hc15
  clear oM
  go_wp2_with (fail)
  refine (heldInt64S_any _ _ _ _ _ dM (by omega) (by omega)).mono ?_
  rintro e w16 ⟨rfl, rfl⟩
  go_wp2_with (fail)
  refine (toInt64S_any _ _ _ _ _ (Rd.mono v0 HB) (by omega)).mono ?_
  rintro e w16 ⟨g16, rfl, hb16, o16⟩
  replace o3 := ownsRow_below o3 hb16
  replace dM := Rd.mono dM hb16
  replace HB := HB.trans (hb16.mono HB.size)
  have hs16 := hb16.size
  clear hb16
  have I16 := own_in o16
  go_wp2_with (fail)
  refine (toInt64S_any _ _ _ _ _ (Rd.mono v1 HB) (by omega)).mono ?_
  rintro e w17 ⟨g17, rfl, hb17, o17⟩
  replace o3 := ownsRow_below o3 hb17
  replace dM := Rd.mono dM hb17
  replace o16 := ownsRow_below o16 hb17
  replace HB := HB.trans (hb17.mono HB.size)
  have hs17 := hb17.size
  clear hb17
  have I17 := own_in o17
  go_wp2_with (fail)
  refine (implTrickLine_any _ _ _ _ _ _ _ _ _ _ _ (Rd.own o16) (Rd.own o17) ).mono ?_
  rintro e w18 ⟨ra18, rn18, rc18, rfl, hb18, o18⟩
  replace o3 := ownsRow_below o3 hb18
  replace dM := Rd.mono dM hb18
  replace o16 := ownsRow_below o16 hb18
  replace o17 := ownsRow_below o17 hb18
  replace HB := HB.trans (hb18.mono HB.size)
  have hs18 := hb18.size
  clear hb18
  have I18 := own_in o18
  clear o16 I16
  clear o17 I17
  go_wp2_with (fail)
  refine (eqInt64S_any _ _ _ _ _ _ _ _ _ (Rd.own o18) (Rd.own o3)).mono ?_
  rintro e w19 ⟨rfl, hq19⟩
  have hb19 := hq19.b
  clear hq19
  replace o3 := ownsRow_below o3 hb19
  replace dM := Rd.mono dM hb19
  replace o18 := ownsRow_below o18 hb19
  replace HB := HB.trans (hb19.mono HB.size)
  have hs19 := hb19.size
  clear hb19
  go_wp2_with (fail)
  refine (heldInt64S_any _ _ _ _ _ dM (by omega) (by omega)).mono ?_
  rintro e w20 ⟨rfl, rfl⟩
  go_wp2
  go_ret
  exact ⟨rfl, HB⟩

end Go.Proofs.Ytaeabngamnkgjaa
