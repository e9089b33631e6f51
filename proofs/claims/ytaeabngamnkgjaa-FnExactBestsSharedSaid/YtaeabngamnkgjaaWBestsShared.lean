/- The walk of the law FnExactBestsShared. -/
import Derived.Test.YtaeabngamnkgjaaBests
import Derived.Test.YtaeabngamnkgjaaOpenSS
namespace Go.Proofs.Ytaeabngamnkgjaa
open Go.RowKit
set_option linter.unusedVariables false

set_option maxHeartbeats 1600000 in
theorem fnExactBestsShared_walk (a0 : Option Addr) (n0 c0 : Nat) (s0 : List Spot) (x0 : List (List Int)) (a1 : Option Addr) (n1 c1 : Nat) (s1 : List Spot) (x1 : List (List Int)) (x2 x3 : Int) (w : World) (v0 : IntSS w a0 n0 c0 s0 x0) (v1 : IntSS w a1 n1 c1 s1 x1) (f2 : (Lit.int .i64 x2).wf = true) (f3 : (Lit.int .i64 x3).wf = true) :
    Calls Try.prog 9 #[.slice a0 n0 c0, .slice a1 n1 c1, .int .i64 x2, .int .i64 x3] w (Ret w (.bool true)) := by
  have l0 := v0.len
  have l1 := v1.len
  have Z0 := szInt64SS_any a0 n0 c0 s0 x0 1048576 w v0 (by omega) (by omega)
  unfold szSS at Z0
  rw [l0] at Z0
  by_cases h0 : (n0 : Int) + tot x0 ≤ 1048576
  case neg =>
    rw [if_neg h0] at Z0
    go_enter Try.func9, Try.ntmps9
    go_wp2_with (fail)
    refine Z0.mono ?_
    rintro e w1 ⟨rfl, rfl⟩
    go_wp2
    go_ret
    exact ⟨rfl, Below.refl _ _⟩
  rw [if_pos h0] at Z0
  have Z1 := szInt64SS_any a1 n1 c1 s1 x1 (1048576 - n0 - tot x0) w v1 (by omega) (by omega)
  unfold szSS at Z1
  rw [l1] at Z1
  by_cases h1 : (n1 : Int) + tot x1 ≤ 1048576 - n0 - tot x0
  case neg =>
    rw [if_neg h1] at Z1
    go_enter Try.func9, Try.ntmps9
    go_wp2_with (fail)
    refine Z0.mono ?_
    rintro e w1 ⟨rfl, rfl⟩
    go_wp2_with (fail)
    refine Z1.mono ?_
    rintro e w1 ⟨rfl, rfl⟩
    go_wp2
    go_ret
    exact ⟨rfl, Below.refl _ _⟩
  rw [if_pos h1] at Z1
  have r0 : ∀ i, i < n0 → (x0.getD i []).length ≤ 1048576 := fun i hi => by have := totTo_row x0 i (by omega); omega
  have r1 : ∀ i, i < n1 → (x1.getD i []).length ≤ 1048576 := fun i hi => by have := totTo_row x1 i (by omega); omega
  have m0 : n0 ≤ 1048576 := by omega
  have m1 : n1 ≤ 1048576 := by omega
  have V0 := Lib.hid v0
  have V1 := Lib.hid v1
  have R0 := Lib.hid r0
  have R1 := Lib.hid r1
  have T0 : (tot x0 : Int) ≤ 1048576 := by omega
  have T1 : (tot x1 : Int) ≤ 1048576 := by omega
  clear v0 v1 r0 r1 l0 l1
  go_enter Try.func9, Try.ntmps9
  go_wp2_with (fail)
  refine Z0.mono ?_
  rintro e w1 ⟨rfl, rfl⟩
  go_wp2_with (fail)
  refine Z1.mono ?_
  rintro e w1 ⟨rfl, rfl⟩
  clear Z0 Z1
  have HB := Lib.hid (Below.refl w.heap.size w)
  go_wp2_with (fail)
  refine (toInt64SS_any _ _ _ _ _ _ (V0.out.mono HB.out) m0 R0.out).mono ?_
  rintro e w1 ⟨g1, t1, rfl, hb1, o1, hs1⟩
  replace HB := Lib.hid (HB.out.trans (hb1.mono HB.out.size))
  have z1 := hb1.size
  have O1 := Lib.hid o1
  have S1 := Lib.hid hs1
  clear hb1 o1 hs1
  go_wp2_with (fail)
  refine (toInt64SS_any _ _ _ _ _ _ (V1.out.mono HB.out) m1 R1.out).mono ?_
  rintro e w2 ⟨g2, t2, rfl, hb2, o2, hs2⟩
  replace O1 := Lib.hid (OwnSS.mk O1.out.len (O1.out.p.below hb2))
  replace HB := Lib.hid (HB.out.trans (hb2.mono HB.out.size))
  have z2 := hb2.size
  have O2 := Lib.hid o2
  have S2 := Lib.hid hs2
  clear hb2 o2 hs2
  go_wp2_with (fail)
  refine (specBestsShared_any _ _ _ _ _ _ _ _ _ _ x2 x3 _ O1.out.rd O2.out.rd S1.out S2.out).mono ?_
  rintro e w3 ⟨ra3, rn3, rc3, rfl, hb3, o3⟩
  replace O1 := Lib.hid (OwnSS.mk O1.out.len (O1.out.p.below hb3))
  replace O2 := Lib.hid (OwnSS.mk O2.out.len (O2.out.p.below hb3))
  replace HB := Lib.hid (HB.out.trans (hb3.mono HB.out.size))
  have z3 := hb3.size
  have I3 := own_in o3
  have O3 := Lib.hid o3
  clear hb3 o3
  clear O1
  clear O2
  go_wp2_with (fail)
  refine (toInt64SS_any _ _ _ _ _ _ (V0.out.mono HB.out) m0 R0.out).mono ?_
  rintro e w4 ⟨g4, t4, rfl, hb4, o4, hs4⟩
  replace O3 := Lib.hid (ownsRow_below O3.out hb4)
  replace HB := Lib.hid (HB.out.trans (hb4.mono HB.out.size))
  have z4 := hb4.size
  have O4 := Lib.hid o4
  have S4 := Lib.hid hs4
  clear hb4 o4 hs4
  go_wp2_with (fail)
  refine (toInt64SS_any _ _ _ _ _ _ (V1.out.mono HB.out) m1 R1.out).mono ?_
  rintro e w5 ⟨g5, t5, rfl, hb5, o5, hs5⟩
  replace O3 := Lib.hid (ownsRow_below O3.out hb5)
  replace O4 := Lib.hid (OwnSS.mk O4.out.len (O4.out.p.below hb5))
  replace HB := Lib.hid (HB.out.trans (hb5.mono HB.out.size))
  have z5 := hb5.size
  have O5 := Lib.hid o5
  have S5 := Lib.hid hs5
  clear hb5 o5 hs5
  go_wp2_with (fail)
  refine (implBestsShared_any _ _ _ _ _ _ _ _ _ _ x2 x3 _ O4.out.rd O5.out.rd S4.out S5.out).mono ?_
  rintro e w6 ⟨ra6, rn6, rc6, rfl, hb6, o6⟩
  replace O3 := Lib.hid (ownsRow_below O3.out hb6)
  replace O4 := Lib.hid (OwnSS.mk O4.out.len (O4.out.p.below hb6))
  replace O5 := Lib.hid (OwnSS.mk O5.out.len (O5.out.p.below hb6))
  replace HB := Lib.hid (HB.out.trans (hb6.mono HB.out.size))
  have z6 := hb6.size
  have I6 := own_in o6
  have O6 := Lib.hid o6
  clear hb6 o6
  go_wp2_with (fail)
  refine (eqInt64S_any _ _ _ _ _ _ _ _ _ (Rd.own O6.out) (Rd.own O3.out)).mono ?_
  rintro e w7 ⟨rfl, hq7⟩
  have hb7 := hq7.b
  replace O3 := Lib.hid (ownsRow_below O3.out hb7)
  replace O4 := Lib.hid (OwnSS.mk O4.out.len (O4.out.p.below hb7))
  replace O5 := Lib.hid (OwnSS.mk O5.out.len (O5.out.p.below hb7))
  replace O6 := Lib.hid (ownsRow_below O6.out hb7)
  replace HB := Lib.hid (HB.out.trans (hb7.mono HB.out.size))
  have z7 := hb7.size
  clear hq7 hb7
  go_wp2_with (fail)
  refine (toInt64SS_any _ _ _ _ _ _ (V0.out.mono HB.out) m0 R0.out).mono ?_
  rintro e w8 ⟨g8, t8, rfl, hb8, o8, hs8⟩
  replace O3 := Lib.hid (ownsRow_below O3.out hb8)
  replace O4 := Lib.hid (OwnSS.mk O4.out.len (O4.out.p.below hb8))
  replace O5 := Lib.hid (OwnSS.mk O5.out.len (O5.out.p.below hb8))
  replace O6 := Lib.hid (ownsRow_below O6.out hb8)
  replace HB := Lib.hid (HB.out.trans (hb8.mono HB.out.size))
  have z8 := hb8.size
  have O8 := Lib.hid o8
  have S8 := Lib.hid hs8
  clear hb8 o8 hs8
  go_wp2_with (fail)
  refine (eqInt64SS_any _ _ _ _ _ _ _ _ _ _ _ O4.out.rd O8.out.rd).mono ?_
  rintro e w9 ⟨rfl, hq9⟩
  have hb9 := hq9.b
  replace O3 := Lib.hid (ownsRow_below O3.out hb9)
  replace O4 := Lib.hid (OwnSS.mk O4.out.len (O4.out.p.below hb9))
  replace O5 := Lib.hid (OwnSS.mk O5.out.len (O5.out.p.below hb9))
  replace O6 := Lib.hid (ownsRow_below O6.out hb9)
  replace O8 := Lib.hid (OwnSS.mk O8.out.len (O8.out.p.below hb9))
  replace HB := Lib.hid (HB.out.trans (hb9.mono HB.out.size))
  have z9 := hb9.size
  clear hq9 hb9
  clear O8
  go_wp2_with (fail)
  refine (toInt64SS_any _ _ _ _ _ _ (V1.out.mono HB.out) m1 R1.out).mono ?_
  rintro e w10 ⟨g10, t10, rfl, hb10, o10, hs10⟩
  replace O3 := Lib.hid (ownsRow_below O3.out hb10)
  replace O4 := Lib.hid (OwnSS.mk O4.out.len (O4.out.p.below hb10))
  replace O5 := Lib.hid (OwnSS.mk O5.out.len (O5.out.p.below hb10))
  replace O6 := Lib.hid (ownsRow_below O6.out hb10)
  replace HB := Lib.hid (HB.out.trans (hb10.mono HB.out.size))
  have z10 := hb10.size
  have O10 := Lib.hid o10
  have S10 := Lib.hid hs10
  clear hb10 o10 hs10
  go_wp2_with (fail)
  refine (eqInt64SS_any _ _ _ _ _ _ _ _ _ _ _ O5.out.rd O10.out.rd).mono ?_
  rintro e w11 ⟨rfl, hq11⟩
  have hb11 := hq11.b
  replace O3 := Lib.hid (ownsRow_below O3.out hb11)
  replace O4 := Lib.hid (OwnSS.mk O4.out.len (O4.out.p.below hb11))
  replace O5 := Lib.hid (OwnSS.mk O5.out.len (O5.out.p.below hb11))
  replace O6 := Lib.hid (ownsRow_below O6.out hb11)
  replace O10 := Lib.hid (OwnSS.mk O10.out.len (O10.out.p.below hb11))
  replace HB := Lib.hid (HB.out.trans (hb11.mono HB.out.size))
  have z11 := hb11.size
  clear hq11 hb11
  clear O10
  go_wp2_with (fail)
  refine (markInt64SS_any _ _ _ _ _ _ _ (1) _ O4.out (by omega) (by omega)).mono ?_
  rintro e w12 ⟨rfl, hc12⟩
  clear O4
  replace O3 := Lib.hid (own_chg O3.out hc12 I3 (.inl (by omega)))
  replace O5 := Lib.hid (OwnSS.mk O5.out.len (O5.out.p.chg hc12 (.inr (by omega))))
  replace O6 := Lib.hid (own_chg O6.out hc12 I6 (.inr (by omega)))
  replace HB := Lib.hid (below_chg HB.out HB.out.size (by have := HB.out.size; omega) hc12)
  have z12 := hc12.size
  clear hc12
  go_wp2_with (fail)
  refine (markInt64SS_any _ _ _ _ _ _ _ (1 + tot x0) _ O5.out (by omega) (by omega)).mono ?_
  rintro e w13 ⟨rfl, hc13⟩
  clear O5
  replace O3 := Lib.hid (own_chg O3.out hc13 I3 (.inl (by omega)))
  replace O6 := Lib.hid (own_chg O6.out hc13 I6 (.inr (by omega)))
  replace HB := Lib.hid (below_chg HB.out HB.out.size (by have := HB.out.size; omega) hc13)
  have z13 := hc13.size
  clear hc13
  go_wp2_with (fail)
  refine (eqInt64S_any _ _ _ _ _ _ _ _ _ (Rd.own O6.out) (Rd.own O3.out)).mono ?_
  rintro e w14 ⟨rfl, hq14⟩
  have hb14 := hq14.b
  replace O3 := Lib.hid (ownsRow_below O3.out hb14)
  replace O6 := Lib.hid (ownsRow_below O6.out hb14)
  replace HB := Lib.hid (HB.out.trans (hb14.mono HB.out.size))
  have z14 := hb14.size
  clear hq14 hb14
  have hL : rn6 ≤ 1048576 := by have h1 := O6.out.1; rw [intCells_len] at h1; have h2 := bestsRes_len x0 x1 x2 x3; omega
  go_wp2_with (fail)
  refine (markInt64S_any _ _ _ _ 1 _ O6.out (by omega) (by omega)).mono ?_
  rintro e w15 ⟨rfl, oM, hg15⟩
  have D0 := Lib.hid (Rd.own oM)
  have hc15 := Chg.of_grown I6 hg15
  clear O6 oM hg15
  replace O3 := Lib.hid (own_chg O3.out hc15 I3 (.inl (by omega)))
  replace HB := Lib.hid (below_chg HB.out HB.out.size (by have := HB.out.size; omega) hc15)
  have z15 := hc15.size
  clear hc15
  go_wp2_with (fail)
  refine (heldInt64S_any _ _ _ _ _ D0.out (by omega) (by omega)).mono ?_
  rintro e w16 ⟨rfl, rfl⟩
  go_wp2_with (fail)
  refine (toInt64SS_any _ _ _ _ _ _ (V0.out.mono HB.out) m0 R0.out).mono ?_
  rintro e w17 ⟨g17, t17, rfl, hb17, o17, hs17⟩
  replace O3 := Lib.hid (ownsRow_below O3.out hb17)
  replace D0 := Lib.hid (Rd.mono D0.out hb17)
  replace HB := Lib.hid (HB.out.trans (hb17.mono HB.out.size))
  have z17 := hb17.size
  have O17 := Lib.hid o17
  have S17 := Lib.hid hs17
  clear hb17 o17 hs17
  go_wp2_with (fail)
  refine (toInt64SS_any _ _ _ _ _ _ (V1.out.mono HB.out) m1 R1.out).mono ?_
  rintro e w18 ⟨g18, t18, rfl, hb18, o18, hs18⟩
  replace O3 := Lib.hid (ownsRow_below O3.out hb18)
  replace D0 := Lib.hid (Rd.mono D0.out hb18)
  replace O17 := Lib.hid (OwnSS.mk O17.out.len (O17.out.p.below hb18))
  replace HB := Lib.hid (HB.out.trans (hb18.mono HB.out.size))
  have z18 := hb18.size
  have O18 := Lib.hid o18
  have S18 := Lib.hid hs18
  clear hb18 o18 hs18
  go_wp2_with (fail)
  refine (implBestsShared_any _ _ _ _ _ _ _ _ _ _ x2 x3 _ O17.out.rd O18.out.rd S17.out S18.out).mono ?_
  rintro e w19 ⟨ra19, rn19, rc19, rfl, hb19, o19⟩
  replace O3 := Lib.hid (ownsRow_below O3.out hb19)
  replace D0 := Lib.hid (Rd.mono D0.out hb19)
  replace O17 := Lib.hid (OwnSS.mk O17.out.len (O17.out.p.below hb19))
  replace O18 := Lib.hid (OwnSS.mk O18.out.len (O18.out.p.below hb19))
  replace HB := Lib.hid (HB.out.trans (hb19.mono HB.out.size))
  have z19 := hb19.size
  have I19 := own_in o19
  have O19 := Lib.hid o19
  clear hb19 o19
  clear O17
  clear O18
  go_wp2_with (fail)
  refine (eqInt64S_any _ _ _ _ _ _ _ _ _ (Rd.own O19.out) (Rd.own O3.out)).mono ?_
  rintro e w20 ⟨rfl, hq20⟩
  have hb20 := hq20.b
  replace O3 := Lib.hid (ownsRow_below O3.out hb20)
  replace D0 := Lib.hid (Rd.mono D0.out hb20)
  replace O19 := Lib.hid (ownsRow_below O19.out hb20)
  replace HB := Lib.hid (HB.out.trans (hb20.mono HB.out.size))
  have z20 := hb20.size
  clear hq20 hb20
  go_wp2_with (fail)
  refine (heldInt64S_any _ _ _ _ _ D0.out (by omega) (by omega)).mono ?_
  rintro e w21 ⟨rfl, rfl⟩
  go_wp2
  go_ret
  exact ⟨rfl, HB.out⟩

end Go.Proofs.Ytaeabngamnkgjaa
