/- The walk of the law FnExactSameSaved. -/
import Derived.Test.YtalabeldmmpjgaaSameT
namespace Go.Proofs.Ytalabeldmmpjgaa
open Go.RowKit
set_option linter.unusedVariables false

set_option maxHeartbeats 1600000 in
theorem fnExactSameSaved_walk (a0 : Option Addr) (n0 c0 : Nat) (ms : List MS) (xs : List AS) (a1 : Option Addr) (n1 c1 : Nat) (ms' : List MS) (ys : List AS) (w : World) (hm : ∀ i, i < n0 → (xs.getD i as0).1.size ≤ maxLen) (h : SavS w a0 n0 c0 ms xs) (hm' : ∀ i, i < n1 → (ys.getD i as0).1.size ≤ maxLen) (h' : SavS w a1 n1 c1 ms' ys) :
    Calls Try.prog 3 #[.slice a0 n0 c0, .slice a1 n1 c1] w (Ret w (.bool true)) := by
  have C0 := Lib.hid (szSavedS_any a0 n0 c0 ms xs w h hm 1048576 (by omega) (by omega))
  have HV := Lib.hid h
  have HV' := Lib.hid h'
  have HM' := Lib.hid hm'
  clear h hm h' hm'
  go_enter Try.func3, Try.ntmps3
  go_wp2_with (fail)
  refine C0.out.mono ?_
  rintro e w0 ⟨r, rfl, hr, hb0⟩
  have HB := Lib.hid hb0
  clear hb0 C0
  by_cases hr0 : r < 0
  · clear hr
    go_wp2
    go_ret
    exact ⟨rfl, HB.out⟩
  obtain ⟨hr1, hn, ht⟩ := hr (by omega)
  have HT := Lib.hid ht
  clear hr ht
  have C1 := Lib.hid (szSavedS_any a1 n1 c1 ms' ys w0 (HV'.out.mono HB.out) HM'.out r (by omega) hr1)
  go_wp2_with (fail)
  refine C1.out.mono ?_
  rintro e w1 ⟨r2, rfl, hr, hb1⟩
  replace HB := Lib.hid (HB.out.trans (hb1.mono HB.out.size))
  clear hb1 C1
  by_cases hr2 : r2 < 0
  · clear hr
    go_wp2
    go_ret
    exact ⟨rfl, HB.out⟩
  obtain ⟨_, hn', ht'⟩ := hr (by omega)
  have HT' := Lib.hid ht'
  clear hr ht'
  go_wp2_with (fail)
  refine (toSavedS_any _ _ _ _ _ _ (HV.out.mono HB.out) hn HT.out).mono ?_
  rintro e w2 ⟨g2, t2, rfl, hb2, s2⟩
  replace HB := Lib.hid (HB.out.trans (hb2.mono HB.out.size))
  clear hb2
  go_wp2_with (fail)
  refine (toSavedS_any _ _ _ _ _ _ (HV'.out.mono HB.out) hn' HT'.out).mono ?_
  rintro e w3 ⟨g3, t3, rfl, hb3, s3⟩
  replace s2 := s2.mono hb3
  replace HB := Lib.hid (HB.out.trans (hb3.mono HB.out.size))
  clear hb3
  go_wp2_with (fail)
  refine (specSame_any _ _ _ _ _ _ _ _ _ _ _ s2 s3).mono ?_
  rintro e w4 ⟨rfl, hb4⟩
  replace HB := Lib.hid (HB.out.trans (hb4.mono HB.out.size))
  clear hb4 s2 s3
  go_wp2_with (fail)
  refine (toSavedS_any _ _ _ _ _ _ (HV.out.mono HB.out) hn HT.out).mono ?_
  rintro e w5 ⟨g5, t5, rfl, hb5, s5⟩
  replace HB := Lib.hid (HB.out.trans (hb5.mono HB.out.size))
  clear hb5
  go_wp2_with (fail)
  refine (toSavedS_any _ _ _ _ _ _ (HV'.out.mono HB.out) hn' HT'.out).mono ?_
  rintro e w6 ⟨g6, t6, rfl, hb6, s6⟩
  replace s5 := s5.mono hb6
  replace HB := Lib.hid (HB.out.trans (hb6.mono HB.out.size))
  clear hb6
  go_wp2_with (fail)
  refine (implSame_any _ _ _ _ _ _ _ _ _ _ _ s5 s6).mono ?_
  rintro e w7 ⟨rfl, hb7⟩
  replace s5 := s5.mono hb7
  replace s6 := s6.mono hb7
  replace HB := Lib.hid (HB.out.trans (hb7.mono HB.out.size))
  clear hb7
  generalize decide (xs = ys) = r3 at *
  go_wp2_with (fail)
  refine (toSavedS_any _ _ _ _ _ _ (HV.out.mono HB.out) hn HT.out).mono ?_
  rintro e w8 ⟨g8, t8, rfl, hb8, s8⟩
  replace s5 := s5.mono hb8
  replace s6 := s6.mono hb8
  replace HB := Lib.hid (HB.out.trans (hb8.mono HB.out.size))
  clear hb8
  go_wp2_with (fail)
  refine (eqSavedS_same _ _ _ _ _ _ _ _ _ s5 s8).mono ?_
  rintro e w9 ⟨rfl, hb9⟩
  replace s6 := s6.mono hb9
  replace HB := Lib.hid (HB.out.trans (hb9.mono HB.out.size))
  clear hb9 s5 s8
  go_wp2_with (fail)
  refine (toSavedS_any _ _ _ _ _ _ (HV'.out.mono HB.out) hn' HT'.out).mono ?_
  rintro e w10 ⟨g10, t10, rfl, hb10, s10⟩
  replace s6 := s6.mono hb10
  replace HB := Lib.hid (HB.out.trans (hb10.mono HB.out.size))
  clear hb10
  go_wp2_with (fail)
  refine (eqSavedS_same _ _ _ _ _ _ _ _ _ s6 s10).mono ?_
  rintro e w11 ⟨rfl, hb11⟩
  replace HB := Lib.hid (HB.out.trans (hb11.mono HB.out.size))
  clear hb11
  go_wp2
  go_ret
  exact ⟨rfl, HB.out⟩

end Go.Proofs.Ytalabeldmmpjgaa
