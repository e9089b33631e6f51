/- The walk of the law FnExactStoreAll. -/
import Derived.Test.YtnoageckldilnaaDoorAllA
namespace Go.Proofs.YtnoageckldilnaaDoor
open Go.RowKit
set_option linter.unusedVariables false

set_option maxHeartbeats 1600000 in
theorem fnExactStoreAll_walk (a0 : Option Addr) (n0 c0 : Nat) (ms : List MS) (xs : List AS) (w : World) (hm : ∀ i, i < n0 → (xs.getD i as0).1.size ≤ maxLen) (h : SavS w a0 n0 c0 ms xs) :
    Calls Tryd.prog 5 #[.slice a0 n0 c0] w (Ret w (.bool true)) := by
  have C0 := Lib.hid (szSavedS_any a0 n0 c0 ms xs w h hm 1048576 (by omega) (by omega))
  have HV := Lib.hid h
  clear h hm
  go_enter Tryd.func5, Tryd.ntmps5
  go_wp2_with (fail)
  refine C0.out.mono ?_
  rintro e w0 ⟨r, rfl, hr, hb0⟩
  have HB := Lib.hid hb0
  clear hb0 C0
  by_cases hr0 : r < 0
  · clear hr
    go_wp2
    go_ret
    exact ⟨rfl, HB.out⟩
  obtain ⟨hr1, hn, ht⟩ := hr (by omega)
  have HT := Lib.hid ht
  clear hr ht
  go_wp2_with (fail)
  refine (toSavedS_any _ _ _ _ _ _ (HV.out.mono HB.out) hn HT.out).mono ?_
  rintro e w1 ⟨g1, t1, rfl, hb1, s1⟩
  replace HB := Lib.hid (HB.out.trans (hb1.mono HB.out.size))
  clear hb1
  go_wp2_with (fail)
  refine (specStoreAll_any _ _ _ _ _ _ s1 HT.out).mono ?_
  rintro e w2 ⟨rfl, hb2⟩
  replace HB := Lib.hid (HB.out.trans (hb2.mono HB.out.size))
  clear hb2 s1
  go_wp2_with (fail)
  refine (toSavedS_any _ _ _ _ _ _ (HV.out.mono HB.out) hn HT.out).mono ?_
  rintro e w3 ⟨g3, t3, rfl, hb3, s3⟩
  replace HB := Lib.hid (HB.out.trans (hb3.mono HB.out.size))
  clear hb3
  go_wp2_with (fail)
  refine (implStoreAll_any _ _ _ _ _ _ s3 HT.out).mono ?_
  rintro e w4 ⟨rfl, hb4⟩
  replace s3 := s3.mono hb4
  replace HB := Lib.hid (HB.out.trans (hb4.mono HB.out.size))
  clear hb4
  have hbe : ((allR xs).1.toList == (allR xs).1.toList) = true := by simp
  generalize (allR xs).1 = r1 at *
  generalize (allR xs).2 = r2 at *
  go_wp2_with (fail)
  refine (toSavedS_any _ _ _ _ _ _ (HV.out.mono HB.out) hn HT.out).mono ?_
  rintro e w5 ⟨g5, t5, rfl, hb5, s5⟩
  replace s3 := s3.mono hb5
  replace HB := Lib.hid (HB.out.trans (hb5.mono HB.out.size))
  clear hb5
  go_wp2_with (fail)
  refine (eqSavedS_same _ _ _ _ _ _ _ _ _ s3 s5).mono ?_
  rintro e w6 ⟨rfl, hb6⟩
  replace HB := Lib.hid (HB.out.trans (hb6.mono HB.out.size))
  clear hb6
  go_wp2
  go_ret
  exact ⟨rfl, HB.out⟩

end Go.Proofs.YtnoageckldilnaaDoor
