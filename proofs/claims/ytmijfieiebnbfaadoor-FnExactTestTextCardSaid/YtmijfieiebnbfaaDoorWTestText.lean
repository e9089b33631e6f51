/- The walk of the law FnExactTestText. -/
import Derived.Test.YtmijfieiebnbfaaDoorTxC
namespace Go.Proofs.YtmijfieiebnbfaaDoor
open Go.RowKit
set_option linter.unusedVariables false

set_option maxHeartbeats 800000 in
theorem fnExactTestText_walk (a0 : Option Addr) (n0 c0 : Nat) (x0 : List (Int × Int × Int)) (w : World) (v0 : Trips w a0 n0 c0 x0) (htab : Lib.TabIs Tryd.prog w "internal/strconv.uint64pow10" .u64 Lib.pow10Tab) :
    Calls Tryd.prog 3 #[.slice a0 n0 c0] w (Ret w (.bool true)) := by
  have m0 : n0 ≤ 9223372036854775807 := by have := v0.2.1; have := v0.2.2.1; omega
  have HTab := Lib.hid (Lib.tabBelow_of_tabIs htab)
  clear htab
  by_cases hn0 : (n0 : Int) ≤ 1048576
  case neg =>
    go_enter Tryd.func3, Tryd.ntmps3
    go_wp2_with (fail)
    refine (szTestS_no _ _ _ _ _ m0 (by omega) (by omega) (by omega)).mono ?_
    rintro e w1 ⟨rfl, rfl⟩
    go_wp2
    go_ret
    exact ⟨rfl, Below.refl _ _⟩
  have CS := Lib.hid (fun (a : Option Addr) (c : Nat) W (h : Trips W a n0 c x0) => specTestText_any a n0 c x0 W h)
  have CI := Lib.hid (fun (a : Option Addr) (c : Nat) W (h : Trips W a n0 c x0) ht => implTestText_any a n0 c x0 W h ht)
  generalize txtR x0 = R at *
  obtain ⟨S, b⟩ := R
  dsimp only at CS CI
  have hmm : (S.toList == S.toList) = true := by simp
  have hbb : (b != b) = false := by simp
  go_enter Tryd.func3, Tryd.ntmps3
  have HB := Below.refl w.heap.size w
  go_wp2_with (fail)
  refine (szTestS_ok _ _ _ _ _ m0 hn0 (by omega)).mono ?_
  rintro e w1 ⟨rfl, rfl⟩
  go_wp2_with (fail)
  refine (toTestS_any _ _ _ _ _ (Rd.mono v0 HB) (by omega)).mono ?_
  rintro e w1 ⟨g1, rfl, hb1, o1⟩
  replace HB := HB.trans (hb1.mono HB.size)
  clear hb1
  go_wp2_with (fail)
  refine (CS.out _ _ _ (Rd.own o1)).mono ?_
  rintro e w2 ⟨rfl, hb2⟩
  replace HB := HB.trans (hb2.mono HB.size)
  clear hb2 o1
  go_wp2_with (fail)
  refine (toTestS_any _ _ _ _ _ (Rd.mono v0 HB) (by omega)).mono ?_
  rintro e w3 ⟨g3, rfl, hb3, o3⟩
  replace HB := HB.trans (hb3.mono HB.size)
  clear hb3
  go_wp2_with (fail)
  refine (CI.out _ _ _ (Rd.own o3) (HTab.out _ HB)).mono ?_
  rintro e w4 ⟨rfl, hb4⟩
  replace o3 := ownsRow_below o3 hb4
  replace HB := HB.trans (hb4.mono HB.size)
  clear hb4
  go_wp2_with (fail)
  refine (toTestS_any _ _ _ _ _ (Rd.mono v0 HB) (by omega)).mono ?_
  rintro e w5 ⟨g5, rfl, hb5, o5⟩
  replace o3 := ownsRow_below o3 hb5
  replace HB := HB.trans (hb5.mono HB.size)
  clear hb5
  go_wp2_with (fail)
  refine (eqTestS_same _ _ _ _ _ _ _ (Rd.own o3) (Rd.own o5)).mono ?_
  rintro e w6 ⟨rfl, hb6⟩
  replace HB := HB.trans (hb6.mono HB.size)
  go_wp2
  go_ret
  exact ⟨rfl, HB⟩

end Go.Proofs.YtmijfieiebnbfaaDoor
