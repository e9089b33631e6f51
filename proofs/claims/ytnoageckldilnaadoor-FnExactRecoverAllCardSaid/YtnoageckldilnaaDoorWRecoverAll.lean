/- The walk of the law FnExactRecoverAll. -/
import Derived.Test.YtnoageckldilnaaDoorRcC
namespace Go.Proofs.YtnoageckldilnaaDoor
open Go.RowKit
set_option linter.unusedVariables false

set_option maxHeartbeats 800000 in
theorem fnExactRecoverAll_walk (s : ByteArray) (w : World) :
    Calls Tryd.prog 8 #[.string s] w (Ret w (.bool true)) := by
  by_cases hl : 1048576 < s.size
  · have hl1 : (1048576 : Int) < ((s.size : Nat) : Int) := by omega
    go_enter Tryd.func8, Tryd.ntmps8
    go_wp2
    go_ret
    exact ⟨rfl, Below.refl _ _⟩
  · have hl1 : ¬ (1048576 : Int) < ((s.size : Nat) : Int) := by omega
    obtain ⟨l, rfl⟩ : ∃ l, s = ofL l := ⟨_, (ofL_data s).symm⟩
    have hs := ofL_sz l
    obtain ⟨Y, hY⟩ : ∃ Y, Y = rcv 8 l := ⟨_, rfl⟩
    obtain ⟨y1, y2⟩ : Y.1.length ≤ 8 ∧ ∀ i, i < Y.1.length → mkW (Y.1.getD i as0) ≤ 1000 := by rw [hY]; exact rcv_small 8 l
    have CS : Hid (∀ W, Calls Tryd.prog 30 #[.string (ofL l)] W (RcPost Y W)) := fun W => specRecoverAll_any l Y hY W (by omega)
    have CI : Hid (∀ W, Calls Tryd.prog 25 #[.string (ofL l)] W (RcPost Y W)) := fun W => implRecoverAll_any l Y hY W (by omega)
    clear hY hs hl
    obtain ⟨xs, N⟩ := Y
    dsimp only at y1 y2
    have HY2 := Lib.hid y2
    clear y2
    generalize ofL l = sx at *
    have HB := Below.refl w.heap.size w
    go_enter Tryd.func8, Tryd.ntmps8
    go_wp2_with (fail)
    refine (CS.out _).mono ?_
    rintro e w1 ⟨hb1, g0, n, c0, L0, m0, rfl, o0⟩
    dsimp only at o0
    have A0 := Lib.hid o0.sv
    replace HB := HB.trans (hb1.mono HB.size)
    have hn : xs.length = n := A0.out.len
    clear hb1 o0
    go_wp2_with (fail)
    refine (CI.out _).mono ?_
    rintro e w2 ⟨hb2, g2, n2, c2, L2, m2, rfl, o2⟩
    dsimp only at o2
    obtain rfl : n2 = n := by have := o2.len; omega
    have O2 := Lib.hid o2
    have HV : Below w1.heap.size w1 w2 := hb2
    have hz2 := hb2.size
    clear hb2 o2
    go_wp2_with (fail)
    refine (eqSavedS_same _ _ _ _ _ _ _ _ _ O2.out.sv (A0.out.mono HV)).mono ?_
    rintro e w3 ⟨rfl, hb3⟩
    replace O2 := Lib.hid (O2.out.below hb3)
    replace HV := HV.trans (hb3.mono HV.size)
    have hz3 := hb3.size
    clear hb3
    go_wp2_with (fail)
    refine (markSavedS_any w1.heap.size w2.heap.size g2 n2 c2 L2 m2 xs 1 _ O2.out hz3 (by omega) (by omega) HY2.out).mono ?_
    rintro e w4 ⟨rfl, hc4, m4, x4, o4, h4⟩
    replace HV := below_chg HV HV.size (Nat.le_refl _) hc4
    have hz4 := hc4.size
    have S4 := Lib.hid o4.sv
    have H4 := Lib.hid h4
    clear hc4 o4 h4 O2
    go_wp2_with (fail)
    refine (heldSavedS_any _ n2 c2 m4 xs x4 1 _ S4.out H4.out hn (by omega) (by omega) HY2.out).mono ?_
    rintro e w5 ⟨rfl, hb5⟩
    replace S4 := Lib.hid (S4.out.mono hb5)
    replace HV := HV.trans (hb5.mono HV.size)
    have hz5 := hb5.size
    clear hb5
    have hm0 : ¬ ((mkN xs 1 n2 : Nat) : Int) < 0 := by omega
    generalize hmm : ((mkN xs 1 n2 : Nat) : Int) = mm at *
    have HMM := Lib.hid hmm
    clear hmm
    go_wp2_with (fail)
    refine (CI.out _).mono ?_
    rintro e w6 ⟨hb6, g6, n6, c6, L6, m6, rfl, o6⟩
    dsimp only at o6
    obtain rfl : n6 = n2 := by have := o6.len; omega
    have S6 := Lib.hid o6.sv
    replace S4 := Lib.hid (S4.out.mono hb6)
    replace HV := HV.trans (hb6.mono HV.size)
    have hz6 := hb6.size
    clear hb6 o6
    go_wp2_with (fail)
    refine (eqSavedS_same _ _ _ _ _ _ _ _ _ S6.out (A0.out.mono HV)).mono ?_
    rintro e w7 ⟨rfl, hb7⟩
    replace S4 := Lib.hid (S4.out.mono hb7)
    replace HV := HV.trans (hb7.mono HV.size)
    clear hb7
    go_wp2_with (fail)
    refine (heldSavedS_any _ n6 c2 m4 xs x4 1 _ S4.out H4.out hn (by omega) (by omega) HY2.out).mono ?_
    rintro e w8 ⟨rfl, hb8⟩
    replace HV := HV.trans (hb8.mono HV.size)
    clear hb8
    rw [HMM.out]
    go_wp2
    go_ret
    exact ⟨rfl, HB.trans (HV.mono HB.size)⟩

end Go.Proofs.YtnoageckldilnaaDoor
