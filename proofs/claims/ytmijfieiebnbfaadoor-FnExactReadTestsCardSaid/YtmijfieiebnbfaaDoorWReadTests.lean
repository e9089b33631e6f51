/- The walk of the law FnExactReadTests. -/
import Derived.Test.YtmijfieiebnbfaaDoorRtD
import Derived.Test.YtmijfieiebnbfaaDoorTMk
namespace Go.Proofs.YtmijfieiebnbfaaDoor
open Go.RowKit
set_option linter.unusedVariables false

set_option maxHeartbeats 800000 in
theorem fnExactReadTests_walk (s : ByteArray) (mx : Int) (w : World) (hmx : w.cell? ⟨0, 0, none⟩ = some (.int .i64 mx)) (htab : Lib.TabIs Tryd.prog w "internal/strconv.uint64pow10" .u64 Lib.pow10Tab) (es er : Value) (hE : ErrC w es er) :
    Calls Tryd.prog 4 #[.string s] w (Ret w (.bool true)) := by
  by_cases hl : 1048576 < s.size
  · have hl1 : (1048576 : Int) < ((s.size : Nat) : Int) := by omega
    go_enter Tryd.func4, Tryd.ntmps4
    go_wp2
    go_ret
    exact ⟨rfl, Below.refl _ _⟩
  have hl1 : ¬ (1048576 : Int) < ((s.size : Nat) : Int) := by omega
  obtain ⟨l, rfl⟩ : ∃ l, s = ofL l := ⟨_, (ofL_data s).symm⟩
  have hs := ofL_sz l
  have HTab := Lib.hid (Lib.tabBelow_of_tabIs htab)
  have CS := Lib.hid (fun W => specReadTests_any l W (by omega))
  have CI : Hid (∀ W, Below w.heap.size w W → Calls Tryd.prog 12 #[.string (ofL l)] W (RtPost l W)) := fun W hW => implReadTests_any l mx W (by omega) (cell_on hW hmx) (hE.on hW) (HTab.out W hW)
  clear hmx htab hE HTab
  by_cases hex : ∃ gs, RdOk l gs
  · obtain ⟨gs, hgs⟩ := hex
    have HU := Lib.hid (fun gs' (h : RdOk l gs') => rd_unique h hgs)
    have hlen : gs.length ≤ 6 := (okTests_len hgs.1).2
    have CS2 : Hid (∀ W, Calls Tryd.prog 11 #[.string (ofL l)] W fun e w' => Below W.heap.size W w' ∧ ∃ g n c, e = .returned (.tuple #[.slice (some ⟨g, 0, none⟩) n c, .bool true]) ∧ w'.ownsRow W.heap.size 38 3 (.slice (some ⟨g, 0, none⟩) n c) n (tripCells gs)) := fun W => (CS.out W).mono fun e w' h => by
      obtain ⟨hb, ⟨gs', g, n, c, hr, he, ho⟩ | ⟨hno, _⟩⟩ := h
      · rw [HU.out gs' hr] at ho; exact ⟨hb, g, n, c, he, ho⟩
      · exact absurd hgs (hno gs)
    have CI2 : Hid (∀ W, Below w.heap.size w W → Calls Tryd.prog 12 #[.string (ofL l)] W fun e w' => Below W.heap.size W w' ∧ ∃ g n c, e = .returned (.tuple #[.slice (some ⟨g, 0, none⟩) n c, .bool true]) ∧ w'.ownsRow W.heap.size 38 3 (.slice (some ⟨g, 0, none⟩) n c) n (tripCells gs)) := fun W hW => (CI.out W hW).mono fun e w' h => by
      obtain ⟨hb, ⟨gs', g, n, c, hr, he, ho⟩ | ⟨hno, _⟩⟩ := h
      · rw [HU.out gs' hr] at ho; exact ⟨hb, g, n, c, he, ho⟩
      · exact absurd hgs (hno gs)
    clear CS CI HU hgs
    generalize ofL l = sx at *
    go_enter Tryd.func4, Tryd.ntmps4
    go_wp2_with (fail)
    refine (CS2.out _).mono ?_
    rintro e w1 ⟨hb1, g1, n1, c1, rfl, o1⟩
    have A1 : Trips w1 (some ⟨g1, 0, none⟩) n1 c1 gs := Rd.own o1
    have hn1 := A1.len
    have A1 := Lib.hid A1
    have HB := Lib.hid hb1
    clear hb1 o1
    go_wp2_with (fail)
    refine (CI2.out _ HB.out).mono ?_
    rintro e w2 ⟨hb2, g2, n2, c2, rfl, o2⟩
    obtain rfl : n1 = n2 := by have := (show Trips w2 (some ⟨g2, 0, none⟩) n2 c2 gs from Rd.own o2).len; omega
    have HV := Lib.hid hb2
    have O2 := Lib.hid o2
    have I2 := Lib.hid (own_in o2)
    have hz2 := hb2.size
    clear hb2 o2
    go_wp2_with (fail)
    refine (eqTestS_same _ _ _ _ _ _ _ (Rd.own O2.out) (Rd.mono A1.out HV.out)).mono ?_
    rintro e w3 ⟨rfl, hb3⟩
    replace O2 := Lib.hid (ownsRow_below O2.out hb3)
    replace HV := Lib.hid (HV.out.trans (hb3.mono HV.out.size))
    have hz3 := hb3.size
    clear hb3
    go_wp2_with (fail)
    refine (markTestS2_any w1.heap.size g2 n1 c2 gs 1 _ O2.out (by omega) (by omega) (by omega)).mono ?_
    rintro e w4 ⟨rfl, hg4, hs4, o4, m4⟩
    have hc4 : Chg w1.heap.size w2.heap.size w3 w4 := Chg.of_grown (a := some ⟨g2, 0, none⟩) (n := n1) (c := c2) I2.out hg4
    replace HV := Lib.hid (below_chg HV.out HV.out.size (Nat.le_refl _) hc4)
    have S4 : Hid (Trips w4 (some ⟨g2, 0, none⟩) n1 c2 hs4) := Rd.own o4
    have M4 := Lib.hid m4
    have hz4 := hc4.size
    clear hg4 o4 m4 hc4 O2 I2
    go_wp2_with (fail)
    refine (heldTestS2_any _ _ _ hs4 1 _ S4.out M4.out (by omega) (by omega) (by omega)).mono ?_
    rintro e w5 ⟨rfl, rfl⟩
    have hm0 : ¬ 1 + 3 * (n1 : Int) < 0 := by omega
    generalize hmm : 1 + 3 * (n1 : Int) = mm at *
    have HMM := Lib.hid hmm
    clear hmm
    go_wp2_with (fail)
    refine (CI2.out _ (HB.out.trans (HV.out.mono HB.out.size))).mono ?_
    rintro e w6 ⟨hb6, g6, n6, c6, rfl, o6⟩
    obtain rfl : n1 = n6 := by have := (show Trips w6 (some ⟨g6, 0, none⟩) n6 c6 gs from Rd.own o6).len; omega
    replace S4 : Hid (Trips w6 (some ⟨g2, 0, none⟩) n1 c2 hs4) := Rd.mono S4.out hb6
    replace HV := Lib.hid (HV.out.trans (hb6.mono HV.out.size))
    have O6 := Lib.hid o6
    clear hb6 o6
    go_wp2_with (fail)
    refine (eqTestS_same _ _ _ _ _ _ _ (Rd.own O6.out) (Rd.mono A1.out HV.out)).mono ?_
    rintro e w7 ⟨rfl, hb7⟩
    replace S4 : Hid (Trips w7 (some ⟨g2, 0, none⟩) n1 c2 hs4) := Rd.mono S4.out hb7
    replace HV := Lib.hid (HV.out.trans (hb7.mono HV.out.size))
    clear hb7 O6
    go_wp2_with (fail)
    refine (heldTestS2_any _ _ _ hs4 1 _ S4.out M4.out (by omega) (by omega) (by omega)).mono ?_
    rintro e w8 ⟨rfl, rfl⟩
    rw [HMM.out]
    go_wp2
    go_ret
    exact ⟨rfl, HB.out.trans (HV.out.mono HB.out.size)⟩
  · have hno : ∀ gs, ¬ RdOk l gs := fun gs h => hex ⟨gs, h⟩
    have CS2 : Hid (∀ W, Calls Tryd.prog 11 #[.string (ofL l)] W fun e w' => Below W.heap.size W w' ∧ e = .returned (.tuple #[.slice none 0 0, .bool false])) := fun W => (CS.out W).mono fun e w' h => by
      obtain ⟨hb, ⟨gs', g, n, c, hr, he, ho⟩ | ⟨_, he⟩⟩ := h
      · exact absurd hr (hno gs')
      · exact ⟨hb, he⟩
    have CI2 : Hid (∀ W, Below w.heap.size w W → Calls Tryd.prog 12 #[.string (ofL l)] W fun e w' => Below W.heap.size W w' ∧ e = .returned (.tuple #[.slice none 0 0, .bool false])) := fun W hW => (CI.out W hW).mono fun e w' h => by
      obtain ⟨hb, ⟨gs', g, n, c, hr, he, ho⟩ | ⟨_, he⟩⟩ := h
      · exact absurd hr (hno gs')
      · exact ⟨hb, he⟩
    clear CS CI hno hex
    generalize ofL l = sx at *
    go_enter Tryd.func4, Tryd.ntmps4
    go_wp2_with (fail)
    refine (CS2.out _).mono ?_
    rintro e w1 ⟨hb1, rfl⟩
    have HB := Lib.hid hb1
    clear hb1
    go_wp2_with (fail)
    refine (CI2.out _ HB.out).mono ?_
    rintro e w2 ⟨hb2, rfl⟩
    replace HB := Lib.hid (HB.out.trans (hb2.mono HB.out.size))
    clear hb2
    have hnil : ∀ W, Trips W none 0 0 [] := fun W => ⟨rfl, Nat.le_refl _, by omega, .inl rfl⟩
    have HNil := Lib.hid hnil
    clear hnil
    go_wp2_with (fail)
    refine (eqTestS_same _ _ _ _ _ [] _ (HNil.out _) (HNil.out _)).mono ?_
    rintro e w3 ⟨rfl, hb3⟩
    replace HB := Lib.hid (HB.out.trans (hb3.mono HB.out.size))
    clear hb3
    go_wp2_with (fail)
    refine (markTestS_any 0 none 0 0 [] 1 _ (World.ownsRow_nil _ _ _ _) (by omega) (by omega) (by omega)).mono ?_
    rintro e w4 ⟨rfl, hg4⟩
    have hb4 : Below w3.heap.size w3 w4 := ⟨hg4.os, hg4.tape, hg4.output, hg4.size, fun k hk => hg4.block k hk (by simp [Value.ownBlock])⟩
    replace HB := Lib.hid (HB.out.trans (hb4.mono HB.out.size))
    clear hb4 hg4
    go_wp2_with (fail)
    refine (heldTestS2_any none 0 0 [] 1 _ (HNil.out _) (fun i hi => absurd hi (Nat.not_lt_zero _)) (by omega) (by omega) (by omega)).mono ?_
    rintro e w5 ⟨rfl, rfl⟩
    go_wp2_with (fail)
    refine (CI2.out _ HB.out).mono ?_
    rintro e w6 ⟨hb6, rfl⟩
    replace HB := Lib.hid (HB.out.trans (hb6.mono HB.out.size))
    clear hb6
    go_wp2_with (fail)
    refine (eqTestS_same _ _ _ _ _ [] _ (HNil.out _) (HNil.out _)).mono ?_
    rintro e w7 ⟨rfl, hb7⟩
    replace HB := Lib.hid (HB.out.trans (hb7.mono HB.out.size))
    clear hb7
    go_wp2_with (fail)
    refine (heldTestS2_any none 0 0 [] 1 _ (HNil.out _) (fun i hi => absurd hi (Nat.not_lt_zero _)) (by omega) (by omega) (by omega)).mono ?_
    rintro e w8 ⟨rfl, rfl⟩
    go_wp2
    go_ret
    exact ⟨rfl, HB.out⟩

end Go.Proofs.YtmijfieiebnbfaaDoor
