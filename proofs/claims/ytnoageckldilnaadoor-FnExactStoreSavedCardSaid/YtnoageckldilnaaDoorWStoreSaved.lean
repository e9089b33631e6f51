/- The walk of the law FnExactStoreSaved. -/
import Derived.Test.YtnoageckldilnaaDoorSavC
import Derived.Deep.RegionHeld3
namespace Go.Proofs.YtnoageckldilnaaDoor
open Go.RowKit
set_option linter.unusedVariables false

set_option maxHeartbeats 1000000 in
theorem fnExactStoreSaved_walk (nm : ByteArray) (a0 : Option Addr) (n0 c0 : Nat) (x0 : List Int) (a1 : Option Addr) (n1 c1 : Nat) (ss : List Spot) (xss : List (List Int)) (w : World) (hnm : nm.size ≤ maxLen) (h0 : Ints w a0 n0 c0 x0) (h1 : IntSS w a1 n1 c1 ss xss) :
    Calls Tryd.prog 4 #[.agg #[.string nm, .slice a0 n0 c0, .slice a1 n1 c1]] w (Ret w (.bool true)) := by
  have m0 : n0 ≤ 9223372036854775807 := by have := h0.at; omega
  have hl0' := h0.len
  have hl1' := h1.len
  have HB0 : Below w.heap.size w (w.alloc (.cells #[.string nm, .slice a0 n0 c0, .slice a1 n1 c1] 25)) := (Below.refl w.heap.size w).alloc (Nat.le_refl _) _
  have S := szSaved_any nm a0 n0 c0 a1 n1 c1 ss xss 1048576 (w.alloc (.cells #[.string nm, .slice a0 n0 c0, .slice a1 n1 c1] 25)) m0 (by unfold maxLen at hnm; omega) (h1.mono HB0) (by omega) (by omega)
  by_cases hn : (nm.size : Int) + n0 + xss.length + tot xss ≤ 1048576
  · have eS : szV 1048576 nm.size n0 xss = 1048576 - nm.size - n0 - xss.length - tot xss := if_pos hn
    have hS0 : 0 ≤ szV 1048576 nm.size n0 xss := by omega
    have kn : nm.size ≤ 1048576 := by omega
    have k0 : n0 ≤ 1048576 := by omega
    have k1 : n1 ≤ 1048576 := by omega
    have kr : ∀ i, i < n1 → (xss.getD i []).length ≤ 1048576 := fun i hi => by have := totTo_row xss i (by omega); omega
    have KR := Lib.hid kr
    have KT : Hid (nm.size + n0 + xss.length + tot xss ≤ 1048576) := by show _ ≤ _; omega
    clear eS hn kr
    generalize szV 1048576 nm.size n0 xss = z at *
    have HS := Lib.hid S
    clear S
    go_enter Tryd.func4, Tryd.ntmps4
    go_wp2_with (fail)
    refine HS.out.mono ?_
    rintro e w1 ⟨rfl, hb1⟩
    have p0 := cell_on hb1 (p := ⟨w.heap.size, 0, none⟩) (v := .string nm) (by go_simp)
    have p1 := cell_on hb1 (p := ⟨w.heap.size, 1, none⟩) (v := .slice a0 n0 c0) (by go_simp)
    have p2 := cell_on hb1 (p := ⟨w.heap.size, 2, none⟩) (v := .slice a1 n1 c1) (by go_simp)
    have HB := HB0.trans (hb1.mono HB0.size)
    clear hb1
    go_wp2_with (fail)
    refine (toSaved_any _ _ _ _ _ _ _ _ _ _ _ (h0.mono HB) (h1.mono HB) k0 k1 KR.out).mono ?_
    rintro e w2 ⟨g2, g2', ts2, rfl, hb2, T2, T2'⟩
    replace p0 := cell_on hb2 p0
    replace p1 := cell_on hb2 p1
    replace p2 := cell_on hb2 p2
    replace HB := HB.trans (hb2.mono HB.size)
    clear hb2
    go_wp2_with (fail)
    refine (specStoreSaved_any _ _ _ _ _ _ _ _ _ _ _ T2 T2' kn).mono ?_
    rintro e w3 ⟨rfl, hb3⟩
    replace p0 := cell_on hb3 p0
    replace p1 := cell_on hb3 p1
    replace p2 := cell_on hb3 p2
    replace HB := HB.trans (hb3.mono HB.size)
    clear hb3 T2 T2'
    go_wp2_with (fail)
    refine (toSaved_any _ _ _ _ _ _ _ _ _ _ _ (h0.mono HB) (h1.mono HB) k0 k1 KR.out).mono ?_
    rintro e w4 ⟨g4, g4', ts4, rfl, hb4, T4, T4'⟩
    replace p0 := cell_on hb4 p0
    replace p1 := cell_on hb4 p1
    replace p2 := cell_on hb4 p2
    replace HB := HB.trans (hb4.mono HB.size)
    clear hb4
    have hl0 := cell_lt p0
    dsimp only at hl0
    go_wp2_with (fail)
    have hX : Below w4.heap.size w4 (w4.alloc (.cells #[.string nm, .slice (some ⟨g4, 0, none⟩) n0 n0, .slice (some ⟨g4', 0, none⟩) n1 n1] 30)) := (Below.refl _ _).alloc (Nat.le_refl _) _
    replace p0 := cell_on hX p0
    replace p1 := cell_on hX p1
    replace p2 := cell_on hX p2
    replace T4 := T4.mono hX
    replace T4' := T4'.mono hX
    replace HB := HB.trans (hX.mono HB.size)
    have X0 : (w4.alloc (.cells #[.string nm, .slice (some ⟨g4, 0, none⟩) n0 n0, .slice (some ⟨g4', 0, none⟩) n1 n1] 30)).cell? ⟨w4.heap.size, 0, none⟩ = some (.string nm) := by go_simp
    have X1 : (w4.alloc (.cells #[.string nm, .slice (some ⟨g4, 0, none⟩) n0 n0, .slice (some ⟨g4', 0, none⟩) n1 n1] 30)).cell? ⟨w4.heap.size, 1, none⟩ = some (.slice (some ⟨g4, 0, none⟩) n0 n0) := by go_simp
    have X2 : (w4.alloc (.cells #[.string nm, .slice (some ⟨g4, 0, none⟩) n0 n0, .slice (some ⟨g4', 0, none⟩) n1 n1] 30)).cell? ⟨w4.heap.size, 2, none⟩ = some (.slice (some ⟨g4', 0, none⟩) n1 n1) := by go_simp
    clear hX
    generalize w4.alloc (.cells #[.string nm, .slice (some ⟨g4, 0, none⟩) n0 n0, .slice (some ⟨g4', 0, none⟩) n1 n1] 30) = v4 at *
    refine (implStoreSaved_any _ _ _ _ _ _ _ _ _ _ _ T4 T4' kn).mono ?_
    rintro e w5 ⟨rfl, hb5⟩
    replace p0 := cell_on hb5 p0
    replace p1 := cell_on hb5 p1
    replace p2 := cell_on hb5 p2
    replace X0 := cell_on hb5 X0
    replace X1 := cell_on hb5 X1
    replace X2 := cell_on hb5 X2
    replace T4 := T4.mono hb5
    replace T4' := T4'.mono hb5
    replace HB := HB.trans (hb5.mono HB.size)
    clear hb5 hl0
    have hbe : ((storeR nm x0 xss).1.toList == (storeR nm x0 xss).1.toList) = true := by simp
    generalize (storeR nm x0 xss).1 = r1 at *
    generalize (storeR nm x0 xss).2 = r2 at *
    go_wp2_with (fail)
    go_region_held3 (fun W => W.cell? ⟨w4.heap.size, 0, none⟩ = some (.string nm) ∧ W.cell? ⟨w4.heap.size, 1, none⟩ = some (.slice (some ⟨g4, 0, none⟩) n0 n0) ∧ W.cell? ⟨w4.heap.size, 2, none⟩ = some (.slice (some ⟨g4', 0, none⟩) n1 n1) ∧ W.cell? ⟨w.heap.size, 0, none⟩ = some (.string nm) ∧ W.cell? ⟨w.heap.size, 1, none⟩ = some (.slice a0 n0 c0) ∧ W.cell? ⟨w.heap.size, 2, none⟩ = some (.slice a1 n1 c1)) (first | exact ⟨X0, X1, X2, p0, p1, p2⟩)
      (first
        | (go_at_call 11; refine (toSaved_any _ _ _ _ _ _ _ _ _ _ _ (h0.mono HB.drew) (h1.mono HB.drew) k0 k1 KR.out).mono ?_; rintro e w6 ⟨g6, g6', ts6, rfl, hb6, T6, T6'⟩; have HB := HB.drew.trans (hb6.mono HB.size); have p0 := cell_on hb6 p0; have p1 := cell_on hb6 p1; have p2 := cell_on hb6 p2; have X0 := cell_on hb6 X0; have X1 := cell_on hb6 X1; have X2 := cell_on hb6 X2; have T4 := T4.drew.mono hb6; have T4' := (T4'.drewN 1).mono hb6)
        | (go_at_call 13; refine (eqSaved_same _ _ _ _ _ _ _ _ _ _ _ _ _ _ _ _ T4 T4' T6 T6').mono ?_; rintro e w7 ⟨rfl, hb7⟩; have HB := HB.trans (hb7.mono HB.size); have p0 := cell_on hb7 p0; have p1 := cell_on hb7 p1; have p2 := cell_on hb7 p2; have X0 := cell_on hb7 X0; have X1 := cell_on hb7 X1; have X2 := cell_on hb7 X2; have T4 := T4.mono hb7; have T4' := T4'.mono hb7))
    go_wp2
    go_ret
    exact ⟨rfl, HB⟩
  · have eS : szV 1048576 nm.size n0 xss = -1 := if_neg hn
    rw [eS] at S
    have HS := Lib.hid S
    clear S eS
    go_enter Tryd.func4, Tryd.ntmps4
    go_wp2_with (fail)
    refine HS.out.mono ?_
    rintro e w1 ⟨rfl, hb1⟩
    have HB := HB0.trans (hb1.mono HB0.size)
    clear hb1
    go_wp2
    go_ret
    exact ⟨rfl, HB⟩

end Go.Proofs.YtnoageckldilnaaDoor
