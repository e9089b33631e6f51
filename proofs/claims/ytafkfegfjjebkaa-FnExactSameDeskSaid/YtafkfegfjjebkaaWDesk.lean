/- The walk of the law FnExactSameDesk. -/
import Derived.Test.YtafkfegfjjebkaaDeskB
import Derived.Deep.RegionHeld3
namespace Go.Proofs.Ytafkfegfjjebkaa
open Go.RowKit

theorem fnExactSameDesk_walk (a0 : Option Addr) (n0 c0 : Nat) (x0 : List Int) (a1 : Option Addr) (n1 c1 : Nat) (x1 : List Int) (a2 : Option Addr) (n2 c2 : Nat) (x2 : List Int) (a0' : Option Addr) (n0' c0' : Nat) (x0' : List Int) (a1' : Option Addr) (n1' c1' : Nat) (x1' : List Int) (a2' : Option Addr) (n2' c2' : Nat) (x2' : List Int) (w : World) (_ : (∀ x ∈ x0, (Lit.int .i64 x).wf = true) ∧ (∀ x ∈ x1, (Lit.int .i64 x).wf = true) ∧ ∀ x ∈ x2, (Lit.int .i64 x).wf = true) (h0 : Ints w a0 n0 c0 x0) (h1 : Ints w a1 n1 c1 x1) (h2 : Ints w a2 n2 c2 x2) (_ : (∀ x ∈ x0', (Lit.int .i64 x).wf = true) ∧ (∀ x ∈ x1', (Lit.int .i64 x).wf = true) ∧ ∀ x ∈ x2', (Lit.int .i64 x).wf = true) (h0' : Ints w a0' n0' c0' x0') (h1' : Ints w a1' n1' c1' x1') (h2' : Ints w a2' n2' c2' x2') :
    Calls Try.prog 7 #[.agg #[.slice a0 n0 c0, .slice a1 n1 c1, .slice a2 n2 c2], .agg #[.slice a0' n0' c0', .slice a1' n1' c1', .slice a2' n2' c2']] w (Ret w (.bool true)) := by
  have m0 : n0 ≤ 9223372036854775807 := by have := h0.at; omega
  have m1 : n1 ≤ 9223372036854775807 := by have := h1.at; omega
  have m2 : n2 ≤ 9223372036854775807 := by have := h2.at; omega
  have m0' : n0' ≤ 9223372036854775807 := by have := h0'.at; omega
  have m1' : n1' ≤ 9223372036854775807 := by have := h1'.at; omega
  have m2' : n2' ≤ 9223372036854775807 := by have := h2'.at; omega
  have HB0 : Below w.heap.size w ((w.alloc (.cells #[.slice a0 n0 c0, .slice a1 n1 c1, .slice a2 n2 c2] 43)).alloc (.cells #[.slice a0' n0' c0', .slice a1' n1' c1', .slice a2' n2' c2'] 43)) := ((Below.refl w.heap.size w).alloc (Nat.le_refl _) _).alloc (by simp) _
  have S := szDesk_any a0 n0 c0 a1 n1 c1 a2 n2 c2 1048576 ((w.alloc (.cells #[.slice a0 n0 c0, .slice a1 n1 c1, .slice a2 n2 c2] 43)).alloc (.cells #[.slice a0' n0' c0', .slice a1' n1' c1', .slice a2' n2' c2'] 43)) m0 m1 m2 (by omega) (by omega)
  by_cases hn : (n0 : Int) + n1 + n2 ≤ 1048576
  · rw [if_pos hn] at S
    have S' := fun W => szDesk_any a0' n0' c0' a1' n1' c1' a2' n2' c2' (1048576 - n0 - n1 - n2) W m0' m1' m2' (by omega) (by omega)
    have HS := Lib.hid S
    clear S
    by_cases hn' : (n0' : Int) + n1' + n2' ≤ 1048576 - n0 - n1 - n2
    · rw [if_pos hn'] at S'
      have HS' := Lib.hid S'
      clear S'
      go_enter Try.func7, Try.ntmps7
      go_wp2_with (fail)
      refine HS.out.mono ?_
      rintro e w1 ⟨rfl, hb1⟩
      have p0 := cell_on hb1 (p := ⟨w.heap.size, 0, none⟩) (v := .slice a0 n0 c0) (by go_simp)
      have p1 := cell_on hb1 (p := ⟨w.heap.size, 1, none⟩) (v := .slice a1 n1 c1) (by go_simp)
      have p2 := cell_on hb1 (p := ⟨w.heap.size, 2, none⟩) (v := .slice a2 n2 c2) (by go_simp)
      have p0' := cell_on hb1 (p := ⟨w.heap.size + 1, 0, none⟩) (v := .slice a0' n0' c0') (by go_simp)
      have p1' := cell_on hb1 (p := ⟨w.heap.size + 1, 1, none⟩) (v := .slice a1' n1' c1') (by go_simp)
      have p2' := cell_on hb1 (p := ⟨w.heap.size + 1, 2, none⟩) (v := .slice a2' n2' c2') (by go_simp)
      have HB := HB0.trans (hb1.mono HB0.size)
      clear hb1
      go_wp2_with (fail)
      refine (HS'.out _).mono ?_
      rintro e w2 ⟨rfl, hb2⟩
      replace p0 := cell_on hb2 p0
      replace p1 := cell_on hb2 p1
      replace p2 := cell_on hb2 p2
      replace p0' := cell_on hb2 p0'
      replace p1' := cell_on hb2 p1'
      replace p2' := cell_on hb2 p2'
      replace HB := HB.trans (hb2.mono HB.size)
      clear hb2
      go_wp2_with (fail)
      go_region_held3 (fun W => W.cell? ⟨w.heap.size, 0, none⟩ = some (.slice a0 n0 c0) ∧ W.cell? ⟨w.heap.size, 1, none⟩ = some (.slice a1 n1 c1) ∧ W.cell? ⟨w.heap.size, 2, none⟩ = some (.slice a2 n2 c2) ∧ W.cell? ⟨w.heap.size + 1, 0, none⟩ = some (.slice a0' n0' c0') ∧ W.cell? ⟨w.heap.size + 1, 1, none⟩ = some (.slice a1' n1' c1') ∧ W.cell? ⟨w.heap.size + 1, 2, none⟩ = some (.slice a2' n2' c2')) (first | exact ⟨p0, p1, p2, p0', p1', p2'⟩)
        (first
          | (go_at_call_of 26 (Value.agg #[.slice a0 n0 c0, .slice a1 n1 c1, .slice a2 n2 c2]); refine (toDesk_any _ _ _ _ _ _ _ _ _ _ _ _ _ (h0.mono HB.drew) (h1.mono HB.drew) (h2.mono HB.drew) (by omega) (by omega) (by omega)).mono ?_; rintro e w3 ⟨g3, g3', g3'', rfl, hb3, T3, T3', T3''⟩; have HB3 := HB.drew.trans (hb3.mono HB.size); have p0 := cell_on hb3 p0; have p1 := cell_on hb3 p1; have p2 := cell_on hb3 p2; have p0' := cell_on hb3 p0'; have p1' := cell_on hb3 p1'; have p2' := cell_on hb3 p2')
          | (go_at_call_of 26 (Value.agg #[.slice a0' n0' c0', .slice a1' n1' c1', .slice a2' n2' c2']); refine (toDesk_any _ _ _ _ _ _ _ _ _ _ _ _ _ (h0'.mono HB3) (h1'.mono HB3) (h2'.mono HB3) (by omega) (by omega) (by omega)).mono ?_; rintro e w4 ⟨g4, g4', g4'', rfl, hb4, T4, T4', T4''⟩; have HB4 := HB3.trans (hb4.mono HB3.size); have p0 := cell_on hb4 p0; have p1 := cell_on hb4 p1; have p2 := cell_on hb4 p2; have p0' := cell_on hb4 p0'; have p1' := cell_on hb4 p1'; have p2' := cell_on hb4 p2'; have T3 := T3.mono hb4; have T3' := T3'.mono hb4; have T3'' := T3''.mono hb4)
          | (go_at_call 25; refine (specSameDesk_any _ _ _ _ _ _ _ _ _ _ _ _ _ _ _ _ _ _ _ _ _ _ _ _ _ T3 T3' T3'' T4 T4' T4'').mono ?_; rintro e w5 ⟨rfl, hb5⟩; have HB5 := HB4.trans (hb5.mono HB4.size); have p0 := cell_on hb5 p0; have p1 := cell_on hb5 p1; have p2 := cell_on hb5 p2; have p0' := cell_on hb5 p0'; have p1' := cell_on hb5 p1'; have p2' := cell_on hb5 p2'))
      clear HB HB3 HB4 T3 T3' T3'' T4 T4' T4'' hb3 hb4 hb5
      have HB := HB5
      clear HB5
      go_wp2_with (fail)
      refine (toDesk_any _ _ _ _ _ _ _ _ _ _ _ _ _ (h0.mono HB) (h1.mono HB) (h2.mono HB) (by omega) (by omega) (by omega)).mono ?_
      rintro e w6 ⟨g6, g6', g6'', rfl, hb6, T6, T6', T6''⟩
      replace p0 := cell_on hb6 p0
      replace p1 := cell_on hb6 p1
      replace p2 := cell_on hb6 p2
      replace p0' := cell_on hb6 p0'
      replace p1' := cell_on hb6 p1'
      replace p2' := cell_on hb6 p2'
      replace HB := HB.trans (hb6.mono HB.size)
      clear hb6
      have hl0 := cell_lt p0
      have hl0' := cell_lt p0'
      dsimp only at hl0 hl0'
      go_wp2_with (fail)
      have hX : Below w6.heap.size w6 (w6.alloc (.cells #[.slice (some ⟨g6, 0, none⟩) n0 n0, .slice (some ⟨g6', 0, none⟩) n1 n1, .slice (some ⟨g6'', 0, none⟩) n2 n2] 38)) := (Below.refl _ _).alloc (Nat.le_refl _) _
      replace p0 := cell_on hX p0
      replace p1 := cell_on hX p1
      replace p2 := cell_on hX p2
      replace p0' := cell_on hX p0'
      replace p1' := cell_on hX p1'
      replace p2' := cell_on hX p2'
      replace T6 := T6.mono hX
      replace T6' := T6'.mono hX
      replace T6'' := T6''.mono hX
      replace HB := HB.trans (hX.mono HB.size)
      have X0 : (w6.alloc (.cells #[.slice (some ⟨g6, 0, none⟩) n0 n0, .slice (some ⟨g6', 0, none⟩) n1 n1, .slice (some ⟨g6'', 0, none⟩) n2 n2] 38)).cell? ⟨w6.heap.size, 0, none⟩ = some (.slice (some ⟨g6, 0, none⟩) n0 n0) := by go_simp
      have X1 : (w6.alloc (.cells #[.slice (some ⟨g6, 0, none⟩) n0 n0, .slice (some ⟨g6', 0, none⟩) n1 n1, .slice (some ⟨g6'', 0, none⟩) n2 n2] 38)).cell? ⟨w6.heap.size, 1, none⟩ = some (.slice (some ⟨g6', 0, none⟩) n1 n1) := by go_simp
      have X2 : (w6.alloc (.cells #[.slice (some ⟨g6, 0, none⟩) n0 n0, .slice (some ⟨g6', 0, none⟩) n1 n1, .slice (some ⟨g6'', 0, none⟩) n2 n2] 38)).cell? ⟨w6.heap.size, 2, none⟩ = some (.slice (some ⟨g6'', 0, none⟩) n2 n2) := by go_simp
      clear hX
      generalize w6.alloc (.cells #[.slice (some ⟨g6, 0, none⟩) n0 n0, .slice (some ⟨g6', 0, none⟩) n1 n1, .slice (some ⟨g6'', 0, none⟩) n2 n2] 38) = v6 at *
      refine (toDesk_any _ _ _ _ _ _ _ _ _ _ _ _ _ (h0'.mono HB) (h1'.mono HB) (h2'.mono HB) (by omega) (by omega) (by omega)).mono ?_
      rintro e w7 ⟨g7, g7', g7'', rfl, hb7, T7, T7', T7''⟩
      replace p0 := cell_on hb7 p0
      replace p1 := cell_on hb7 p1
      replace p2 := cell_on hb7 p2
      replace p0' := cell_on hb7 p0'
      replace p1' := cell_on hb7 p1'
      replace p2' := cell_on hb7 p2'
      replace X0 := cell_on hb7 X0
      replace X1 := cell_on hb7 X1
      replace X2 := cell_on hb7 X2
      replace T6 := T6.mono hb7
      replace T6' := T6'.mono hb7
      replace T6'' := T6''.mono hb7
      replace HB := HB.trans (hb7.mono HB.size)
      clear hb7 hl0 hl0'
      have hl0 := cell_lt p0
      have hl0' := cell_lt p0'
      have hlX := cell_lt X0
      dsimp only at hl0 hl0' hlX
      go_wp2_with (fail)
      have hX : Below w7.heap.size w7 (w7.alloc (.cells #[.slice (some ⟨g7, 0, none⟩) n0' n0', .slice (some ⟨g7', 0, none⟩) n1' n1', .slice (some ⟨g7'', 0, none⟩) n2' n2'] 38)) := (Below.refl _ _).alloc (Nat.le_refl _) _
      replace p0 := cell_on hX p0
      replace p1 := cell_on hX p1
      replace p2 := cell_on hX p2
      replace p0' := cell_on hX p0'
      replace p1' := cell_on hX p1'
      replace p2' := cell_on hX p2'
      replace X0 := cell_on hX X0
      replace X1 := cell_on hX X1
      replace X2 := cell_on hX X2
      replace T6 := T6.mono hX
      replace T6' := T6'.mono hX
      replace T6'' := T6''.mono hX
      replace T7 := T7.mono hX
      replace T7' := T7'.mono hX
      replace T7'' := T7''.mono hX
      replace HB := HB.trans (hX.mono HB.size)
      have Y0 : (w7.alloc (.cells #[.slice (some ⟨g7, 0, none⟩) n0' n0', .slice (some ⟨g7', 0, none⟩) n1' n1', .slice (some ⟨g7'', 0, none⟩) n2' n2'] 38)).cell? ⟨w7.heap.size, 0, none⟩ = some (.slice (some ⟨g7, 0, none⟩) n0' n0') := by go_simp
      have Y1 : (w7.alloc (.cells #[.slice (some ⟨g7, 0, none⟩) n0' n0', .slice (some ⟨g7', 0, none⟩) n1' n1', .slice (some ⟨g7'', 0, none⟩) n2' n2'] 38)).cell? ⟨w7.heap.size, 1, none⟩ = some (.slice (some ⟨g7', 0, none⟩) n1' n1') := by go_simp
      have Y2 : (w7.alloc (.cells #[.slice (some ⟨g7, 0, none⟩) n0' n0', .slice (some ⟨g7', 0, none⟩) n1' n1', .slice (some ⟨g7'', 0, none⟩) n2' n2'] 38)).cell? ⟨w7.heap.size, 2, none⟩ = some (.slice (some ⟨g7'', 0, none⟩) n2' n2') := by go_simp
      clear hX
      generalize w7.alloc (.cells #[.slice (some ⟨g7, 0, none⟩) n0' n0', .slice (some ⟨g7', 0, none⟩) n1' n1', .slice (some ⟨g7'', 0, none⟩) n2' n2'] 38) = v7 at *
      refine (implSameDesk_any _ _ _ _ _ _ _ _ _ _ _ _ _ _ _ _ _ _ _ _ _ _ _ _ _ T6 T6' T6'' T7 T7' T7'').mono ?_
      rintro e w8 ⟨rfl, hb8⟩
      replace p0 := cell_on hb8 p0
      replace p1 := cell_on hb8 p1
      replace p2 := cell_on hb8 p2
      replace p0' := cell_on hb8 p0'
      replace p1' := cell_on hb8 p1'
      replace p2' := cell_on hb8 p2'
      replace X0 := cell_on hb8 X0
      replace X1 := cell_on hb8 X1
      replace X2 := cell_on hb8 X2
      replace Y0 := cell_on hb8 Y0
      replace Y1 := cell_on hb8 Y1
      replace Y2 := cell_on hb8 Y2
      replace T6 := T6.mono hb8
      replace T6' := T6'.mono hb8
      replace T6'' := T6''.mono hb8
      replace T7 := T7.mono hb8
      replace T7' := T7'.mono hb8
      replace T7'' := T7''.mono hb8
      replace HB := HB.trans (hb8.mono HB.size)
      clear hb8 hl0 hl0' hlX
      generalize (decide (x0 = x0') && (decide (x1 = x1') && decide (x2 = x2'))) = r at *
      go_wp2_with (fail)
      go_region_held3 (fun W => W.cell? ⟨w6.heap.size, 0, none⟩ = some (.slice (some ⟨g6, 0, none⟩) n0 n0) ∧ W.cell? ⟨w6.heap.size, 1, none⟩ = some (.slice (some ⟨g6', 0, none⟩) n1 n1) ∧ W.cell? ⟨w6.heap.size, 2, none⟩ = some (.slice (some ⟨g6'', 0, none⟩) n2 n2) ∧ W.cell? ⟨w.heap.size, 0, none⟩ = some (.slice a0 n0 c0) ∧ W.cell? ⟨w.heap.size, 1, none⟩ = some (.slice a1 n1 c1) ∧ W.cell? ⟨w.heap.size, 2, none⟩ = some (.slice a2 n2 c2)) (first | exact ⟨X0, X1, X2, p0, p1, p2⟩)
        (first
          | (go_at_call 26; refine (toDesk_any _ _ _ _ _ _ _ _ _ _ _ _ _ (h0.mono HB.drew) (h1.mono HB.drew) (h2.mono HB.drew) (by omega) (by omega) (by omega)).mono ?_; rintro e w9 ⟨g9, g9', g9'', rfl, hb9, T9, T9', T9''⟩; have HB := HB.drew.trans (hb9.mono HB.size); have p0 := cell_on hb9 p0; have p1 := cell_on hb9 p1; have p2 := cell_on hb9 p2; have p0' := cell_on hb9 p0'; have p1' := cell_on hb9 p1'; have p2' := cell_on hb9 p2'; have X0 := cell_on hb9 X0; have X1 := cell_on hb9 X1; have X2 := cell_on hb9 X2; have Y0 := cell_on hb9 Y0; have Y1 := cell_on hb9 Y1; have Y2 := cell_on hb9 Y2; have T6 := T6.drew.mono hb9; have T6' := T6'.drew.mono hb9; have T6'' := T6''.drew.mono hb9; have T7 := T7.drew.mono hb9; have T7' := T7'.drew.mono hb9; have T7'' := T7''.drew.mono hb9)
          | (go_at_call 21; refine (eqDesk_same _ _ _ _ _ _ _ _ _ _ _ _ _ _ _ _ _ _ _ T6 T6' T6'' T9 T9' T9'').mono ?_; rintro e w10 ⟨rfl, hb10⟩; have HB := HB.trans (hb10.mono HB.size); have p0 := cell_on hb10 p0; have p1 := cell_on hb10 p1; have p2 := cell_on hb10 p2; have p0' := cell_on hb10 p0'; have p1' := cell_on hb10 p1'; have p2' := cell_on hb10 p2'; have X0 := cell_on hb10 X0; have X1 := cell_on hb10 X1; have X2 := cell_on hb10 X2; have Y0 := cell_on hb10 Y0; have Y1 := cell_on hb10 Y1; have Y2 := cell_on hb10 Y2; have T6 := T6.mono hb10; have T6' := T6'.mono hb10; have T6'' := T6''.mono hb10; have T7 := T7.mono hb10; have T7' := T7'.mono hb10; have T7'' := T7''.mono hb10))
      go_wp2_with (fail)
      go_region_held3 (fun W => W.cell? ⟨w7.heap.size, 0, none⟩ = some (.slice (some ⟨g7, 0, none⟩) n0' n0') ∧ W.cell? ⟨w7.heap.size, 1, none⟩ = some (.slice (some ⟨g7', 0, none⟩) n1' n1') ∧ W.cell? ⟨w7.heap.size, 2, none⟩ = some (.slice (some ⟨g7'', 0, none⟩) n2' n2') ∧ W.cell? ⟨w.heap.size + 1, 0, none⟩ = some (.slice a0' n0' c0') ∧ W.cell? ⟨w.heap.size + 1, 1, none⟩ = some (.slice a1' n1' c1') ∧ W.cell? ⟨w.heap.size + 1, 2, none⟩ = some (.slice a2' n2' c2')) (first | exact ⟨Y0, Y1, Y2, p0', p1', p2'⟩)
        (first
          | (go_at_call 26; refine (toDesk_any _ _ _ _ _ _ _ _ _ _ _ _ _ (h0'.mono HB.drew) (h1'.mono HB.drew) (h2'.mono HB.drew) (by omega) (by omega) (by omega)).mono ?_; rintro e w11 ⟨g11, g11', g11'', rfl, hb11, T11, T11', T11''⟩; have HB := HB.drew.trans (hb11.mono HB.size); have p0 := cell_on hb11 p0; have p1 := cell_on hb11 p1; have p2 := cell_on hb11 p2; have p0' := cell_on hb11 p0'; have p1' := cell_on hb11 p1'; have p2' := cell_on hb11 p2'; have X0 := cell_on hb11 X0; have X1 := cell_on hb11 X1; have X2 := cell_on hb11 X2; have Y0 := cell_on hb11 Y0; have Y1 := cell_on hb11 Y1; have Y2 := cell_on hb11 Y2; have T7 := T7.drew.mono hb11; have T7' := T7'.drew.mono hb11; have T7'' := T7''.drew.mono hb11)
          | (go_at_call 21; refine (eqDesk_same _ _ _ _ _ _ _ _ _ _ _ _ _ _ _ _ _ _ _ T7 T7' T7'' T11 T11' T11'').mono ?_; rintro e w12 ⟨rfl, hb12⟩; have HB := HB.trans (hb12.mono HB.size); have p0 := cell_on hb12 p0; have p1 := cell_on hb12 p1; have p2 := cell_on hb12 p2; have p0' := cell_on hb12 p0'; have p1' := cell_on hb12 p1'; have p2' := cell_on hb12 p2'; have X0 := cell_on hb12 X0; have X1 := cell_on hb12 X1; have X2 := cell_on hb12 X2; have Y0 := cell_on hb12 Y0; have Y1 := cell_on hb12 Y1; have Y2 := cell_on hb12 Y2; have T7 := T7.mono hb12; have T7' := T7'.mono hb12; have T7'' := T7''.mono hb12))
      go_wp2
      go_ret
      exact ⟨rfl, HB⟩
    · rw [if_neg hn'] at S'
      have HS' := Lib.hid S'
      clear S'
      go_enter Try.func7, Try.ntmps7
      go_wp2_with (fail)
      refine HS.out.mono ?_
      rintro e w1 ⟨rfl, hb1⟩
      have p0 := cell_on hb1 (p := ⟨w.heap.size, 0, none⟩) (v := .slice a0 n0 c0) (by go_simp)
      have p1 := cell_on hb1 (p := ⟨w.heap.size, 1, none⟩) (v := .slice a1 n1 c1) (by go_simp)
      have p2 := cell_on hb1 (p := ⟨w.heap.size, 2, none⟩) (v := .slice a2 n2 c2) (by go_simp)
      have p0' := cell_on hb1 (p := ⟨w.heap.size + 1, 0, none⟩) (v := .slice a0' n0' c0') (by go_simp)
      have p1' := cell_on hb1 (p := ⟨w.heap.size + 1, 1, none⟩) (v := .slice a1' n1' c1') (by go_simp)
      have p2' := cell_on hb1 (p := ⟨w.heap.size + 1, 2, none⟩) (v := .slice a2' n2' c2') (by go_simp)
      have HB := HB0.trans (hb1.mono HB0.size)
      clear hb1
      go_wp2_with (fail)
      refine (HS'.out _).mono ?_
      rintro e w2 ⟨rfl, hb2⟩
      replace HB := HB.trans (hb2.mono HB.size)
      clear hb2
      go_wp2
      go_ret
      exact ⟨rfl, HB⟩
  · rw [if_neg hn] at S
    have HS := Lib.hid S
    clear S
    go_enter Try.func7, Try.ntmps7
    go_wp2_with (fail)
    refine HS.out.mono ?_
    rintro e w1 ⟨rfl, hb1⟩
    have HB := HB0.trans (hb1.mono HB0.size)
    clear hb1
    go_wp2
    go_ret
    exact ⟨rfl, HB⟩

end Go.Proofs.Ytafkfegfjjebkaa
