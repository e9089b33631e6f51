/- SameDesk and NewDesk of both. -/
import Derived.Test.YtafkfegfjjebkaaEqI64
import Derived.Test.YtafkfegfjjebkaaDesk
namespace Go.Proofs.Ytafkfegfjjebkaa
open Go.RowKit

theorem specSameDesk_any (a0 : Option Addr) (n0 c0 : Nat) (x0 : List Int) (a1 : Option Addr) (n1 c1 : Nat) (x1 : List Int) (a2 : Option Addr) (n2 c2 : Nat) (x2 : List Int) (b0 : Option Addr) (m0 d0 : Nat) (y0 : List Int) (b1 : Option Addr) (m1 d1 : Nat) (y1 : List Int) (b2 : Option Addr) (m2 d2 : Nat) (y2 : List Int) (w : World)
    (h0 : Ints w a0 n0 c0 x0) (h1 : Ints w a1 n1 c1 x1) (h2 : Ints w a2 n2 c2 x2) (k0 : Ints w b0 m0 d0 y0) (k1 : Ints w b1 m1 d1 y1) (k2 : Ints w b2 m2 d2 y2) :
    Calls Try.prog 25 #[.agg #[.slice a0 n0 c0, .slice a1 n1 c1, .slice a2 n2 c2], .agg #[.slice b0 m0 d0, .slice b1 m1 d1, .slice b2 m2 d2]] w (Ret w (.bool (decide (x0 = y0) && (decide (x1 = y1) && decide (x2 = y2))))) := by
  have HV : Hid (∀ b0 b1 b2 : Bool, b0 = decide (x0 = y0) → b1 = decide (x1 = y1) → b2 = decide (x2 = y2) → (decide (x0 = y0) && (decide (x1 = y1) && decide (x2 = y2))) = (b0 && (b1 && b2))) := by
    intro b0 b1 b2 e0 e1 e2; rw [e0, e1, e2]
  have C0 := fun W B0 => l02Same_any a0 n0 c0 x0 b0 m0 d0 y0 W (h0.mono B0) (k0.mono B0)
  have C1 := fun W B0 => l02Same_any a1 n1 c1 x1 b1 m1 d1 y1 W (h1.mono B0) (k1.mono B0)
  have C2 := fun W B0 => l02Same_any a2 n2 c2 x2 b2 m2 d2 y2 W (h2.mono B0) (k2.mono B0)
  clear h0 h1 h2 k0 k1 k2
  have HC0 := Lib.hid C0
  have HC1 := Lib.hid C1
  have HC2 := Lib.hid C2
  clear C0 C1 C2
  generalize e0 : decide (x0 = y0) = r0 at *
  generalize e1 : decide (x1 = y1) = r1 at *
  generalize e2 : decide (x2 = y2) = r2 at *
  clear HV e0 e1 e2
  have HB0 : Below w.heap.size w ((w.alloc (.cells #[.slice a0 n0 c0, .slice a1 n1 c1, .slice a2 n2 c2] 38)).alloc (.cells #[.slice b0 m0 d0, .slice b1 m1 d1, .slice b2 m2 d2] 38)) := ((Below.refl w.heap.size w).alloc (Nat.le_refl _) _).alloc (by simp) _
  cases r0
  · go_enter Try.func25, Try.ntmps25
    go_wp2_with (fail)
    refine (HC0.out _ HB0).mono ?_
    rintro e w1 ⟨rfl, hq1⟩
    have HB1 := HB0.trans (hq1.b.mono HB0.size)
    clear hq1
    go_wp2
    go_ret
    exact ⟨rfl, HB1⟩
  · cases r1
    · go_enter Try.func25, Try.ntmps25
      go_wp2_with (fail)
      refine (HC0.out _ HB0).mono ?_
      rintro e w1 ⟨rfl, hq1⟩
      have p1 := cell_on hq1.b (p := ⟨w.heap.size, 1, none⟩) (v := .slice a1 n1 c1) (by go_simp)
      have q1 := cell_on hq1.b (p := ⟨w.heap.size + 1, 1, none⟩) (v := .slice b1 m1 d1) (by go_simp)
      have HB1 := HB0.trans (hq1.b.mono HB0.size)
      clear hq1
      go_wp2_with (fail)
      refine (HC1.out _ HB1).mono ?_
      rintro e w2 ⟨rfl, hq2⟩
      have HB2 := HB1.trans (hq2.b.mono HB1.size)
      clear hq2
      go_wp2
      go_ret
      exact ⟨rfl, HB2⟩
    · go_enter Try.func25, Try.ntmps25
      go_wp2_with (fail)
      refine (HC0.out _ HB0).mono ?_
      rintro e w1 ⟨rfl, hq1⟩
      have p1 := cell_on hq1.b (p := ⟨w.heap.size, 1, none⟩) (v := .slice a1 n1 c1) (by go_simp)
      have q1 := cell_on hq1.b (p := ⟨w.heap.size + 1, 1, none⟩) (v := .slice b1 m1 d1) (by go_simp)
      have p2 := cell_on hq1.b (p := ⟨w.heap.size, 2, none⟩) (v := .slice a2 n2 c2) (by go_simp)
      have q2 := cell_on hq1.b (p := ⟨w.heap.size + 1, 2, none⟩) (v := .slice b2 m2 d2) (by go_simp)
      have HB1 := HB0.trans (hq1.b.mono HB0.size)
      clear hq1
      go_wp2_with (fail)
      refine (HC1.out _ HB1).mono ?_
      rintro e w2 ⟨rfl, hq2⟩
      replace p2 := cell_on hq2.b p2
      replace q2 := cell_on hq2.b q2
      have HB2 := HB1.trans (hq2.b.mono HB1.size)
      clear hq2 p1 q1
      go_wp2_with (fail)
      refine (HC2.out _ HB2).mono ?_
      rintro e w3 ⟨rfl, hq3⟩
      have HB3 := HB2.trans (hq3.b.mono HB2.size)
      clear hq3 p2 q2
      go_wp2
      go_ret
      exact ⟨ret_bool (by simp), HB3⟩

theorem implSameDesk_any (a0 : Option Addr) (n0 c0 : Nat) (x0 : List Int) (a1 : Option Addr) (n1 c1 : Nat) (x1 : List Int) (a2 : Option Addr) (n2 c2 : Nat) (x2 : List Int) (b0 : Option Addr) (m0 d0 : Nat) (y0 : List Int) (b1 : Option Addr) (m1 d1 : Nat) (y1 : List Int) (b2 : Option Addr) (m2 d2 : Nat) (y2 : List Int) (w : World)
    (h0 : Ints w a0 n0 c0 x0) (h1 : Ints w a1 n1 c1 x1) (h2 : Ints w a2 n2 c2 x2) (k0 : Ints w b0 m0 d0 y0) (k1 : Ints w b1 m1 d1 y1) (k2 : Ints w b2 m2 d2 y2) :
    Calls Try.prog 27 #[.agg #[.slice a0 n0 c0, .slice a1 n1 c1, .slice a2 n2 c2], .agg #[.slice b0 m0 d0, .slice b1 m1 d1, .slice b2 m2 d2]] w (Ret w (.bool (decide (x0 = y0) && (decide (x1 = y1) && decide (x2 = y2))))) := by
  have HV : Hid (∀ b0 b1 b2 : Bool, b0 = decide (x0 = y0) → b1 = decide (x1 = y1) → b2 = decide (x2 = y2) → (decide (x0 = y0) && (decide (x1 = y1) && decide (x2 = y2))) = (b0 && (b1 && b2))) := by
    intro b0 b1 b2 e0 e1 e2; rw [e0, e1, e2]
  have C0 := fun W B0 => slicesEqualI64_any a0 n0 c0 x0 b0 m0 d0 y0 W (h0.mono B0) (k0.mono B0)
  have C1 := fun W B0 => slicesEqualI64_any a1 n1 c1 x1 b1 m1 d1 y1 W (h1.mono B0) (k1.mono B0)
  have C2 := fun W B0 => slicesEqualI64_any a2 n2 c2 x2 b2 m2 d2 y2 W (h2.mono B0) (k2.mono B0)
  clear h0 h1 h2 k0 k1 k2
  have HC0 := Lib.hid C0
  have HC1 := Lib.hid C1
  have HC2 := Lib.hid C2
  clear C0 C1 C2
  generalize e0 : decide (x0 = y0) = r0 at *
  generalize e1 : decide (x1 = y1) = r1 at *
  generalize e2 : decide (x2 = y2) = r2 at *
  clear HV e0 e1 e2
  have HB0 : Below w.heap.size w ((w.alloc (.cells #[.slice a0 n0 c0, .slice a1 n1 c1, .slice a2 n2 c2] 38)).alloc (.cells #[.slice b0 m0 d0, .slice b1 m1 d1, .slice b2 m2 d2] 38)) := ((Below.refl w.heap.size w).alloc (Nat.le_refl _) _).alloc (by simp) _
  cases r0
  · go_enter Try.func27, Try.ntmps27
    go_wp2_with (fail)
    refine (HC0.out _ HB0).mono ?_
    rintro e w1 ⟨rfl, hq1⟩
    have HB1 := HB0.trans (hq1.b.mono HB0.size)
    clear hq1
    go_wp2
    go_ret
    exact ⟨rfl, HB1⟩
  · cases r1
    · go_enter Try.func27, Try.ntmps27
      go_wp2_with (fail)
      refine (HC0.out _ HB0).mono ?_
      rintro e w1 ⟨rfl, hq1⟩
      have p1 := cell_on hq1.b (p := ⟨w.heap.size, 1, none⟩) (v := .slice a1 n1 c1) (by go_simp)
      have q1 := cell_on hq1.b (p := ⟨w.heap.size + 1, 1, none⟩) (v := .slice b1 m1 d1) (by go_simp)
      have HB1 := HB0.trans (hq1.b.mono HB0.size)
      clear hq1
      go_wp2_with (fail)
      refine (HC1.out _ HB1).mono ?_
      rintro e w2 ⟨rfl, hq2⟩
      have HB2 := HB1.trans (hq2.b.mono HB1.size)
      clear hq2
      go_wp2
      go_ret
      exact ⟨rfl, HB2⟩
    · go_enter Try.func27, Try.ntmps27
      go_wp2_with (fail)
      refine (HC0.out _ HB0).mono ?_
      rintro e w1 ⟨rfl, hq1⟩
      have p1 := cell_on hq1.b (p := ⟨w.heap.size, 1, none⟩) (v := .slice a1 n1 c1) (by go_simp)
      have q1 := cell_on hq1.b (p := ⟨w.heap.size + 1, 1, none⟩) (v := .slice b1 m1 d1) (by go_simp)
      have p2 := cell_on hq1.b (p := ⟨w.heap.size, 2, none⟩) (v := .slice a2 n2 c2) (by go_simp)
      have q2 := cell_on hq1.b (p := ⟨w.heap.size + 1, 2, none⟩) (v := .slice b2 m2 d2) (by go_simp)
      have HB1 := HB0.trans (hq1.b.mono HB0.size)
      clear hq1
      go_wp2_with (fail)
      refine (HC1.out _ HB1).mono ?_
      rintro e w2 ⟨rfl, hq2⟩
      replace p2 := cell_on hq2.b p2
      replace q2 := cell_on hq2.b q2
      have HB2 := HB1.trans (hq2.b.mono HB1.size)
      clear hq2 p1 q1
      go_wp2_with (fail)
      refine (HC2.out _ HB2).mono ?_
      rintro e w3 ⟨rfl, hq3⟩
      have HB3 := HB2.trans (hq3.b.mono HB2.size)
      clear hq3 p2 q2
      go_wp2
      go_ret
      exact ⟨ret_bool (by simp), HB3⟩

theorem specNewDesk_any (w : World) : Calls Try.prog 19 #[] w fun e w' => ∃ a c g1 g2, e = .returned (.agg #[.slice a 8 c, .slice (some ⟨g1, 0, none⟩) 9 9, .slice (some ⟨g2, 0, none⟩) 2 2]) ∧ Below w.heap.size w w' ∧
      w'.ownsRow w.heap.size 2 1 (.slice a 8 c) 8 (intCells (upto 8)) ∧ In w.heap.size g1 a ∧ w'.ownsRow g1 2 1 (.slice (some ⟨g1, 0, none⟩) 9 9) 9 (intCells [3, 1, 1, 1, 2, 0, 0, 0, 0]) ∧ w.heap.size ≤ g1 ∧ g1 < g2 ∧
      w'.ownsRow g2 2 1 (.slice (some ⟨g2, 0, none⟩) 2 2) 2 (intCells [1, 1]) ∧ g2 < w'.heap.size := by
  go_enter Try.func19, Try.ntmps19
  go_wp2_with (fail)
  have HB0 : Below w.heap.size w (w.alloc (.cells #[.slice none 0 0, .slice none 0 0, .slice none 0 0] 38)) := (Below.refl w.heap.size w).alloc (Nat.le_refl _) _
  refine (l02New_any 8 _ (by omega)).mono ?_
  rintro e w1 ⟨a, c, rfl, hb1, ho1⟩
  have r0 := cell_on hb1 (p := ⟨w.heap.size, 0, none⟩) (v := .slice none 0 0) (by go_simp)
  have r1 := cell_on hb1 (p := ⟨w.heap.size, 1, none⟩) (v := .slice none 0 0) (by go_simp)
  have r2 := cell_on hb1 (p := ⟨w.heap.size, 2, none⟩) (v := .slice none 0 0) (by go_simp)
  have f0 := frozen_on hb1 (p := ⟨w.heap.size, 0, none⟩) (by simp) (by go_simp)
  have f1 := frozen_on hb1 (p := ⟨w.heap.size, 1, none⟩) (by simp) (by go_simp)
  have f2 := frozen_on hb1 (p := ⟨w.heap.size, 2, none⟩) (by simp) (by go_simp)
  have HB1 := HB0.trans (hb1.mono HB0.size)
  have hz : w.heap.size + 1 ≤ w1.heap.size := by have := hb1.size; simp at this; omega
  have hi := own_in ho1
  have hz1 : w.heap.size < w1.heap.size := by omega
  have hz2 : w.heap.size < w1.heap.size + 1 := by omega
  clear hb1
  go_wp2
  have HW : ∃ W, W = ((w1.setCell ⟨w.heap.size, 0, none⟩ (.slice a 8 c)).setCell ⟨w.heap.size, 1, none⟩ (.slice (some ⟨w1.heap.size, 0, none⟩) 9 9)).setCell ⟨w.heap.size, 2, none⟩ (.slice (some ⟨w1.heap.size + 1, 0, none⟩) 2 2) := ⟨_, rfl⟩
  refine bodyPost_ret (v := .agg #[.slice a 8 c, .slice (some ⟨w1.heap.size, 0, none⟩) 9 9, .slice (some ⟨w1.heap.size + 1, 0, none⟩) 2 2]) (by simp [results, Try.results19, go_sem, hz1, hz2, r0, r1, r2]) rfl ⟨a, c, w1.heap.size, w1.heap.size + 1, rfl, ?_, ?_, ?_, ?_, ?_, ?_, ?_, ?_⟩
  · exact ((((HB1.setCell (Nat.le_refl _) _).setCell (Nat.le_refl _) _).setCell (Nat.le_refl _) _).alloc (by simp; omega) _).alloc (by simp; omega) _
  · exact ownsRow_low (((ownsRow_setCell_below (ownsRow_setCell_below (ownsRow_setCell_below ho1 (by simp) _) (by simp) _) (by simp) _).alloc _).alloc _) (by simp)
  · exact hi.wide (by simp) (Nat.le_refl _)
  · obtain ⟨W, hW⟩ := HW
    rw [← hW]
    have hs : W.heap.size = w1.heap.size := by rw [hW]; simp
    have h := (World.ownsRow_lit (base := w1.heap.size) (e := 2) (size := 1) W #[.int .i64 3, .int .i64 1, .int .i64 1, .int .i64 1, .int .i64 2, .int .i64 0, .int .i64 0, .int .i64 0, .int .i64 0] 9 (by omega) (by unfold maxLen; omega) rfl)
    rw [hs] at h
    exact h.alloc _
  · exact Nat.le_of_lt hz1
  · exact Nat.lt_succ_self _
  · obtain ⟨W, hW⟩ := HW
    rw [← hW]
    have hs : W.heap.size = w1.heap.size := by rw [hW]; simp
    have h := (World.ownsRow_lit (base := w1.heap.size + 1) (e := 2) (size := 1) (W.alloc (.cells #[.int .i64 3, .int .i64 1, .int .i64 1, .int .i64 1, .int .i64 2, .int .i64 0, .int .i64 0, .int .i64 0, .int .i64 0] 2)) #[.int .i64 1, .int .i64 1] 2 (by simp; omega) (by unfold maxLen; omega) rfl)
    have he : ∀ o, (W.alloc o).heap.size = w1.heap.size + 1 := fun o => by simp [hs]
    simp only [he] at h
    exact h
  · simp

theorem implNewDesk_any (w : World) : Calls Try.prog 20 #[] w fun e w' => ∃ a c g1 g2, e = .returned (.agg #[.slice a 8 c, .slice (some ⟨g1, 0, none⟩) 9 9, .slice (some ⟨g2, 0, none⟩) 2 2]) ∧ Below w.heap.size w w' ∧
      w'.ownsRow w.heap.size 2 1 (.slice a 8 c) 8 (intCells (upto 8)) ∧ In w.heap.size g1 a ∧ w'.ownsRow g1 2 1 (.slice (some ⟨g1, 0, none⟩) 9 9) 9 (intCells [3, 1, 1, 1, 2, 0, 0, 0, 0]) ∧ w.heap.size ≤ g1 ∧ g1 < g2 ∧
      w'.ownsRow g2 2 1 (.slice (some ⟨g2, 0, none⟩) 2 2) 2 (intCells [1, 1]) ∧ g2 < w'.heap.size := by
  go_enter Try.func20, Try.ntmps20
  go_wp2_with (fail)
  have HB0 : Below w.heap.size w (w.alloc (.cells #[.slice none 0 0, .slice none 0 0, .slice none 0 0] 38)) := (Below.refl w.heap.size w).alloc (Nat.le_refl _) _
  refine (newDeck_any 8 _ (by omega)).mono ?_
  rintro e w1 ⟨a, c, rfl, hb1, ho1⟩
  have r0 := cell_on hb1 (p := ⟨w.heap.size, 0, none⟩) (v := .slice none 0 0) (by go_simp)
  have r1 := cell_on hb1 (p := ⟨w.heap.size, 1, none⟩) (v := .slice none 0 0) (by go_simp)
  have r2 := cell_on hb1 (p := ⟨w.heap.size, 2, none⟩) (v := .slice none 0 0) (by go_simp)
  have f0 := frozen_on hb1 (p := ⟨w.heap.size, 0, none⟩) (by simp) (by go_simp)
  have f1 := frozen_on hb1 (p := ⟨w.heap.size, 1, none⟩) (by simp) (by go_simp)
  have f2 := frozen_on hb1 (p := ⟨w.heap.size, 2, none⟩) (by simp) (by go_simp)
  have HB1 := HB0.trans (hb1.mono HB0.size)
  have hz : w.heap.size + 1 ≤ w1.heap.size := by have := hb1.size; simp at this; omega
  have hi := own_in ho1
  have hz1 : w.heap.size < w1.heap.size := by omega
  have hz2 : w.heap.size < w1.heap.size + 1 := by omega
  clear hb1
  go_wp2
  have HW : ∃ W, W = ((w1.setCell ⟨w.heap.size, 0, none⟩ (.slice a 8 c)).setCell ⟨w.heap.size, 1, none⟩ (.slice (some ⟨w1.heap.size, 0, none⟩) 9 9)).setCell ⟨w.heap.size, 2, none⟩ (.slice (some ⟨w1.heap.size + 1, 0, none⟩) 2 2) := ⟨_, rfl⟩
  refine bodyPost_ret (v := .agg #[.slice a 8 c, .slice (some ⟨w1.heap.size, 0, none⟩) 9 9, .slice (some ⟨w1.heap.size + 1, 0, none⟩) 2 2]) (by simp [results, Try.results20, go_sem, hz1, hz2, r0, r1, r2]) rfl ⟨a, c, w1.heap.size, w1.heap.size + 1, rfl, ?_, ?_, ?_, ?_, ?_, ?_, ?_, ?_⟩
  · exact ((((HB1.setCell (Nat.le_refl _) _).setCell (Nat.le_refl _) _).setCell (Nat.le_refl _) _).alloc (by simp; omega) _).alloc (by simp; omega) _
  · exact ownsRow_low (((ownsRow_setCell_below (ownsRow_setCell_below (ownsRow_setCell_below ho1 (by simp) _) (by simp) _) (by simp) _).alloc _).alloc _) (by simp)
  · exact hi.wide (by simp) (Nat.le_refl _)
  · obtain ⟨W, hW⟩ := HW
    rw [← hW]
    have hs : W.heap.size = w1.heap.size := by rw [hW]; simp
    have h := (World.ownsRow_lit (base := w1.heap.size) (e := 2) (size := 1) W #[.int .i64 3, .int .i64 1, .int .i64 1, .int .i64 1, .int .i64 2, .int .i64 0, .int .i64 0, .int .i64 0, .int .i64 0] 9 (by omega) (by unfold maxLen; omega) rfl)
    rw [hs] at h
    exact h.alloc _
  · exact Nat.le_of_lt hz1
  · exact Nat.lt_succ_self _
  · obtain ⟨W, hW⟩ := HW
    rw [← hW]
    have hs : W.heap.size = w1.heap.size := by rw [hW]; simp
    have h := (World.ownsRow_lit (base := w1.heap.size + 1) (e := 2) (size := 1) (W.alloc (.cells #[.int .i64 3, .int .i64 1, .int .i64 1, .int .i64 1, .int .i64 2, .int .i64 0, .int .i64 0, .int .i64 0, .int .i64 0] 2)) #[.int .i64 1, .int .i64 1] 2 (by simp; omega) (by unfold maxLen; omega) rfl)
    have he : ∀ o, (W.alloc o).heap.size = w1.heap.size + 1 := fun o => by simp [hs]
    simp only [he] at h
    exact h
  · simp

end Go.Proofs.Ytafkfegfjjebkaa
