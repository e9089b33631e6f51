/- The walk of the law FnExactLoadSaved. -/
import Derived.Test.YtnoageckldilnaaDoorLoadE
import Derived.Deep.RegionHeld3
namespace Go.Proofs.YtnoageckldilnaaDoor
open Go.RowKit
set_option linter.unusedVariables false

set_option maxHeartbeats 800000 in
theorem fnExactLoadSaved_walk (s : ByteArray) (w : World) :
    Calls Tryd.prog 7 #[.string s] w (Ret w (.bool true)) := by
  by_cases hl : 1048576 < s.size
  · have hl1 : (1048576 : Int) < ((s.size : Nat) : Int) := by omega
    go_enter Tryd.func7, Tryd.ntmps7
    go_wp2
    go_ret
    exact ⟨rfl, Below.refl _ _⟩
  · have hl1 : ¬ (1048576 : Int) < ((s.size : Nat) : Int) := by omega
    obtain ⟨l, rfl⟩ : ∃ l, s = ofL l := ⟨_, (ofL_data s).symm⟩
    have hs := ofL_sz l
    obtain ⟨Y, hY⟩ : ∃ Y, Y = lsY l := ⟨_, rfl⟩
    obtain ⟨b, hb⟩ : ∃ b, b = lsB l := ⟨_, rfl⟩
    obtain ⟨y1, y2, y3⟩ : Y.1.size ≤ 8 ∧ Y.2.1.length ≤ 52 ∧ tot Y.2.2 ≤ 72 := by rw [hY]; exact lsY_small l
    have CS : Hid (∀ W, Calls Tryd.prog 27 #[.string (ofL l)] W (LsPost Y b W)) := fun W => specLoadSaved_any l Y hY b hb W (by omega)
    have CI : Hid (∀ W, Calls Tryd.prog 23 #[.string (ofL l)] W (LsPost Y b W)) := fun W => implLoadSaved_any l Y hY b hb W (by omega)
    have hbb : (b != b) = false := by simp
    clear hY hb hs hl
    obtain ⟨nm, x0, xss⟩ := Y
    dsimp only at y1 y2 y3
    generalize ofL l = sx at *
    have HB := Below.refl w.heap.size w
    go_enter Tryd.func7, Tryd.ntmps7
    go_wp2_with (fail)
    refine (CS.out _).mono ?_
    rintro e w1 ⟨hb1, a, n, c, a', n', c', ts, l1, rfl, k1, k2, ho, hi, hD⟩
    dsimp only at ho hD
    have A0 : Ints w1 a n c x0 := ints_own ho
    have A1 : IntSS w1 a' n' c' ts xss := hD.rd
    have e0 : x0.length = n := by have := A0.len; omega
    have e1 : xss.length = n' := by have := A1.len; omega
    replace HB := HB.trans (hb1.mono HB.size)
    clear hb1 ho hi hD k1 k2
    go_wp2_with (fail)
    have hX : Below w1.heap.size w1 (w1.alloc (.cells #[.string nm, .slice a n c, .slice a' n' c'] 30)) := (Below.refl _ _).alloc (Nat.le_refl _) _
    replace A0 := A0.mono hX
    replace A1 := A1.mono hX
    replace HB := HB.trans (hX.mono HB.size)
    have b0 : (w1.alloc (.cells #[.string nm, .slice a n c, .slice a' n' c'] 30)).cell? ⟨w1.heap.size, 0, none⟩ = some (.string nm) := by go_simp
    have b1 : (w1.alloc (.cells #[.string nm, .slice a n c, .slice a' n' c'] 30)).cell? ⟨w1.heap.size, 1, none⟩ = some (.slice a n c) := by go_simp
    have b2 : (w1.alloc (.cells #[.string nm, .slice a n c, .slice a' n' c'] 30)).cell? ⟨w1.heap.size, 2, none⟩ = some (.slice a' n' c') := by go_simp
    have hz1 : (w1.alloc (.cells #[.string nm, .slice a n c, .slice a' n' c'] 30)).heap.size = w1.heap.size + 1 := by simp
    clear hX
    generalize w1.alloc (.cells #[.string nm, .slice a n c, .slice a' n' c'] 30) = v1 at *
    refine (CI.out _).mono ?_
    rintro e w2 ⟨hb2, a2, n2, c2, a2', n2', c2', ts2, l2, rfl, m1, m2, q0, j0, q1⟩
    dsimp only at q0 q1
    obtain rfl : n2 = n := by have := (ints_own q0).len; omega
    obtain rfl : n2' = n' := by have := q1.rd.len; omega
    have HV : Below v1.heap.size v1 w2 := hb2
    have hz2 := hb2.size
    clear hb2
    have z0 := cell_on HV b0
    have z1 := cell_on HV b1
    have z2 := cell_on HV b2
    have hlt : w1.heap.size < w2.heap.size := by omega
    go_wp2_with (fail)
    have hX : Below w2.heap.size w2 (w2.alloc (.cells #[.string nm, .slice a2 n2 c2, .slice a2' n2' c2'] 30)) := (Below.refl _ _).alloc (Nat.le_refl _) _
    replace q0 := ownsRow_below q0 hX
    replace q1 := q1.below hX
    replace HV := HV.trans (hX.mono HV.size)
    have d0 : (w2.alloc (.cells #[.string nm, .slice a2 n2 c2, .slice a2' n2' c2'] 30)).cell? ⟨w2.heap.size, 0, none⟩ = some (.string nm) := by go_simp
    have d1 : (w2.alloc (.cells #[.string nm, .slice a2 n2 c2, .slice a2' n2' c2'] 30)).cell? ⟨w2.heap.size, 1, none⟩ = some (.slice a2 n2 c2) := by go_simp
    have d2 : (w2.alloc (.cells #[.string nm, .slice a2 n2 c2, .slice a2' n2' c2'] 30)).cell? ⟨w2.heap.size, 2, none⟩ = some (.slice a2' n2' c2') := by go_simp
    have hz3 : (w2.alloc (.cells #[.string nm, .slice a2 n2 c2, .slice a2' n2' c2'] 30)).heap.size = w2.heap.size + 1 := by simp
    clear hX
    generalize w2.alloc (.cells #[.string nm, .slice a2 n2 c2, .slice a2' n2' c2'] 30) = v2 at *
    replace z0 := cell_on HV b0
    replace z1 := cell_on HV b1
    replace z2 := cell_on HV b2
    refine (eqSaved_same _ _ _ _ _ _ _ _ _ _ _ _ _ _ _ _ (ints_own q0) q1.rd (A0.mono HV) (A1.mono HV)).mono ?_
    rintro e w3 ⟨rfl, hb3⟩
    replace q0 := ownsRow_below q0 hb3
    replace q1 := q1.below hb3
    replace z0 := cell_on hb3 z0
    replace z1 := cell_on hb3 z1
    replace z2 := cell_on hb3 z2
    replace d0 := cell_on hb3 d0
    replace d1 := cell_on hb3 d1
    replace d2 := cell_on hb3 d2
    replace HV := HV.trans (hb3.mono HV.size)
    have hz3' := hb3.size
    clear hb3
    go_wp2_with (fail)
    refine (markSaved_any nm a2 n2 c2 x0 a2' n2' c2' ts2 xss 1 v1.heap.size l2 w2.heap.size _ q0 q1 j0 ⟨by omega, by omega, by omega⟩ (by omega) (by omega)).mono ?_
    rintro e w4 ⟨rfl, hc4, D0, D1⟩
    replace z0 := hc4.cell z0 (.inl (by dsimp only; omega))
    replace z1 := hc4.cell z1 (.inl (by dsimp only; omega))
    replace z2 := hc4.cell z2 (.inl (by dsimp only; omega))
    replace d0 := hc4.cell d0 (.inr (by dsimp only; omega))
    replace d1 := hc4.cell d1 (.inr (by dsimp only; omega))
    replace d2 := hc4.cell d2 (.inr (by dsimp only; omega))
    replace HV := below_chg HV HV.size (Nat.le_refl _) hc4
    have hz4 := hc4.size
    clear hc4 q0 q1 j0
    go_wp2_with (fail)
    refine (heldSaved_any nm a2 n2 c2 a2' n2' c2' ts2 xss 1 _ D0 D1 (by omega) (by omega)).mono ?_
    rintro e w5 ⟨rfl, hb5⟩
    replace D0 := D0.mono hb5
    replace D1 := D1.mono hb5
    replace z0 := cell_on hb5 z0
    replace z1 := cell_on hb5 z1
    replace z2 := cell_on hb5 z2
    replace d0 := cell_on hb5 d0
    replace d1 := cell_on hb5 d1
    replace d2 := cell_on hb5 d2
    replace HV := HV.trans (hb5.mono HV.size)
    have hz5 := hb5.size
    clear hb5
    have hm0 : ¬ (1 + (n2 : Int) + (tot xss : Nat)) < 0 := by omega
    generalize hmm : (1 + (n2 : Int) + (tot xss : Nat)) = mm at *
    go_wp2_with (fail)
    refine (CI.out _).mono ?_
    rintro e w6 ⟨hb6, a6, n6, c6, a6', n6', c6', ts6, l6, rfl, m3, m4, q0, j0, q1⟩
    dsimp only at q0 q1
    obtain rfl : n6 = n2 := by have := (ints_own q0).len; omega
    obtain rfl : n6' = n2' := by have := q1.rd.len; omega
    replace D0 := D0.mono hb6
    replace D1 := D1.mono hb6
    replace z0 := cell_on hb6 z0
    replace z1 := cell_on hb6 z1
    replace z2 := cell_on hb6 z2
    replace d0 := cell_on hb6 d0
    replace d1 := cell_on hb6 d1
    replace d2 := cell_on hb6 d2
    replace HV := HV.trans (hb6.mono HV.size)
    have hz6 := hb6.size
    clear hb6
    have hl1 : w1.heap.size < w6.heap.size := cell_lt z0
    have hl2 : w2.heap.size < w6.heap.size := cell_lt d0
    go_wp2_with (fail)
    have hX : Below w6.heap.size w6 (w6.alloc (.cells #[.string nm, .slice a6 n6 c6, .slice a6' n6' c6'] 30)) := (Below.refl _ _).alloc (Nat.le_refl _) _
    replace q0 := ownsRow_below q0 hX
    replace q1 := q1.below hX
    replace D0 := D0.mono hX
    replace D1 := D1.mono hX
    replace z0 := cell_on hX z0
    replace z1 := cell_on hX z1
    replace z2 := cell_on hX z2
    replace d0 := cell_on hX d0
    replace d1 := cell_on hX d1
    replace d2 := cell_on hX d2
    replace HV := HV.trans (hX.mono HV.size)
    have f0 : (w6.alloc (.cells #[.string nm, .slice a6 n6 c6, .slice a6' n6' c6'] 30)).cell? ⟨w6.heap.size, 0, none⟩ = some (.string nm) := by go_simp
    have f1 : (w6.alloc (.cells #[.string nm, .slice a6 n6 c6, .slice a6' n6' c6'] 30)).cell? ⟨w6.heap.size, 1, none⟩ = some (.slice a6 n6 c6) := by go_simp
    have f2 : (w6.alloc (.cells #[.string nm, .slice a6 n6 c6, .slice a6' n6' c6'] 30)).cell? ⟨w6.heap.size, 2, none⟩ = some (.slice a6' n6' c6') := by go_simp
    have hz7 : (w6.alloc (.cells #[.string nm, .slice a6 n6 c6, .slice a6' n6' c6'] 30)).heap.size = w6.heap.size + 1 := by simp
    clear hX
    generalize w6.alloc (.cells #[.string nm, .slice a6 n6 c6, .slice a6' n6' c6'] 30) = v6 at *
    refine (eqSaved_same _ _ _ _ _ _ _ _ _ _ _ _ _ _ _ _ (ints_own q0) q1.rd (A0.mono HV) (A1.mono HV)).mono ?_
    rintro e w7 ⟨rfl, hb7⟩
    replace D0 := D0.mono hb7
    replace D1 := D1.mono hb7
    replace d0 := cell_on hb7 d0
    replace d1 := cell_on hb7 d1
    replace d2 := cell_on hb7 d2
    replace HV := HV.trans (hb7.mono HV.size)
    clear hb7
    go_wp2_with (fail)
    refine (heldSaved_any nm a2 n6 c2 a2' n6' c2' ts2 xss 1 _ D0 D1 (by omega) (by omega)).mono ?_
    rintro e w8 ⟨rfl, hb8⟩
    replace HV := HV.trans (hb8.mono HV.size)
    clear hb8
    rw [hmm]
    go_wp2
    go_ret
    exact ⟨rfl, HB.trans (HV.mono (by have := HB.size; omega))⟩

end Go.Proofs.YtnoageckldilnaaDoor
