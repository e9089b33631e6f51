/- The walk of the law FnExactNewDesk. -/
import Derived.Test.YtafkfegfjjebkaaDeskB
namespace Go.Proofs.Ytafkfegfjjebkaa
open Go.RowKit

set_option maxHeartbeats 400000 in
theorem fnExactNewDesk_walk (w : World) : Calls Try.prog 6 #[] w (Ret w (.bool true)) := by
  go_enter Try.func6, Try.ntmps6
  have HB := Below.refl w.heap.size w
  go_wp2_with (fail)
  refine (specNewDesk_any _).mono ?_
  rintro e w1 ⟨a, c, g1, g2, rfl, hb1, o0, i0, o1, l1, l2, o2, l3⟩
  have A0 : Rd w1 a 8 c 1 (intCells (upto 8)) := Rd.own o0
  have A1 : Rd w1 (some ⟨g1, 0, none⟩) 9 9 1 (intCells [3, 1, 1, 1, 2, 0, 0, 0, 0]) := Rd.own o1
  have A2 : Rd w1 (some ⟨g2, 0, none⟩) 2 2 1 (intCells [1, 1]) := Rd.own o2
  have I0 : In w.heap.size w1.heap.size a := i0.wide (Nat.le_refl _) (by omega)
  have I1 : In w.heap.size w1.heap.size (some ⟨g1, 0, none⟩) := fun x hx => by cases hx; dsimp only; omega
  have I2 : In w.heap.size w1.heap.size (some ⟨g2, 0, none⟩) := fun x hx => by cases hx; dsimp only; omega
  replace HB := HB.trans (hb1.mono HB.size)
  have hz1 := HB.size
  clear hb1 o0 i0 o1 l1 l2 o2 l3
  go_wp2_with (fail)
  have hX : Below w1.heap.size w1 (w1.alloc (.cells #[.slice a 8 c, .slice (some ⟨g1, 0, none⟩) 9 9, .slice (some ⟨g2, 0, none⟩) 2 2] 38)) := (Below.refl _ _).alloc (Nat.le_refl _) _
  replace A0 := Rd.mono A0 hX
  replace A1 := Rd.mono A1 hX
  replace A2 := Rd.mono A2 hX
  replace HB := HB.trans (hX.mono HB.size)
  have b0 : (w1.alloc (.cells #[.slice a 8 c, .slice (some ⟨g1, 0, none⟩) 9 9, .slice (some ⟨g2, 0, none⟩) 2 2] 38)).cell? ⟨w1.heap.size, 0, none⟩ = some (.slice a 8 c) := by go_simp
  have b1 : (w1.alloc (.cells #[.slice a 8 c, .slice (some ⟨g1, 0, none⟩) 9 9, .slice (some ⟨g2, 0, none⟩) 2 2] 38)).cell? ⟨w1.heap.size, 1, none⟩ = some (.slice (some ⟨g1, 0, none⟩) 9 9) := by go_simp
  have b2 : (w1.alloc (.cells #[.slice a 8 c, .slice (some ⟨g1, 0, none⟩) 9 9, .slice (some ⟨g2, 0, none⟩) 2 2] 38)).cell? ⟨w1.heap.size, 2, none⟩ = some (.slice (some ⟨g2, 0, none⟩) 2 2) := by go_simp
  have hsv1 : w1.heap.size < (w1.alloc (.cells #[.slice a 8 c, .slice (some ⟨g1, 0, none⟩) 9 9, .slice (some ⟨g2, 0, none⟩) 2 2] 38)).heap.size := by simp
  clear hX
  generalize w1.alloc (.cells #[.slice a 8 c, .slice (some ⟨g1, 0, none⟩) 9 9, .slice (some ⟨g2, 0, none⟩) 2 2] 38) = v1 at *
  refine (implNewDesk_any _).mono ?_
  rintro e w2 ⟨a', c', g1', g2', rfl, hb2, q0, j0, q1, m1, m2, q2, m3⟩
  replace A0 := Rd.mono A0 hb2
  replace A1 := Rd.mono A1 hb2
  replace A2 := Rd.mono A2 hb2
  replace b0 := cell_on hb2 b0
  replace b1 := cell_on hb2 b1
  replace b2 := cell_on hb2 b2
  replace HB := HB.trans (hb2.mono HB.size)
  clear hb2
  have j1 : In g1' g2' (some ⟨g1', 0, none⟩) := fun x hx => by cases hx; dsimp only; omega
  have j2 : In g2' (g2' + 1) (some ⟨g2', 0, none⟩) := fun x hx => by cases hx; dsimp only; omega
  have hlt : w1.heap.size < w2.heap.size := by omega
  go_wp2_with (fail)
  have hX : Below w2.heap.size w2 (w2.alloc (.cells #[.slice a' 8 c', .slice (some ⟨g1', 0, none⟩) 9 9, .slice (some ⟨g2', 0, none⟩) 2 2] 38)) := (Below.refl _ _).alloc (Nat.le_refl _) _
  replace A0 := Rd.mono A0 hX
  replace A1 := Rd.mono A1 hX
  replace A2 := Rd.mono A2 hX
  replace q0 := ownsRow_below q0 hX
  replace q1 := ownsRow_below q1 hX
  replace q2 := ownsRow_below q2 hX
  replace b0 := cell_on hX b0
  replace b1 := cell_on hX b1
  replace b2 := cell_on hX b2
  replace HB := HB.trans (hX.mono HB.size)
  have d0 : (w2.alloc (.cells #[.slice a' 8 c', .slice (some ⟨g1', 0, none⟩) 9 9, .slice (some ⟨g2', 0, none⟩) 2 2] 38)).cell? ⟨w2.heap.size, 0, none⟩ = some (.slice a' 8 c') := by go_simp
  have d1 : (w2.alloc (.cells #[.slice a' 8 c', .slice (some ⟨g1', 0, none⟩) 9 9, .slice (some ⟨g2', 0, none⟩) 2 2] 38)).cell? ⟨w2.heap.size, 1, none⟩ = some (.slice (some ⟨g1', 0, none⟩) 9 9) := by go_simp
  have d2 : (w2.alloc (.cells #[.slice a' 8 c', .slice (some ⟨g1', 0, none⟩) 9 9, .slice (some ⟨g2', 0, none⟩) 2 2] 38)).cell? ⟨w2.heap.size, 2, none⟩ = some (.slice (some ⟨g2', 0, none⟩) 2 2) := by go_simp
  have hsv2 : w2.heap.size < (w2.alloc (.cells #[.slice a' 8 c', .slice (some ⟨g1', 0, none⟩) 9 9, .slice (some ⟨g2', 0, none⟩) 2 2] 38)).heap.size := by simp
  clear hX
  generalize w2.alloc (.cells #[.slice a' 8 c', .slice (some ⟨g1', 0, none⟩) 9 9, .slice (some ⟨g2', 0, none⟩) 2 2] 38) = v2 at *
  refine (eqDesk_same a' 8 c' (upto 8) _ 9 9 [3, 1, 1, 1, 2, 0, 0, 0, 0] _ 2 2 [1, 1] a c _ 9 _ 2 _ (Rd.own q0) (Rd.own q1) (Rd.own q2) A0 A1 A2).mono ?_
  rintro e w3 ⟨rfl, hb3⟩
  replace A0 := Rd.mono A0 hb3
  replace A1 := Rd.mono A1 hb3
  replace A2 := Rd.mono A2 hb3
  replace q0 := ownsRow_below q0 hb3
  replace q1 := ownsRow_below q1 hb3
  replace q2 := ownsRow_below q2 hb3
  replace b0 := cell_on hb3 b0
  replace b1 := cell_on hb3 b1
  replace b2 := cell_on hb3 b2
  replace d0 := cell_on hb3 d0
  replace d1 := cell_on hb3 d1
  replace d2 := cell_on hb3 d2
  replace HB := HB.trans (hb3.mono HB.size)
  have hz3 := hb3.size
  clear hb3
  go_wp2_with (fail)
  refine (markDesk_any a' 8 c' (upto 8) _ 9 9 [3, 1, 1, 1, 2, 0, 0, 0, 0] _ 2 2 [1, 1] 1 v1.heap.size g1' g2' (g2' + 1) _ q0 q1 q2 j0 j1 j2 ⟨by omega, by omega, by omega, by omega⟩ (by omega) (by omega)).mono ?_
  rintro e w4 ⟨rfl, hc4, D0, D1, D2⟩
  replace A0 := Rd.chg A0 hc4 I0 (.inl (by omega))
  replace A1 := Rd.chg A1 hc4 I1 (.inl (by omega))
  replace A2 := Rd.chg A2 hc4 I2 (.inl (by omega))
  replace b0 := hc4.cell b0 (.inl (by dsimp only; omega))
  replace b1 := hc4.cell b1 (.inl (by dsimp only; omega))
  replace b2 := hc4.cell b2 (.inl (by dsimp only; omega))
  replace d0 := hc4.cell d0 (.inr (by dsimp only; omega))
  replace d1 := hc4.cell d1 (.inr (by dsimp only; omega))
  replace d2 := hc4.cell d2 (.inr (by dsimp only; omega))
  replace HB := below_chg HB HB.size (by omega) hc4
  clear hc4 q0 q1 q2 j0 j1 j2 I0 I1 I2
  go_wp2_with (fail)
  refine (heldDesk_any a' 8 c' _ 9 9 _ 2 2 1 _ D0 D1 D2 (by omega) (by omega)).mono ?_
  rintro e w5 ⟨rfl, hb5⟩
  have hz5 := hb5.size
  have hz4 := HB.size
  replace A0 := Rd.mono A0 hb5
  replace A1 := Rd.mono A1 hb5
  replace A2 := Rd.mono A2 hb5
  replace D0 := Rd.mono D0 hb5
  replace D1 := Rd.mono D1 hb5
  replace D2 := Rd.mono D2 hb5
  replace b0 := cell_on hb5 b0
  replace b1 := cell_on hb5 b1
  replace b2 := cell_on hb5 b2
  replace d0 := cell_on hb5 d0
  replace d1 := cell_on hb5 d1
  replace d2 := cell_on hb5 d2
  replace HB := HB.trans (hb5.mono HB.size)
  clear hb5
  go_wp2_with (fail)
  refine (implNewDesk_any _).mono ?_
  rintro e w6 ⟨b, d, h1, h2, rfl, hb6, o0, i0, o1, l1, l2, o2, l3⟩
  have hz6 := hb6.size
  replace A0 := Rd.mono A0 hb6
  replace A1 := Rd.mono A1 hb6
  replace A2 := Rd.mono A2 hb6
  replace D0 := Rd.mono D0 hb6
  replace D1 := Rd.mono D1 hb6
  replace D2 := Rd.mono D2 hb6
  replace b0 := cell_on hb6 b0
  replace b1 := cell_on hb6 b1
  replace b2 := cell_on hb6 b2
  replace d0 := cell_on hb6 d0
  replace d1 := cell_on hb6 d1
  replace d2 := cell_on hb6 d2
  replace HB := HB.trans (hb6.mono HB.size)
  clear hb6 i0 l1 l2 l3
  have hl1 : w1.heap.size < w6.heap.size := cell_lt b0
  have hl2 : w2.heap.size < w6.heap.size := cell_lt d0
  go_wp2_with (fail)
  have hX : Below w6.heap.size w6 (w6.alloc (.cells #[.slice b 8 d, .slice (some ⟨h1, 0, none⟩) 9 9, .slice (some ⟨h2, 0, none⟩) 2 2] 38)) := (Below.refl _ _).alloc (Nat.le_refl _) _
  replace A0 := Rd.mono A0 hX
  replace A1 := Rd.mono A1 hX
  replace A2 := Rd.mono A2 hX
  replace D0 := Rd.mono D0 hX
  replace D1 := Rd.mono D1 hX
  replace D2 := Rd.mono D2 hX
  replace o0 := ownsRow_below o0 hX
  replace o1 := ownsRow_below o1 hX
  replace o2 := ownsRow_below o2 hX
  replace b0 := cell_on hX b0
  replace b1 := cell_on hX b1
  replace b2 := cell_on hX b2
  replace d0 := cell_on hX d0
  replace d1 := cell_on hX d1
  replace d2 := cell_on hX d2
  replace HB := HB.trans (hX.mono HB.size)
  have f0 : (w6.alloc (.cells #[.slice b 8 d, .slice (some ⟨h1, 0, none⟩) 9 9, .slice (some ⟨h2, 0, none⟩) 2 2] 38)).cell? ⟨w6.heap.size, 0, none⟩ = some (.slice b 8 d) := by go_simp
  have f1 : (w6.alloc (.cells #[.slice b 8 d, .slice (some ⟨h1, 0, none⟩) 9 9, .slice (some ⟨h2, 0, none⟩) 2 2] 38)).cell? ⟨w6.heap.size, 1, none⟩ = some (.slice (some ⟨h1, 0, none⟩) 9 9) := by go_simp
  have f2 : (w6.alloc (.cells #[.slice b 8 d, .slice (some ⟨h1, 0, none⟩) 9 9, .slice (some ⟨h2, 0, none⟩) 2 2] 38)).cell? ⟨w6.heap.size, 2, none⟩ = some (.slice (some ⟨h2, 0, none⟩) 2 2) := by go_simp
  have hsv6 : w6.heap.size < (w6.alloc (.cells #[.slice b 8 d, .slice (some ⟨h1, 0, none⟩) 9 9, .slice (some ⟨h2, 0, none⟩) 2 2] 38)).heap.size := by simp
  clear hX
  generalize w6.alloc (.cells #[.slice b 8 d, .slice (some ⟨h1, 0, none⟩) 9 9, .slice (some ⟨h2, 0, none⟩) 2 2] 38) = v6 at *
  refine (eqDesk_same b 8 d (upto 8) _ 9 9 [3, 1, 1, 1, 2, 0, 0, 0, 0] _ 2 2 [1, 1] a c _ 9 _ 2 _ (Rd.own o0) (Rd.own o1) (Rd.own o2) A0 A1 A2).mono ?_
  rintro e w7 ⟨rfl, hb7⟩
  replace A0 := Rd.mono A0 hb7
  replace A1 := Rd.mono A1 hb7
  replace A2 := Rd.mono A2 hb7
  replace D0 := Rd.mono D0 hb7
  replace D1 := Rd.mono D1 hb7
  replace D2 := Rd.mono D2 hb7
  replace o0 := ownsRow_below o0 hb7
  replace o1 := ownsRow_below o1 hb7
  replace o2 := ownsRow_below o2 hb7
  replace b0 := cell_on hb7 b0
  replace b1 := cell_on hb7 b1
  replace b2 := cell_on hb7 b2
  replace d0 := cell_on hb7 d0
  replace d1 := cell_on hb7 d1
  replace d2 := cell_on hb7 d2
  replace f0 := cell_on hb7 f0
  replace f1 := cell_on hb7 f1
  replace f2 := cell_on hb7 f2
  replace HB := HB.trans (hb7.mono HB.size)
  clear hb7
  go_wp2_with (fail)
  refine (heldDesk_any a' 8 c' _ 9 9 _ 2 2 1 _ D0 D1 D2 (by omega) (by omega)).mono ?_
  rintro e w8 ⟨rfl, hb8⟩
  replace A0 := Rd.mono A0 hb8
  replace A1 := Rd.mono A1 hb8
  replace A2 := Rd.mono A2 hb8
  replace D0 := Rd.mono D0 hb8
  replace D1 := Rd.mono D1 hb8
  replace D2 := Rd.mono D2 hb8
  replace o0 := ownsRow_below o0 hb8
  replace o1 := ownsRow_below o1 hb8
  replace o2 := ownsRow_below o2 hb8
  replace b0 := cell_on hb8 b0
  replace b1 := cell_on hb8 b1
  replace b2 := cell_on hb8 b2
  replace d0 := cell_on hb8 d0
  replace d1 := cell_on hb8 d1
  replace d2 := cell_on hb8 d2
  replace f0 := cell_on hb8 f0
  replace f1 := cell_on hb8 f1
  replace f2 := cell_on hb8 f2
  replace HB := HB.trans (hb8.mono HB.size)
  clear hb8
  go_wp2
  go_ret
  exact ⟨rfl, HB⟩

end Go.Proofs.Ytafkfegfjjebkaa
