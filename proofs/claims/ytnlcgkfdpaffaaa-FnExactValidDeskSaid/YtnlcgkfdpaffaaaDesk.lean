/- The laws' own words on desks, and the desks of both. -/
import Derived.Test.YtnlcgkfdpaffaaaI64
import Derived.Test.YtnlcgkfdpaffaaaChg
import Derived.Test.YtnlcgkfdpaffaaaNewDeck
namespace Go.Proofs.Ytnlcgkfdpaffaaa
open Go.RowKit

theorem toDesk_any (a0 : Option Addr) (n0 c0 : Nat) (x0 : List Int) (a1 : Option Addr) (n1 c1 : Nat) (x1 : List Int) (a2 : Option Addr) (n2 c2 : Nat) (x2 : List Int) (w : World)
    (h0 : Ints w a0 n0 c0 x0) (h1 : Ints w a1 n1 c1 x1) (h2 : Ints w a2 n2 c2 x2) (k0 : n0 ≤ 1048576) (k1 : n1 ≤ 1048576) (k2 : n2 ≤ 1048576) :
    Calls Try.prog 36 #[.agg #[.slice a0 n0 c0, .slice a1 n1 c1, .slice a2 n2 c2]] w fun e w' => ∃ g0 g1 g2, e = .returned (.agg #[.slice (some ⟨g0, 0, none⟩) n0 n0, .slice (some ⟨g1, 0, none⟩) n1 n1, .slice (some ⟨g2, 0, none⟩) n2 n2]) ∧
      Below w.heap.size w w' ∧ Ints w' (some ⟨g0, 0, none⟩) n0 n0 x0 ∧ Ints w' (some ⟨g1, 0, none⟩) n1 n1 x1 ∧ Ints w' (some ⟨g2, 0, none⟩) n2 n2 x2 := by
  go_enter Try.func36, Try.ntmps36
  go_wp2_with (fail)
  have HB : Below w.heap.size w _ := (((Below.refl w.heap.size w).alloc (Nat.le_refl _) (.cells #[.slice a0 n0 c0, .slice a1 n1 c1, .slice a2 n2 c2] 52)).alloc (by simp) (.cells #[.slice none 0 0, .slice none 0 0, .slice none 0 0] 55)).alloc (by simp; omega) (.cells #[.slice none 0 0, .slice none 0 0, .slice none 0 0] 55)
  refine (toInt64S_any _ _ _ _ _ (h0.mono HB) k0).mono ?_
  rintro e w1 ⟨g0, rfl, hb1, ho0⟩
  have p1 := cell_on hb1 (p := ⟨w.heap.size, 1, none⟩) (v := .slice a1 n1 c1) (by go_simp)
  have p2 := cell_on hb1 (p := ⟨w.heap.size, 2, none⟩) (v := .slice a2 n2 c2) (by go_simp)
  have r0 := cell_on hb1 (p := ⟨w.heap.size + 1, 0, none⟩) (v := .slice none 0 0) (by go_simp)
  have q0 := cell_on hb1 (p := ⟨w.heap.size + 1 + 1, 0, none⟩) (v := .slice none 0 0) (by go_simp)
  have f0 := frozen_on hb1 (p := ⟨w.heap.size + 1 + 1, 0, none⟩) (by simp) (by go_simp)
  have e0 := frozen_on hb1 (p := ⟨w.heap.size + 1, 0, none⟩) (by simp) (by go_simp)
  have r1 := cell_on hb1 (p := ⟨w.heap.size + 1, 1, none⟩) (v := .slice none 0 0) (by go_simp)
  have q1 := cell_on hb1 (p := ⟨w.heap.size + 1 + 1, 1, none⟩) (v := .slice none 0 0) (by go_simp)
  have f1 := frozen_on hb1 (p := ⟨w.heap.size + 1 + 1, 1, none⟩) (by simp) (by go_simp)
  have e1 := frozen_on hb1 (p := ⟨w.heap.size + 1, 1, none⟩) (by simp) (by go_simp)
  have r2 := cell_on hb1 (p := ⟨w.heap.size + 1, 2, none⟩) (v := .slice none 0 0) (by go_simp)
  have q2 := cell_on hb1 (p := ⟨w.heap.size + 1 + 1, 2, none⟩) (v := .slice none 0 0) (by go_simp)
  have f2 := frozen_on hb1 (p := ⟨w.heap.size + 1 + 1, 2, none⟩) (by simp) (by go_simp)
  have e2 := frozen_on hb1 (p := ⟨w.heap.size + 1, 2, none⟩) (by simp) (by go_simp)
  have hz1 : w.heap.size + 3 ≤ w1.heap.size := by have := hb1.size; simp at this; omega
  have HB1 := HB.trans (hb1.mono HB.size)
  have hi0 := own_in ho0
  have hj0 : w.heap.size + 3 ≤ g0 := by have := hi0 _ rfl; simp at this; omega
  have D0 : Ints w1 (some ⟨g0, 0, none⟩) n0 n0 x0 := Rd.own ho0
  clear hb1 ho0 hi0
  go_wp2_with (fail)
  replace HB1 := HB1.setCell (p := ⟨w.heap.size + 1 + 1, 0, none⟩) (by simp; omega) (.slice (some ⟨g0, 0, none⟩) n0 n0)
  refine (toInt64S_any _ _ _ _ _ (h1.mono HB1) k1).mono ?_
  rintro e w2 ⟨g1, rfl, hb2, ho1⟩
  have p2 := cell_on hb2 (p := ⟨w.heap.size, 2, none⟩) (v := .slice a2 n2 c2) (by go_simp)
  have r0 := cell_on hb2 (p := ⟨w.heap.size + 1, 0, none⟩) (v := .slice none 0 0) (by go_simp)
  have q0 := cell_on hb2 (p := ⟨w.heap.size + 1 + 1, 0, none⟩) (v := .slice (some ⟨g0, 0, none⟩) n0 n0) (by go_simp)
  have f0 := frozen_on hb2 (p := ⟨w.heap.size + 1 + 1, 0, none⟩) (by simp; omega) (by go_simp)
  have e0 := frozen_on hb2 (p := ⟨w.heap.size + 1, 0, none⟩) (by simp; omega) (by go_simp)
  have r1 := cell_on hb2 (p := ⟨w.heap.size + 1, 1, none⟩) (v := .slice none 0 0) (by go_simp)
  have q1 := cell_on hb2 (p := ⟨w.heap.size + 1 + 1, 1, none⟩) (v := .slice none 0 0) (by go_simp)
  have f1 := frozen_on hb2 (p := ⟨w.heap.size + 1 + 1, 1, none⟩) (by simp; omega) (by go_simp)
  have e1 := frozen_on hb2 (p := ⟨w.heap.size + 1, 1, none⟩) (by simp; omega) (by go_simp)
  have r2 := cell_on hb2 (p := ⟨w.heap.size + 1, 2, none⟩) (v := .slice none 0 0) (by go_simp)
  have q2 := cell_on hb2 (p := ⟨w.heap.size + 1 + 1, 2, none⟩) (v := .slice none 0 0) (by go_simp)
  have f2 := frozen_on hb2 (p := ⟨w.heap.size + 1 + 1, 2, none⟩) (by simp; omega) (by go_simp)
  have e2 := frozen_on hb2 (p := ⟨w.heap.size + 1, 2, none⟩) (by simp; omega) (by go_simp)
  have hz2 : w.heap.size + 3 ≤ w2.heap.size := by have := hb2.size; simp at this; omega
  have HB2 := HB1.trans (hb2.mono HB1.size)
  have hi1 := own_in ho1
  have hj1 : w.heap.size + 3 ≤ g1 := by have := hi1 _ rfl; simp at this; omega
  have D1 : Ints w2 (some ⟨g1, 0, none⟩) n1 n1 x1 := Rd.own ho1
  replace D0 : Ints w2 (some ⟨g0, 0, none⟩) n0 n0 x0 := (Rd.set D0 (p := ⟨w.heap.size + 1 + 1, 0, none⟩) (fun x hx => by cases hx; simp; omega) _).mono hb2
  clear hb2 ho1 hi1
  go_wp2_with (fail)
  replace HB2 := HB2.setCell (p := ⟨w.heap.size + 1 + 1, 1, none⟩) (by simp; omega) (.slice (some ⟨g1, 0, none⟩) n1 n1)
  refine (toInt64S_any _ _ _ _ _ (h2.mono HB2) k2).mono ?_
  rintro e w3 ⟨g2, rfl, hb3, ho2⟩
  have r0 := cell_on hb3 (p := ⟨w.heap.size + 1, 0, none⟩) (v := .slice none 0 0) (by go_simp)
  have q0 := cell_on hb3 (p := ⟨w.heap.size + 1 + 1, 0, none⟩) (v := .slice (some ⟨g0, 0, none⟩) n0 n0) (by go_simp)
  have f0 := frozen_on hb3 (p := ⟨w.heap.size + 1 + 1, 0, none⟩) (by simp; omega) (by go_simp)
  have e0 := frozen_on hb3 (p := ⟨w.heap.size + 1, 0, none⟩) (by simp; omega) (by go_simp)
  have r1 := cell_on hb3 (p := ⟨w.heap.size + 1, 1, none⟩) (v := .slice none 0 0) (by go_simp)
  have q1 := cell_on hb3 (p := ⟨w.heap.size + 1 + 1, 1, none⟩) (v := .slice (some ⟨g1, 0, none⟩) n1 n1) (by go_simp)
  have f1 := frozen_on hb3 (p := ⟨w.heap.size + 1 + 1, 1, none⟩) (by simp; omega) (by go_simp)
  have e1 := frozen_on hb3 (p := ⟨w.heap.size + 1, 1, none⟩) (by simp; omega) (by go_simp)
  have r2 := cell_on hb3 (p := ⟨w.heap.size + 1, 2, none⟩) (v := .slice none 0 0) (by go_simp)
  have q2 := cell_on hb3 (p := ⟨w.heap.size + 1 + 1, 2, none⟩) (v := .slice none 0 0) (by go_simp)
  have f2 := frozen_on hb3 (p := ⟨w.heap.size + 1 + 1, 2, none⟩) (by simp; omega) (by go_simp)
  have e2 := frozen_on hb3 (p := ⟨w.heap.size + 1, 2, none⟩) (by simp; omega) (by go_simp)
  have hz3 : w.heap.size + 3 ≤ w3.heap.size := by have := hb3.size; simp at this; omega
  have HB3 := HB2.trans (hb3.mono HB2.size)
  have hi2 := own_in ho2
  have hj2 : w.heap.size + 3 ≤ g2 := by have := hi2 _ rfl; simp at this; omega
  have D2 : Ints w3 (some ⟨g2, 0, none⟩) n2 n2 x2 := Rd.own ho2
  replace D0 : Ints w3 (some ⟨g0, 0, none⟩) n0 n0 x0 := (Rd.set D0 (p := ⟨w.heap.size + 1 + 1, 1, none⟩) (fun x hx => by cases hx; simp; omega) _).mono hb3
  replace D1 : Ints w3 (some ⟨g1, 0, none⟩) n1 n1 x1 := (Rd.set D1 (p := ⟨w.heap.size + 1 + 1, 1, none⟩) (fun x hx => by cases hx; simp; omega) _).mono hb3
  clear hb3 ho2 hi2
  replace HB3 := HB3.setCell (p := ⟨w.heap.size + 1 + 1, 2, none⟩) (by simp; omega) (.slice (some ⟨g2, 0, none⟩) n2 n2)
  go_wp2
  refine bodyPost_ret (v := .agg #[.slice (some ⟨g0, 0, none⟩) n0 n0, .slice (some ⟨g1, 0, none⟩) n1 n1, .slice (some ⟨g2, 0, none⟩) n2 n2]) (by simp [results, Try.results36, go_sem, r0, r1, r2]) rfl ⟨g0, g1, g2, rfl, ?_, ?_, ?_, ?_⟩
  · exact ((HB3.setCell (by simp) _).setCell (by simp) _).setCell (by simp) _
  · exact Rd.set (Rd.set (Rd.set (Rd.set D0 (fun x hx => by cases hx; simp; omega) _) (fun x hx => by cases hx; simp; omega) _) (fun x hx => by cases hx; simp; omega) _) (fun x hx => by cases hx; simp; omega) _
  · exact Rd.set (Rd.set (Rd.set (Rd.set D1 (fun x hx => by cases hx; simp; omega) _) (fun x hx => by cases hx; simp; omega) _) (fun x hx => by cases hx; simp; omega) _) (fun x hx => by cases hx; simp; omega) _
  · exact Rd.set (Rd.set (Rd.set (Rd.set D2 (fun x hx => by cases hx; simp; omega) _) (fun x hx => by cases hx; simp; omega) _) (fun x hx => by cases hx; simp; omega) _) (fun x hx => by cases hx; simp; omega) _

theorem eqDesk_same (a0 : Option Addr) (n0 c0 : Nat) (x0 : List Int) (a1 : Option Addr) (n1 c1 : Nat) (x1 : List Int) (a2 : Option Addr) (n2 c2 : Nat) (x2 : List Int) (b0 : Option Addr) (d0 : Nat) (b1 : Option Addr) (d1 : Nat) (b2 : Option Addr) (d2 : Nat) (w : World)
    (h0 : Ints w a0 n0 c0 x0) (h1 : Ints w a1 n1 c1 x1) (h2 : Ints w a2 n2 c2 x2) (k0 : Ints w b0 n0 d0 x0) (k1 : Ints w b1 n1 d1 x1) (k2 : Ints w b2 n2 d2 x2) :
    Calls Try.prog 38 #[.agg #[.slice a0 n0 c0, .slice a1 n1 c1, .slice a2 n2 c2], .agg #[.slice b0 n0 d0, .slice b1 n1 d1, .slice b2 n2 d2]] w (Ret w (.bool true)) := by
  go_enter Try.func38, Try.ntmps38
  go_wp2_with (fail)
  have HB0 : Below w.heap.size w _ := ((Below.refl w.heap.size w).alloc (Nat.le_refl _) (.cells #[.slice a0 n0 c0, .slice a1 n1 c1, .slice a2 n2 c2] 55)).alloc (by simp) (.cells #[.slice b0 n0 d0, .slice b1 n1 d1, .slice b2 n2 d2] 55)
  refine (eqInt64S_any _ _ _ _ _ _ _ _ _ (h0.mono HB0) (k0.mono HB0)).mono ?_
  rintro e w1 ⟨rfl, hq1⟩
  have hb1 := hq1.b
  have p1 := cell_on hb1 (p := ⟨w.heap.size, 1, none⟩) (v := .slice a1 n1 c1) (by go_simp)
  have q1 := cell_on hb1 (p := ⟨w.heap.size + 1, 1, none⟩) (v := .slice b1 n1 d1) (by go_simp)
  have p2 := cell_on hb1 (p := ⟨w.heap.size, 2, none⟩) (v := .slice a2 n2 c2) (by go_simp)
  have q2 := cell_on hb1 (p := ⟨w.heap.size + 1, 2, none⟩) (v := .slice b2 n2 d2) (by go_simp)
  have HB1 := HB0.trans (hb1.mono HB0.size)
  clear hb1 hq1
  go_wp2_with (fail)
  refine (eqInt64S_any _ _ _ _ _ _ _ _ _ (h1.mono HB1) (k1.mono HB1)).mono ?_
  rintro e w2 ⟨rfl, hq2⟩
  have hb2 := hq2.b
  have p2 := cell_on hb2 (p := ⟨w.heap.size, 2, none⟩) (v := .slice a2 n2 c2) (by go_simp)
  have q2 := cell_on hb2 (p := ⟨w.heap.size + 1, 2, none⟩) (v := .slice b2 n2 d2) (by go_simp)
  have HB2 := HB1.trans (hb2.mono HB1.size)
  clear hb2 hq2
  go_wp2_with (fail)
  refine (eqInt64S_any _ _ _ _ _ _ _ _ _ (h2.mono HB2) (k2.mono HB2)).mono ?_
  rintro e w3 ⟨rfl, hq3⟩
  have hb3 := hq3.b
  have HB3 := HB2.trans (hb3.mono HB2.size)
  clear hb3 hq3
  go_wp2
  go_ret
  exact ⟨rfl, HB3⟩

theorem szDesk_any (a0 : Option Addr) (n0 c0 : Nat)  (a1 : Option Addr) (n1 c1 : Nat)  (a2 : Option Addr) (n2 c2 : Nat)  (x : Int) (w : World) (m0 : n0 ≤ 9223372036854775807) (m1 : n1 ≤ 9223372036854775807) (m2 : n2 ≤ 9223372036854775807) (hx : 0 ≤ x) (hx' : x ≤ 1048576) :
    Calls Try.prog 34 #[.agg #[.slice a0 n0 c0, .slice a1 n1 c1, .slice a2 n2 c2], .int .i64 x] w (Ret w (.int .i64 (if (n0 : Int) + n1 + n2 ≤ x then x - n0 - n1 - n2 else -1))) := by
  have HB : Below w.heap.size w _ := (Below.refl w.heap.size w).alloc (Nat.le_refl _) (.cells #[.slice a0 n0 c0, .slice a1 n1 c1, .slice a2 n2 c2] 52)
  by_cases e0 : (n0 : Int) ≤ x
  · by_cases e1 : (n1 : Int) ≤ x - n0
    · by_cases e2 : (n2 : Int) ≤ x - n0 - n1
      · have HE : Hid ((if (n0 : Int) + n1 + n2 ≤ x then x - n0 - n1 - n2 else -1) = x - n0 - n1 - n2) := if_pos (by omega)
        go_enter Try.func34, Try.ntmps34
        go_wp2_with (fail)
        refine (szInt64S_ok _ _ _ _ _ m0 e0 hx').mono ?_
        rintro e w1 ⟨rfl, rfl⟩
        go_wp2_with (fail)
        refine (szInt64S_ok _ _ _ _ _ m1 e1 (by omega)).mono ?_
        rintro e w1 ⟨rfl, rfl⟩
        go_wp2_with (fail)
        refine (szInt64S_ok _ _ _ _ _ m2 e2 (by omega)).mono ?_
        rintro e w1 ⟨rfl, rfl⟩
        go_wp2
        go_ret
        first | exact ⟨rfl, HB⟩ | exact ⟨ret_int HE.out.symm, HB⟩
      · have HE : Hid ((if (n0 : Int) + n1 + n2 ≤ x then x - n0 - n1 - n2 else -1) = -1) := if_neg (by omega)
        go_enter Try.func34, Try.ntmps34
        go_wp2_with (fail)
        refine (szInt64S_ok _ _ _ _ _ m0 e0 hx').mono ?_
        rintro e w1 ⟨rfl, rfl⟩
        go_wp2_with (fail)
        refine (szInt64S_ok _ _ _ _ _ m1 e1 (by omega)).mono ?_
        rintro e w1 ⟨rfl, rfl⟩
        go_wp2_with (fail)
        refine (szInt64S_no _ _ _ _ _ m2 (by omega) (by omega) (by omega)).mono ?_
        rintro e w1 ⟨rfl, rfl⟩
        go_wp2
        go_ret
        first | exact ⟨rfl, HB⟩ | exact ⟨ret_int HE.out.symm, HB⟩
    · have HE : Hid ((if (n0 : Int) + n1 + n2 ≤ x then x - n0 - n1 - n2 else -1) = -1) := if_neg (by omega)
      go_enter Try.func34, Try.ntmps34
      go_wp2_with (fail)
      refine (szInt64S_ok _ _ _ _ _ m0 e0 hx').mono ?_
      rintro e w1 ⟨rfl, rfl⟩
      go_wp2_with (fail)
      refine (szInt64S_no _ _ _ _ _ m1 (by omega) (by omega) (by omega)).mono ?_
      rintro e w1 ⟨rfl, rfl⟩
      go_wp2
      go_ret
      first | exact ⟨rfl, HB⟩ | exact ⟨ret_int HE.out.symm, HB⟩
  · have HE : Hid ((if (n0 : Int) + n1 + n2 ≤ x then x - n0 - n1 - n2 else -1) = -1) := if_neg (by omega)
    go_enter Try.func34, Try.ntmps34
    go_wp2_with (fail)
    refine (szInt64S_no _ _ _ _ _ m0 (by omega) (by omega) (by omega)).mono ?_
    rintro e w1 ⟨rfl, rfl⟩
    go_wp2
    go_ret
    first | exact ⟨rfl, HB⟩ | exact ⟨ret_int HE.out.symm, HB⟩

end Go.Proofs.Ytnlcgkfdpaffaaa
