/- The laws' own words on what is saved: toSaved, szSaved, eqSaved, markSaved, heldSaved. -/
import Derived.Test.YtnoageckldilnaaDoorDieA
import Derived.Test.YtnoageckldilnaaDoorChg
namespace Go.Proofs.YtnoageckldilnaaDoor
open Go.RowKit
set_option linter.unusedVariables false

theorem OwnDS.keep {lo hi : Nat} {w w' : World} {a : Option Addr} {n c : Nat} {ss : List Spot} {xss : List (List Int)} (h : OwnDS lo hi w a n c ss xss) (hk : ∀ g, lo ≤ g → g < hi → g < w.heap.size → w'.heap[g]? = w.heap[g]?) : OwnDS lo hi w' a n c ss xss := ⟨h.len, h.p.keep hk⟩
theorem OwnDS.set {lo hi : Nat} {w : World} {a : Option Addr} {n c : Nat} {ss : List Spot} {xss : List (List Int)} (h : OwnDS lo hi w a n c ss xss) (p : Addr) (hp : p.block < lo ∨ hi ≤ p.block) (v : Value) : OwnDS lo hi (w.setCell p v) a n c ss xss :=
  h.keep fun g h1 h2 _ => Below.heap_setCell w p v g (by omega)
theorem OwnDS.below {lo hi : Nat} {w w' : World} {a : Option Addr} {n c : Nat} {ss : List Spot} {xss : List (List Int)} (h : OwnDS lo hi w a n c ss xss) (hb : Below w.heap.size w w') : OwnDS lo hi w' a n c ss xss := ⟨h.len, h.p.below hb⟩
theorem OwnDS.chg {l r lo hi : Nat} {w w' : World} {a : Option Addr} {n c : Nat} {ss : List Spot} {xss : List (List Int)} (h : OwnDS lo hi w a n c ss xss) (hc : Chg l r w w') (hd : hi ≤ l ∨ r ≤ lo) : OwnDS lo hi w' a n c ss xss := ⟨h.len, h.p.chg hc hd⟩

theorem OwnDS.low {lo lo' hi : Nat} {w : World} {a : Option Addr} {n c : Nat} {ss : List Spot} {xss : List (List Int)} (h : OwnDS lo hi w a n c ss xss) (hl : lo' ≤ lo) : OwnDS lo' hi w a n c ss xss :=
  ⟨h.len, ownsRow_low h.p.out hl, h.p.ouh, fun i hi => ownsRow_low (h.p.own i hi) hl, h.p.inn, h.p.apart, h.p.apo⟩
theorem OwnDS.wide {lo hi hi' : Nat} {w : World} {a : Option Addr} {n c : Nat} {ss : List Spot} {xss : List (List Int)} (h : OwnDS lo hi w a n c ss xss) (hl : hi ≤ hi') : OwnDS lo hi' w a n c ss xss := ⟨h.len, h.p.wide hl⟩

theorem toSaved_own (nm : ByteArray) (a0 : Option Addr) (n0 c0 : Nat) (x0 : List Int) (a1 : Option Addr) (n1 c1 : Nat) (ss : List Spot) (xss : List (List Int)) (w : World)
    (h0 : Ints w a0 n0 c0 x0) (h1 : IntSS w a1 n1 c1 ss xss) (k0 : n0 ≤ 1048576) (k1 : n1 ≤ 1048576) (kr : ∀ i, i < n1 → (xss.getD i []).length ≤ 1048576) :
    Calls Tryd.prog 11 #[.agg #[.string nm, .slice a0 n0 c0, .slice a1 n1 c1]] w fun e w' => ∃ g0 g1 ts, e = .returned (.agg #[.string nm, .slice (some ⟨g0, 0, none⟩) n0 n0, .slice (some ⟨g1, 0, none⟩) n1 n1]) ∧
      Below w.heap.size w w' ∧ w'.ownsRow w.heap.size 2 1 (.slice (some ⟨g0, 0, none⟩) n0 n0) n0 (intCells x0) ∧ OwnDS w.heap.size w'.heap.size w' (some ⟨g1, 0, none⟩) n1 n1 ts xss := by
  go_enter Tryd.func11, Tryd.ntmps11
  go_wp2_with (fail)
  have HB : Below w.heap.size w _ := (((Below.refl w.heap.size w).alloc (Nat.le_refl _) (.cells #[.string nm, .slice a0 n0 c0, .slice a1 n1 c1] 25)).alloc (by simp) (.cells #[.string ⟨#[]⟩, .slice none 0 0, .slice none 0 0] 30)).alloc (by simp; omega) (.cells #[.string nm, .slice none 0 0, .slice none 0 0] 30)
  refine (toInt64S_any _ _ _ _ _ (h0.mono HB) k0).mono ?_
  rintro e w1 ⟨g0, rfl, hb1, ho0⟩
  have p2 := cell_on hb1 (p := ⟨w.heap.size, 2, none⟩) (v := .slice a1 n1 c1) (by go_simp)
  have r0 := cell_on hb1 (p := ⟨w.heap.size + 1, 0, none⟩) (v := .string ⟨#[]⟩) (by go_simp)
  have q0 := cell_on hb1 (p := ⟨w.heap.size + 1 + 1, 0, none⟩) (v := .string nm) (by go_simp)
  have f0 := frozen_on hb1 (p := ⟨w.heap.size + 1 + 1, 0, none⟩) (by simp) (by go_simp)
  have e0 := frozen_on hb1 (p := ⟨w.heap.size + 1, 0, none⟩) (by simp) (by go_simp)
  have r1 := cell_on hb1 (p := ⟨w.heap.size + 1, 1, none⟩) (v := .slice none 0 0) (by go_simp)
  have q1 := cell_on hb1 (p := ⟨w.heap.size + 1 + 1, 1, none⟩) (v := .slice none 0 0) (by go_simp)
  have f1 := frozen_on hb1 (p := ⟨w.heap.size + 1 + 1, 1, none⟩) (by simp) (by go_simp)
  have e1 := frozen_on hb1 (p := ⟨w.heap.size + 1, 1, none⟩) (by simp) (by go_simp)
  have r2 := cell_on hb1 (p := ⟨w.heap.size + 1, 2, none⟩) (v := .slice none 0 0) (by go_simp)
  have q2 := cell_on hb1 (p := ⟨w.heap.size + 1 + 1, 2, none⟩) (v := .slice none 0 0) (by go_simp)
  have f2 := frozen_on hb1 (p := ⟨w.heap.size + 1 + 1, 2, none⟩) (by simp) (by go_simp)
  have e2 := frozen_on hb1 (p := ⟨w.heap.size + 1, 2, none⟩) (by simp) (by go_simp)
  have hz1 : w.heap.size + 3 ≤ w1.heap.size := by have := hb1.size; simp at this; omega
  have HB1 := HB.trans (hb1.mono HB.size)
  have hi0 := own_in ho0
  have hj0 : w.heap.size + 3 ≤ g0 := by have := hi0 _ rfl; simp at this; omega
  have D0 := ownsRow_low ho0 (base' := w.heap.size) (by simp; omega)
  clear hb1 ho0 hi0
  go_wp2_with (fail)
  replace HB1 := HB1.setCell (p := ⟨w.heap.size + 1 + 1, 1, none⟩) (by simp; omega) (.slice (some ⟨g0, 0, none⟩) n0 n0)
  refine (toDieS_any _ _ _ _ _ _ (h1.mono HB1) k1 kr).mono ?_
  rintro e w2 ⟨g1, ts, rfl, hb2, ho1, _⟩
  have r0 := cell_on hb2 (p := ⟨w.heap.size + 1, 0, none⟩) (v := .string ⟨#[]⟩) (by go_simp)
  have q0 := cell_on hb2 (p := ⟨w.heap.size + 1 + 1, 0, none⟩) (v := .string nm) (by go_simp)
  have f0 := frozen_on hb2 (p := ⟨w.heap.size + 1 + 1, 0, none⟩) (by simp; omega) (by go_simp)
  have e0 := frozen_on hb2 (p := ⟨w.heap.size + 1, 0, none⟩) (by simp; omega) (by go_simp)
  have r1 := cell_on hb2 (p := ⟨w.heap.size + 1, 1, none⟩) (v := .slice none 0 0) (by go_simp)
  have q1 := cell_on hb2 (p := ⟨w.heap.size + 1 + 1, 1, none⟩) (v := .slice (some ⟨g0, 0, none⟩) n0 n0) (by go_simp)
  have f1 := frozen_on hb2 (p := ⟨w.heap.size + 1 + 1, 1, none⟩) (by simp; omega) (by go_simp)
  have e1 := frozen_on hb2 (p := ⟨w.heap.size + 1, 1, none⟩) (by simp; omega) (by go_simp)
  have r2 := cell_on hb2 (p := ⟨w.heap.size + 1, 2, none⟩) (v := .slice none 0 0) (by go_simp)
  have q2 := cell_on hb2 (p := ⟨w.heap.size + 1 + 1, 2, none⟩) (v := .slice none 0 0) (by go_simp)
  have f2 := frozen_on hb2 (p := ⟨w.heap.size + 1 + 1, 2, none⟩) (by simp; omega) (by go_simp)
  have e2 := frozen_on hb2 (p := ⟨w.heap.size + 1, 2, none⟩) (by simp; omega) (by go_simp)
  have hz2 : w1.heap.size ≤ w2.heap.size := by have := hb2.size; simpa using this
  have HB2 := HB1.trans (hb2.mono HB1.size)
  have ho1 : OwnDS w1.heap.size w2.heap.size w2 (some ⟨g1, 0, none⟩) n1 n1 ts xss := by simpa using ho1
  replace D0 := ownsRow_below (ownsRow_setCell_other D0 (p := ⟨w.heap.size + 1 + 1, 1, none⟩) (fun y hy => by obtain rfl := Option.some.inj hy; dsimp only; omega) (.slice (some ⟨g0, 0, none⟩) n0 n0)) hb2
  clear hb2
  replace HB2 := HB2.setCell (p := ⟨w.heap.size + 1 + 1, 2, none⟩) (by simp; omega) (.slice (some ⟨g1, 0, none⟩) n1 n1)
  go_wp2
  refine bodyPost_ret (v := .agg #[.string nm, .slice (some ⟨g0, 0, none⟩) n0 n0, .slice (some ⟨g1, 0, none⟩) n1 n1]) (by simp [results, Tryd.results11, go_sem, r0, r1, r2]) rfl ⟨g0, g1, ts, rfl, ?_, ?_, ?_⟩
  · exact ((HB2.setCell (by simp) _).setCell (by simp) _).setCell (by simp) _
  · exact ownsRow_setCell_other (ownsRow_setCell_other (ownsRow_setCell_other (ownsRow_setCell_other D0 (fun y hy => by obtain rfl := Option.some.inj hy; dsimp only; omega) _) (fun y hy => by obtain rfl := Option.some.inj hy; dsimp only; omega) _) (fun y hy => by obtain rfl := Option.some.inj hy; dsimp only; omega) _) (fun y hy => by obtain rfl := Option.some.inj hy; dsimp only; omega) _
  · exact ((((ho1.set _ (.inl (by simp; omega)) _).set _ (.inl (by simp; omega)) _).set _ (.inl (by simp; omega)) _).set _ (.inl (by simp; omega)) _).low (by omega) |>.wide (by simp)

theorem toSaved_any (nm : ByteArray) (a0 : Option Addr) (n0 c0 : Nat) (x0 : List Int) (a1 : Option Addr) (n1 c1 : Nat) (ss : List Spot) (xss : List (List Int)) (w : World)
    (h0 : Ints w a0 n0 c0 x0) (h1 : IntSS w a1 n1 c1 ss xss) (k0 : n0 ≤ 1048576) (k1 : n1 ≤ 1048576) (kr : ∀ i, i < n1 → (xss.getD i []).length ≤ 1048576) :
    Calls Tryd.prog 11 #[.agg #[.string nm, .slice a0 n0 c0, .slice a1 n1 c1]] w fun e w' => ∃ g0 g1 ts, e = .returned (.agg #[.string nm, .slice (some ⟨g0, 0, none⟩) n0 n0, .slice (some ⟨g1, 0, none⟩) n1 n1]) ∧
      Below w.heap.size w w' ∧ Ints w' (some ⟨g0, 0, none⟩) n0 n0 x0 ∧ IntSS w' (some ⟨g1, 0, none⟩) n1 n1 ts xss :=
  (toSaved_own nm a0 n0 c0 x0 a1 n1 c1 ss xss w h0 h1 k0 k1 kr).mono fun _ _ ⟨g0, g1, ts, h1, h2, h3, h4⟩ => ⟨g0, g1, ts, h1, h2, Rd.own h3, h4.rd⟩

theorem eqSaved_same (nm : ByteArray) (a0 : Option Addr) (n0 c0 : Nat) (x0 : List Int) (a1 : Option Addr) (n1 c1 : Nat) (ss : List Spot) (xss : List (List Int)) (b0 : Option Addr) (d0 : Nat) (b1 : Option Addr) (d1 : Nat) (ss' : List Spot) (w : World)
    (h0 : Ints w a0 n0 c0 x0) (h1 : IntSS w a1 n1 c1 ss xss) (k0 : Ints w b0 n0 d0 x0) (k1 : IntSS w b1 n1 d1 ss' xss) :
    Calls Tryd.prog 13 #[.agg #[.string nm, .slice a0 n0 c0, .slice a1 n1 c1], .agg #[.string nm, .slice b0 n0 d0, .slice b1 n1 d1]] w (Ret w (.bool true)) := by
  have hs : (nm.toList == nm.toList) = true := by simp
  go_enter Tryd.func13, Tryd.ntmps13
  go_wp2_with (fail)
  have HB0 : Below w.heap.size w _ := ((Below.refl w.heap.size w).alloc (Nat.le_refl _) (.cells #[.string nm, .slice a0 n0 c0, .slice a1 n1 c1] 30)).alloc (by simp) (.cells #[.string nm, .slice b0 n0 d0, .slice b1 n1 d1] 30)
  refine (eqInt64S_any _ _ _ _ _ _ _ _ _ (h0.mono HB0) (k0.mono HB0)).mono ?_
  rintro e w1 ⟨rfl, hq1⟩
  have hb1 := hq1.b
  have p2 := cell_on hb1 (p := ⟨w.heap.size, 2, none⟩) (v := .slice a1 n1 c1) (by go_simp)
  have q2 := cell_on hb1 (p := ⟨w.heap.size + 1, 2, none⟩) (v := .slice b1 n1 d1) (by go_simp)
  have HB1 := HB0.trans (hb1.mono HB0.size)
  clear hb1 hq1
  go_wp2_with (fail)
  refine (eqDieS_same _ _ _ _ _ _ _ _ _ (h1.mono HB1) (k1.mono HB1)).mono ?_
  rintro e w2 ⟨rfl, hb2⟩
  have HB2 := HB1.trans (hb2.mono HB1.size)
  clear hb2
  go_wp2
  go_ret
  exact ⟨rfl, HB2⟩

/-- what is left of x behind all, or -1 -/
def szV (x : Int) (l n0 : Nat) (xss : List (List Int)) : Int := if (l : Int) + n0 + xss.length + tot xss ≤ x then x - l - n0 - xss.length - tot xss else -1

theorem szSaved_any (nm : ByteArray) (a0 : Option Addr) (n0 c0 : Nat) (a1 : Option Addr) (n1 c1 : Nat) (ss : List Spot) (xss : List (List Int)) (x : Int) (w : World) (m0 : n0 ≤ 9223372036854775807) (ms : nm.size ≤ 9223372036854775807) (h1 : IntSS w a1 n1 c1 ss xss) (hx : 0 ≤ x) (hx' : x ≤ 1048576) :
    Calls Tryd.prog 9 #[.agg #[.string nm, .slice a0 n0 c0, .slice a1 n1 c1], .int .i64 x] w (Ret w (.int .i64 (szV x nm.size n0 xss))) := by
  have HB : Below w.heap.size w _ := (Below.refl w.heap.size w).alloc (Nat.le_refl _) (.cells #[.string nm, .slice a0 n0 c0, .slice a1 n1 c1] 25)
  have hS := fun x => szDieS_any a1 n1 c1 ss xss x _ (h1.mono HB)
  have HS := Lib.hid hS
  clear hS h1
  by_cases e0 : (nm.size : Int) ≤ x
  · by_cases e1 : (n0 : Int) ≤ x - nm.size
    · by_cases e2 : ((xss.length : Int) + tot xss) ≤ x - nm.size - n0
      · have HE : Hid (szV x nm.size n0 xss = x - nm.size - n0 - xss.length - tot xss) := if_pos (by omega)
        have e3 : szSS (x - nm.size - n0) xss = x - nm.size - n0 - xss.length - tot xss := if_pos e2
        have CC := Lib.hid (HS.out (x - nm.size - n0) (by omega) (by omega))
        rw [e3] at CC
        clear e3 HS
        generalize hT : tot xss = t at *
        generalize hL : xss.length = m at *
        go_enter Tryd.func9, Tryd.ntmps9
        go_wp2_with (fail)
        refine (szInt64S_ok _ _ _ _ _ m0 e1 (by omega)).mono ?_
        rintro e w1 ⟨rfl, rfl⟩
        go_wp2_with (fail)
        refine CC.out.mono ?_
        rintro e w1 ⟨rfl, hb1⟩
        have HB1 := HB.trans (hb1.mono HB.size)
        clear hb1
        go_wp2
        go_ret
        exact ⟨ret_int HE.out.symm, HB1⟩
      · have HE : Hid (szV x nm.size n0 xss = -1) := if_neg (by omega)
        have e3 : szSS (x - nm.size - n0) xss = -1 := if_neg e2
        have CC := Lib.hid (HS.out (x - nm.size - n0) (by omega) (by omega))
        rw [e3] at CC
        clear e3 HS
        go_enter Tryd.func9, Tryd.ntmps9
        go_wp2_with (fail)
        refine (szInt64S_ok _ _ _ _ _ m0 e1 (by omega)).mono ?_
        rintro e w1 ⟨rfl, rfl⟩
        go_wp2_with (fail)
        refine CC.out.mono ?_
        rintro e w1 ⟨rfl, hb1⟩
        have HB1 := HB.trans (hb1.mono HB.size)
        clear hb1
        go_wp2
        go_ret
        exact ⟨ret_int HE.out.symm, HB1⟩
    · have HE : Hid (szV x nm.size n0 xss = -1) := if_neg (by omega)
      go_enter Tryd.func9, Tryd.ntmps9
      go_wp2_with (fail)
      refine (szInt64S_no _ _ _ _ _ m0 (by omega) (by omega) (by omega)).mono ?_
      rintro e w1 ⟨rfl, rfl⟩
      go_wp2
      go_ret
      exact ⟨ret_int HE.out.symm, HB⟩
  · have HE : Hid (szV x nm.size n0 xss = -1) := if_neg (by omega)
    go_enter Tryd.func9, Tryd.ntmps9
    go_wp2
    go_ret
    exact ⟨ret_int HE.out.symm, HB⟩

theorem markSaved_any (nm : ByteArray) (a0 : Option Addr) (n0 c0 : Nat) (x0 : List Int) (a1 : Option Addr) (n1 c1 : Nat) (ss : List Spot) (xss : List (List Int)) (x : Int) (l0 l1 l2 : Nat) (w : World)
    (h0 : w.ownsRow l0 2 1 (.slice a0 n0 c0) n0 (intCells x0)) (h1 : OwnDS l1 l2 w a1 n1 c1 ss xss) (i0 : In l0 l1 a0) (hl : l0 ≤ l1 ∧ l1 ≤ l2 ∧ l2 ≤ w.heap.size) (hx : 0 ≤ x) (hx' : x + n0 + tot xss ≤ 4611686018427387904) :
    Calls Tryd.prog 28 #[.agg #[.string nm, .slice a0 n0 c0, .slice a1 n1 c1], .int .i64 x] w fun e w' => e = .returned (.int .i64 (x + n0 + tot xss)) ∧ Chg l0 l2 w w' ∧ Ints w' a0 n0 c0 (marks x n0) ∧ IntSS w' a1 n1 c1 ss (mkTo xss (x + n0) n1) := by
  obtain ⟨hl0, hl1, hl2⟩ := hl
  have HT := Lib.hid (rfl : tot xss = tot xss)
  go_enter Tryd.func28, Tryd.ntmps28
  go_wp2_with (fail)
  have hB0 : Below w.heap.size w _ := (Below.refl w.heap.size w).alloc (Nat.le_refl _) (.cells #[.string nm, .slice a0 n0 c0, .slice a1 n1 c1] 30)
  have HC0 : Chg l0 l2 w _ := Chg.of_below hB0 (Nat.le_refl _)
  refine (markInt64S_any l0 _ n0 x0 x _ (ownsRow_below h0 hB0) hx (by omega)).mono ?_
  rintro e w1 ⟨rfl, ho1, hg1⟩
  have hc1 := Chg.of_grown i0 hg1
  have p2 := hc1.cell (p := ⟨w.heap.size, 2, none⟩) (v := .slice a1 n1 c1) (by go_simp) (.inr (by dsimp only; omega))
  have q0 := (h1.below hB0).chg hc1 (.inr (Nat.le_refl _))
  have D0 : Ints w1 a0 n0 c0 (marks x n0) := Rd.own ho1
  have HC1 : Chg l0 l2 w w1 := HC0.trans ⟨hc1.os, hc1.tape, hc1.output, hc1.size, fun k h1 h2 => hc1.block k h1 (by omega)⟩
  clear hg1 hc1 ho1
  go_wp2_with (fail)
  refine (markDieS_any l1 l2 _ _ _ _ _ (x + n0) _ q0 (by omega) (by omega)).mono ?_
  rintro e w2 ⟨rfl, hc2, ho2⟩
  replace D0 : Ints w2 a0 n0 c0 (marks x n0) := Rd.chg D0 hc2 i0 (.inl (by omega))
  have D1 := ho2.rd
  have HC2 : Chg l0 l2 w w2 := HC1.trans ⟨hc2.os, hc2.tape, hc2.output, hc2.size, fun k h1 h2 => hc2.block k h1 (by omega)⟩
  clear hc2 ho2
  go_wp2
  go_ret
  exact ⟨rfl, HC2, D0, D1⟩

theorem heldSaved_any (nm : ByteArray) (a0 : Option Addr) (n0 c0 : Nat) (a1 : Option Addr) (n1 c1 : Nat) (ss : List Spot) (xss : List (List Int)) (x : Int) (w : World)
    (h0 : Ints w a0 n0 c0 (marks x n0)) (h1 : IntSS w a1 n1 c1 ss (mkTo xss (x + n0) n1)) (hx : 0 ≤ x) (hx' : x + n0 + tot xss ≤ 4611686018427387904) :
    Calls Tryd.prog 29 #[.agg #[.string nm, .slice a0 n0 c0, .slice a1 n1 c1], .int .i64 x] w (Ret w (.int .i64 (x + n0 + tot xss))) := by
  have HB : Below w.heap.size w _ := (Below.refl w.heap.size w).alloc (Nat.le_refl _) (.cells #[.string nm, .slice a0 n0 c0, .slice a1 n1 c1] 30)
  replace h0 := h0.mono HB
  replace h1 := h1.mono HB
  go_enter Tryd.func29, Tryd.ntmps29
  go_wp2_with (fail)
  refine (heldInt64S_any _ _ _ _ _ h0 hx (by omega)).mono ?_
  rintro e w1 ⟨rfl, rfl⟩
  go_wp2_with (fail)
  refine (heldDieS_any _ _ _ _ _ _ _ h1 (by omega) (by omega)).mono ?_
  rintro e w1 ⟨rfl, rfl⟩
  generalize tot xss = t at *
  go_wp2
  go_ret
  exact ⟨rfl, HB⟩

end Go.Proofs.YtnoageckldilnaaDoor
