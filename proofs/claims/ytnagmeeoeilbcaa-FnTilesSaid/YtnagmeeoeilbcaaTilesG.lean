/- Tiles: waits, of both. -/
import Derived.Test.YtnagmeeoeilbcaaTilesF
import Derived.Test.YtnagmeeoeilbcaaChg
namespace Go.Proofs.Ytnagmeeoeilbcaa
open Go.RowKit Go.Shelf
set_option linter.unusedVariables false

/-- the kinds that make a hand full, below a kind -/
def waitsTo (xs : List Int) : Nat → List Int
  | 0 => []
  | k + 1 => waitsTo xs k ++ (if xs.getD k 0 < 4 ∧ 0 < fullTo (xs.set k (xs.getD k 0 + 1)) 9 then [(k : Int)] else [])
theorem waitsTo_len (xs : List Int) (k : Nat) : (waitsTo xs k).length ≤ k := by
  induction k with
  | zero => simp [waitsTo]
  | succ k ih => simp only [waitsTo, List.length_append]; split <;> simp <;> omega
/-- what WaitsOf tells -/
def waitsRes (xs : List Int) : List Int × Bool := if okHand xs && decide (isum xs ≤ 13) then (waitsTo xs 9, true) else ([], false)
theorem waitsRes_len (xs : List Int) : (waitsRes xs).1.length ≤ 1048576 := by
  unfold waitsRes
  split
  · have := waitsTo_len xs 9; dsimp only; omega
  · simp

theorem own_set_other {w : World} {B : Nat} {e : TypeId} {sz : Nat} {a : Option Addr} {n c : Nat} {cs : List Value} {p : Addr} (h : w.ownsRow B e sz (.slice a n c) n cs) (hp : ∀ x, a = some x → x.block ≠ p.block) (v : Value) : (w.setCell p v).ownsRow B e sz (.slice a n c) n cs := by
  obtain ⟨h1, h2⟩ := h
  refine ⟨h1, ?_⟩
  rcases h2 with h2 | ⟨g, cap, cur, e1, h3, h4, h5⟩
  · exact .inl h2
  · have e2 := e1
    simp only [Value.slice.injEq] at e1
    refine .inr ⟨g, cap, cur, e2, h3, ?_, h5⟩
    rw [Below.heap_setCell w p v g (hp _ e1.1)]
    exact h4

theorem changedBy_any (a : Option Addr) (c : Nat) (xs : List Int) (k : Nat) (d : Int) (w : World) (h : Ints w a 9 c xs) (hx : Counts xs) (hk : k < 9) (hd : -1 ≤ d ∧ d ≤ 1) :
    Calls Try.prog 28 #[.slice a 9 c, .int .i64 k, .int .i64 d] w fun e w' => ∃ a' c', e = .returned (.slice a' 9 c') ∧ Below w.heap.size w w' ∧ w'.ownsRow w.heap.size 2 1 (.slice a' 9 c') 9 (intCells (xs.set k (xs.getD k 0 + d))) := by
  have hy := hx.2 k
  clear hx
  go_enter Try.func28, Try.ntmps28
  go_wp2_with fail
  refine (cloneI64_any _ _ _ _ _ h (by omega)).mono ?_
  rintro e w1 ⟨a1, cc1, rfl, hb1, ho1⟩
  obtain ⟨g, rfl⟩ := own_some ho1 (by omega)
  have hgb := (own_block ho1).1
  have c0 := own_get ho1 k (by omega)
  have ff := fun j => World.ownsRow.frozenAt ho1 j
  have HO := Lib.hid (own_put ho1 k (xs.getD k 0 + d))
  have HB := Lib.hid (hb1.setCell (p := ⟨g, k, none⟩) hgb (.int .i64 (xs.getD k 0 + d)))
  clear ho1 hb1 h
  generalize hY : xs.getD k 0 = y at *
  have HY := Lib.hid hY
  clear hY
  go_wp2_with fail
  go_ret
  have e := HY.out
  subst e
  exact ⟨_, _, rfl, HB.out, HO.out⟩

set_option maxHeartbeats 4000000 in
set_option maxRecDepth 100000 in
theorem waitsOf_any (a : Option Addr) (c : Nat) (xs : List Int) (w : World) (h : Ints w a 9 c xs) (hx : Counts xs) :
    Calls Try.prog 27 #[.slice a 9 c] w fun e w' => ∃ a' c', e = .returned (.slice a' (waitsTo xs 9).length c') ∧ Below w.heap.size w w' ∧ w'.ownsRow w.heap.size 2 1 (.slice a' (waitsTo xs 9).length c') (waitsTo xs 9).length (intCells (waitsTo xs 9)) := by
  obtain ⟨hc, hb, hcell⟩ := h.at
  have HX := Lib.hid hx
  have HH := Lib.hid h
  clear h hx
  obtain ⟨i0, hi, hz0, hz1, hz2⟩ := info_parts infoI64
  go_enter Try.func27, Try.ntmps27
  go_wp2_with fail
  go_loopw [3, 9] (fun v i wr => ∃ k : Nat, k ≤ 9 ∧ i = .int .i64 k ∧ Below w.heap.size w wr ∧ ∃ va cc, v = .slice va (waitsTo xs k).length cc ∧ wr.ownsRow w.heap.size 2 1 (.slice va (waitsTo xs k).length cc) (waitsTo xs k).length (intCells (waitsTo xs k))) (fun _ i _ => 9 - (intOf i).toNat)
  case atStart => exact ⟨0, by omega, rfl, (Below.refl _ _).alloc (Nat.le_refl _) _, _, _, rfl, World.ownsRow_made w #[] 0 (Nat.le_refl _) (by unfold maxLen; omega) rfl⟩
  case round =>
    obtain ⟨k, hk, rfl, hbel, va, cc, rfl, hown⟩ := hrel
    have hwl := waitsTo_len xs k
    have HB := Lib.hid hbel
    by_cases hlt : k < 9
    · obtain ⟨b, off, ha, hlb, hxx⟩ := hcell k hlt
      have r0 := cell_on hbel (hxx k hlt)
      have hy := HX.out.2 k
      have HHw := Lib.hid (Ints.mono HH.out hbel)
      subst ha
      have hcb := own_in hown
      clear hcell hxx hbel
      generalize hY : xs.getD k 0 = y at *
      have HY := Lib.hid hY
      clear hY
      by_cases h4 : y < 4
      · 
        have hF0 := fullTo_bd (xs.set k (y + 1)) 9
        go_wp2_with fail
        refine (changedBy_any _ _ _ k 1 _ HHw.out HX.out hlt (by omega)).mono ?_
        rintro e w1 ⟨a1, cc1, rfl, hb1, ho1⟩
        have hown := ownsRow_below hown hb1
        have HB1 := Lib.hid (HB.out.trans (hb1.mono HB.out.size))
        rw [HY.out] at ho1
        go_wp2_with fail
        refine (fullWays_any _ _ _ _ (Rd.own ho1) (HX.out.set k (y + 1) (by omega) (by omega))).mono ?_
        rintro e w2 ⟨rfl, hb2⟩
        have hown := ownsRow_below hown hb2
        have HB2 := Lib.hid (HB1.out.trans (hb2.mono HB1.out.size))
        clear hb1 hb2 ho1
        generalize hFF : fullTo (xs.set k (y + 1)) 9 = FW at *
        have HFF := Lib.hid hFF
        clear hFF
        by_cases hpos : 0 < FW
        · skip
          go_wp2_with (first | (at_builtin; go_must (refine wpList_append_own _ rfl _ _ 24 rfl w.heap.size 2 i0 (.int .i64 0) 1 8 Try.underlying24 hi hz0 hz1 hz2 rfl (by decide) _ _ _ rfl (hown.alloc _) ⟨w2.heap.size, 0, none⟩ 1 1 [.int .i64 k] rfl rfl (new1 _ _ _) (one1 rfl) (by unfold maxLen; omega) (by omega) (by have := HB2.out.size; simp; omega) ?_; intro v' w5 hown1 hg1 _)))
          have HB5 := below_app HB2.out HB2.out.size hg1 hown
          obtain ⟨a', c', rfl⟩ := own_form hown1
          have HO5 : Hid (w5.ownsRow w.heap.size 2 1 (.slice a' ((waitsTo xs k).length + 1) c') ((waitsTo xs k).length + 1) (intCells (waitsTo xs k ++ [(k : Int)]))) := by
            show World.ownsRow _ _ _ _ _ _ _
            rw [intCells_snoc]; exact hown1
          have HL : Hid (waitsTo xs (k + 1) = waitsTo xs k ++ [(k : Int)]) := by
            show waitsTo xs (k + 1) = _
            rw [waitsTo, if_pos ⟨by rw [HY.out]; omega, by rw [HY.out, HFF.out]; omega⟩]
          clear hown1 hg1 hown
          go_wp2_with fail
          go_roundw
          case rel => exact ⟨k + 1, by omega, by go_num, HB5, a', c', by rw [HL.out]; simp, by rw [HL.out]; simpa using HO5.out⟩
          case measure => simp [intOf]; omega
        · skip
          have HL : Hid (waitsTo xs (k + 1) = waitsTo xs k) := by
            show waitsTo xs (k + 1) = _
            rw [waitsTo, if_neg (by rw [HY.out, HFF.out]; omega)]; simp
          go_wp2_with fail
          go_roundw
          case rel => exact ⟨k + 1, by omega, by go_num, HB2.out, va, cc, by rw [HL.out], by rw [HL.out]; exact hown⟩
          case measure => simp [intOf]; omega
      · have hy4 : (y == 4) = true := by simp; omega
        have HL : Hid (waitsTo xs (k + 1) = waitsTo xs k) := by
          show waitsTo xs (k + 1) = _
          rw [waitsTo, if_neg (by rw [HY.out]; omega)]; simp
        go_wp2_with fail
        go_roundw
        case rel => exact ⟨k + 1, by omega, by go_num, HB.out, va, cc, by rw [HL.out], by rw [HL.out]; exact hown⟩
        case measure => simp [intOf]; omega
    · obtain rfl : k = 9 := by omega
      clear hcell hbel
      have HO := Lib.hid hown
      clear hown
      generalize hWT : waitsTo xs 9 = WT at *
      have HWT := Lib.hid hWT
      clear hWT
      go_wp2_with fail
      go_ret
      have e := HWT.out
      subst e
      exact ⟨_, _, rfl, HB.out, HO.out⟩

end Go.Proofs.Ytnagmeeoeilbcaa
