/- Tiles: WaitsOf and BestDiscard of both. -/
import Derived.Test.YtnagmeeoeilbcaaTilesG
namespace Go.Proofs.Ytnagmeeoeilbcaa
open Go.RowKit Go.Shelf
set_option linter.unusedVariables false

set_option maxRecDepth 100000 in
theorem implWaitsOf_any (a : Option Addr) (n c : Nat) (xs : List Int) (w : World) (h : Ints w a n c xs) :
    Calls Try.prog 10 #[.slice a n c] w (RetI 2 w (waitsRes xs)) := by
  have hl := h.len
  rcases Bool.eq_false_or_eq_true (okHand xs) with e0 | e0
  · obtain ⟨hx, _⟩ := okHand_counts e0
    obtain rfl : n = 9 := by rw [← hl]; exact hx.1
    have HX := Lib.hid hx
    clear hx hl
    by_cases h13 : isum xs ≤ 13
    · have HR : Hid (waitsRes xs = (waitsTo xs 9, true)) := if_pos (by simp [e0, h13])
      have HWl := waitsTo_len xs 9
      go_enter Try.func10, Try.ntmps10
      go_wp2_with (fail)
      refine (IsTileHand_any _ _ _ _ _ h).mono ?_
      rintro e w1 ⟨rfl, hb1⟩; have h1 := h.mono hb1
      go_wp2_with (fail)
      refine (tilesIn_any _ _ _ _ _ h1 (fun i => by have := HX.out.2 i; omega) (by omega)).mono ?_
      rintro e w2 ⟨rfl, rfl⟩
      generalize isum xs = S at *
      go_wp2_with (fail)
      refine (waitsOf_any _ _ _ _ h1 HX.out).mono ?_
      rintro e w2 ⟨a', c', rfl, hb2, ho⟩
      have HB := Lib.hid (hb1.trans (hb2.mono hb1.size))
      have HO := Lib.hid (ownsRow_low ho hb1.size)
      clear hb1 hb2 h h1 ho
      generalize waitsTo xs 9 = WT at *
      go_wp2
      go_ret2
      exact RetI.ok HR.out HB.out HO.out
    · have HR : Hid (waitsRes xs = ([], false)) := if_neg (by simp [e0]; omega)
      go_enter Try.func10, Try.ntmps10
      go_wp2_with (fail)
      refine (IsTileHand_any _ _ _ _ _ h).mono ?_
      rintro e w1 ⟨rfl, hb1⟩; have h1 := h.mono hb1
      go_wp2_with (fail)
      refine (tilesIn_any _ _ _ _ _ h1 (fun i => by have := HX.out.2 i; omega) (by omega)).mono ?_
      rintro e w2 ⟨rfl, rfl⟩
      generalize isum xs = S at *
      clear h h1
      go_wp2
      go_ret2
      exact RetI.nil HR.out hb1
  · have HR : Hid (waitsRes xs = ([], false)) := if_neg (by simp [e0])
    clear hl
    go_enter Try.func10, Try.ntmps10
    go_wp2_with (fail)
    refine (IsTileHand_any _ _ _ _ _ h).mono ?_
    rintro e w1 ⟨rfl, hb1⟩; have h1 := h.mono hb1
    clear h h1
    go_wp2
    go_ret2
    exact RetI.nil HR.out hb1

/-- the best discard, and the most waits, below a kind -/
def bestTo (b0 : Int) (xs : List Int) : Nat → Int × Int
  | 0 => (b0, -1)
  | k + 1 => if xs.getD k 0 = 0 then bestTo b0 xs k else if (bestTo b0 xs k).2 < ((waitsTo (xs.set k (xs.getD k 0 - 1)) 9).length : Int) then ((k : Int), ((waitsTo (xs.set k (xs.getD k 0 - 1)) 9).length : Int)) else bestTo b0 xs k
theorem bestTo_bd (b0 : Int) (hb : -1 ≤ b0 ∧ b0 ≤ 0) (xs : List Int) (k : Nat) : (-1 ≤ (bestTo b0 xs k).1 ∧ (bestTo b0 xs k).1 ≤ k) ∧ (-1 ≤ (bestTo b0 xs k).2 ∧ (bestTo b0 xs k).2 ≤ 9) := by
  induction k with
  | zero => simp [bestTo]; omega
  | succ k ih =>
    have := waitsTo_len (xs.set k (xs.getD k 0 - 1)) 9
    simp only [bestTo]
    split
    · omega
    · split
      · dsimp only; omega
      · omega
theorem bestTo_same (b b' : Int) (xs : List Int) (k : Nat) : (bestTo b xs k).2 = (bestTo b' xs k).2 ∧ (((∃ j, j < k ∧ xs.getD j 0 ≠ 0) → bestTo b xs k = bestTo b' xs k) ∧ ((∀ j, j < k → xs.getD j 0 = 0) → bestTo b xs k = (b, -1) ∧ bestTo b' xs k = (b', -1))) := by
  induction k with
  | zero => exact ⟨rfl, fun ⟨j, hj, _⟩ => by omega, fun _ => ⟨rfl, rfl⟩⟩
  | succ k ih =>
    obtain ⟨h1, h2, h3⟩ := ih
    by_cases hz : xs.getD k 0 = 0
    · simp only [bestTo, hz, if_true]
      refine ⟨h1, fun ⟨j, hj, hn⟩ => h2 ⟨j, ?_, hn⟩, fun h => h3 (fun j hj => h j (by omega))⟩
      rcases Nat.lt_or_ge j k with q | q
      · exact q
      · obtain rfl : j = k := by omega
        exact absurd hz hn
    · simp only [bestTo, hz, if_false]
      rw [h1]
      refine ⟨?_, fun _ => ?_, fun h => absurd (h k (by omega)) hz⟩
      · split <;> simp_all
      · split
        · rfl
        · rename_i hlt
          by_cases he : ∃ j, j < k ∧ xs.getD j 0 ≠ 0
          · exact h2 he
          · have := h3 (fun j hj => by
              by_cases q : xs.getD j 0 = 0
              · exact q
              · exact absurd ⟨j, hj, q⟩ he)
            rw [this.2] at hlt
            dsimp only at hlt
            omega
theorem isum_zero (xs : List Int) (h : ∀ j, j < xs.length → xs.getD j 0 = 0) : isum xs = 0 := by
  have : ∀ k, k ≤ xs.length → isum (xs.take k) = 0 := by
    intro k
    induction k with
    | zero => intro _; simp [isum]
    | succ k ih => intro hk; rw [isum_take_succ xs k (by omega), ih (by omega), h k (by omega)]; rfl
  have := this xs.length (Nat.le_refl _)
  rwa [List.take_length] at this
theorem bestTo_full (b b' : Int) (xs : List Int) (hl : xs.length = 9) (hs : isum xs ≠ 0) : bestTo b xs 9 = bestTo b' xs 9 := by
  refine (bestTo_same b b' xs 9).2.1 ?_
  by_cases he : ∃ j, j < 9 ∧ xs.getD j 0 ≠ 0
  · exact he
  · exact absurd (isum_zero xs (fun j hj => by
      by_cases q : xs.getD j 0 = 0
      · exact q
      · exact absurd ⟨j, by omega, q⟩ he)) hs
/-- what BestDiscard tells -/
def discardRes (xs : List Int) : Int × Int × Bool := if okHand xs && decide (isum xs % 3 = 2) then ((bestTo 0 xs 9).1, (bestTo 0 xs 9).2, true) else (0, 0, false)

set_option maxHeartbeats 4000000 in
set_option maxRecDepth 100000 in
theorem implBestDiscard_any (a : Option Addr) (n c : Nat) (xs : List Int) (w : World) (h : Ints w a n c xs) :
    Calls Try.prog 9 #[.slice a n c] w (Ret w (.tuple #[.int .i64 (discardRes xs).1, .int .i64 (discardRes xs).2.1, .bool (discardRes xs).2.2])) := by
  have hl := h.len
  rcases Bool.eq_false_or_eq_true (okHand xs) with e0 | e0
  · obtain ⟨hx, _⟩ := okHand_counts e0
    obtain rfl : n = 9 := by rw [← hl]; exact hx.1
    have HX := Lib.hid hx
    have hsb := isum_bd 4 xs hx.2 9 (by rw [hx.1]; omega)
    rw [List.take_of_length_le (by rw [hx.1]; omega)] at hsb
    have HF := Lib.hid (fun hs => bestTo_full 0 0 xs hx.1 hs)
    have HD : Hid (discardRes xs = if okHand xs && decide (isum xs % 3 = 2) then ((bestTo 0 xs 9).1, (bestTo 0 xs 9).2, true) else (0, 0, false)) := rfl
    have HSUM := Lib.hid (fun W (h1 : Ints W a 9 c xs) => tilesIn_any a 9 c xs W h1 (fun i => by have := hx.2 i; omega) (by omega))
    have HH := Lib.hid h
    obtain ⟨hc, hb, hcell⟩ := h.at
    clear hx hl
    obtain ⟨i0, hi, hz0, hz1, hz2⟩ := info_parts infoI64
    generalize isum xs = S at *
    by_cases h3 : S % 3 = 2
    · have hm1 : (S % 3 != 2) = false := by simp [h3]
      have H3 := Lib.hid h3
      clear h3
      go_enter Try.func9, Try.ntmps9
      go_wp2_with (fail)
      refine (IsTileHand_any _ _ _ _ _ h).mono ?_
      rintro e w1 ⟨rfl, hb1⟩; have h1 := h.mono hb1
      have HB1 := Lib.hid hb1
      have HHH := Lib.hid h1
      clear h h1 hb1
      go_wp2_with (fail)
      refine (HSUM.out _ HHH.out).mono ?_
      rintro e w2 ⟨rfl, rfl⟩
      go_wp2_with (fail)
      go_loopw [5, 6, 21] (fun bb mm i wr => ∃ k : Nat, k ≤ 9 ∧ i = .int .i64 k ∧ bb = .int .i64 (bestTo 0 xs k).1 ∧ mm = .int .i64 (bestTo 0 xs k).2 ∧ Below w.heap.size w wr) (fun _ _ i _ => 9 - (intOf i).toNat)
      case atStart => exact ⟨0, by omega, rfl, rfl, rfl, HB1.out⟩
      case round =>
        obtain ⟨k, hk, rfl, rfl, rfl, hbel⟩ := hrel
        have hbd := bestTo_bd 0 (by omega) xs k
        have HB := Lib.hid hbel
        by_cases hlt : k < 9
        · obtain ⟨b, off, rfl, hlb, hxx⟩ := hcell k hlt
          have r0 := cell_on hbel (hxx k hlt)
          have hy := HX.out.2 k
          have HHw := Lib.hid (Ints.mono HH.out hbel)
          have HBT : Hid (bestTo 0 xs (k + 1) = if xs.getD k 0 = 0 then bestTo 0 xs k else if (bestTo 0 xs k).2 < ((waitsTo (xs.set k (xs.getD k 0 - 1)) 9).length : Int) then ((k : Int), ((waitsTo (xs.set k (xs.getD k 0 - 1)) 9).length : Int)) else bestTo 0 xs k) := rfl
          clear hcell hxx hbel
          generalize hY : xs.getD k 0 = y at *
          have HY := Lib.hid hY
          clear hY
          generalize bestTo 0 xs k = BT at *
          obtain ⟨bt1, bt2⟩ := BT
          simp only at hbd
          by_cases hy0 : y = 0
          · have hy1 : (y == 0) = true := by simp [hy0]
            have HY0 := Lib.hid hy0
            clear hy0
            have HL : Hid (bestTo 0 xs (k + 1) = (bt1, bt2)) := by
              show bestTo 0 xs (k + 1) = _
              rw [HBT.out, if_pos HY0.out]
            go_wp2_with fail
            go_roundw
            case rel => exact ⟨k + 1, by omega, by go_num, by rw [HL.out], by rw [HL.out], HB.out⟩
            case measure => simp [intOf]; omega
          · have hy1 : (y == 0) = false := by simp [hy0]
            have hWl := waitsTo_len (xs.set k (y - 1)) 9
            go_wp2_with fail
            refine (changedBy_any _ _ _ k (-1) _ HHw.out HX.out hlt (by omega)).mono ?_
            rintro e w1 ⟨a1, cc1, rfl, hb1, ho1⟩
            have HB1 := Lib.hid (HB.out.trans (hb1.mono HB.out.size))
            rw [HY.out, show y + -1 = y - 1 from by omega] at ho1
            go_wp2_with fail
            refine (waitsOf_any _ _ _ _ (Rd.own ho1) (HX.out.set k (y - 1) (by omega) (by omega))).mono ?_
            rintro e w2 ⟨a2, cc2, rfl, hb2, ho2⟩
            have HB2 := Lib.hid (HB1.out.trans (hb2.mono HB1.out.size))
            clear hb1 hb2 ho1 ho2
            generalize hWT : (waitsTo (xs.set k (y - 1)) 9).length = WL at *
            have HWT := Lib.hid hWT
            clear hWT
            by_cases hgt : bt2 < (WL : Int)
            · skip
              have HL : Hid (bestTo 0 xs (k + 1) = ((k : Int), (WL : Int))) := by
                show bestTo 0 xs (k + 1) = _
                rw [HBT.out, if_neg (by omega), if_pos hgt]
              go_wp2_with fail
              go_roundw
              case rel => exact ⟨k + 1, by omega, by go_num, by rw [HL.out], by rw [HL.out], HB2.out⟩
              case measure => simp [intOf]; omega
            · skip
              have HL : Hid (bestTo 0 xs (k + 1) = (bt1, bt2)) := by
                show bestTo 0 xs (k + 1) = _
                rw [HBT.out, if_neg (by omega), if_neg hgt]
              go_wp2_with fail
              go_roundw
              case rel => exact ⟨k + 1, by omega, by go_num, by rw [HL.out], by rw [HL.out], HB2.out⟩
              case measure => simp [intOf]; omega
        · obtain rfl : k = 9 := by omega
          clear hcell hbel
          have HE : Hid (bestTo 0 xs 9 = bestTo 0 xs 9) := by first | exact rfl | exact HF.out (by have := H3.out; omega)
          generalize bestTo 0 xs 9 = BT at *
          go_wp2_with fail
          go_ret3
          exact ⟨ret_iib (by first | rw [HD.out, HE.out, if_pos (by simp [e0, H3.out])] | rw [HD.out, if_pos (by simp [e0, H3.out])]), HB.out⟩
    · have hm1 : (S % 3 != 2) = true := by simp [h3]
      go_enter Try.func9, Try.ntmps9
      go_wp2_with (fail)
      refine (IsTileHand_any _ _ _ _ _ h).mono ?_
      rintro e w1 ⟨rfl, hb1⟩; have h1 := h.mono hb1
      have HB1 := Lib.hid hb1
      have HHH := Lib.hid h1
      clear h h1 hb1
      go_wp2_with (fail)
      refine (HSUM.out _ HHH.out).mono ?_
      rintro e w2 ⟨rfl, rfl⟩
      go_wp2_with (fail)
      go_ret3
      exact ⟨ret_iib (by rw [HD.out, if_neg (by simp [h3])]), HB1.out⟩
  · have HD : Hid (discardRes xs = if okHand xs && decide (isum xs % 3 = 2) then ((bestTo 0 xs 9).1, (bestTo 0 xs 9).2, true) else (0, 0, false)) := rfl
    clear hl
    go_enter Try.func9, Try.ntmps9
    go_wp2_with (fail)
    refine (IsTileHand_any _ _ _ _ _ h).mono ?_
    rintro e w1 ⟨rfl, hb1⟩; have h1 := h.mono hb1
    clear h h1
    go_wp2
    go_ret3
    exact ⟨ret_iib (by rw [HD.out, if_neg (by simp [e0])]), hb1⟩

end Go.Proofs.Ytnagmeeoeilbcaa
