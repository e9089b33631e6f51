/- Tiles: full hands, of both. -/
import Derived.Test.YtnagmeeoeilbcaaTilesE
import Derived.Test.YtnagmeeoeilbcaaTilesB
import Derived.Test.YtnagmeeoeilbcaaTilesC
namespace Go.Proofs.Ytnagmeeoeilbcaa
open Go.RowKit Go.Shelf
set_option linter.unusedVariables false

set_option maxHeartbeats 4000000 in
set_option maxRecDepth 100000 in
theorem fullWays_any (a : Option Addr) (c : Nat) (xs : List Int) (w : World) (h : Ints w a 9 c xs) (hx : Counts xs) :
    Calls Try.prog 21 #[.slice a 9 c] w (Ret w (.int .i64 (fullTo xs 9))) := by
  obtain ⟨hc, hb, hcell⟩ := h.at
  have HX := Lib.hid hx
  have HH := Lib.hid h
  clear h hx
  go_enter Try.func21, Try.ntmps21
  go_wp2_with fail
  go_loopw [3, 9] (fun all i wr => ∃ k : Nat, k ≤ 9 ∧ i = .int .i64 k ∧ all = .int .i64 (fullTo xs k) ∧ Below w.heap.size w wr) (fun _ i _ => 9 - (intOf i).toNat)
  case atStart => exact ⟨0, by omega, rfl, rfl, Below.refl _ _⟩
  case round =>
    obtain ⟨k, hk, rfl, rfl, hbel⟩ := hrel
    have hbd := fullTo_bd xs k
    have HB := Lib.hid hbel
    by_cases hlt : k < 9
    · obtain ⟨b, off, rfl, hlb, hxx⟩ := hcell k hlt
      have r0 := cell_on hbel (hxx k hlt)
      have hy := HX.out.2 k
      have HHw : Hid (Ints wr (some ⟨b, off, none⟩) 9 c xs) := HH.out.mono hbel
      have HF : Hid (fullTo xs (k + 1) = fullTo xs k + (if 2 ≤ xs.getD k 0 then gwA 9 (xs.set k (xs.getD k 0 - 2)) 0 else 0)) := rfl
      clear hcell hxx hbel
      generalize hY : xs.getD k 0 = y at *
      have HY := Lib.hid hY
      clear hY
      generalize fullTo xs k = F at *
      by_cases h2 : 2 ≤ y
      · skip
        go_wp2_with fail
        refine (cloneI64_any _ _ _ _ _ HHw.out (by omega)).mono ?_
        rintro e w1 ⟨a1, cc1, rfl, hb1, ho1⟩
        obtain ⟨g, rfl⟩ := own_some ho1 (by omega)
        have hgb := (own_block ho1).1
        have HB1 := Lib.hid (HB.out.trans (hb1.mono HB.out.size))
        have HZ := Lib.hid HB.out.size
        have c0 := own_get ho1 k (by omega)
        have ff := fun j => World.ownsRow.frozenAt ho1 j
        have HO := Lib.hid ho1
        rw [HY.out] at c0
        clear ho1 hb1 r0
        go_wp2_with fail
        refine (groupWays_any 9 0 (by omega) (xs.set k (y - 2)) (HX.out.set k (y - 2) (by omega) (by omega)) _ _ _ (Rd.own (own_put HO.out k (y - 2)))).mono ?_
        rintro e w2 ⟨rfl, hb2⟩
        have G1 := gwA_bd 9 (xs.set k (y - 2)) 0
        have E512 : ((2 ^ 9 : Nat) : Int) = 512 := by decide
        rw [E512] at G1
        have HB2 := Lib.hid ((HB1.out.setCell (p := ⟨g, k, none⟩) (by have := HZ.out; simp only; omega) (.int .i64 (y - 2))).trans (hb2.mono (by have := HB1.out.size; simpa using this)))
        have HQ : Hid (fullTo xs (k + 1) = F + gwA 9 (xs.set k (y - 2)) 0) := by
          show fullTo xs (k + 1) = _
          rw [HF.out, if_pos (by omega)]
        clear hb2 c0 ff E512
        generalize gwA 9 (xs.set k (y - 2)) 0 = GW at *
        go_wp2_with fail
        go_roundw
        case rel => exact ⟨k + 1, by omega, by go_num, by rw [HQ.out], HB2.out⟩
        case measure => simp [intOf]; omega
      · have HQ : Hid (fullTo xs (k + 1) = F) := by
          show fullTo xs (k + 1) = _
          rw [HF.out, if_neg (by omega)]; simp
        go_wp2_with fail
        go_roundw
        case rel => exact ⟨k + 1, by omega, by go_num, by rw [HQ.out], HB.out⟩
        case measure => simp [intOf]; omega
    · obtain rfl : k = 9 := by omega
      clear hcell hbel
      generalize hF : fullTo xs 9 = F at *
      have HF := Lib.hid hF
      clear hF
      go_wp2_with fail
      go_ret
      exact ⟨rfl, HB.out⟩

theorem implFullWays_any (a : Option Addr) (n c : Nat) (xs : List Int) (w : World) (h : Ints w a n c xs) :
    Calls Try.prog 6 #[.slice a n c] w (Ret w (.tuple #[.int .i64 (fullRes xs).1, .bool (fullRes xs).2])) := by
  have HD : Hid (fullRes xs = if okHand xs then (fullTo xs 9, true) else (0, false)) := rfl
  have hl := h.len
  rcases Bool.eq_false_or_eq_true (okHand xs) with e0 | e0
  · obtain ⟨hx, _⟩ := okHand_counts e0
    obtain rfl : n = 9 := by rw [← hl]; exact hx.1
    have HX := Lib.hid hx
    clear hx hl
    go_enter Try.func6, Try.ntmps6
    go_wp2_with (fail)
    refine (IsTileHand_any _ _ _ _ _ h).mono ?_
    rintro e w1 ⟨rfl, hb1⟩; have h1 := h.mono hb1
    go_wp2_with (fail)
    refine (fullWays_any _ _ _ _ h1 HX.out).mono ?_
    rintro e w2 ⟨rfl, hb2⟩
    have HB := Lib.hid (hb1.trans (hb2.mono hb1.size))
    clear hb1 hb2 h h1
    generalize fullTo xs 9 = F at *
    go_wp2
    go_ret2
    exact ⟨ret_ib (by rw [HD.out]; simp [e0]), HB.out⟩
  · clear hl
    go_enter Try.func6, Try.ntmps6
    go_wp2_with (fail)
    refine (IsTileHand_any _ _ _ _ _ h).mono ?_
    rintro e w1 ⟨rfl, hb1⟩; have h1 := h.mono hb1
    clear h h1
    go_wp2
    go_ret2
    exact ⟨ret_ib (by rw [HD.out]; simp [e0]), hb1⟩

end Go.Proofs.Ytnagmeeoeilbcaa
