/- Tiles: full hands, of both. -/
import Derived.Test.YtnlcgkfdpaffaaaTilesE
import Derived.Test.YtnlcgkfdpaffaaaTilesB
import Derived.Test.YtnlcgkfdpaffaaaTilesC
namespace Go.Proofs.Ytnlcgkfdpaffaaa
open Go.RowKit Go.Shelf
set_option linter.unusedVariables false

set_option maxHeartbeats 4000000 in
set_option maxRecDepth 100000 in
theorem fullWays_any (a : Option Addr) (c : Nat) (xs : List Int) (w : World) (h : Ints w a 9 c xs) (hx : Counts xs) :
    Calls Try.prog 47 #[.slice a 9 c] w (Ret w (.int .i64 (fullTo xs 9))) := by
  obtain ⟨hc, hb, hcell⟩ := h.at
  have HX := Lib.hid hx
  have HH := Lib.hid h
  clear h hx
  go_enter Try.func47, Try.ntmps47
  go_wp2_with fail
  go_loopw [3, 9] (fun all i wr => ∃ k : Nat, k ≤ 9 ∧ i = .int .i64 k ∧ all = .int .i64 (fullTo xs k) ∧ Below w.heap.size w wr) (fun _ i _ => 9 - (intOf i).toNat)
  case atStart => exact ⟨0, by omega, rfl, rfl, Below.refl _ _⟩
  case round =>
    obtain ⟨k, hk, rfl, rfl, hbel⟩ := hrel
    have hbd := fullTo_bd xs k
    have HB := Lib.hid hbel
    by_cases hlt : k < 9
    · obtain ⟨b, off, rfl, hlb, hxx⟩ := hcell k hlt
      have r0 := cell_on hbel (hxx k hlt)
      have hy := HX.out.2 k
      have HHw : Hid (Ints wr (some ⟨b, off, none⟩) 9 c xs) := HH.out.mono hbel
      have HF : Hid (fullTo xs (k + 1) = fullTo xs k + (if 2 ≤ xs.getD k 0 then gwA 9 (xs.set k (xs.getD k 0 - 2)) 0 else 0)) := rfl
      clear hcell hxx hbel
      generalize hY : xs.getD k 0 = y at *
      have HY := Lib.hid hY
      clear hY
      generalize fullTo xs k = F at *
      by_cases h2 : 2 ≤ y
      · skip
        go_wp2_with fail
        refine (cloneI64_any _ _ _ _ _ HHw.out (by omega)).mono ?_
        rintro e w1 ⟨a1, cc1, rfl, hb1, ho1⟩
        obtain ⟨g, rfl⟩ := own_some ho1 (by omega)
        have hgb := (own_block ho1).1
        have HB1 := Lib.hid (HB.out.trans (hb1.mono HB.out.size))
        have HZ := Lib.hid HB.out.size
        have c0 := own_get ho1 k (by omega)
        have ff := fun j => World.ownsRow.frozenAt ho1 j
        have HO := Lib.hid ho1
        rw [HY.out] at c0
        clear ho1 hb1 r0
        go_wp2_with fail
        refine (groupWays_any 9 0 (by omega) (xs.set k (y - 2)) (HX.out.set k (y - 2) (by omega) (by omega)) _ _ _ (Rd.own (own_put HO.out k (y - 2)))).mono ?_
        rintro e w2 ⟨rfl, hb2⟩
        have G1 := gwA_bd 9 (xs.set k (y - 2)) 0
        have E512 : ((2 ^ 9 : Nat) : Int) = 512 := by decide
        rw [E512] at G1
        have HB2 := Lib.hid ((HB1.out.setCell (p := ⟨g, k, none⟩) (by have := HZ.out; simp only; omega) (.int .i64 (y - 2))).trans (hb2.mono (by have := HB1.out.size; simpa using this)))
        have HQ : Hid (fullTo xs (k + 1) = F + gwA 9 (xs.set k (y - 2)) 0) := by
          show fullTo xs (k + 1) = _
          rw [HF.out, if_pos (by omega)]
        clear hb2 c0 ff E512
        generalize gwA 9 (xs.set k (y - 2)) 0 = GW at *
        go_wp2_with fail
        go_roundw
        case rel => exact ⟨k + 1, by omega, by go_num, by rw [HQ.out], HB2.out⟩
        case measure => simp [intOf]; omega
      · have HQ : Hid (fullTo xs (k + 1) = F) := by
          show fullTo xs (k + 1) = _
          rw [HF.out, if_neg (by omega)]; simp
        go_wp2_with fail
        go_roundw
        case rel => exact ⟨k + 1, by omega, by go_num, by rw [HQ.out], HB.out⟩
        case measure => simp [intOf]; omega
    · obtain rfl : k = 9 := by omega
      clear hcell hbel
      generalize hF : fullTo xs 9 = F at *
      have HF := Lib.hid hF
      clear hF
      go_wp2_with fail
      go_ret
      exact ⟨rfl, HB.out⟩

set_option maxHeartbeats 4000000 in
set_option maxRecDepth 100000 in
theorem l06Full_any (a : Option Addr) (c : Nat) (xs : List Int) (w : World) (h : Ints w a 9 c xs) (hx : Counts xs) :
    Calls Try.prog 63 #[.slice a 9 c] w (Ret w (.int .i64 (fullTo xs 9))) := by
  obtain ⟨hc, hb, hcell⟩ := h.at
  have HX := Lib.hid hx
  have HH := Lib.hid h
  have HSum := Lib.hid (l06Sum_any _ _ _ _ w h (fun i => by have := hx.2 i; omega) (by omega))
  have hsb := isum_bd 4 xs hx.2 9 (by rw [hx.1]; omega)
  rw [List.take_of_length_le (by rw [hx.1]; omega)] at hsb
  have HM := Lib.hid (fun hm => fullTo_mod xs hx.1 hm 9 (by omega))
  clear h hx
  generalize hS : isum xs = S at *
  have HS := Lib.hid hS
  clear hS
  by_cases hm : S % 3 = 2
  · have hm1 : (S % 3 != 2) = false := by simp [hm]
    have HMM := Lib.hid hm
    clear hm
    go_enter Try.func63, Try.ntmps63
    go_wp2_with fail
    refine HSum.out.mono ?_
    rintro e w' ⟨rfl, rfl⟩
    go_wp2_with fail
    go_loopw [3, 4] (fun all i wr => ∃ k : Nat, k ≤ 9 ∧ i = .int .i64 k ∧ all = .int .i64 (fullTo xs k) ∧ Below w.heap.size w wr) (fun _ i _ => 9 - (intOf i).toNat)
    case atStart => exact ⟨0, by omega, rfl, rfl, Below.refl _ _⟩
    case round =>
      obtain ⟨k, hk, rfl, rfl, hbel⟩ := hrel
      have hbd := fullTo_bd xs k
      have HB := Lib.hid hbel
      by_cases hlt : k < 9
      · obtain ⟨b, off, rfl, hlb, hxx⟩ := hcell k hlt
        have r0 := cell_on hbel (hxx k hlt)
        have hy := HX.out.2 k
        have HHw : Hid (Ints wr (some ⟨b, off, none⟩) 9 c xs) := HH.out.mono hbel
        have HF : Hid (fullTo xs (k + 1) = fullTo xs k + (if 2 ≤ xs.getD k 0 then gwA 9 (xs.set k (xs.getD k 0 - 2)) 0 else 0)) := rfl
        clear hcell hxx hbel
        generalize hY : xs.getD k 0 = y at *
        have HY := Lib.hid hY
        clear hY
        generalize fullTo xs k = F at *
        by_cases h2 : 2 ≤ y
        · skip
          have hN := Lib.hid HHw.out.news
          have hLL : Hid ((intCells xs).length = 9 * 1) := HHw.out.1
          obtain ⟨i0, hi, hz0, hz1, hz2⟩ := info_parts infoI64
          go_wp2_with (first | (at_builtin; go_must (refine wpList_append_own _ rfl _ _ 24 rfl wr.heap.size 2 i0 (.int .i64 0) 1 8 Try.underlying24 hi hz0 hz1 hz2 rfl (by decide) _ _ _ rfl (World.ownsRow_made wr #[] 0 (Nat.le_refl _) (Nat.zero_le _) (by simp)) ⟨b, off, none⟩ 9 c (intCells xs) rfl hLL.out (fun j u hu => cell_on ((Below.refl _ _).alloc (Nat.le_refl _) _) (hN.out j u hu)) (intCells_one xs) (by unfold maxLen; omega) (by omega) (by simp) ?_); intro v' w1 hown1 hg1 _; have hb1 : Below wr.heap.size wr w1 := below_grown ((Below.refl wr.heap.size wr).alloc (Nat.le_refl _) _) (by simp) hg1 (World.ownsRow_made (e := 2) (size := 1) wr #[] 0 (Nat.le_refl _) (Nat.zero_le _) (by simp)); have ho1 := hown1; simp only [Nat.zero_add, List.nil_append] at ho1; clear hown1 hg1 hi hz0 hz1 hz2; obtain ⟨a1, cc1, rfl⟩ := own_form ho1; obtain ⟨g, rfl⟩ := own_some ho1 (by omega); have hgb := (own_block ho1).1; have HB1 := Lib.hid (HB.out.trans (hb1.mono HB.out.size)); have HZ := Lib.hid HB.out.size; have ff := fun j => World.ownsRow.frozenAt ho1 j; have c0 := own_get ho1 k (by omega); rw [HY.out] at c0; have HO := Lib.hid ho1; clear ho1 hb1 r0))
          refine (l06Groups_any 9 0 (by omega) (xs.set k (y - 2)) (HX.out.set k (y - 2) (by omega) (by omega)) _ _ _ (Rd.own (own_put HO.out k (y - 2)))).mono ?_
          rintro e w2 ⟨rfl, hb2⟩
          have G1 := gwA_bd 9 (xs.set k (y - 2)) 0
          have E512 : ((2 ^ 9 : Nat) : Int) = 512 := by decide
          rw [E512] at G1
          have HB2 := Lib.hid ((HB1.out.setCell (p := ⟨g, k, none⟩) (by have := HZ.out; simp only; omega) (.int .i64 (y - 2))).trans (hb2.mono (by have := HB1.out.size; simpa using this)))
          have HQ : Hid (fullTo xs (k + 1) = F + gwA 9 (xs.set k (y - 2)) 0) := by
            show fullTo xs (k + 1) = _
            rw [HF.out, if_pos (by omega)]
          clear hb2 c0 ff E512
          generalize gwA 9 (xs.set k (y - 2)) 0 = GW at *
          go_wp2_with fail
          go_roundw
          case rel => exact ⟨k + 1, by omega, by go_num, by rw [HQ.out], HB2.out⟩
          case measure => simp [intOf]; omega
        · have HQ : Hid (fullTo xs (k + 1) = F) := by
            show fullTo xs (k + 1) = _
            rw [HF.out, if_neg (by omega)]; simp
          go_wp2_with fail
          go_roundw
          case rel => exact ⟨k + 1, by omega, by go_num, by rw [HQ.out], HB.out⟩
          case measure => simp [intOf]; omega
      · obtain rfl : k = 9 := by omega
        clear hcell hbel
        generalize hF : fullTo xs 9 = F at *
        have HF := Lib.hid hF
        clear hF
        go_wp2_with fail
        go_ret
        exact ⟨rfl, HB.out⟩
  · have hm1 : (S % 3 != 2) = true := by simp [hm]
    have HZ : Hid (fullTo xs 9 = 0) := HM.out (fun q hq => hm (by omega))
    clear hm
    go_enter Try.func63, Try.ntmps63
    go_wp2_with fail
    refine HSum.out.mono ?_
    rintro e w' ⟨rfl, rfl⟩
    go_wp2_with fail
    go_ret
    exact ⟨ret_int HZ.out.symm, Below.refl _ _⟩

theorem implFullWays_any (a : Option Addr) (n c : Nat) (xs : List Int) (w : World) (h : Ints w a n c xs) :
    Calls Try.prog 13 #[.slice a n c] w (Ret w (.tuple #[.int .i64 (fullRes xs).1, .bool (fullRes xs).2])) := by
  have HD : Hid (fullRes xs = if okHand xs then (fullTo xs 9, true) else (0, false)) := rfl
  have hl := h.len
  rcases Bool.eq_false_or_eq_true (okHand xs) with e0 | e0
  · obtain ⟨hx, _⟩ := okHand_counts e0
    obtain rfl : n = 9 := by rw [← hl]; exact hx.1
    have HX := Lib.hid hx
    clear hx hl
    go_enter Try.func13, Try.ntmps13
    go_wp2_with (fail)
    refine (IsTileHand_any _ _ _ _ _ h).mono ?_
    rintro e w1 ⟨rfl, hb1⟩; have h1 := h.mono hb1
    go_wp2_with (fail)
    refine (fullWays_any _ _ _ _ h1 HX.out).mono ?_
    rintro e w2 ⟨rfl, hb2⟩
    have HB := Lib.hid (hb1.trans (hb2.mono hb1.size))
    clear hb1 hb2 h h1
    generalize fullTo xs 9 = F at *
    go_wp2
    go_ret2
    exact ⟨ret_ib (by rw [HD.out]; simp [e0]), HB.out⟩
  · clear hl
    go_enter Try.func13, Try.ntmps13
    go_wp2_with (fail)
    refine (IsTileHand_any _ _ _ _ _ h).mono ?_
    rintro e w1 ⟨rfl, hb1⟩; have h1 := h.mono hb1
    clear h h1
    go_wp2
    go_ret2
    exact ⟨ret_ib (by rw [HD.out]; simp [e0]), hb1⟩

theorem specFullWays_any (a : Option Addr) (n c : Nat) (xs : List Int) (w : World) (h : Ints w a n c xs) :
    Calls Try.prog 26 #[.slice a n c] w (Ret w (.tuple #[.int .i64 (fullRes xs).1, .bool (fullRes xs).2])) := by
  have HD : Hid (fullRes xs = if okHand xs then (fullTo xs 9, true) else (0, false)) := rfl
  have hl := h.len
  rcases Bool.eq_false_or_eq_true (okHand xs) with e0 | e0
  · obtain ⟨hx, _⟩ := okHand_counts e0
    obtain rfl : n = 9 := by rw [← hl]; exact hx.1
    have HX := Lib.hid hx
    clear hx hl
    go_enter Try.func26, Try.ntmps26
    go_wp2_with (fail)
    refine (l06Tiles_any _ _ _ _ _ h).mono ?_
    rintro e w1 ⟨rfl, rfl⟩; have h1 := h; have hb1 := Below.refl w.heap.size w
    go_wp2_with (fail)
    refine (l06Full_any _ _ _ _ h1 HX.out).mono ?_
    rintro e w2 ⟨rfl, hb2⟩
    have HB := Lib.hid (hb1.trans (hb2.mono hb1.size))
    clear hb1 hb2 h h1
    generalize fullTo xs 9 = F at *
    go_wp2
    go_ret2
    exact ⟨ret_ib (by rw [HD.out]; simp [e0]), HB.out⟩
  · clear hl
    go_enter Try.func26, Try.ntmps26
    go_wp2_with (fail)
    refine (l06Tiles_any _ _ _ _ _ h).mono ?_
    rintro e w1 ⟨rfl, rfl⟩; have h1 := h; have hb1 := Below.refl w.heap.size w
    clear h h1
    go_wp2
    go_ret2
    exact ⟨ret_ib (by rw [HD.out]; simp [e0]), hb1⟩

end Go.Proofs.Ytnlcgkfdpaffaaa
