/- FarFromFull of both. -/
import Derived.Test.YtnagmeeoeilbcaaFarD
import Derived.Test.YtnagmeeoeilbcaaRet
namespace Go.Proofs.Ytnagmeeoeilbcaa
open Go.RowKit Go.Shelf
set_option linter.unusedVariables false

def farRes (xs : List Int) : Int × Bool := if okHand xs && decide (isum xs % 3 = 2) then (isum xs - nearF xs 14 zero9 0 (isum xs / 3).toNat false, true) else (0, false)
theorem ret_ib2 {a : Int} {p : Bool} {r : Int × Bool} (h : r = (a, p)) : Ending.returned (.tuple #[.int .i64 a, .bool p]) = .returned (.tuple #[.int .i64 r.1, .bool r.2]) := by rw [h]
def allTo (cs : List Int) (G k : Nat) : Int := (List.range k).foldl (fun m k => min m (farF cs G (addP zero9 k) 0)) 100
theorem allTo_succ (cs : List Int) (G k : Nat) : allTo cs G (k + 1) = min (allTo cs G k) (farF cs G (addP zero9 k) 0) := by
  simp [allTo, List.range_succ]
theorem addP_zero (k : Nat) : addP zero9 k = zero9.set k 2 := ext9 (addP_len _ _) (by simp [zero9]) fun j hj => by
  rw [addP_get _ _ _ hj, zero9_get, getD_set, zero9_get]
  by_cases e : j = k
  · rw [if_pos e, if_pos ⟨e.symm, by simpa [zero9] using hj⟩]; rfl
  · rw [if_neg e, if_neg (by omega)]; rfl
theorem addP_zero_bd (k : Nat) (g : Nat) (hg : g ≤ 4) : ∀ j, 0 ≤ (addP zero9 k).getD j 0 ∧ (addP zero9 k).getD j 0 + 3 * (g : Int) ≤ 20 := by
  intro j
  by_cases hj : j < 9
  · rw [addP_get _ _ _ hj, zero9_get]; split <;> omega
  · have : (addP zero9 k).getD j 0 = 0 := by
      rw [List.getD_eq_getElem?_getD, List.getElem?_eq_none (by rw [addP_len]; omega)]; rfl
    omega
theorem allTo_bd {cs : List Int} (hc : ∀ j, 0 ≤ cs.getD j 0) (g : Nat) (hg : g ≤ 4) : ∀ k, 0 ≤ allTo cs g k ∧ allTo cs g k ≤ 100 := by
  intro k
  induction k with
  | zero => simp [allTo]
  | succ k ih =>
    rw [allTo_succ]
    have := farF_bd hc g (addP zero9 k) 0 (addP_zero_bd k g hg)
    omega
theorem far_join (xs : List Int) (h : Counts xs) (h3 : isum xs % 3 = 2) (hs : 0 ≤ isum xs ∧ isum xs ≤ 14) : allTo xs (isum xs / 3).toNat 9 = isum xs - nearF xs 14 zero9 0 (isum xs / 3).toNat false := by
  have := (far_same xs (fun j => (h.2 j).1) (isum xs / 3).toNat (by omega) 14 (by omega)).1
  show farAll xs _ = _
  rw [this]
  omega

set_option maxHeartbeats 1600000 in
set_option maxRecDepth 100000 in
theorem implFarFromFull_any (a : Option Addr) (n c : Nat) (xs : List Int) (w : World) (h : Ints w a n c xs) :
    Calls Try.prog 8 #[.slice a n c] w (Ret w (.tuple #[.int .i64 (farRes xs).1, .bool (farRes xs).2])) := by
  have hl := h.len
  rcases Bool.eq_false_or_eq_true (okHand xs) with e0 | e0
  · obtain ⟨hx, hs14⟩ := okHand_counts e0
    obtain rfl : n = 9 := by rw [← hl]; exact hx.1
    have HX := Lib.hid hx
    have hsb := isum_bd 4 xs hx.2 9 (by rw [hx.1]; omega)
    rw [List.take_of_length_le (by rw [hx.1]; omega)] at hsb
    have HJ := Lib.hid (fun hs => far_join xs hx hs ⟨hsb.1, hs14⟩)
    have HD : Hid (farRes xs = if okHand xs && decide (isum xs % 3 = 2) then (isum xs - nearF xs 14 zero9 0 (isum xs / 3).toNat false, true) else (0, false)) := rfl
    have HSUM := Lib.hid (fun W (h1 : Ints W a 9 c xs) => tilesIn_any a 9 c xs W h1 (fun i => by have := hx.2 i; omega) (by omega))
    have HH := Lib.hid h
    clear hx hl
    obtain ⟨i0, hi, hz0, hz1, hz2⟩ := info_parts infoI64
    generalize isum xs = S at *
    by_cases h3 : S % 3 = 2
    · have hm1 : (S % 3 != 2) = false := by simp [h3]
      obtain ⟨G, hG4, hS⟩ : ∃ G : Nat, G ≤ 4 ∧ S = 3 * (G : Int) + 2 := ⟨(S / 3).toNat, by omega, by omega⟩
      have hq : Int.tdiv S 3 = (G : Int) := by rw [Int.tdiv_eq_ediv_of_nonneg (by omega)]; omega
      have HL : Hid (farRes xs = (allTo xs G 9, true)) := by
        show _ = _
        have := HJ.out h3
        rw [show (S / 3).toNat = G by omega] at this
        rw [HD.out, if_pos (by simp [e0, h3]), show (S / 3).toNat = G by omega, this]
      clear h3 HD HJ hS
      go_enter Try.func8, Try.ntmps8
      go_wp2_with (fail)
      refine (IsTileHand_any _ _ _ _ _ h).mono ?_
      rintro e w1 ⟨rfl, hb1⟩; have h1 := h.mono hb1
      have HB1 := Lib.hid hb1
      clear h hb1
      go_wp2_with (fail)
      refine (HSUM.out _ h1).mono ?_
      rintro e w2 ⟨rfl, rfl⟩
      clear h1
      go_wp2_with (fail)
      go_loopw [4, 5, 6, 16] (fun vm x5 x6 vc wr => ∃ k : Nat, k ≤ 9 ∧ vc = .int .i64 k ∧ vm = .int .i64 (allTo xs G k) ∧ Below w.heap.size w wr) (fun _ _ _ vc _ => 9 - (intOf vc).toNat)
      case atStart => exact ⟨0, by omega, rfl, rfl, HB1.out⟩
      case round =>
        obtain ⟨k, hk, rfl, rfl, hbel⟩ := hrel
        have HB := Lib.hid hbel
        have hbs := hbel.size
        have hmb := allTo_bd (fun j => (HX.out.2 j).1) G hG4 k
        clear hbel
        by_cases hlt : k < 9
        · have hfb := farF_bd (fun j => (HX.out.2 j).1) G (addP zero9 k) 0 (addP_zero_bd k G hG4)
          have HSu := Lib.hid (allTo_succ xs G k)
          generalize allTo xs G k = m at *
          go_wp2_with (first | (
            at_make
            refine wpList_make_full _ rfl _ _ 24 rfl wr.heap.size 2 i0 _ 1 Try.underlying24 hi hz0 hz1 _ _ _ _ 9 rfl rfl rfl rfl (by rw [hz2]; omega) (by unfold maxLen; omega) (by simp) ?_
            intro w2 hown2 hg2
            have HBz := Lib.hid (HB.out.trans ((below_made (Below.refl wr.heap.size wr) (Nat.le_refl _) hg2).mono hbs))
            have hz : w2.ownsRow wr.heap.size 2 1 (.slice (some ⟨wr.heap.size, 0, none⟩) 9 9) 9 (intCells zero9) := by
              have := hown2
              rw [made_const _ (.int .i64 0) (by decide) (by intro i hi; match i, hi with | 0, _ => rfl), Nat.mul_one] at this
              rw [zero9, intCells_zero]
              exact this
            have hgz := (own_block hz).1
            clear hown2 hg2
            generalize wr.heap.size = gb at *
            have x0 := own_get hz k (by omega)
            have f0 : ∀ j, w2.frozen? ⟨gb, j, none⟩ = false := fun j => hz.frozenAt j
            have HO3 := Lib.hid (own_put hz k 2)
            have HB3 : Hid (Below w.heap.size w (w2.setCell ⟨gb, k, none⟩ (.int .i64 2))) := HBz.out.setCell (by dsimp only; omega) _
            have CT := Lib.hid (HSUM.out (w2.setCell ⟨gb, k, none⟩ (.int .i64 2)) (HH.out.mono HB3.out))
            have CR := Lib.hid (farFrom_any xs HX.out.2 G hG4 a c (some ⟨gb, 0, none⟩) 9 (addP zero9 k) 0 (w2.setCell ⟨gb, k, none⟩ (.int .i64 2)) (HH.out.mono HB3.out) (by have := Rd.own HO3.out; rw [← addP_zero k] at this; exact this) (addP_zero_bd k G hG4) (by omega))
            clear HO3 hz
            generalize farF xs G (addP zero9 k) 0 = V at *))
          refine CT.out.mono ?_
          rintro e w3 ⟨rfl, rfl⟩
          go_wp2_with (fail)
          refine CR.out.mono ?_
          rintro e w4 ⟨rfl, hb4⟩
          have HB4 : Hid (Below w.heap.size w w4) := HB3.out.trans (hb4.mono HB3.out.size)
          clear hb4 CR CT
          by_cases hvm : V < m
          · have HMn : Hid (min m V = V) := by show _ = _; omega
            go_wp2
            go_roundw
            case rel => exact ⟨k + 1, by omega, by go_num, by rw [HSu.out, HMn.out], HB4.out⟩
            case measure => simp [intOf]; omega
          · have HMn : Hid (min m V = m) := by show _ = _; omega
            go_wp2
            go_roundw
            case rel => exact ⟨k + 1, by omega, by go_num, by rw [HSu.out, HMn.out], HB4.out⟩
            case measure => simp [intOf]; omega
        · obtain rfl : k = 9 := by omega
          generalize allTo xs G 9 = m at *
          go_wp2
          go_ret2
          exact ⟨ret_ib2 HL.out, HB.out⟩
    · have hm1 : (S % 3 != 2) = true := by simp [h3]
      go_enter Try.func8, Try.ntmps8
      go_wp2_with (fail)
      refine (IsTileHand_any _ _ _ _ _ h).mono ?_
      rintro e w1 ⟨rfl, hb1⟩; have h1 := h.mono hb1
      have HB1 := Lib.hid hb1
      have HHH := Lib.hid h1
      clear h h1 hb1
      go_wp2_with (fail)
      refine (HSUM.out _ HHH.out).mono ?_
      rintro e w2 ⟨rfl, rfl⟩
      go_wp2_with (fail)
      go_ret2
      exact ⟨ret_ib2 (by rw [HD.out, if_neg (by simp [h3])]), HB1.out⟩
  · have HD : Hid (farRes xs = if okHand xs && decide (isum xs % 3 = 2) then (isum xs - nearF xs 14 zero9 0 (isum xs / 3).toNat false, true) else (0, false)) := rfl
    clear hl
    go_enter Try.func8, Try.ntmps8
    go_wp2_with (fail)
    refine (IsTileHand_any _ _ _ _ _ h).mono ?_
    rintro e w1 ⟨rfl, hb1⟩; have h1 := h.mono hb1
    clear h h1
    go_wp2
    go_ret2
    exact ⟨ret_ib2 (by rw [HD.out, if_neg (by simp [e0])]), hb1⟩

end Go.Proofs.Ytnagmeeoeilbcaa
