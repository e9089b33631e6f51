/- Pegs: the moves, impl. -/
import Derived.Test.YtdnhhkbijamadaaPegB
namespace Go.Proofs.Ytdnhhkbijamadaa
open Go.RowKit
set_option linter.unusedVariables false

theorem mvL_eq (X kk : Nat) : mvL X (kk + 2) = if 2 ≤ kk + 2 ∧ X.testBit (kk + 1) = true ∧ X.testBit kk = false then [(kk + 2, kk)] else [] := rfl
theorem mvR_eq (n X kk : Nat) : mvR n X (kk + 2) = if kk + 2 + 2 < n ∧ X.testBit (kk + 3) = true ∧ X.testBit (kk + 4) = false then [(kk + 2, kk + 4)] else [] := rfl

set_option maxHeartbeats 1600000 in
set_option maxRecDepth 100000 in
theorem pegMoves_any (a : Option Addr) (n c : Nat) (bs : List Bool) (w : World) (h : Row Value.bool w a n c bs) (hn : n ≤ 14) : Calls Try.prog 13 #[.slice a n c] w fun e w' => ∃ m a' c', e = .returned (.slice a' m c') ∧ Below w.heap.size w w' ∧ w'.ownsRow w.heap.size 2 1 (.slice a' m c') m (intCells (flatP (mv n (bN bs)))) := by
  obtain ⟨hc, hb, hcell⟩ := h.at false
  have hX : Hid (bN bs < 16384) := by show _ < _; have := bN_lt bs; rw [h.len] at this; exact Nat.lt_of_lt_of_le this (Nat.pow_le_pow_right (by omega : 0 < 2) hn : 2 ^ n ≤ 2 ^ 14)
  have hcl : ∀ i, i < n → ∃ b off, a = some ⟨b, off, none⟩ ∧ b < w.heap.size ∧ ∀ j, j < n → w.cell? ⟨b, off + j, none⟩ = some (.bool ((bN bs).testBit j)) := fun i hi => by
    obtain ⟨b, off, e, hlb, hx⟩ := hcell i hi
    exact ⟨b, off, e, hlb, fun j hj => by rw [bN_bit]; exact hx j hj⟩
  clear hcell h
  generalize bN bs = X at *
  obtain ⟨i0, hi, hz0, hz1, hz2⟩ := info_parts infoI64T
  have HFin : Hid (mv n X = mvTo n X n) := rfl
  go_enter Try.func13, Try.ntmps13
  go_wp2
  go_loopw [3, 9] (fun v vi wr => ∃ k : Nat, k ≤ n ∧ vi = .int .i64 k ∧ Below w.heap.size w wr ∧ ∃ m a c, v = .slice a m c ∧ m ≤ 4 * k ∧ wr.ownsRow w.heap.size 2 1 (.slice a m c) m (intCells (flatP (mvTo n X k)))) (fun _ vi _ => n - (intOf vi).toNat)
  case atStart => exact ⟨0, by omega, rfl, (Below.refl _ _).alloc (Nat.le_refl _) _, _, _, _, rfl, by omega, World.ownsRow_made w #[] 0 (Nat.le_refl _) (by unfold maxLen; omega) rfl⟩
  case round =>
    obtain ⟨k, hk, rfl, hbel, m, oa, oc, rfl, hm, hown⟩ := hrel
    have HB0 := Lib.hid hbel
    have hs0 := hbel.size
    clear hbel
    by_cases hlt : k < n
    · have HSu := Lib.hid (mvTo_succ n X k)
      obtain ⟨b, off, rfl, hlb, hx⟩ := hcl k hlt
      have x0 := cell_on HB0.out (hx k hlt)
      have HC := Lib.hid (fun j (hj : j < n) => hx j hj)
      clear hcl hx
      rcases Bool.eq_false_or_eq_true (X.testBit k) with e0 | e0
      case inr =>
        have EA : Hid (mvAt n X k = []) := by show _ = _; unfold mvAt; exact if_neg (by rw [e0]; exact Bool.false_ne_true)
        rw [e0] at x0
        go_wp2
        have HO9 : Hid (wr.ownsRow w.heap.size 2 1 (.slice oa m oc) m (intCells (flatP (mvTo n X (k + 1))))) := by
          show World.ownsRow _ _ _ _ _ _ _
          rw [HSu.out, EA.out]
          rw [List.append_nil]
          exact hown
        have HB9 := Lib.hid HB0.out
        go_roundw
        case rel => exact ⟨k + 1, by omega, by go_num, HB9.out, _, _, _, rfl, by omega, HO9.out⟩
        case measure => simp [intOf]; omega
      have EA : Hid (mvAt n X k = mvL X k ++ mvR n X k) := by show _ = _; unfold mvAt; exact if_pos e0
      rw [e0] at x0
      clear e0
      by_cases hL : 2 ≤ k
      case neg =>
        have EL : Hid (mvL X k = []) := by show _ = _; unfold mvL; exact if_neg fun g => hL g.1
        by_cases hR : k + 2 < n
        case neg =>
          have ER : Hid (mvR n X k = []) := by show _ = _; unfold mvR; exact if_neg fun g => hR g.1
          go_wp2
          have HO9 : Hid (wr.ownsRow w.heap.size 2 1 (.slice oa m oc) m (intCells (flatP (mvTo n X (k + 1))))) := by
            show World.ownsRow _ _ _ _ _ _ _
            rw [HSu.out, EA.out, EL.out, ER.out, List.append_nil]
            rw [List.append_nil]
            exact hown
          have HB9 := Lib.hid HB0.out
          go_roundw
          case rel => exact ⟨k + 1, by omega, by go_num, HB9.out, _, _, _, rfl, by omega, HO9.out⟩
          case measure => simp [intOf]; omega
        have yR1 := cell_on HB0.out (HC.out (k + 1) (by omega))
        have yR2 := cell_on HB0.out (HC.out (k + 2) (by omega))
        rcases Bool.eq_false_or_eq_true (X.testBit (k + 1)) with qR1 | qR1
        case inr =>
          have ER : Hid (mvR n X k = []) := by show _ = _; unfold mvR; exact if_neg fun g => by rw [qR1] at g; exact Bool.false_ne_true g.2.1
          rw [qR1] at yR1
          go_wp2
          have HO9 : Hid (wr.ownsRow w.heap.size 2 1 (.slice oa m oc) m (intCells (flatP (mvTo n X (k + 1))))) := by
            show World.ownsRow _ _ _ _ _ _ _
            rw [HSu.out, EA.out, EL.out, ER.out, List.append_nil]
            rw [List.append_nil]
            exact hown
          have HB9 := Lib.hid HB0.out
          go_roundw
          case rel => exact ⟨k + 1, by omega, by go_num, HB9.out, _, _, _, rfl, by omega, HO9.out⟩
          case measure => simp [intOf]; omega
        rcases Bool.eq_false_or_eq_true (X.testBit (k + 2)) with qR2 | qR2
        case inl =>
          have ER : Hid (mvR n X k = []) := by show _ = _; unfold mvR; exact if_neg fun g => by rw [qR2] at g; exact Bool.false_ne_true g.2.2.symm
          rw [qR1] at yR1
          rw [qR2] at yR2
          go_wp2
          have HO9 : Hid (wr.ownsRow w.heap.size 2 1 (.slice oa m oc) m (intCells (flatP (mvTo n X (k + 1))))) := by
            show World.ownsRow _ _ _ _ _ _ _
            rw [HSu.out, EA.out, EL.out, ER.out, List.append_nil]
            rw [List.append_nil]
            exact hown
          have HB9 := Lib.hid HB0.out
          go_roundw
          case rel => exact ⟨k + 1, by omega, by go_num, HB9.out, _, _, _, rfl, by omega, HO9.out⟩
          case measure => simp [intOf]; omega
        case inr =>
          have ER : Hid (mvR n X k = [(k, k + 2)]) := by show _ = _; unfold mvR; exact if_pos ⟨hR, qR1, qR2⟩
          rw [qR1] at yR1
          rw [qR2] at yR2
          go_wp2_with (first | (at_builtin; go_must (refine wpList_append_own _ rfl _ _ 26 rfl w.heap.size 2 i0 (.int .i64 0) 1 8 Try.underlying26 hi hz0 hz1 hz2 rfl (by decide) _ _ _ rfl (hown.alloc _) ⟨wr.heap.size, 0, none⟩ 2 2 [.int .i64 (k : Nat), .int .i64 ((k + 2 : Nat) : Int)] (by first | rfl | (simp; omega)) rfl (new2S _ _ _ _ _ rfl) (one2 rfl rfl) (by unfold maxLen; omega) (by omega) (by simp; omega) ?_); intro v' w6 hown1 hg2 _; obtain ⟨a6, c6, rfl⟩ := own_form hown1; have HB6 := Lib.hid (below_app HB0.out hs0 hg2 hown)))
          have HO9 : Hid (w6.ownsRow w.heap.size 2 1 (.slice a6 (m + 2) c6) (m + 2) (intCells (flatP (mvTo n X (k + 1))))) := by
            show World.ownsRow _ _ _ _ _ _ _
            rw [HSu.out, EA.out, EL.out, ER.out, List.nil_append]
            rw [flatP_append, show intCells (_ ++ _) = intCells _ ++ intCells _ from List.map_append]
            exact hown1
          have HB9 := Lib.hid HB6.out
          go_roundw
          case rel => exact ⟨k + 1, by omega, by go_num, HB9.out, _, _, _, rfl, by omega, HO9.out⟩
          case measure => simp [intOf]; omega
      obtain ⟨kk, rfl⟩ : ∃ kk : Nat, k = kk + 2 := ⟨k - 2, by omega⟩
      have yL1 := cell_on HB0.out (HC.out (kk + 1) (by omega))
      have yL2 := cell_on HB0.out (HC.out (kk) (by omega))
      rcases Bool.eq_false_or_eq_true (X.testBit (kk + 1)) with qL1 | qL1
      case inr =>
        have EL : Hid (mvL X (kk + 2) = []) := by show _ = _; rw [mvL_eq]; exact if_neg fun g => by rw [qL1] at g; exact Bool.false_ne_true g.2.1
        rw [qL1] at yL1
        by_cases hR : (kk + 2) + 2 < n
        case neg =>
          have ER : Hid (mvR n X (kk + 2) = []) := by show _ = _; rw [mvR_eq]; exact if_neg fun g => hR g.1
          go_wp2
          have HO9 : Hid (wr.ownsRow w.heap.size 2 1 (.slice oa m oc) m (intCells (flatP (mvTo n X ((kk + 2) + 1))))) := by
            show World.ownsRow _ _ _ _ _ _ _
            rw [HSu.out, EA.out, EL.out, ER.out, List.append_nil]
            rw [List.append_nil]
            exact hown
          have HB9 := Lib.hid HB0.out
          go_roundw
          case rel => exact ⟨(kk + 2) + 1, by omega, by go_num, HB9.out, _, _, _, rfl, by omega, HO9.out⟩
          case measure => simp [intOf]; omega
        have yR1 := cell_on HB0.out (HC.out (kk + 3) (by omega))
        have yR2 := cell_on HB0.out (HC.out (kk + 4) (by omega))
        rcases Bool.eq_false_or_eq_true (X.testBit (kk + 3)) with qR1 | qR1
        case inr =>
          have ER : Hid (mvR n X (kk + 2) = []) := by show _ = _; rw [mvR_eq]; exact if_neg fun g => by rw [qR1] at g; exact Bool.false_ne_true g.2.1
          rw [qR1] at yR1
          go_wp2
          have HO9 : Hid (wr.ownsRow w.heap.size 2 1 (.slice oa m oc) m (intCells (flatP (mvTo n X ((kk + 2) + 1))))) := by
            show World.ownsRow _ _ _ _ _ _ _
            rw [HSu.out, EA.out, EL.out, ER.out, List.append_nil]
            rw [List.append_nil]
            exact hown
          have HB9 := Lib.hid HB0.out
          go_roundw
          case rel => exact ⟨(kk + 2) + 1, by omega, by go_num, HB9.out, _, _, _, rfl, by omega, HO9.out⟩
          case measure => simp [intOf]; omega
        rcases Bool.eq_false_or_eq_true (X.testBit (kk + 4)) with qR2 | qR2
        case inl =>
          have ER : Hid (mvR n X (kk + 2) = []) := by show _ = _; rw [mvR_eq]; exact if_neg fun g => by rw [qR2] at g; exact Bool.false_ne_true g.2.2.symm
          rw [qR1] at yR1
          rw [qR2] at yR2
          go_wp2
          have HO9 : Hid (wr.ownsRow w.heap.size 2 1 (.slice oa m oc) m (intCells (flatP (mvTo n X ((kk + 2) + 1))))) := by
            show World.ownsRow _ _ _ _ _ _ _
            rw [HSu.out, EA.out, EL.out, ER.out, List.append_nil]
            rw [List.append_nil]
            exact hown
          have HB9 := Lib.hid HB0.out
          go_roundw
          case rel => exact ⟨(kk + 2) + 1, by omega, by go_num, HB9.out, _, _, _, rfl, by omega, HO9.out⟩
          case measure => simp [intOf]; omega
        case inr =>
          have ER : Hid (mvR n X (kk + 2) = [((kk + 2), kk + 4)]) := by show _ = _; rw [mvR_eq]; exact if_pos ⟨hR, qR1, qR2⟩
          rw [qR1] at yR1
          rw [qR2] at yR2
          go_wp2_with (first | (at_builtin; go_must (refine wpList_append_own _ rfl _ _ 26 rfl w.heap.size 2 i0 (.int .i64 0) 1 8 Try.underlying26 hi hz0 hz1 hz2 rfl (by decide) _ _ _ rfl (hown.alloc _) ⟨wr.heap.size, 0, none⟩ 2 2 [.int .i64 ((kk + 2 : Nat) : Int), .int .i64 ((kk + 4 : Nat) : Int)] (by first | rfl | (simp; omega)) rfl (new2S _ _ _ _ _ rfl) (one2 rfl rfl) (by unfold maxLen; omega) (by omega) (by simp; omega) ?_); intro v' w6 hown1 hg2 _; obtain ⟨a6, c6, rfl⟩ := own_form hown1; have HB6 := Lib.hid (below_app HB0.out hs0 hg2 hown)))
          have HO9 : Hid (w6.ownsRow w.heap.size 2 1 (.slice a6 (m + 2) c6) (m + 2) (intCells (flatP (mvTo n X ((kk + 2) + 1))))) := by
            show World.ownsRow _ _ _ _ _ _ _
            rw [HSu.out, EA.out, EL.out, ER.out, List.nil_append]
            rw [flatP_append, show intCells (_ ++ _) = intCells _ ++ intCells _ from List.map_append]
            exact hown1
          have HB9 := Lib.hid HB6.out
          go_roundw
          case rel => exact ⟨(kk + 2) + 1, by omega, by go_num, HB9.out, _, _, _, rfl, by omega, HO9.out⟩
          case measure => simp [intOf]; omega
      rcases Bool.eq_false_or_eq_true (X.testBit (kk)) with qL2 | qL2
      case inl =>
        have EL : Hid (mvL X (kk + 2) = []) := by show _ = _; rw [mvL_eq]; exact if_neg fun g => by rw [qL2] at g; exact Bool.false_ne_true g.2.2.symm
        rw [qL1] at yL1
        rw [qL2] at yL2
        by_cases hR : (kk + 2) + 2 < n
        case neg =>
          have ER : Hid (mvR n X (kk + 2) = []) := by show _ = _; rw [mvR_eq]; exact if_neg fun g => hR g.1
          go_wp2
          have HO9 : Hid (wr.ownsRow w.heap.size 2 1 (.slice oa m oc) m (intCells (flatP (mvTo n X ((kk + 2) + 1))))) := by
            show World.ownsRow _ _ _ _ _ _ _
            rw [HSu.out, EA.out, EL.out, ER.out, List.append_nil]
            rw [List.append_nil]
            exact hown
          have HB9 := Lib.hid HB0.out
          go_roundw
          case rel => exact ⟨(kk + 2) + 1, by omega, by go_num, HB9.out, _, _, _, rfl, by omega, HO9.out⟩
          case measure => simp [intOf]; omega
        have yR1 := cell_on HB0.out (HC.out (kk + 3) (by omega))
        have yR2 := cell_on HB0.out (HC.out (kk + 4) (by omega))
        rcases Bool.eq_false_or_eq_true (X.testBit (kk + 3)) with qR1 | qR1
        case inr =>
          have ER : Hid (mvR n X (kk + 2) = []) := by show _ = _; rw [mvR_eq]; exact if_neg fun g => by rw [qR1] at g; exact Bool.false_ne_true g.2.1
          rw [qR1] at yR1
          go_wp2
          have HO9 : Hid (wr.ownsRow w.heap.size 2 1 (.slice oa m oc) m (intCells (flatP (mvTo n X ((kk + 2) + 1))))) := by
            show World.ownsRow _ _ _ _ _ _ _
            rw [HSu.out, EA.out, EL.out, ER.out, List.append_nil]
            rw [List.append_nil]
            exact hown
          have HB9 := Lib.hid HB0.out
          go_roundw
          case rel => exact ⟨(kk + 2) + 1, by omega, by go_num, HB9.out, _, _, _, rfl, by omega, HO9.out⟩
          case measure => simp [intOf]; omega
        rcases Bool.eq_false_or_eq_true (X.testBit (kk + 4)) with qR2 | qR2
        case inl =>
          have ER : Hid (mvR n X (kk + 2) = []) := by show _ = _; rw [mvR_eq]; exact if_neg fun g => by rw [qR2] at g; exact Bool.false_ne_true g.2.2.symm
          rw [qR1] at yR1
          rw [qR2] at yR2
          go_wp2
          have HO9 : Hid (wr.ownsRow w.heap.size 2 1 (.slice oa m oc) m (intCells (flatP (mvTo n X ((kk + 2) + 1))))) := by
            show World.ownsRow _ _ _ _ _ _ _
            rw [HSu.out, EA.out, EL.out, ER.out, List.append_nil]
            rw [List.append_nil]
            exact hown
          have HB9 := Lib.hid HB0.out
          go_roundw
          case rel => exact ⟨(kk + 2) + 1, by omega, by go_num, HB9.out, _, _, _, rfl, by omega, HO9.out⟩
          case measure => simp [intOf]; omega
        case inr =>
          have ER : Hid (mvR n X (kk + 2) = [((kk + 2), kk + 4)]) := by show _ = _; rw [mvR_eq]; exact if_pos ⟨hR, qR1, qR2⟩
          rw [qR1] at yR1
          rw [qR2] at yR2
          go_wp2_with (first | (at_builtin; go_must (refine wpList_append_own _ rfl _ _ 26 rfl w.heap.size 2 i0 (.int .i64 0) 1 8 Try.underlying26 hi hz0 hz1 hz2 rfl (by decide) _ _ _ rfl (hown.alloc _) ⟨wr.heap.size, 0, none⟩ 2 2 [.int .i64 ((kk + 2 : Nat) : Int), .int .i64 ((kk + 4 : Nat) : Int)] (by first | rfl | (simp; omega)) rfl (new2S _ _ _ _ _ rfl) (one2 rfl rfl) (by unfold maxLen; omega) (by omega) (by simp; omega) ?_); intro v' w6 hown1 hg2 _; obtain ⟨a6, c6, rfl⟩ := own_form hown1; have HB6 := Lib.hid (below_app HB0.out hs0 hg2 hown)))
          have HO9 : Hid (w6.ownsRow w.heap.size 2 1 (.slice a6 (m + 2) c6) (m + 2) (intCells (flatP (mvTo n X ((kk + 2) + 1))))) := by
            show World.ownsRow _ _ _ _ _ _ _
            rw [HSu.out, EA.out, EL.out, ER.out, List.nil_append]
            rw [flatP_append, show intCells (_ ++ _) = intCells _ ++ intCells _ from List.map_append]
            exact hown1
          have HB9 := Lib.hid HB6.out
          go_roundw
          case rel => exact ⟨(kk + 2) + 1, by omega, by go_num, HB9.out, _, _, _, rfl, by omega, HO9.out⟩
          case measure => simp [intOf]; omega
      case inr =>
        have EL : Hid (mvL X (kk + 2) = [((kk + 2), kk)]) := by show _ = _; rw [mvL_eq]; exact if_pos ⟨hL, qL1, qL2⟩
        rw [qL1] at yL1
        rw [qL2] at yL2
        by_cases hR : (kk + 2) + 2 < n
        case neg =>
          have ER : Hid (mvR n X (kk + 2) = []) := by show _ = _; rw [mvR_eq]; exact if_neg fun g => hR g.1
          go_wp2_with (first | (at_builtin; go_must (refine wpList_append_own _ rfl _ _ 26 rfl w.heap.size 2 i0 (.int .i64 0) 1 8 Try.underlying26 hi hz0 hz1 hz2 rfl (by decide) _ _ _ rfl (hown.alloc _) ⟨wr.heap.size, 0, none⟩ 2 2 [.int .i64 ((kk + 2 : Nat) : Int), .int .i64 (kk : Nat)] (by first | rfl | (simp; omega)) rfl (new2S _ _ _ _ _ rfl) (one2 rfl rfl) (by unfold maxLen; omega) (by omega) (by simp; omega) ?_); intro v' w5 hown1 hg1 _; obtain ⟨a5, c5, rfl⟩ := own_form hown1; have HB5 := Lib.hid (below_app HB0.out hs0 hg1 hown); have hs5 := HB5.out.size))
          have HO9 : Hid (w5.ownsRow w.heap.size 2 1 (.slice a5 (m + 2) c5) (m + 2) (intCells (flatP (mvTo n X ((kk + 2) + 1))))) := by
            show World.ownsRow _ _ _ _ _ _ _
            rw [HSu.out, EA.out, EL.out, ER.out, List.append_nil]
            rw [flatP_append, show intCells (_ ++ _) = intCells _ ++ intCells _ from List.map_append]
            exact hown1
          have HB9 := Lib.hid HB5.out
          go_roundw
          case rel => exact ⟨(kk + 2) + 1, by omega, by go_num, HB9.out, _, _, _, rfl, by omega, HO9.out⟩
          case measure => simp [intOf]; omega
        have yR1 := cell_on HB0.out (HC.out (kk + 3) (by omega))
        have yR2 := cell_on HB0.out (HC.out (kk + 4) (by omega))
        rcases Bool.eq_false_or_eq_true (X.testBit (kk + 3)) with qR1 | qR1
        case inr =>
          have ER : Hid (mvR n X (kk + 2) = []) := by show _ = _; rw [mvR_eq]; exact if_neg fun g => by rw [qR1] at g; exact Bool.false_ne_true g.2.1
          rw [qR1] at yR1
          go_wp2_with (first | (at_builtin; go_must (refine wpList_append_own _ rfl _ _ 26 rfl w.heap.size 2 i0 (.int .i64 0) 1 8 Try.underlying26 hi hz0 hz1 hz2 rfl (by decide) _ _ _ rfl (hown.alloc _) ⟨wr.heap.size, 0, none⟩ 2 2 [.int .i64 ((kk + 2 : Nat) : Int), .int .i64 (kk : Nat)] (by first | rfl | (simp; omega)) rfl (new2S _ _ _ _ _ rfl) (one2 rfl rfl) (by unfold maxLen; omega) (by omega) (by simp; omega) ?_); intro v' w5 hown1 hg1 _; obtain ⟨a5, c5, rfl⟩ := own_form hown1; have HB5 := Lib.hid (below_app HB0.out hs0 hg1 hown); have hs5 := HB5.out.size; have yR1 := cell_on HB5.out (HC.out (kk + 3) (by omega)); rw [qR1] at yR1))
          have HO9 : Hid (w5.ownsRow w.heap.size 2 1 (.slice a5 (m + 2) c5) (m + 2) (intCells (flatP (mvTo n X ((kk + 2) + 1))))) := by
            show World.ownsRow _ _ _ _ _ _ _
            rw [HSu.out, EA.out, EL.out, ER.out, List.append_nil]
            rw [flatP_append, show intCells (_ ++ _) = intCells _ ++ intCells _ from List.map_append]
            exact hown1
          have HB9 := Lib.hid HB5.out
          go_roundw
          case rel => exact ⟨(kk + 2) + 1, by omega, by go_num, HB9.out, _, _, _, rfl, by omega, HO9.out⟩
          case measure => simp [intOf]; omega
        rcases Bool.eq_false_or_eq_true (X.testBit (kk + 4)) with qR2 | qR2
        case inl =>
          have ER : Hid (mvR n X (kk + 2) = []) := by show _ = _; rw [mvR_eq]; exact if_neg fun g => by rw [qR2] at g; exact Bool.false_ne_true g.2.2.symm
          rw [qR1] at yR1
          rw [qR2] at yR2
          go_wp2_with (first | (at_builtin; go_must (refine wpList_append_own _ rfl _ _ 26 rfl w.heap.size 2 i0 (.int .i64 0) 1 8 Try.underlying26 hi hz0 hz1 hz2 rfl (by decide) _ _ _ rfl (hown.alloc _) ⟨wr.heap.size, 0, none⟩ 2 2 [.int .i64 ((kk + 2 : Nat) : Int), .int .i64 (kk : Nat)] (by first | rfl | (simp; omega)) rfl (new2S _ _ _ _ _ rfl) (one2 rfl rfl) (by unfold maxLen; omega) (by omega) (by simp; omega) ?_); intro v' w5 hown1 hg1 _; obtain ⟨a5, c5, rfl⟩ := own_form hown1; have HB5 := Lib.hid (below_app HB0.out hs0 hg1 hown); have hs5 := HB5.out.size; have yR1 := cell_on HB5.out (HC.out (kk + 3) (by omega)); rw [qR1] at yR1; have yR2 := cell_on HB5.out (HC.out (kk + 4) (by omega)); rw [qR2] at yR2))
          have HO9 : Hid (w5.ownsRow w.heap.size 2 1 (.slice a5 (m + 2) c5) (m + 2) (intCells (flatP (mvTo n X ((kk + 2) + 1))))) := by
            show World.ownsRow _ _ _ _ _ _ _
            rw [HSu.out, EA.out, EL.out, ER.out, List.append_nil]
            rw [flatP_append, show intCells (_ ++ _) = intCells _ ++ intCells _ from List.map_append]
            exact hown1
          have HB9 := Lib.hid HB5.out
          go_roundw
          case rel => exact ⟨(kk + 2) + 1, by omega, by go_num, HB9.out, _, _, _, rfl, by omega, HO9.out⟩
          case measure => simp [intOf]; omega
        case inr =>
          have ER : Hid (mvR n X (kk + 2) = [((kk + 2), kk + 4)]) := by show _ = _; rw [mvR_eq]; exact if_pos ⟨hR, qR1, qR2⟩
          rw [qR1] at yR1
          rw [qR2] at yR2
          go_wp2_with (first | (at_builtin; (refine wpList_append_own _ rfl _ _ 26 rfl w.heap.size 2 i0 (.int .i64 0) 1 8 Try.underlying26 hi hz0 hz1 hz2 rfl (by decide) _ _ _ rfl (hown.alloc _) ⟨wr.heap.size, 0, none⟩ 2 2 [.int .i64 ((kk + 2 : Nat) : Int), .int .i64 (kk : Nat)] (by first | rfl | (simp; omega)) rfl (new2S _ _ _ _ _ rfl) (one2 rfl rfl) (by unfold maxLen; omega) (by omega) (by simp; omega) ?_); intro v' w5 hown1 hg1 _; obtain ⟨a5, c5, rfl⟩ := own_form hown1; have HB5 := Lib.hid (below_app HB0.out hs0 hg1 hown); have hs5 := HB5.out.size; have yR1 := cell_on HB5.out (HC.out (kk + 3) (by omega)); rw [qR1] at yR1; have yR2 := cell_on HB5.out (HC.out (kk + 4) (by omega)); rw [qR2] at yR2) | (at_builtin; go_must (refine wpList_append_own _ rfl _ _ 26 rfl w.heap.size 2 i0 (.int .i64 0) 1 8 Try.underlying26 hi hz0 hz1 hz2 rfl (by decide) _ _ _ rfl (hown1.alloc _) ⟨w5.heap.size, 0, none⟩ 2 2 [.int .i64 ((kk + 2 : Nat) : Int), .int .i64 ((kk + 4 : Nat) : Int)] (by first | rfl | (simp; omega)) rfl (new2S _ _ _ _ _ rfl) (one2 rfl rfl) (by unfold maxLen; omega) (by omega) (by simp; omega) ?_); intro v' w6 hown2 hg2 _; obtain ⟨a6, c6, rfl⟩ := own_form hown2; have HB6 := Lib.hid (below_app HB5.out hs5 hg2 hown1)))
          have HO9 : Hid (w6.ownsRow w.heap.size 2 1 (.slice a6 ((m + 2) + 2) c6) ((m + 2) + 2) (intCells (flatP (mvTo n X ((kk + 2) + 1))))) := by
            show World.ownsRow _ _ _ _ _ _ _
            rw [HSu.out, EA.out, EL.out, ER.out]
            rw [← List.append_assoc, flatP_append, flatP_append, show intCells (_ ++ _) = intCells _ ++ intCells _ from List.map_append, show intCells (_ ++ _) = intCells _ ++ intCells _ from List.map_append]
            exact hown2
          have HB9 := Lib.hid HB6.out
          go_roundw
          case rel => exact ⟨(kk + 2) + 1, by omega, by go_num, HB9.out, _, _, _, rfl, by omega, HO9.out⟩
          case measure => simp [intOf]; omega
    · obtain rfl : k = n := by omega
      clear hcl
      go_wp2
      go_ret
      refine ⟨m, oa, oc, rfl, HB0.out, ?_⟩
      rw [HFin.out]
      exact hown

end Go.Proofs.Ytdnhhkbijamadaa
