/- Scores, of both. -/
import Derived.Test.YtcflgmjjomiejaaTally
import Derived.Test.YtcflgmjjomiejaaL7GamesB
import Derived.Test.YtcflgmjjomiejaaI64
import Derived.StillTailTactics
namespace Go.Proofs.Ytcflgmjjomiejaa
open Go.RowKit

def scorePs (g : Int × Int × Int) : (Nat × Int) × (Nat × Int) := ((g.1.toNat, g.2.2), (g.2.1.toNat, 2 - g.2.2))
theorem okGames_all {p : Int} {gs : List (Int × Int × Int)} (h : okGames p gs = true) : (2 ≤ p ∧ p ≤ 16) ∧ gs.length ≤ 128 ∧ ∀ g ∈ gs, okGame p g = true := by
  simp only [okGames, Bool.and_eq_true, inB_iff, decide_eq_true_eq, List.all_eq_true] at h
  exact ⟨h.1.1, h.1.2, h.2⟩
theorem okGame_nat {p : Int} {g : Int × Int × Int} (h : okGame p g = true) : ∃ i j : Nat, g.1 = (i : Int) ∧ g.2.1 = (j : Int) ∧ (i : Int) < p ∧ (j : Int) < p ∧ i ≠ j ∧ 0 ≤ g.2.2 ∧ g.2.2 ≤ 2 := by
  simp only [okGame, Bool.and_eq_true, inB_iff, Bool.not_eq_true', beq_eq_false_iff_ne] at h
  refine ⟨g.1.toNat, g.2.1.toNat, ?_⟩
  omega

set_option maxHeartbeats 4000000 in
set_option maxRecDepth 100000 in
theorem l07Scores_any (p : Nat) (a : Option Addr) (n c : Nat) (gs : List (Int × Int × Int)) (w : World) (h : Trips w a n c gs) (hp : p ≤ 16) (hn : n ≤ 128) (hg : ∀ g ∈ gs, okGame p g = true) :
    Calls Try.prog 49 #[.int .i64 p, .slice a n c] w fun e w' => ∃ g, e = .returned (.slice (some ⟨g, 0, none⟩) p p) ∧ Below w.heap.size w w' ∧ w'.ownsRow w.heap.size 2 1 (.slice (some ⟨g, 0, none⟩) p p) p (intCells (tally scorePs p gs)) := by
  obtain ⟨hc, hb, hcell⟩ := h.at
  have hl := Lib.hid h.len
  have HV := Lib.hid hg
  clear h hg
  obtain ⟨i0, hi, hz0, hz1, hz2⟩ := info_parts infoI64
  go_enter Try.func49, Try.ntmps49
  go_wp2_with (first | (at_make; go_must (refine wpList_make_full _ rfl _ _ 41 rfl w.heap.size 2 i0 _ 1 Try.underlying41 hi hz0 hz1 _ _ _ _ p rfl rfl rfl rfl (by rw [hz2]; omega) (by unfold maxLen; omega) (by simp) ?_; intro w1 hown1 hg1)))
  have hown1' := Lib.hid hown1
  have hg1' := Lib.hid hg1
  clear hown1 hg1
  go_loopw [11] (fun i wr => ∃ k : Nat, k ≤ n ∧ i = .int .i64 k ∧ Below w.heap.size w wr ∧ Upb (4 * k) (tally scorePs p (gs.take k)) ∧ wr.ownsRow w.heap.size 2 1 (.slice (some ⟨w.heap.size, 0, none⟩) p p) p (intCells (tally scorePs p (gs.take k)))) (fun i _ => n - (intOf i).toNat)
  case atStart => exact ⟨0, by omega, rfl, below_made (Below.refl _ _) (Nat.le_refl _) hg1'.out, by simpa [tally] using Upb.zero p, by rw [List.take_zero, tally_nil, intCells_zero]; have := hown1'.out; rw [made_const _ (.int .i64 0) (by decide) (by intro i hi; match i, hi with | 0, _ => rfl), Nat.mul_one] at this; exact this⟩
  case round =>
    obtain ⟨k, hk, rfl, hbel, hup, hown⟩ := hrel
    by_cases hlt : k < n
    · obtain ⟨b, off, rfl, hlb, hx⟩ := hcell k hlt
      obtain ⟨h0', h1', h2'⟩ := hx k hlt
      have h0 := cell_on hbel h0'
      have h1 := cell_on hbel h1'
      have h2 := cell_on hbel h2'
      have HT := Lib.hid (tally_succ scorePs p gs k (by rw [hl.out]; exact hlt))
      obtain ⟨i, j, e1, e2, hip, hjp, hij, hr0, hr2⟩ := okGame_nat (HV.out _ (getD_mem (d := (0, 0, 0)) (k := k) (by rw [hl.out]; exact hlt)))
      have HB := Lib.hid hbel
      have HO := Lib.hid hown
      have HU := Lib.hid hup
      clear hcell hx hbel hown hup
      generalize gs.getD k (0, 0, 0) = g at *
      obtain ⟨g0, g1, g2⟩ := g
      simp only at e1 e2 h0 h1 h2 h0' h1' h2' hr0 hr2
      subst e1 e2
      have H0' := Lib.hid h0'
      have H1' := Lib.hid h1'
      have H2' := Lib.hid h2'
      clear h0' h1' h2'
      generalize tally scorePs p (gs.take k) = T at *
      have ci := own_get HO.out i (by omega)
      have bi := HU.out i
      have f := fun j => World.ownsRow.frozenAt HO.out j
      generalize hTi : T.getD i 0 = Ti at *
      have HTi := Lib.hid hTi
      clear hTi
      have W1 : IntKind.i64.wrap (Ti + g2) = Ti + g2 := IntWalk.i64_in _ (by omega)
      go_wp2_with (fail)
      go_still_tail 15, (by kernel_rfl)
      change wpList _ _ _ _ _ wr.drew
      go_wp2_with (fail)
      have own1 : ((wr.setCell ⟨w.heap.size, i, none⟩ (.int .i64 (Ti + g2))).drew).ownsRow w.heap.size 2 1 (.slice (some ⟨w.heap.size, 0, none⟩) p p) p (intCells (addAt T i g2)) := World.ownsRow.drew (own_addAt HO.out i (Ti + g2) g2 (by rw [HTi.out]))
      have hb1 : Below w.heap.size w ((wr.setCell ⟨w.heap.size, i, none⟩ (.int .i64 (Ti + g2))).drew) := (HB.out.setCell (Nat.le_refl _) _).drew
      clear ci bi f W1 h0 h1 h2
      generalize (wr.setCell ⟨w.heap.size, i, none⟩ (.int .i64 (Ti + g2))).drew = v1 at *
      have HU1 : Hid (Upb (4 * k + 2) (addAt T i g2)) := HU.out.add i g2 2 hr0 hr2
      have h0 := cell_on hb1 H0'.out
      have h1 := cell_on hb1 H1'.out
      have h2 := cell_on hb1 H2'.out
      have HT1 : Hid (tally scorePs p (gs.take (k + 1)) = addAt (addAt T i g2) j (2 - g2)) := HT.out
      clear HT
      generalize addAt T i g2 = T1 at *
      have ci := own_get own1 j (by omega)
      have bi := HU1.out j
      have f := fun j => own1.frozenAt j
      generalize hTj : T1.getD j 0 = Tj at *
      have HTj := Lib.hid hTj
      clear hTj
      have HO1 := Lib.hid own1
      have HB1 := Lib.hid hb1
      clear own1 hb1
      have W1 : IntKind.i64.wrap (Tj + (2 - g2)) = Tj + (2 - g2) := IntWalk.i64_in _ (by omega)
      have W2 : IntKind.i64.wrap (2 - g2) = 2 - g2 := IntWalk.i64_in _ (by omega)
      go_still_tail 16, (by kernel_rfl)
      change wpList _ _ _ _ _ v1.drew
      go_wp2
      go_roundw
      case rel =>
        clear W1 W2
        refine ⟨k + 1, by omega, by go_num, (HB1.out.setCell (Nat.le_refl _) _).drew, ?_, ?_⟩
        · rw [HT1.out]
          exact (HU1.out.add j (2 - g2) 2 (by omega) (by omega)).wide (by omega)
        · rw [HT1.out]
          exact World.ownsRow.drew (own_addAt HO1.out j (Tj + (2 - g2)) (2 - g2) (by rw [HTj.out]))
      case measure => simp [intOf]; omega
    · obtain rfl : k = n := by omega
      have HB := Lib.hid hbel
      have HO := Lib.hid hown
      clear hcell hbel hown
      go_wp2
      go_ret
      refine ⟨_, rfl, HB.out, ?_⟩
      have := HO.out
      rw [List.take_of_length_le (by rw [hl.out]; exact Nat.le_refl _)] at this
      exact this

set_option maxHeartbeats 1000000 in
set_option maxRecDepth 100000 in
theorem scoresOf_any (p : Nat) (a : Option Addr) (n c : Nat) (gs : List (Int × Int × Int)) (w : World) (h : Trips w a n c gs) (hp : p ≤ 16) (hn : n ≤ 128) (hg : ∀ g ∈ gs, okGame p g = true) :
    Calls Try.prog 44 #[.int .i64 p, .slice a n c] w fun e w' => ∃ g, e = .returned (.slice (some ⟨g, 0, none⟩) p p) ∧ Below w.heap.size w w' ∧ w'.ownsRow w.heap.size 2 1 (.slice (some ⟨g, 0, none⟩) p p) p (intCells (tally scorePs p gs)) := by
  obtain ⟨hc, hb, hcell⟩ := h.at
  have hl := Lib.hid h.len
  have HV := Lib.hid hg
  clear h hg
  obtain ⟨i0, hi, hz0, hz1, hz2⟩ := info_parts infoI64
  go_enter Try.func44, Try.ntmps44
  go_wp2_with (first | (at_make; go_must (refine wpList_make_full _ rfl _ _ 41 rfl w.heap.size 2 i0 _ 1 Try.underlying41 hi hz0 hz1 _ _ _ _ p rfl rfl rfl rfl (by rw [hz2]; omega) (by unfold maxLen; omega) (by simp) ?_; intro w1 hown1 hg1)))
  have hown1' := Lib.hid hown1
  have hg1' := Lib.hid hg1
  clear hown1 hg1
  go_loopw [12] (fun i wr => ∃ k : Nat, k ≤ n ∧ i = .int .i64 k ∧ Below w.heap.size w wr ∧ Upb (4 * k) (tally scorePs p (gs.take k)) ∧ wr.ownsRow w.heap.size 2 1 (.slice (some ⟨w.heap.size, 0, none⟩) p p) p (intCells (tally scorePs p (gs.take k)))) (fun i _ => n - (intOf i).toNat)
  case atStart => exact ⟨0, by omega, rfl, below_made (Below.refl _ _) (Nat.le_refl _) hg1'.out, by simpa [tally] using Upb.zero p, by rw [List.take_zero, tally_nil, intCells_zero]; have := hown1'.out; rw [made_const _ (.int .i64 0) (by decide) (by intro i hi; match i, hi with | 0, _ => rfl), Nat.mul_one] at this; exact this⟩
  case round =>
    obtain ⟨k, hk, rfl, hbel, hup, hown⟩ := hrel
    by_cases hlt : k < n
    · obtain ⟨b, off, rfl, hlb, hx⟩ := hcell k hlt
      obtain ⟨h0', h1', h2'⟩ := hx k hlt
      have HT := Lib.hid (tally_succ scorePs p gs k (by rw [hl.out]; exact hlt))
      obtain ⟨i, j, e1, e2, hip, hjp, hij, hr0, hr2⟩ := okGame_nat (HV.out _ (getD_mem (d := (0, 0, 0)) (k := k) (by rw [hl.out]; exact hlt)))
      have HB := Lib.hid hbel
      have HO := Lib.hid hown
      have HU := Lib.hid hup
      have HZ := Lib.hid hbel.size
      clear hcell hx hbel hown hup
      generalize gs.getD k (0, 0, 0) = g at *
      obtain ⟨g0, g1, g2⟩ := g
      simp only at e1 e2 h0' h1' h2' hr0 hr2
      subst e1 e2
      have H0' := Lib.hid h0'
      have H1' := Lib.hid h1'
      have H2' := Lib.hid h2'
      clear h0' h1' h2'
      have HT1 : Hid (tally scorePs p (gs.take (k + 1)) = addAt (addAt (tally scorePs p (gs.take k)) i g2) j (2 - g2)) := HT.out
      clear HT
      generalize tally scorePs p (gs.take k) = T at *
      have h0 := cell_on HB.out H0'.out
      have h1 := cell_on HB.out H1'.out
      have h2 := cell_on HB.out H2'.out
      have hgl : w.heap.size < wr.heap.size := (own_block HO.out).2
      go_wp2_with (fail)
      have HB0 : Hid (Below w.heap.size w (wr.alloc (.cells #[.int .i64 i, .int .i64 j, .int .i64 g2] 55))) := HB.out.alloc HZ.out _
      have HO0 := Lib.hid (HO.out.alloc (.cells #[.int .i64 i, .int .i64 j, .int .i64 g2] 55))
      have q0 : (wr.alloc (.cells #[.int .i64 i, .int .i64 j, .int .i64 g2] 55)).cell? ⟨wr.heap.size, 0, none⟩ = some (.int .i64 i) := by go_simp
      have q1 : (wr.alloc (.cells #[.int .i64 i, .int .i64 j, .int .i64 g2] 55)).cell? ⟨wr.heap.size, 1, none⟩ = some (.int .i64 j) := by go_simp
      have q2 : (wr.alloc (.cells #[.int .i64 i, .int .i64 j, .int .i64 g2] 55)).cell? ⟨wr.heap.size, 2, none⟩ = some (.int .i64 g2) := by go_simp
      have hne : wr.heap.size ≠ w.heap.size := by omega
      have hne' : w.heap.size ≠ wr.heap.size := by omega
      clear h0 h1 h2
      generalize wr.alloc (.cells #[.int .i64 i, .int .i64 j, .int .i64 g2] 55) = V at *
      have ci := own_get HO0.out i (by omega)
      have bi := HU.out i
      have f := fun j => World.ownsRow.frozenAt (HO0.out) j
      generalize hTi : T.getD i 0 = Ti0 at *
      have HTi0 := Lib.hid hTi
      clear hTi
      have W1 : IntKind.i64.wrap (Ti0 + g2) = Ti0 + g2 := IntWalk.i64_in _ (by omega)
      go_still_tail 9, (by kernel_rfl)
      change wpList _ _ _ _ _ V.drew
      go_wp2_with (fail)
      clear W1
      have own1 : ((V.setCell ⟨w.heap.size, i, none⟩ (.int .i64 (Ti0 + g2))).drew).ownsRow w.heap.size 2 1 (.slice (some ⟨w.heap.size, 0, none⟩) p p) p (intCells (addAt T i g2)) := World.ownsRow.drew (own_addAt (HO0.out) i (Ti0 + g2) g2 (by rw [HTi0.out]))
      have hb1 : Below w.heap.size w ((V.setCell ⟨w.heap.size, i, none⟩ (.int .i64 (Ti0 + g2))).drew) := (HB0.out.setCell (Nat.le_refl _) _).drew
      have r0 : ((V.setCell ⟨w.heap.size, i, none⟩ (.int .i64 (Ti0 + g2))).drew).cell? ⟨wr.heap.size, 0, none⟩ = some (.int .i64 i) := by
        show (V.setCell ⟨w.heap.size, i, none⟩ (.int .i64 (Ti0 + g2))).cell? ⟨wr.heap.size, 0, none⟩ = _
        rw [World.cell?_of_block (Below.heap_setCell V ⟨w.heap.size, i, none⟩ _ wr.heap.size hne)]
        exact q0
      have r1 : ((V.setCell ⟨w.heap.size, i, none⟩ (.int .i64 (Ti0 + g2))).drew).cell? ⟨wr.heap.size, 1, none⟩ = some (.int .i64 j) := by
        show (V.setCell ⟨w.heap.size, i, none⟩ (.int .i64 (Ti0 + g2))).cell? ⟨wr.heap.size, 1, none⟩ = _
        rw [World.cell?_of_block (Below.heap_setCell V ⟨w.heap.size, i, none⟩ _ wr.heap.size hne)]
        exact q1
      have r2 : ((V.setCell ⟨w.heap.size, i, none⟩ (.int .i64 (Ti0 + g2))).drew).cell? ⟨wr.heap.size, 2, none⟩ = some (.int .i64 g2) := by
        show (V.setCell ⟨w.heap.size, i, none⟩ (.int .i64 (Ti0 + g2))).cell? ⟨wr.heap.size, 2, none⟩ = _
        rw [World.cell?_of_block (Below.heap_setCell V ⟨w.heap.size, i, none⟩ _ wr.heap.size hne)]
        exact q2
      clear q0 q1 q2
      clear ci bi f
      generalize (V.setCell ⟨w.heap.size, i, none⟩ (.int .i64 (Ti0 + g2))).drew = v1 at *
      have HU1 : Hid (Upb (4 * k + 2) (addAt T i g2)) := HU.out.add i g2 2 (by omega) (by omega)
      generalize addAt T i g2 = T1 at *
      have HO1 := Lib.hid own1
      have HB1 := Lib.hid hb1
      clear own1 hb1
      have ci := own_get HO1.out j (by omega)
      have bi := HU1.out j
      have f := fun j => World.ownsRow.frozenAt (HO1.out) j
      generalize hTi : T1.getD j 0 = Ti1 at *
      have HTi1 := Lib.hid hTi
      clear hTi
      have W1 : IntKind.i64.wrap (Ti1 + (2 - g2)) = Ti1 + (2 - g2) := IntWalk.i64_in _ (by omega)
      have W2 : IntKind.i64.wrap (2 - g2) = 2 - g2 := IntWalk.i64_in _ (by omega)
      go_still_tail 10, (by kernel_rfl)
      change wpList _ _ _ _ _ v1.drew
      go_wp2
      go_roundw
      case rel =>
        clear W1 W2
        refine ⟨k + 1, by omega, by go_num, (HB1.out.setCell (Nat.le_refl _) _).drew, ?_, ?_⟩
        · rw [HT1.out]
          exact (HU1.out.add j (2 - g2) 2 (by omega) (by omega)).wide (by omega)
        · rw [HT1.out]
          exact World.ownsRow.drew (own_addAt HO1.out j (Ti1 + (2 - g2)) (2 - g2) (by rw [HTi1.out]))
      case measure => simp [intOf]; omega
    · obtain rfl : k = n := by omega
      have HB := Lib.hid hbel
      have HO := Lib.hid hown
      clear hcell hbel hown
      go_wp2
      go_ret
      refine ⟨_, rfl, HB.out, ?_⟩
      have := HO.out
      rw [List.take_of_length_le (by rw [hl.out]; exact Nat.le_refl _)] at this
      exact this

end Go.Proofs.Ytcflgmjjomiejaa
