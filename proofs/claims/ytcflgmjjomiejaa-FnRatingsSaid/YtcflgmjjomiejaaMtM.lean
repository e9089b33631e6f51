/- How often each two have met: l07Met. -/
import Derived.Test.YtcflgmjjomiejaaScM
import Derived.StillTailTactics
namespace Go.Proofs.Ytcflgmjjomiejaa
open Go.RowKit

/-- places of a square row by row -/
theorem place_lt {i j p : Nat} (hi : i < p) (hj : j < p) : i * p + j < p * p :=
  calc i * p + j < i * p + p := by omega
    _ = (i + 1) * p := by rw [Nat.add_mul, Nat.one_mul]
    _ ≤ p * p := Nat.mul_le_mul_right p hi
theorem place_ne {i j p : Nat} (hi : i < p) (hj : j < p) (h : i ≠ j) : i * p + j ≠ j * p + i := by
  intro e
  have h1 : (i * p + j) / p = i := by rw [Nat.mul_comm, Nat.mul_add_div (by omega), Nat.div_eq_of_lt hj]; rfl
  have h2 : (j * p + i) / p = j := by rw [Nat.mul_comm, Nat.mul_add_div (by omega), Nat.div_eq_of_lt hi]; rfl
  rw [e, h2] at h1
  exact h h1.symm
def metPs (p : Nat) (g : Int × Int × Int) : (Nat × Int) × (Nat × Int) := ((g.1.toNat * p + g.2.1.toNat, 1), (g.2.1.toNat * p + g.1.toNat, 1))

set_option maxHeartbeats 1000000 in
set_option maxRecDepth 100000 in
theorem l07Met_any (p : Nat) (a : Option Addr) (n c : Nat) (gs : List (Int × Int × Int)) (w : World) (h : Trips w a n c gs) (hp : p ≤ 16) (hn : n ≤ 128) (hg : ∀ g ∈ gs, okGame p g = true) :
    Calls Try.prog 50 #[.int .i64 p, .slice a n c] w fun e w' => ∃ g, e = .returned (.slice (some ⟨g, 0, none⟩) (p * p) (p * p)) ∧ Below w.heap.size w w' ∧ w'.ownsRow w.heap.size 2 1 (.slice (some ⟨g, 0, none⟩) (p * p) (p * p)) (p * p) (intCells (tally (metPs p) (p * p) gs)) := by
  obtain ⟨hc, hb, hcell⟩ := h.at
  have hl := Lib.hid h.len
  have HV := Lib.hid hg
  clear h hg
  obtain ⟨i0, hi, hz0, hz1, hz2⟩ := info_parts infoI64
  obtain ⟨q, hq0⟩ : ∃ q : Nat, q = p * p := ⟨_, rfl⟩
  rw [← hq0]
  have hpq : (p : Int) * (p : Int) = (q : Int) := by rw [hq0]; push_cast; rfl
  have hq1 : q ≤ 256 := by have : p * p ≤ 16 * 16 := Nat.mul_le_mul hp hp; omega
  have hq := Lib.hid hq0
  clear hq0
  go_enter Try.func50, Try.ntmps50
  go_wp2_with (first | (at_make; go_must (refine wpList_make_full _ rfl _ _ 41 rfl w.heap.size 2 i0 _ 1 Try.underlying41 hi hz0 hz1 _ _ _ _ q rfl rfl (by first | rfl | exact hpq) (by first | rfl | exact hpq) (by rw [hz2]; omega) (by unfold maxLen; omega) (by simp) ?_; intro w1 hown1 hg1)))
  have hown1' := Lib.hid hown1
  have hg1' := Lib.hid hg1
  clear hown1 hg1
  go_loopw [13] (fun i wr => ∃ k : Nat, k ≤ n ∧ i = .int .i64 k ∧ Below w.heap.size w wr ∧ Upb (4 * k) (tally (metPs p) q (gs.take k)) ∧ wr.ownsRow w.heap.size 2 1 (.slice (some ⟨w.heap.size, 0, none⟩) q q) q (intCells (tally (metPs p) q (gs.take k)))) (fun i _ => n - (intOf i).toNat)
  case atStart => exact ⟨0, by omega, rfl, below_made (Below.refl _ _) (Nat.le_refl _) hg1'.out, by simpa [tally] using Upb.zero q, by rw [List.take_zero, tally_nil, intCells_zero]; have := hown1'.out; rw [made_const _ (.int .i64 0) (by decide) (by intro i hi; match i, hi with | 0, _ => rfl), Nat.mul_one] at this; exact this⟩
  case round =>
    obtain ⟨k, hk, rfl, hbel, hup, hown⟩ := hrel
    by_cases hlt : k < n
    · obtain ⟨b, off, rfl, hlb, hx⟩ := hcell k hlt
      obtain ⟨h0', h1', h2'⟩ := hx k hlt
      have HT := Lib.hid (tally_succ (metPs p) q gs k (by rw [hl.out]; exact hlt))
      obtain ⟨i, j, e1, e2, hip, hjp, hij, hr0, hr2⟩ := okGame_nat (HV.out _ (getD_mem (d := (0, 0, 0)) (k := k) (by rw [hl.out]; exact hlt)))
      have HB := Lib.hid hbel
      have HO := Lib.hid hown
      have HU := Lib.hid hup
      have HZ := Lib.hid hbel.size
      clear hcell hx hbel hown hup
      generalize gs.getD k (0, 0, 0) = g at *
      obtain ⟨g0, g1, g2⟩ := g
      simp only at e1 e2 h0' h1' h2' hr0 hr2
      subst e1 e2
      have H0' := Lib.hid h0'
      have H1' := Lib.hid h1'
      have H2' := Lib.hid h2'
      clear h0' h1' h2'
      obtain ⟨m0, em0⟩ : ∃ m : Nat, m = i * p + j := ⟨_, rfl⟩
      obtain ⟨m1, em1⟩ : ∃ m : Nat, m = j * p + i := ⟨_, rfl⟩
      have HE0 := Lib.hid em0
      have HE1 := Lib.hid em1
      have hm0 : m0 < q := by rw [em0, hq.out]; exact place_lt (by omega) (by omega)
      have hm1 : m1 < q := by rw [em1, hq.out]; exact place_lt (by omega) (by omega)
      have b1 : (i : Int) * p ≤ 256 := by have : i * p ≤ 16 * 16 := Nat.mul_le_mul (by omega) hp; have h2 : ((i * p : Nat) : Int) = (i : Int) * p := by push_cast; rfl
                                          omega
      have b2 : (j : Int) * p ≤ 256 := by have : j * p ≤ 16 * 16 := Nat.mul_le_mul (by omega) hp; have h2 : ((j * p : Nat) : Int) = (j : Int) * p := by push_cast; rfl
                                          omega
      have b3 : 0 ≤ (i : Int) * p := Int.mul_nonneg (by omega) (by omega)
      have b4 : 0 ≤ (j : Int) * p := Int.mul_nonneg (by omega) (by omega)
      have c0 : (i : Int) * p + j = (m0 : Int) := by rw [em0]; push_cast; rfl
      have c1 : (j : Int) * p + i = (m1 : Int) := by rw [em1]; push_cast; rfl
      have hmm : m0 ≠ m1 := by rw [em0, em1]; exact place_ne (by omega) (by omega) hij
      clear em0 em1
      have HT1 : Hid (tally (metPs p) q (gs.take (k + 1)) = addAt (addAt (tally (metPs p) q (gs.take k)) m0 1) m1 1) := by have := HT.out; rw [HE0.out, HE1.out]; exact this
      clear HT
      generalize tally (metPs p) q (gs.take k) = T at *
      have h0 := cell_on HB.out H0'.out
      have h1 := cell_on HB.out H1'.out
      have h2 := cell_on HB.out H2'.out
      have ci := own_get HO.out m0 (by omega)
      have bi := HU.out m0
      have f := fun j => World.ownsRow.frozenAt (HO.out) j
      generalize hTi : T.getD m0 0 = Ti0 at *
      have HTi0 := Lib.hid hTi
      clear hTi
      have W1 : IntKind.i64.wrap (Ti0 + 1) = Ti0 + 1 := IntWalk.i64_in _ (by omega)
      have W2 : IntKind.i64.wrap ((i : Int) * p) = i * p := IntWalk.i64_in _ (by omega)
      have W3 : IntKind.i64.wrap (m0 : Int) = m0 := IntWalk.i64_in _ (by omega)
      go_wp2_with (fail)
      go_still_tail 18, (by kernel_rfl)
      change wpList _ _ _ _ _ wr.drew
      go_wp2_with (fail)
      clear W1 W2 W3
      have own1 : ((wr.setCell ⟨w.heap.size, m0, none⟩ (.int .i64 (Ti0 + 1))).drew).ownsRow w.heap.size 2 1 (.slice (some ⟨w.heap.size, 0, none⟩) q q) q (intCells (addAt T m0 1)) := World.ownsRow.drew (own_addAt (HO.out) m0 (Ti0 + 1) 1 (by rw [HTi0.out]))
      have hb1 : Below w.heap.size w ((wr.setCell ⟨w.heap.size, m0, none⟩ (.int .i64 (Ti0 + 1))).drew) := (HB.out.setCell (Nat.le_refl _) _).drew
      clear ci bi f h0 h1 h2
      generalize (wr.setCell ⟨w.heap.size, m0, none⟩ (.int .i64 (Ti0 + 1))).drew = v1 at *
      have HU1 : Hid (Upb (4 * k + 2) (addAt T m0 1)) := HU.out.add m0 1 2 (by omega) (by omega)
      generalize addAt T m0 1 = T1 at *
      have HO1 := Lib.hid own1
      have HB1 := Lib.hid hb1
      clear own1 hb1
      have h0 := cell_on HB1.out H0'.out
      have h1 := cell_on HB1.out H1'.out
      have h2 := cell_on HB1.out H2'.out
      have ci := own_get HO1.out m1 (by omega)
      have bi := HU1.out m1
      have f := fun j => World.ownsRow.frozenAt (HO1.out) j
      generalize hTi : T1.getD m1 0 = Ti1 at *
      have HTi1 := Lib.hid hTi
      clear hTi
      have W1 : IntKind.i64.wrap (Ti1 + 1) = Ti1 + 1 := IntWalk.i64_in _ (by omega)
      have W2 : IntKind.i64.wrap ((j : Int) * p) = j * p := IntWalk.i64_in _ (by omega)
      have W3 : IntKind.i64.wrap (m1 : Int) = m1 := IntWalk.i64_in _ (by omega)
      go_still_tail 18, (by kernel_rfl)
      change wpList _ _ _ _ _ v1.drew
      go_wp2
      go_roundw
      case rel =>
        clear W1 W2 W3
        refine ⟨k + 1, by omega, by go_num, (HB1.out.setCell (Nat.le_refl _) _).drew, ?_, ?_⟩
        · rw [HT1.out]
          exact (HU1.out.add m1 1 2 (by omega) (by omega)).wide (by omega)
        · rw [HT1.out]
          exact World.ownsRow.drew (own_addAt HO1.out m1 (Ti1 + 1) 1 (by rw [HTi1.out]))
      case measure => simp [intOf]; omega
    · obtain rfl : k = n := by omega
      have HB := Lib.hid hbel
      have HO := Lib.hid hown
      clear hcell hbel hown
      go_wp2
      go_ret
      refine ⟨_, rfl, HB.out, ?_⟩
      have := HO.out
      rw [List.take_of_length_le (by rw [hl.out]; exact Nat.le_refl _)] at this
      exact this

set_option maxHeartbeats 1000000 in
set_option maxRecDepth 100000 in
theorem metOf_any (p : Nat) (a : Option Addr) (n c : Nat) (gs : List (Int × Int × Int)) (w : World) (h : Trips w a n c gs) (hp : p ≤ 16) (hn : n ≤ 128) (hg : ∀ g ∈ gs, okGame p g = true) :
    Calls Try.prog 45 #[.int .i64 p, .slice a n c] w fun e w' => ∃ g, e = .returned (.slice (some ⟨g, 0, none⟩) (p * p) (p * p)) ∧ Below w.heap.size w w' ∧ w'.ownsRow w.heap.size 2 1 (.slice (some ⟨g, 0, none⟩) (p * p) (p * p)) (p * p) (intCells (tally (metPs p) (p * p) gs)) := by
  obtain ⟨hc, hb, hcell⟩ := h.at
  have hl := Lib.hid h.len
  have HV := Lib.hid hg
  clear h hg
  obtain ⟨i0, hi, hz0, hz1, hz2⟩ := info_parts infoI64
  obtain ⟨q, hq0⟩ : ∃ q : Nat, q = p * p := ⟨_, rfl⟩
  rw [← hq0]
  have hpq : (p : Int) * (p : Int) = (q : Int) := by rw [hq0]; push_cast; rfl
  have hq1 : q ≤ 256 := by have : p * p ≤ 16 * 16 := Nat.mul_le_mul hp hp; omega
  have hq := Lib.hid hq0
  clear hq0
  go_enter Try.func45, Try.ntmps45
  go_wp2_with (first | (at_make; go_must (refine wpList_make_full _ rfl _ _ 41 rfl w.heap.size 2 i0 _ 1 Try.underlying41 hi hz0 hz1 _ _ _ _ q rfl rfl (by first | rfl | exact hpq) (by first | rfl | exact hpq) (by rw [hz2]; omega) (by unfold maxLen; omega) (by simp) ?_; intro w1 hown1 hg1)))
  have hown1' := Lib.hid hown1
  have hg1' := Lib.hid hg1
  clear hown1 hg1
  go_loopw [14] (fun i wr => ∃ k : Nat, k ≤ n ∧ i = .int .i64 k ∧ Below w.heap.size w wr ∧ Upb (4 * k) (tally (metPs p) q (gs.take k)) ∧ wr.ownsRow w.heap.size 2 1 (.slice (some ⟨w.heap.size, 0, none⟩) q q) q (intCells (tally (metPs p) q (gs.take k)))) (fun i _ => n - (intOf i).toNat)
  case atStart => exact ⟨0, by omega, rfl, below_made (Below.refl _ _) (Nat.le_refl _) hg1'.out, by simpa [tally] using Upb.zero q, by rw [List.take_zero, tally_nil, intCells_zero]; have := hown1'.out; rw [made_const _ (.int .i64 0) (by decide) (by intro i hi; match i, hi with | 0, _ => rfl), Nat.mul_one] at this; exact this⟩
  case round =>
    obtain ⟨k, hk, rfl, hbel, hup, hown⟩ := hrel
    by_cases hlt : k < n
    · obtain ⟨b, off, rfl, hlb, hx⟩ := hcell k hlt
      obtain ⟨h0', h1', h2'⟩ := hx k hlt
      have HT := Lib.hid (tally_succ (metPs p) q gs k (by rw [hl.out]; exact hlt))
      obtain ⟨i, j, e1, e2, hip, hjp, hij, hr0, hr2⟩ := okGame_nat (HV.out _ (getD_mem (d := (0, 0, 0)) (k := k) (by rw [hl.out]; exact hlt)))
      have h0 := cell_on hbel h0'
      have h1 := cell_on hbel h1'
      have h2 := cell_on hbel h2'
      have HB := Lib.hid hbel
      have HO := Lib.hid hown
      have HU := Lib.hid hup
      have HZ := Lib.hid hbel.size
      clear hcell hx hbel hown hup h0' h1' h2'
      generalize gs.getD k (0, 0, 0) = g at *
      obtain ⟨g0, g1, g2⟩ := g
      simp only at e1 e2 h0 h1 h2 hr0 hr2
      subst e1 e2
      obtain ⟨m0, em0⟩ : ∃ m : Nat, m = i * p + j := ⟨_, rfl⟩
      obtain ⟨m1, em1⟩ : ∃ m : Nat, m = j * p + i := ⟨_, rfl⟩
      have HE0 := Lib.hid em0
      have HE1 := Lib.hid em1
      have hm0 : m0 < q := by rw [em0, hq.out]; exact place_lt (by omega) (by omega)
      have hm1 : m1 < q := by rw [em1, hq.out]; exact place_lt (by omega) (by omega)
      have b1 : (i : Int) * p ≤ 256 := by have : i * p ≤ 16 * 16 := Nat.mul_le_mul (by omega) hp; have h2 : ((i * p : Nat) : Int) = (i : Int) * p := by push_cast; rfl
                                          omega
      have b2 : (j : Int) * p ≤ 256 := by have : j * p ≤ 16 * 16 := Nat.mul_le_mul (by omega) hp; have h2 : ((j * p : Nat) : Int) = (j : Int) * p := by push_cast; rfl
                                          omega
      have b3 : 0 ≤ (i : Int) * p := Int.mul_nonneg (by omega) (by omega)
      have b4 : 0 ≤ (j : Int) * p := Int.mul_nonneg (by omega) (by omega)
      have c0 : (i : Int) * p + j = (m0 : Int) := by rw [em0]; push_cast; rfl
      have c1 : (j : Int) * p + i = (m1 : Int) := by rw [em1]; push_cast; rfl
      have hmm : m0 ≠ m1 := by rw [em0, em1]; exact place_ne (by omega) (by omega) hij
      clear em0 em1
      have HT1 : Hid (tally (metPs p) q (gs.take (k + 1)) = addAt (addAt (tally (metPs p) q (gs.take k)) m0 1) m1 1) := by have := HT.out; rw [HE0.out, HE1.out]; exact this
      clear HT
      generalize tally (metPs p) q (gs.take k) = T at *
      have hgl : w.heap.size < wr.heap.size := (own_block HO.out).2
      have HB0 : Hid (Below w.heap.size w (wr.alloc (.cells #[.int .i64 i, .int .i64 j, .int .i64 g2] 55))) := HB.out.alloc HZ.out _
      have HO0 := Lib.hid (HO.out.alloc (.cells #[.int .i64 i, .int .i64 j, .int .i64 g2] 55))
      have q0 : (wr.alloc (.cells #[.int .i64 i, .int .i64 j, .int .i64 g2] 55)).cell? ⟨wr.heap.size, 0, none⟩ = some (.int .i64 i) := by go_simp
      have q1 : (wr.alloc (.cells #[.int .i64 i, .int .i64 j, .int .i64 g2] 55)).cell? ⟨wr.heap.size, 1, none⟩ = some (.int .i64 j) := by go_simp
      have q2 : (wr.alloc (.cells #[.int .i64 i, .int .i64 j, .int .i64 g2] 55)).cell? ⟨wr.heap.size, 2, none⟩ = some (.int .i64 g2) := by go_simp
      have hne : wr.heap.size ≠ w.heap.size := by omega
      have hne' : w.heap.size ≠ wr.heap.size := by omega
      have ci := own_get HO.out m0 hm0
      have cj := own_get HO.out m1 hm1
      clear q0 q1 q2
      have bi := HU.out m0
      have bj := HU.out m1
      have f := fun j => World.ownsRow.frozenAt (HO.out) j
      generalize hTi : T.getD m0 0 = Ti at *
      generalize hTj : T.getD m1 0 = Tj at *
      have HTi := Lib.hid hTi
      have HTj := Lib.hid hTj
      clear hTi hTj
      go_wp2
      go_roundw
      case rel =>
        refine ⟨k + 1, by omega, by go_num, ((HB.out.setCell (Nat.le_refl _) _).setCell (Nat.le_refl _) _).alloc (by simp; omega) _, ?_, ?_⟩
        · rw [HT1.out]
          exact ((HU.out.add m0 1 1 (by omega) (by omega)).add m1 1 1 (by omega) (by omega)).wide (by omega)
        · rw [HT1.out]
          refine World.ownsRow.alloc ?_ _
          exact own_addAt (own_addAt HO.out m0 (Ti + 1) 1 (by rw [HTi.out])) m1 (Tj + 1) 1 (by rw [addAt_getD_ne _ _ _ _ hmm, HTj.out])
      case measure => simp [intOf]; omega
    · obtain rfl : k = n := by omega
      have HB := Lib.hid hbel
      have HO := Lib.hid hown
      clear hcell hbel hown
      go_wp2
      go_ret
      refine ⟨_, rfl, HB.out, ?_⟩
      have := HO.out
      rw [List.take_of_length_le (by rw [hl.out]; exact Nat.le_refl _)] at this
      exact this

end Go.Proofs.Ytcflgmjjomiejaa
