/- BuchholzOf of both. -/
import Derived.Test.YthakjkhceeocfaaBuchA
import Derived.Deep.RegionWith
import Derived.Deep.Cut
import Derived.Deep.CutRange
import Derived.Deep.OwnRows
import Derived.StillTailTactics
namespace Go.Proofs.Ythakjkhceeocfaa
open Go.RowKit
set_option linter.unusedVariables false

theorem made_row {E : TypeId} (w : World) (base p : Nat) (hb : base ≤ w.heap.size) (hp : p ≤ 16) : (w.alloc (.cells (madeCells #[.int .i64 0] p) E)).ownsRow base E 1 (.slice (some ⟨w.heap.size, 0, none⟩) p p) p (List.replicate p (.int .i64 0)) := by
  have := World.ownsRow_lit (base := base) (e := E) (size := 1) w (madeCells #[.int .i64 0] p) p hb (by unfold maxLen; omega) (by rw [size_madeCells, Nat.mul_one])
  rw [made_const _ (.int .i64 0) (by decide) (by intro i hi; match i, hi with | 0, _ => rfl)] at this
  exact this

set_option maxHeartbeats 4000000 in
set_option maxRecDepth 100000 in
theorem implBuchholzOf_any (p : Int) (a : Option Addr) (n c : Nat) (gs : List (Int × Int × Int)) (w : World) (h : Trips w a n c gs) :
    Calls Try.prog 18 #[.int .i64 p, .slice a n c] w (RetI 2 w (buchRes p gs)) := by
  have hlen := h.len
  rcases Bool.eq_false_or_eq_true (okGames p gs) with e0 | e0
  · have HR0 : Hid (buchRes p gs = (tally (buchPs (tally scorePs p.toNat gs)) p.toNat gs, true)) := if_pos e0
    obtain ⟨⟨p1, p2⟩, p3, p4⟩ := okGames_all e0
    obtain ⟨p, rfl⟩ : ∃ q : Nat, p = (q : Int) := ⟨p.toNat, by omega⟩
    have HUS0 := Lib.hid (scores_upb p gs p3 p4)
    have HV := Lib.hid p4
    have HR : Hid (buchRes p gs = (tally (buchPs (tally scorePs p gs)) p gs, true)) := HR0.out
    obtain ⟨hc, hb, hcell⟩ := h.at
    have hl := Lib.hid h.len
    have HC := Lib.hid hcell
    have hn : n ≤ 128 := by omega
    have hp : p ≤ 16 := by omega
    clear p3 p4 hlen HR0 hcell
    obtain ⟨i0, hi, hz0, hz1, hz2⟩ := info_parts infoI64
    go_enter Try.func18, Try.ntmps18
    go_wp2_with (fail)
    refine (implAreGames_any _ _ _ _ _ _ h).mono ?_
    rintro e w1 ⟨rfl, hb1⟩
    have h1 := h.mono hb1
    clear h
    have hs1 := hb1.size
    have HB1 := Lib.hid hb1
    clear hb1
    go_upto_region 3 with fail
    go_cut [6, 7] from 14 (fun s o wc => ∃ sg G, s = .slice (some ⟨sg, 0, none⟩) p p ∧ o = .slice (some ⟨G, 0, none⟩) p p ∧ sg ≠ G ∧ w.heap.size ≤ G ∧ Below w.heap.size w wc ∧ wc.ownsRow w.heap.size 2 1 (.slice (some ⟨sg, 0, none⟩) p p) p (intCells (tally scorePs p gs)) ∧ wc.ownsRow w.heap.size 2 1 (.slice (some ⟨G, 0, none⟩) p p) p (List.replicate p (.int .i64 0)))
    case first =>
      have hmk : ∀ W : World, (Instr.makeSlice 24 (.int .i64 (p : Int)) (.int .i64 (p : Int))).run Try.prog W = .ok (.slice (some ⟨W.heap.size, 0, none⟩) p p) (W.alloc (.cells (madeCells #[.int .i64 0] p) 2)) := fun W => run_make_row _ _ i0 (.int .i64 0) rfl hi hz0 hz1 rfl _ _ p (by rw [hz2]; omega) (by omega) W
      go_region_with ((go_at_call 42; refine (scoresOf_any p a n c gs _ ?_ hp hn HV.out).mono ?_; (first | exact h1.mono (Below.refl _ _).drew | exact (h1.mono (Below.refl _ _).drew).mono ((Below.refl _ _).alloc (Nat.le_refl _) _)); rintro e w2 ⟨sg, rfl, hb2, ho⟩))
      all_goals (go_wp2_with (fail))
      all_goals go_meet
      all_goals first
        | exact ⟨sg, _, rfl, rfl, Nat.ne_of_lt (own_block ho).2, Nat.le_trans hs1 hb2.size, (HB1.out.drew.trans (hb2.mono hs1)).alloc (Nat.le_trans hs1 hb2.size) _, (ownsRow_low ho hs1).alloc _, made_row w2 _ p (Nat.le_trans hs1 hb2.size) hp⟩
        | exact ⟨sg, _, rfl, rfl, Nat.ne_of_gt (Nat.lt_of_lt_of_le (by simp) (own_block ho).1), hs1, (HB1.out.drew.alloc hs1 _).trans (hb2.mono (Nat.le_trans hs1 (by simp))), ownsRow_low ho (Nat.le_trans hs1 (by simp)), ownsRow_below (made_row w1.drew _ p hs1 hp) hb2⟩
    case rest =>
      obtain ⟨sg, G, rfl, rfl, hsg, hG, hb, hs, ho⟩ := hcut
      have HB := Lib.hid hb
      have HS := Lib.hid hs
      have HO := Lib.hid ho
      clear hb hs ho
      generalize tally scorePs p gs = S at *
      go_wp2_with (fail)
      have hcell := HC.out
      have HUS : Hid (Upb 512 S) := HUS0
      clear HC HUS0
      go_loopw [21] (fun i wr => ∃ k : Nat, k ≤ n ∧ i = .int .i64 k ∧ Below w.heap.size w wr ∧ Upb (1024 * k) (tally (buchPs S) p (gs.take k)) ∧ wr.ownsRow w.heap.size 2 1 (.slice (some ⟨sg, 0, none⟩) p p) p (intCells S) ∧ wr.ownsRow w.heap.size 2 1 (.slice (some ⟨G, 0, none⟩) p p) p (intCells (tally (buchPs S) p (gs.take k)))) (fun i _ => n - (intOf i).toNat)
      case atStart => exact ⟨0, by omega, rfl, HB.out, by simpa [tally] using Upb.zero p, HS.out, by rw [List.take_zero, tally_nil, intCells_zero]; have := HO.out; exact this⟩
      case round =>
        clear HB HS HO
        obtain ⟨k, hk, rfl, hbel, hup, hs, hown⟩ := hrel
        by_cases hlt : k < n
        · obtain ⟨b, off, rfl, hlb, hx⟩ := hcell k hlt
          obtain ⟨h0', h1', h2'⟩ := hx k hlt
          have HT := Lib.hid (tally_succ (buchPs S) p gs k (by rw [hl.out]; exact hlt))
          obtain ⟨i, j, e1, e2, hip, hjp, hij, hr0, hr2⟩ := okGame_nat (HV.out _ (getD_mem (d := (0, 0, 0)) (k := k) (by rw [hl.out]; exact hlt)))
          have HB := Lib.hid hbel
          have HO := Lib.hid hown
          have HU := Lib.hid hup
          have HS := Lib.hid hs
          clear hcell hx hbel hown hup hs
          generalize gs.getD k (0, 0, 0) = g at *
          obtain ⟨g0, g1, g2⟩ := g
          simp only at e1 e2 h0' h1' h2' hr0 hr2
          subst e1 e2
          have H0' := Lib.hid h0'
          have H1' := Lib.hid h1'
          have H2' := Lib.hid h2'
          clear h0' h1' h2'
          have HT1 : Hid (tally (buchPs S) p (gs.take (k + 1)) = addAt (addAt (tally (buchPs S) p (gs.take k)) i (S.getD j 0)) j (S.getD i 0)) := HT.out
          clear HT
          generalize tally (buchPs S) p (gs.take k) = T at *
          have s0 := HUS.out i
          have s1 := HUS.out j
          have h0 := cell_on HB.out H0'.out
          have h1 := cell_on HB.out H1'.out
          have h2 := cell_on HB.out H2'.out
          have hgl : G < wr.heap.size := (own_block HO.out).2
          have hsl : sg < wr.heap.size := (own_block HS.out).2
          go_wp2_with (fail)
          have HZ := Lib.hid HB.out.size
          have HB0 : Hid (Below w.heap.size w (wr.alloc (.cells #[.int .i64 i, .int .i64 j, .int .i64 g2] 59))) := HB.out.alloc HZ.out _
          have HO0 := Lib.hid (HO.out.alloc (.cells #[.int .i64 i, .int .i64 j, .int .i64 g2] 59))
          have HS0 := Lib.hid (HS.out.alloc (.cells #[.int .i64 i, .int .i64 j, .int .i64 g2] 59))
          have q0 : (wr.alloc (.cells #[.int .i64 i, .int .i64 j, .int .i64 g2] 59)).cell? ⟨wr.heap.size, 0, none⟩ = some (.int .i64 i) := by go_simp
          have q1 : (wr.alloc (.cells #[.int .i64 i, .int .i64 j, .int .i64 g2] 59)).cell? ⟨wr.heap.size, 1, none⟩ = some (.int .i64 j) := by go_simp
          have hne : wr.heap.size ≠ G := by omega
          clear h0 h1 h2 HB HO HS
          generalize wr.alloc (.cells #[.int .i64 i, .int .i64 j, .int .i64 g2] 59) = V at *
          have ci := own_get HO0.out i (by omega)
          have cs := own_get HS0.out j (by omega)
          have bi := HU.out i
          have f := fun j => World.ownsRow.frozenAt HO0.out j
          have HSi : Hid (∃ x, x = S.getD i 0) := Lib.hid ⟨_, rfl⟩
          clear HSi
          generalize hSj : S.getD j 0 = Sj at *
          generalize hSi : S.getD i 0 = Si at *
          generalize hTi : T.getD i 0 = Ti at *
          have HTi := Lib.hid hTi
          have HSi := Lib.hid hSi
          have HSj := Lib.hid hSj
          clear hTi hSi hSj
          have W1 : IntKind.i64.wrap (Ti + Sj) = Ti + Sj := IntWalk.i64_in _ (by omega)
          go_still_tail 12, (by kernel_rfl)
          change wpList _ _ _ _ _ V.drew
          go_wp2_with (fail)
          have own1 : ((V.setCell ⟨G, i, none⟩ (.int .i64 (Ti + Sj))).drew).ownsRow w.heap.size 2 1 (.slice (some ⟨G, 0, none⟩) p p) p (intCells (addAt T i Sj)) := World.ownsRow.drew (own_addAt HO0.out i (Ti + Sj) Sj (by rw [HTi.out]))
          have hs1 : ((V.setCell ⟨G, i, none⟩ (.int .i64 (Ti + Sj))).drew).ownsRow w.heap.size 2 1 (.slice (some ⟨sg, 0, none⟩) p p) p (intCells S) := own_other HS0.out hsg
          have hb1 : Below w.heap.size w ((V.setCell ⟨G, i, none⟩ (.int .i64 (Ti + Sj))).drew) := (HB0.out.setCell hG _).drew
          have r0 : ((V.setCell ⟨G, i, none⟩ (.int .i64 (Ti + Sj))).drew).cell? ⟨wr.heap.size, 0, none⟩ = some (.int .i64 i) := by
            show (V.setCell ⟨G, i, none⟩ (.int .i64 (Ti + Sj))).cell? ⟨wr.heap.size, 0, none⟩ = _
            rw [World.cell?_of_block (Below.heap_setCell V ⟨G, i, none⟩ _ wr.heap.size hne)]
            exact q0
          have r1 : ((V.setCell ⟨G, i, none⟩ (.int .i64 (Ti + Sj))).drew).cell? ⟨wr.heap.size, 1, none⟩ = some (.int .i64 j) := by
            show (V.setCell ⟨G, i, none⟩ (.int .i64 (Ti + Sj))).cell? ⟨wr.heap.size, 1, none⟩ = _
            rw [World.cell?_of_block (Below.heap_setCell V ⟨G, i, none⟩ _ wr.heap.size hne)]
            exact q1
          clear ci cs bi f W1 q0 q1
          generalize (V.setCell ⟨G, i, none⟩ (.int .i64 (Ti + Sj))).drew = v1 at *
          have HU1 : Hid (Upb (1024 * k + 512) (addAt T i Sj)) := HU.out.add i Sj 512 (by omega) (by omega)
          generalize addAt T i Sj = T1 at *
          have cj := own_get own1 j (by omega)
          have cs : v1.cell? ⟨sg, i, none⟩ = some (.int .i64 Si) := by have := own_get hs1 i (by omega); rw [HSi.out] at this; exact this
          have bj := HU1.out j
          have f := fun j => own1.frozenAt j
          generalize hTj : T1.getD j 0 = Tj at *
          have HTj := Lib.hid hTj
          clear hTj
          have HO1 := Lib.hid own1
          have HS1 := Lib.hid hs1
          have HB1 := Lib.hid hb1
          clear own1 hb1 hs1
          have W1 : IntKind.i64.wrap (Tj + Si) = Tj + Si := IntWalk.i64_in _ (by omega)
          go_still_tail 12, (by kernel_rfl)
          change wpList _ _ _ _ _ v1.drew
          go_wp2
          go_roundw
          case rel =>
            clear W1
            refine ⟨k + 1, by omega, by go_num, (HB1.out.setCell hG _).drew, ?_, own_other HS1.out hsg, ?_⟩
            · rw [HT1.out]
              exact (HU1.out.add j Si 512 (by omega) (by omega)).wide (by omega)
            · rw [HT1.out]
              exact World.ownsRow.drew (own_addAt HO1.out j (Tj + Si) Si (by rw [HTj.out]))
          case measure => simp [intOf]; omega
        · obtain rfl : k = n := by omega
          have HB := Lib.hid hbel
          have HO := Lib.hid hown
          clear hcell hbel hown hs
          go_wp2
          go_ret2
          refine RetI.ok HR.out HB.out ?_
          have := HO.out
          rw [List.take_of_length_le (by rw [hl.out]; exact Nat.le_refl _)] at this
          exact this
  · have HR : Hid (buchRes p gs = ([], false)) := by show (if okGames p gs then _ else _) = _; rw [e0]; rfl
    clear hlen
    go_enter Try.func18, Try.ntmps18
    go_wp2_with (fail)
    refine (implAreGames_any _ _ _ _ _ _ h).mono ?_
    rintro e w1 ⟨rfl, hb1⟩
    clear h
    go_wp2
    go_ret2
    exact RetI.nil HR.out hb1

end Go.Proofs.Ythakjkhceeocfaa
