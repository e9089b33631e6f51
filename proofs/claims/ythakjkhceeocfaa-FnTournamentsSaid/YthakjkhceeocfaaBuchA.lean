/- BuchholzOf of both. -/
import Derived.Test.YthakjkhceeocfaaScoreB
import Derived.Test.YthakjkhceeocfaaScoresOf
import Derived.OneCell
import Derived.StillTailTactics
namespace Go.Proofs.Ythakjkhceeocfaa
open Go.RowKit
set_option linter.unusedVariables false

def buchPs (S : List Int) (g : Int × Int × Int) : (Nat × Int) × (Nat × Int) := ((g.1.toNat, S.getD g.2.1.toNat 0), (g.2.1.toNat, S.getD g.1.toNat 0))
/-- what BuchholzOf tells -/
def buchRes (p : Int) (gs : List (Int × Int × Int)) : List Int × Bool := if okGames p gs then (tally (buchPs (tally scorePs p.toNat gs)) p.toNat gs, true) else ([], false)
theorem buchRes_len (p : Int) (gs : List (Int × Int × Int)) : (buchRes p gs).1.length ≤ 1048576 := by
  unfold buchRes
  split
  · rename_i h
    obtain ⟨⟨_, h1⟩, _⟩ := okGames_all h
    dsimp only
    rw [tally_len]
    omega
  · simp
theorem scores_upb (p : Nat) (gs : List (Int × Int × Int)) (hn : gs.length ≤ 128) (hg : ∀ g ∈ gs, okGame p g = true) : Upb 512 (tally scorePs p gs) := by
  have key : ∀ k, k ≤ gs.length → Upb (4 * k) (tally scorePs p (gs.take k)) := by
    intro k
    induction k with
    | zero => intro _; simpa [tally] using Upb.zero p
    | succ k ih =>
      intro hk
      rw [tally_succ scorePs p gs k (by omega)]
      obtain ⟨i, j, e1, e2, hip, hjp, hij, hr0, hr2⟩ := okGame_nat (hg _ (getD_mem (d := (0, 0, 0)) (k := k) (by omega)))
      exact (((ih (by omega)).add _ _ 2 (by simp only [scorePs]; omega) (by simp only [scorePs]; omega)).add _ _ 2 (by simp only [scorePs]; omega) (by simp only [scorePs]; omega)).wide (by omega)
  have := key gs.length (Nat.le_refl _)
  rw [List.take_length] at this
  exact this.wide (by omega)
theorem own_other {w : World} {B s g n m c : Nat} {E : TypeId} {sz : Nat} {cs : List Value} {i : Nat} {u : Value} (h : w.ownsRow B E sz (.slice (some ⟨s, 0, none⟩) n c) m cs) (hne : s ≠ g) : ((w.setCell ⟨g, i, none⟩ u).drew).ownsRow B E sz (.slice (some ⟨s, 0, none⟩) n c) m cs :=
  World.ownsRow.drew (ownsRow_setCell_other h (by intro e; exact hne (Option.some_inj.1 e)) u)

set_option maxHeartbeats 4000000 in
set_option maxRecDepth 100000 in
theorem specBuchholzOf_any (p : Int) (a : Option Addr) (n c : Nat) (gs : List (Int × Int × Int)) (w : World) (h : Trips w a n c gs) :
    Calls Try.prog 19 #[.int .i64 p, .slice a n c] w (RetI 2 w (buchRes p gs)) := by
  have hlen := h.len
  rcases Bool.eq_false_or_eq_true (okGames p gs) with e0 | e0
  · have HR0 : Hid (buchRes p gs = (tally (buchPs (tally scorePs p.toNat gs)) p.toNat gs, true)) := if_pos e0
    obtain ⟨⟨p1, p2⟩, p3, p4⟩ := okGames_all e0
    obtain ⟨p, rfl⟩ : ∃ q : Nat, p = (q : Int) := ⟨p.toNat, by omega⟩
    have HUS0 := Lib.hid (scores_upb p gs p3 p4)
    have HV := Lib.hid p4
    have HR : Hid (buchRes p gs = (tally (buchPs (tally scorePs p gs)) p gs, true)) := HR0.out
    obtain ⟨hc, hb, hcell⟩ := h.at
    have hl := Lib.hid h.len
    have HC := Lib.hid hcell
    have hn : n ≤ 128 := by omega
    have hp : p ≤ 16 := by omega
    clear p3 p4 hlen HR0 hcell
    obtain ⟨i0, hi, hz0, hz1, hz2⟩ := info_parts infoI64
    go_enter Try.func19, Try.ntmps19
    go_wp2_with (fail)
    refine (l07Games_any _ _ _ _ _ _ h).mono ?_
    rintro e w1 ⟨rfl, hb1⟩
    replace hb1 := hb1.b
    have h1 := h.mono hb1
    go_wp2_with (fail)
    refine (l07Scores_any p _ _ _ _ _ h1 (by omega) hn HV.out).mono ?_
    rintro e w2 ⟨sg, rfl, hb2, ho⟩
    have HB0 := Lib.hid (hb1.trans (hb2.mono hb1.size))
    have HS0 := Lib.hid (ownsRow_low ho hb1.size)
    clear ho hb1 hb2 h h1
    generalize tally scorePs p gs = S at *
    go_wp2_with (first | (at_make; go_must (refine wpList_make_full _ rfl _ _ 24 rfl w2.heap.size 2 i0 _ 1 Try.underlying24 hi hz0 hz1 _ _ _ _ p rfl rfl rfl rfl (by rw [hz2]; omega) (by unfold maxLen; omega) (by simp) ?_; intro w3 hown3 hg3)))
    have HB := Lib.hid (below_made HB0.out HB0.out.size hg3)
    rw [made_const _ (.int .i64 0) (by decide) (by intro i hi; match i, hi with | 0, _ => rfl), Nat.mul_one] at hown3
    have HO := Lib.hid (ownsRow_low hown3 HB0.out.size)
    have HS := Lib.hid (HS0.out.kept hg3 (.inr (by simp [Value.ownBlock])))
    have hsg : sg ≠ w2.heap.size := Nat.ne_of_lt (own_block HS0.out).2
    have hG : w.heap.size ≤ w2.heap.size := HB0.out.size
    clear hown3 hg3 HB0 HS0
    generalize w2.heap.size = G at *
    have hcell := HC.out
    have HUS : Hid (Upb 512 S) := HUS0
    clear HC HUS0
    go_loopw [20] (fun i wr => ∃ k : Nat, k ≤ n ∧ i = .int .i64 k ∧ Below w.heap.size w wr ∧ Upb (1024 * k) (tally (buchPs S) p (gs.take k)) ∧ wr.ownsRow w.heap.size 2 1 (.slice (some ⟨sg, 0, none⟩) p p) p (intCells S) ∧ wr.ownsRow w.heap.size 2 1 (.slice (some ⟨G, 0, none⟩) p p) p (intCells (tally (buchPs S) p (gs.take k)))) (fun i _ => n - (intOf i).toNat)
    case atStart => exact ⟨0, by omega, rfl, HB.out, by simpa [tally] using Upb.zero p, HS.out, by rw [List.take_zero, tally_nil, intCells_zero]; have := HO.out; exact this⟩
    case round =>
      clear HB HS HO
      obtain ⟨k, hk, rfl, hbel, hup, hs, hown⟩ := hrel
      by_cases hlt : k < n
      · obtain ⟨b, off, rfl, hlb, hx⟩ := hcell k hlt
        obtain ⟨h0', h1', h2'⟩ := hx k hlt
        have HT := Lib.hid (tally_succ (buchPs S) p gs k (by rw [hl.out]; exact hlt))
        obtain ⟨i, j, e1, e2, hip, hjp, hij, hr0, hr2⟩ := okGame_nat (HV.out _ (getD_mem (d := (0, 0, 0)) (k := k) (by rw [hl.out]; exact hlt)))
        have HB := Lib.hid hbel
        have HO := Lib.hid hown
        have HU := Lib.hid hup
        have HS := Lib.hid hs
        clear hcell hx hbel hown hup hs
        generalize gs.getD k (0, 0, 0) = g at *
        obtain ⟨g0, g1, g2⟩ := g
        simp only at e1 e2 h0' h1' h2' hr0 hr2
        subst e1 e2
        have H0' := Lib.hid h0'
        have H1' := Lib.hid h1'
        have H2' := Lib.hid h2'
        clear h0' h1' h2'
        have HT1 : Hid (tally (buchPs S) p (gs.take (k + 1)) = addAt (addAt (tally (buchPs S) p (gs.take k)) i (S.getD j 0)) j (S.getD i 0)) := HT.out
        clear HT
        generalize tally (buchPs S) p (gs.take k) = T at *
        have s0 := HUS.out i
        have s1 := HUS.out j
        have HB0 := HB
        have HO0 := HO
        have HS0 := HS
        clear HB HO HS
        have q0 := cell_on HB0.out H0'.out
        have q1 := cell_on HB0.out H1'.out
        have ci := own_get HO0.out i (by omega)
        have cs := own_get HS0.out j (by omega)
        have bi := HU.out i
        have f := fun j => World.ownsRow.frozenAt HO0.out j
        have HSi : Hid (∃ x, x = S.getD i 0) := Lib.hid ⟨_, rfl⟩
        clear HSi
        generalize hSj : S.getD j 0 = Sj at *
        generalize hSi : S.getD i 0 = Si at *
        generalize hTi : T.getD i 0 = Ti at *
        have HTi := Lib.hid hTi
        have HSi := Lib.hid hSi
        have HSj := Lib.hid hSj
        clear hTi hSi hSj
        have W1 : IntKind.i64.wrap (Ti + Sj) = Ti + Sj := IntWalk.i64_in _ (by omega)
        go_wp2_with (fail)
        go_still_tail 18, (by kernel_rfl)
        change wpList _ _ _ _ _ wr.drew
        go_wp2_with (fail)
        have own1 : ((wr.setCell ⟨G, i, none⟩ (.int .i64 (Ti + Sj))).drew).ownsRow w.heap.size 2 1 (.slice (some ⟨G, 0, none⟩) p p) p (intCells (addAt T i Sj)) := World.ownsRow.drew (own_addAt HO0.out i (Ti + Sj) Sj (by rw [HTi.out]))
        have hs1 : ((wr.setCell ⟨G, i, none⟩ (.int .i64 (Ti + Sj))).drew).ownsRow w.heap.size 2 1 (.slice (some ⟨sg, 0, none⟩) p p) p (intCells S) := own_other HS0.out hsg
        have hb1 : Below w.heap.size w ((wr.setCell ⟨G, i, none⟩ (.int .i64 (Ti + Sj))).drew) := (HB0.out.setCell hG _).drew
        have r0 := cell_on hb1 H0'.out
        have r1 := cell_on hb1 H1'.out
        clear ci cs bi f W1 q0 q1
        generalize (wr.setCell ⟨G, i, none⟩ (.int .i64 (Ti + Sj))).drew = v1 at *
        have HU1 : Hid (Upb (1024 * k + 512) (addAt T i Sj)) := HU.out.add i Sj 512 (by omega) (by omega)
        generalize addAt T i Sj = T1 at *
        have cj := own_get own1 j (by omega)
        have cs : v1.cell? ⟨sg, i, none⟩ = some (.int .i64 Si) := by have := own_get hs1 i (by omega); rw [HSi.out] at this; exact this
        have bj := HU1.out j
        have f := fun j => own1.frozenAt j
        generalize hTj : T1.getD j 0 = Tj at *
        have HTj := Lib.hid hTj
        clear hTj
        have HO1 := Lib.hid own1
        have HS1 := Lib.hid hs1
        have HB1 := Lib.hid hb1
        clear own1 hb1 hs1
        have W1 : IntKind.i64.wrap (Tj + Si) = Tj + Si := IntWalk.i64_in _ (by omega)
        go_still_tail 18, (by kernel_rfl)
        change wpList _ _ _ _ _ v1.drew
        go_wp2
        go_roundw
        case rel =>
          clear W1
          refine ⟨k + 1, by omega, by go_num, (HB1.out.setCell hG _).drew, ?_, own_other HS1.out hsg, ?_⟩
          · rw [HT1.out]
            exact (HU1.out.add j Si 512 (by omega) (by omega)).wide (by omega)
          · rw [HT1.out]
            exact World.ownsRow.drew (own_addAt HO1.out j (Tj + Si) Si (by rw [HTj.out]))
        case measure => simp [intOf]; omega
      · obtain rfl : k = n := by omega
        have HB := Lib.hid hbel
        have HO := Lib.hid hown
        clear hcell hbel hown hs
        go_wp2
        go_ret2
        refine RetI.ok HR.out HB.out ?_
        have := HO.out
        rw [List.take_of_length_le (by rw [hl.out]; exact Nat.le_refl _)] at this
        exact this
  · have HR : Hid (buchRes p gs = ([], false)) := by show (if okGames p gs then _ else _) = _; rw [e0]; rfl
    clear hlen
    go_enter Try.func19, Try.ntmps19
    go_wp2_with (fail)
    refine (l07Games_any _ _ _ _ _ _ h).mono ?_
    rintro e w1 ⟨rfl, hb1⟩
    replace hb1 := hb1.b
    clear h
    go_wp2
    go_ret2
    exact RetI.nil HR.out hb1

end Go.Proofs.Ythakjkhceeocfaa
