/- TieOrder, spec. -/
import Derived.Test.YthakjkhceeocfaaTieA
import Derived.Test.YthakjkhceeocfaaBasic
import Derived.Test.YthakjkhceeocfaaI64
import Derived.Test.YthakjkhceeocfaaBool
import Derived.Test.YthakjkhceeocfaaTally
import Derived.Test.YthakjkhceeocfaaChgC
namespace Go.Proofs.Ythakjkhceeocfaa
open Go.RowKit
set_option linter.unusedVariables false

/-- scores and others are such -/
def tieOk (sc ot : List Int) (j : Nat) : Bool := inB (sc.getD j 0) 0 1000 && inB (ot.getD j 0) 0 1000000
theorem all_getD {p : Int → Bool} {xs : List Int} (h : ∀ j, j < xs.length → p (xs.getD j 0) = true) : xs.all p = true := by
  rw [List.all_eq_true]
  intro x hx
  obtain ⟨i, hi, rfl⟩ := List.getElem_of_mem hx
  have := h i hi
  simpa [hi] using this
theorem getD_all {p : Int → Bool} {xs : List Int} (h : xs.all p = true) (j : Nat) (hj : j < xs.length) : p (xs.getD j 0) = true := by
  rw [List.all_eq_true] at h
  exact h _ (getD_mem hj)
theorem tieRes_ok {sc ot : List Int} (h2 : 2 ≤ sc.length) (h16 : sc.length ≤ 16) (hl : ot.length = sc.length) (h : ∀ j, j < sc.length → tieOk sc ot j = true) : tieRes sc ot = (tieList sc ot, true) := by
  unfold tieRes
  rw [if_pos]
  refine ⟨?_, hl, ?_⟩
  · simp only [okScores, Bool.and_eq_true, decide_eq_true_eq]
    exact ⟨⟨h2, h16⟩, all_getD fun j hj => by have := h j hj; simp only [tieOk, Bool.and_eq_true] at this; exact this.1⟩
  · exact all_getD fun j hj => by have := h j (by omega); simp only [tieOk, Bool.and_eq_true] at this; exact this.2
theorem tieRes_no {sc ot : List Int} (h : ¬ (2 ≤ sc.length ∧ sc.length ≤ 16 ∧ ot.length = sc.length)) : tieRes sc ot = ([], false) := by
  unfold tieRes
  rw [if_neg]
  rintro ⟨h1, h2, h3⟩
  have := okScores_len h1
  exact h ⟨this.1, this.2, h2⟩
theorem tieRes_bad {sc ot : List Int} (j : Nat) (hj : j < sc.length) (hl : ot.length = sc.length) (h : tieOk sc ot j = false) : tieRes sc ot = ([], false) := by
  unfold tieRes
  rw [if_neg]
  rintro ⟨h1, h2, h3⟩
  simp only [okScores, Bool.and_eq_true] at h1
  have a := getD_all h1.2 j hj
  have b := getD_all h3 j (by omega)
  simp only [tieOk, a, b] at h
  cases h

set_option maxHeartbeats 4000000 in
set_option maxRecDepth 100000 in
theorem specTieOrder_any (a : Option Addr) (n c : Nat) (sc : List Int) (a' : Option Addr) (n' c' : Nat) (ot : List Int) (w : World) (h : Ints w a n c sc) (h' : Ints w a' n' c' ot) :
    Calls Try.prog 21 #[.slice a n c, .slice a' n' c'] w (RetI 2 w (tieRes sc ot)) := by
  obtain ⟨hc, hb, hcell⟩ := h.at
  obtain ⟨hc', hb', hcell'⟩ := h'.at
  have hl := h.len
  have hl' := h'.len
  clear h h'
  by_cases hn : 2 ≤ n ∧ n ≤ 16 ∧ n' = n
  case neg =>
    have HR := Lib.hid (tieRes_no (sc := sc) (ot := ot) (by rw [hl, hl']; exact hn))
    clear hl hl' hcell hcell'
    by_cases h2 : 2 ≤ n
    · by_cases h16 : n ≤ 16
      · have hne : ((n' : Int) != n) = true := by simp; omega
        clear hn
        go_enter Try.func21, Try.ntmps21
        go_wp2
        go_ret2
        exact RetI.nil HR.out (Below.refl _ _)
      · go_enter Try.func21, Try.ntmps21
        go_wp2
        go_ret2
        exact RetI.nil HR.out (Below.refl _ _)
    · go_enter Try.func21, Try.ntmps21
      go_wp2
      go_ret2
      exact RetI.nil HR.out (Below.refl _ _)
  obtain ⟨h2, h16, rfl⟩ := hn
  have HL := Lib.hid hl
  have HL' := Lib.hid hl'
  clear hl hl'
  obtain ⟨i0, hi, hz0, hz1, hz2⟩ := info_parts infoI64
  obtain ⟨j0, ji, jz0, jz1, jz2⟩ := info_parts infoBool
  go_enter Try.func21, Try.ntmps21
  go_wp2
  go_loop [28] (fun i => ∃ k : Nat, k ≤ n' ∧ i = .int .i64 k ∧ ∀ j, j < k → tieOk sc ot j = true) (fun i => n' - (intOf i).toNat)
  case atStart => exact ⟨0, by omega, rfl, fun j hj => by omega⟩
  case round =>
    obtain ⟨k, hk, rfl, hto⟩ := hrel
    have HT := Lib.hid hto
    clear hto
    by_cases hlt : k < n'
    · obtain ⟨b, off, rfl, hlb, hx⟩ := hcell k hlt
      obtain ⟨b', off', rfl, hlb', hy⟩ := hcell' k hlt
      have x0 := hx k hlt
      have y0 := hy k hlt
      have HE : Hid (tieOk sc ot k = (inB (sc.getD k 0) 0 1000 && inB (ot.getD k 0) 0 1000000)) := rfl
      clear hcell hcell' hx hy
      generalize sc.getD k 0 = x at *
      generalize ot.getD k 0 = y at *
      rcases Bool.eq_false_or_eq_true (inB x 0 1000) with e0 | e0
      · rcases Bool.eq_false_or_eq_true (inB y 0 1000000) with e1 | e1
        · go_wp2_with (first | (go_at_call 35; refine (l00In_any _ _ _ _).mono ?_; rintro e w' ⟨rfl, rfl⟩))
          go_round
          case rel =>
            refine ⟨k + 1, by omega, by go_num, fun j hj => ?_⟩
            by_cases e : j = k
            · subst e; rw [HE.out, e0, e1]; rfl
            · exact HT.out j (by omega)
          case measure => simp [intOf]; omega
        · have HR : Hid (tieRes sc ot = ([], false)) := tieRes_bad k (by rw [HL.out]; exact hlt) (by rw [HL.out, HL'.out]) (by rw [HE.out, e0, e1]; rfl)
          go_wp2_with (first | (go_at_call 35; refine (l00In_any _ _ _ _).mono ?_; rintro e w' ⟨rfl, rfl⟩))
          go_ret2
          exact RetI.nil HR.out (Below.refl _ _)
      · have HR : Hid (tieRes sc ot = ([], false)) := tieRes_bad k (by rw [HL.out]; exact hlt) (by rw [HL.out, HL'.out]) (by rw [HE.out, e0]; rfl)
        go_wp2_with (first | (go_at_call 35; refine (l00In_any _ _ _ _).mono ?_; rintro e w' ⟨rfl, rfl⟩))
        go_ret2
        exact RetI.nil HR.out (Below.refl _ _)
    · obtain rfl : k = n' := by omega
      have HR : Hid (tieRes sc ot = (tieList sc ot, true)) := tieRes_ok (by rw [HL.out]; exact h2) (by rw [HL.out]; exact h16) (by rw [HL.out, HL'.out]) (by rw [HL.out]; exact HT.out)
      clear HT
      go_wp2_with (first | (at_make; go_must (refine wpList_make_full _ rfl _ _ 30 rfl w.heap.size 4 j0 _ 1 Try.underlying30 ji jz0 jz1 _ _ _ _ k rfl rfl rfl rfl (by rw [jz2]; omega) (by unfold maxLen; omega) (by simp) ?_; intro w1 hown1 hg1)))
      have HG := Lib.hid (below_made (Below.refl w.heap.size w) (Nat.le_refl _) hg1)
      have HO1 : Hid (w1.ownsRow w.heap.size 4 1 (.slice (some ⟨w.heap.size, 0, none⟩) k k) k ((takenTo (tieList sc ot) k 0).map Value.bool)) := by
        show w1.ownsRow _ _ _ _ _ _
        have := hown1
        rw [made_const _ (.bool false) (by decide) (by intro i hi; match i, hi with | 0, _ => rfl), Nat.mul_one] at this
        rw [takenTo_zero, List.map_replicate]
        exact this
      have hs1 : w.heap.size < w1.heap.size := (own_block hown1).2
      clear hown1 hg1
      go_loopw [9] (fun vo wr => ∃ (q : Nat) (oa : Option Addr) (oc : Nat), q ≤ k ∧ vo = .slice oa q oc ∧ Below w.heap.size w wr ∧ wr.ownsRow (w.heap.size + 1) 2 1 (.slice oa q oc) q (intCells ((tieList sc ot).take q)) ∧ wr.ownsRow w.heap.size 4 1 (.slice (some ⟨w.heap.size, 0, none⟩) k k) k ((takenTo (tieList sc ot) k q).map Value.bool)) (fun vo _ => k - lenV vo)
      case atStart => exact ⟨0, _, _, by omega, rfl, HG.out.alloc HG.out.size _, World.ownsRow_made w1 #[] 0 (by omega) (by unfold maxLen; omega) rfl, HO1.out.alloc _⟩
      case round =>
        obtain ⟨q, oa, oc, hq, rfl, hbel, hown, htak⟩ := hrel
        have HB := Lib.hid hbel
        have HO := Lib.hid hown
        have HT := Lib.hid htak
        have HBs := Lib.hid hbel.size
        clear hbel hown htak HG HO1
        by_cases hql : q < k
        · go_wp2
          obtain ⟨wo, rfl⟩ : ∃ wo : World, wo = wr := ⟨_, rfl⟩
          go_loopw [10, 55] (fun vb vi w2 => ∃ (i : Nat) (b : Int), i ≤ k ∧ vi = .int .i64 i ∧ vb = .int .i64 b ∧ BestTo sc ot (fun i => !decide ((i : Int) ∈ (tieList sc ot).take q)) i b ∧ Quiet wo w2) (fun _ vi _ => k - (intOf vi).toNat)
          case atStart => exact ⟨0, -1, by omega, rfl, rfl, BestTo.zero _ _ _, Quiet.refl _⟩
          case round =>
            obtain ⟨i, b, hik, rfl, rfl, hbest, hquiet⟩ := hrel
            have HBe := Lib.hid hbest
            have HQ := Lib.hid hquiet
            clear hbest hquiet
            by_cases hil : i < k
            · obtain ⟨ba, off, rfl, hlb, hx⟩ := hcell i hil
              obtain ⟨bo, off', rfl, hlb', hy⟩ := hcell' i hil
              have xi := cell_on (HQ.out.below _) (cell_on HB.out (hx i hil))
              have yi := cell_on (HQ.out.below _) (cell_on HB.out (hy i hil))
              have ti := cell_on (HQ.out.below _) (own_getB HT.out i hil)
              rw [takenTo_getD _ _ _ _ hil] at ti
              have HSk : Hid (decide ((i : Int) ∈ (tieList sc ot).take q) = true → BestTo sc ot (fun i => !decide ((i : Int) ∈ (tieList sc ot).take q)) (i + 1) b) := fun e => HBe.out.skip (by simp only [e]; rfl)
              have HFi : Hid (decide ((i : Int) ∈ (tieList sc ot).take q) = false → b < 0 → BestTo sc ot (fun i => !decide ((i : Int) ∈ (tieList sc ot).take q)) (i + 1) (i : Int)) := fun e hb => HBe.out.first hb (by simp only [e]; rfl)
              have HWo : Hid (0 ≤ b → better sc ot (i : Int) b = false → BestTo sc ot (fun i => !decide ((i : Int) ∈ (tieList sc ot).take q)) (i + 1) b) := fun e hb => HBe.out.worse e hb
              have HMo : Hid (decide ((i : Int) ∈ (tieList sc ot).take q) = false → 0 ≤ b → better sc ot (i : Int) b = true → BestTo sc ot (fun i => !decide ((i : Int) ∈ (tieList sc ot).take q)) (i + 1) (i : Int)) := fun e h0 hb => HBe.out.more h0 (by simp only [e]; rfl) hb
              have hbr : b < 0 ∧ b = -1 ∨ 0 ≤ b ∧ b < k := by
                rcases HBe.out with ⟨e, _⟩ | ⟨e1, e2, _⟩
                · exact .inl ⟨by omega, e⟩
                · exact .inr ⟨e1, by omega⟩
              generalize decide ((i : Int) ∈ (tieList sc ot).take q) = tb at *
              cases tb
              · rcases hbr with ⟨hb0, rfl⟩ | ⟨hb0, hbk⟩
                · clear hx hy
                  go_wp2
                  go_quiet (fail)
                  go_wp2
                  go_roundw
                  case rel => exact ⟨i + 1, i, by omega, by go_num, by go_num, HFi.out (by first | rfl | trivial) hb0, HQ.out.trans ⟨_, rfl⟩⟩
                  case measure => simp [intOf]; omega
                · obtain ⟨bn, rfl⟩ : ∃ bn : Nat, b = (bn : Int) := ⟨b.toNat, by omega⟩
                  have hbn : bn < k := by omega
                  have xb := cell_on (HQ.out.below _) (cell_on HB.out (hx bn hbn))
                  have yb := cell_on (HQ.out.below _) (cell_on HB.out (hy bn hbn))
                  have HBt : Hid (better sc ot (i : Int) (bn : Int) = true ↔ (sc.getD bn 0 < sc.getD i 0 ∨ (sc.getD i 0 = sc.getD bn 0 ∧ ot.getD bn 0 < ot.getD i 0))) := by
                    have := better_iff sc ot i bn
                    rw [Int.toNat_natCast, Int.toNat_natCast] at this
                    exact this
                  have hnb : decide ((bn : Int) < 0) = false := by simp
                  clear hx hy hbk
                  generalize sc.getD i 0 = si at *
                  generalize sc.getD bn 0 = sb at *
                  generalize ot.getD i 0 = oi at *
                  generalize ot.getD bn 0 = ob at *
                  by_cases s1 : sb < si
                  · have HM := Lib.hid (HMo.out (by first | rfl | trivial) hb0 (HBt.out.2 (.inl s1)))
                    go_wp2
                    go_quiet (fail)
                    go_wp2
                    go_roundw
                    case rel => exact ⟨i + 1, i, by omega, by go_num, by go_num, HM.out, HQ.out.trans ⟨_, rfl⟩⟩
                    case measure => simp [intOf]; omega
                  · have d1 : decide (sb < si) = false := decide_eq_false s1
                    by_cases s2 : si = sb
                    · have d2 : (si == sb) = true := by simp [s2]
                      by_cases s3 : ob < oi
                      · have HM := Lib.hid (HMo.out (by first | rfl | trivial) hb0 (HBt.out.2 (.inr ⟨s2, s3⟩)))
                        clear s2 s1
                        go_wp2
                        go_quiet (fail)
                        go_wp2
                        go_roundw
                        case rel => exact ⟨i + 1, i, by omega, by go_num, by go_num, HM.out, HQ.out.trans ⟨_, rfl⟩⟩
                        case measure => simp [intOf]; omega
                      · have d3 : decide (ob < oi) = false := decide_eq_false s3
                        have HW := Lib.hid (HWo.out hb0 (by rw [← Bool.not_eq_true, HBt.out]; rintro (h | ⟨_, h⟩); exact s1 h; exact s3 h))
                        clear s2 s1 s3
                        go_wp2
                        go_quiet (fail)
                        go_wp2
                        go_roundw
                        case rel => exact ⟨i + 1, bn, by omega, by go_num, rfl, HW.out, HQ.out.trans ⟨_, rfl⟩⟩
                        case measure => simp [intOf]; omega
                    · have d2 : (si == sb) = false := by simp [s2]
                      have HW := Lib.hid (HWo.out hb0 (by rw [← Bool.not_eq_true, HBt.out]; rintro (h | ⟨h, _⟩); exact s1 h; exact s2 h))
                      clear s2 s1
                      go_wp2
                      go_quiet (fail)
                      go_wp2
                      go_roundw
                      case rel => exact ⟨i + 1, bn, by omega, by go_num, rfl, HW.out, HQ.out.trans ⟨_, rfl⟩⟩
                      case measure => simp [intOf]; omega
              · clear hx hy hbr
                go_wp2
                go_quiet (fail)
                go_wp2
                go_roundw
                case rel => exact ⟨i + 1, b, by omega, by go_num, rfl, HSk.out (by first | rfl | trivial), HQ.out.trans ⟨_, rfl⟩⟩
                case measure => simp [intOf]; omega
            · obtain rfl : i = k := by omega
              have hbn := HBe.out
              rw [← HL.out] at hbn
              obtain ⟨e1, e2, e3⟩ := hbn.next (by rw [HL.out]; exact hql)
              rw [HL.out] at e3
              obtain ⟨bn, rfl⟩ : ∃ bn : Nat, b = (bn : Int) := ⟨b.toNat, by omega⟩
              have hbk : bn < i := by omega
              have HE := Lib.hid e1
              have f0 := (ownsRow_below HT.out HQ.out.b).frozenAt bn
              have c0 := own_getB (ownsRow_below HT.out HQ.out.b) bn hbk
              have HLn : Hid ((tieList sc ot).length = i) := by show _ = _; rw [tieList_len, HL.out]
              have hOB : Hid (oa = none ∧ q = 0 ∨ ∃ x, oa = some x ∧ w.heap.size + 1 ≤ x.block) := by
                rcases HO.out.2 with ⟨e, e0⟩ | ⟨gg, _, _, e, hb, _⟩
                · simp only [Value.slice.injEq] at e
                  exact .inl ⟨e.1, e0⟩
                · simp only [Value.slice.injEq] at e
                  exact .inr ⟨_, e.1, hb⟩
              clear e1 e2 e3 hbn hcell hcell' HBe
              have hown := ownsRow_setCell_other (ownsRow_below HO.out HQ.out.b) (p := ⟨w.heap.size, bn, none⟩) (fun x hx => by
                rcases hOB.out with ⟨e, _⟩ | ⟨y, e, hy⟩
                · rw [e] at hx; cases hx
                · rw [e] at hx; cases hx; dsimp only; omega) (.bool true)
              have hsz : w.heap.size + 1 ≤ wr.heap.size := by have h1 := (own_block HT.out).2; have h2 := HQ.out.b.size; omega
              have HT1 := Lib.hid (own_putB (ownsRow_below HT.out HQ.out.b) bn true)
              have HB1 := Lib.hid ((HB.out.trans (HQ.out.below _)).setCell (p := ⟨w.heap.size, bn, none⟩) (Nat.le_refl _) (.bool true))
              have HNe : Hid ((Value.slice (some ⟨w.heap.size, 0, none⟩) i i).ownBlock ≠ (Value.slice oa q oc).ownBlock) := by
                show _ ≠ _
                rcases hOB.out with ⟨e, _⟩ | ⟨y, e, hy⟩
                · rw [e]; simp [Value.ownBlock]
                · rw [e]; simp only [Value.ownBlock]; intro e; have := Option.some_inj.1 e; omega
              go_wp2_with (first | (at_builtin; go_must (refine wpList_append_own _ rfl _ _ 24 rfl (w.heap.size + 1) 2 i0 (.int .i64 0) 1 8 Try.underlying24 hi hz0 hz1 hz2 rfl (by decide) _ _ _ rfl (hown.alloc _) ⟨wr.heap.size, 0, none⟩ 1 1 [.int .i64 bn] rfl rfl (new1S _ _ _ _ (by simp)) (one1 rfl) (by unfold maxLen; omega) (by omega) (by simp; omega) ?_); intro v' w5 hown1 hg1 _))
              have HB5 := Lib.hid (below_app HB1.out (by simp; omega) hg1 (ownsRow_low hown (by omega)))
              have HT5 : Hid (w5.ownsRow w.heap.size 4 1 (.slice (some ⟨w.heap.size, 0, none⟩) i i) i ((takenTo (tieList sc ot) i (q + 1)).map Value.bool)) := by
                show w5.ownsRow _ _ _ _ _ _
                rw [← takenTo_set _ _ _ _ (by rw [HLn.out]; exact hql) HE.out]
                exact (HT1.out.alloc _).kept hg1 (.inr HNe.out)
              obtain ⟨a', c', rfl⟩ := own_form hown1
              have HO5 : Hid (w5.ownsRow (w.heap.size + 1) 2 1 (.slice a' (q + 1) c') (q + 1) (intCells ((tieList sc ot).take (q + 1)))) := by
                show w5.ownsRow _ _ _ _ _ _
                rw [take_snoc1 _ _ (by rw [HLn.out]; exact hql), HE.out, intCells_snoc]
                exact hown1
              clear hown1 hg1 hown
              go_wp2
              go_roundw
              case rel => exact ⟨q + 1, a', c', by omega, rfl, HB5.out, HO5.out, HT5.out⟩
              case measure => simp [lenV]; omega
        · obtain rfl : q = k := by omega
          clear hcell hcell'
          go_wp2
          go_ret2
          have e : (tieList sc ot).take q = tieList sc ot := List.take_of_length_le (by rw [tieList_len, HL.out]; omega)
          have ho := HO.out
          rw [e] at ho
          exact RetI.ok HR.out HB.out (ownsRow_low ho (by omega))

end Go.Proofs.Ythakjkhceeocfaa
