/- SwissPairs, spec. -/
import Derived.Test.YthakjkhceeocfaaSwissA
import Derived.Test.YthakjkhceeocfaaTieC
import Derived.IntWalk
namespace Go.Proofs.Ythakjkhceeocfaa
open Go.RowKit
set_option linter.unusedVariables false

theorem wrapN {x : Int} {m : Nat} (e : x = (m : Int)) (h : m ≤ 4611686018427387904) : IntKind.i64.wrap x = (m : Int) := by
  subst e
  exact IntWalk.i64_in _ (by omega)
theorem swRes_no {sc met : List Int} (h : ¬ (2 ≤ sc.length ∧ sc.length ≤ 16 ∧ sc.length % 2 = 0 ∧ met.length = sc.length * sc.length)) : swRes sc met = ([], false) := by
  unfold swRes
  rw [if_neg]
  rintro ⟨h1, h2, h3, _⟩
  have := okScores_len h1
  exact h ⟨this.1, this.2, h2, h3⟩
theorem swRes_bad {sc met : List Int} (j : Nat) (hj : j < sc.length) (h : inB (sc.getD j 0) 0 1000 = false) : swRes sc met = ([], false) := by
  unfold swRes
  rw [if_neg]
  rintro ⟨h1, _⟩
  simp only [okScores, Bool.and_eq_true] at h1
  have a := getD_all h1.2 j hj
  rw [h] at a
  cases a
theorem swRes_met {sc met : List Int} (h : metOks met sc.length = false) : swRes sc met = ([], false) := by
  unfold swRes
  rw [if_neg]
  rintro ⟨_, _, _, h1⟩
  rw [h] at h1
  cases h1
theorem swRes_ok {sc met : List Int} (h2 : 2 ≤ sc.length) (h16 : sc.length ≤ 16) (he : sc.length % 2 = 0) (hl : met.length = sc.length * sc.length) (h : ∀ j, j < sc.length → inB (sc.getD j 0) 0 1000 = true) (hm : metOks met sc.length = true) : swRes sc met = swF met sc.length sc.length (tieList sc (zeros sc.length)) [] := by
  unfold swRes
  rw [if_pos]
  refine ⟨?_, he, hl, hm⟩
  simp only [okScores, Bool.and_eq_true, decide_eq_true_eq]
  exact ⟨⟨h2, h16⟩, all_getD h⟩

set_option maxHeartbeats 4000000 in
set_option maxRecDepth 100000 in
theorem specSwissPairs_any (a : Option Addr) (n c : Nat) (sc : List Int) (a' : Option Addr) (n' c' : Nat) (met : List Int) (w : World) (h : Ints w a n c sc) (h' : Ints w a' n' c' met) :
    Calls Try.prog 16 #[.slice a n c, .slice a' n' c'] w (RetI 2 w (swRes sc met)) := by
  obtain ⟨hc, hb, hcell⟩ := h.at
  obtain ⟨hc', hb', hcell'⟩ := h'.at
  have hl := h.len
  have hl' := h'.len
  clear h h'
  by_cases hn : 2 ≤ n ∧ n ≤ 16 ∧ n % 2 = 0 ∧ n' = n * n
  case neg =>
    have HR := Lib.hid (swRes_no (sc := sc) (met := met) (by rw [hl, hl']; exact hn))
    clear hl hl' hcell hcell'
    by_cases h2 : 2 ≤ n
    · by_cases h16 : n ≤ 16
      · by_cases he : n % 2 = 0
        · have hnn : n * n ≤ 256 := by have := Nat.mul_le_mul h16 h16; omega
          have hN : ((n * n : Nat) : Int) = (n : Int) * n := by simp
          have hW : IntKind.i64.wrap ((n : Int) * n) = (n : Int) * n := IntWalk.i64_in _ (by omega)
          have hne : ((n' : Int) != (n : Int) * n) = true := by simp only [bne_iff_ne]; intro e; exact hn ⟨h2, h16, he, by omega⟩
          have hT : (n : Int).tmod 2 = 0 := by rw [Int.tmod_eq_emod_of_nonneg (by omega)]; omega
          clear hn hnn hN
          go_enter Try.func16, Try.ntmps16
          go_wp2
          go_ret2
          exact RetI.nil HR.out (Below.refl _ _)
        · have hT : (n : Int).tmod 2 = 1 := by rw [Int.tmod_eq_emod_of_nonneg (by omega)]; omega
          go_enter Try.func16, Try.ntmps16
          go_wp2
          go_ret2
          exact RetI.nil HR.out (Below.refl _ _)
      · go_enter Try.func16, Try.ntmps16
        go_wp2
        go_ret2
        exact RetI.nil HR.out (Below.refl _ _)
    · go_enter Try.func16, Try.ntmps16
      go_wp2
      go_ret2
      exact RetI.nil HR.out (Below.refl _ _)
  obtain ⟨h2, h16, he, hnn⟩ := hn
  have HL := Lib.hid hl
  have HL' := Lib.hid hl'
  clear hl hl'
  have hn256 : n' ≤ 256 := by rw [hnn]; have := Nat.mul_le_mul h16 h16; omega
  have hN : (n : Int) * n = (n' : Int) := by rw [hnn]; simp
  have HN := Lib.hid hnn
  clear hnn
  have hW : IntKind.i64.wrap ((n : Int) * n) = (n' : Int) := by rw [hN]; exact IntWalk.i64_in _ (by omega)
  have hT : (n : Int).tmod 2 = 0 := by rw [Int.tmod_eq_emod_of_nonneg (by omega)]; omega
  obtain ⟨i0, hi, hz0, hz1, hz2⟩ := info_parts infoI64
  obtain ⟨j0, ji, jz0, jz1, jz2⟩ := info_parts infoBool
  go_enter Try.func16, Try.ntmps16
  go_wp2
  clear hT hW
  go_loop [38] (fun i => ∃ k : Nat, k ≤ n ∧ i = .int .i64 k ∧ ∀ j, j < k → inB (sc.getD j 0) 0 1000 = true) (fun i => n - (intOf i).toNat)
  case atStart => exact ⟨0, by omega, rfl, fun j hj => by omega⟩
  case round =>
    obtain ⟨k, hk, rfl, hto⟩ := hrel
    have HT := Lib.hid hto
    clear hto
    by_cases hlt : k < n
    · obtain ⟨b, off, rfl, hlb, hx⟩ := hcell k hlt
      have x0 := hx k hlt
      have HB : Hid (inB (sc.getD k 0) 0 1000 = false → swRes sc met = ([], false)) := fun e => swRes_bad k (by rw [HL.out]; exact hlt) e
      have HS : Hid (inB (sc.getD k 0) 0 1000 = true → ∀ j, j < k + 1 → inB (sc.getD j 0) 0 1000 = true) := fun e j hj => by
        by_cases e2 : j = k
        · subst e2; exact e
        · exact HT.out j (by omega)
      clear hcell hcell' hx HT
      generalize sc.getD k 0 = x at *
      rcases Bool.eq_false_or_eq_true (inB x 0 1000) with e0 | e0
      · go_wp2_with (first | (go_at_call 35; refine (l00In_any _ _ _ _).mono ?_; rintro e w' ⟨rfl, rfl⟩))
        go_round
        case rel => exact ⟨k + 1, by omega, by go_num, HS.out e0⟩
        case measure => simp [intOf]; omega
      · go_wp2_with (first | (go_at_call 35; refine (l00In_any _ _ _ _).mono ?_; rintro e w' ⟨rfl, rfl⟩))
        go_ret2
        exact RetI.nil (HB.out e0) (Below.refl _ _)
    · obtain rfl : k = n := by omega
      have HSc := HT
      clear HT
      go_wp2
      go_loopw [50] (fun i wr => ∃ q : Nat, q ≤ n' ∧ i = .int .i64 q ∧ (∀ j, j < q → metOk met k j = true) ∧ Quiet w wr) (fun i _ => n' - (intOf i).toNat)
      case atStart => exact ⟨0, by omega, rfl, fun j hj => by omega, Quiet.refl _⟩
      case round =>
        obtain ⟨q, hq, rfl, hmt, hqu⟩ := hrel
        have HM := Lib.hid hmt
        have HQ := Lib.hid hqu
        clear hmt hqu
        by_cases hlt : q < n'
        · obtain ⟨b, off, rfl, hlb, hx⟩ := hcell' q hlt
          have HE : Hid (metOk met k q = (inB (met.getD q 0) 0 128 && (met.getD q 0 == met.getD (q % k * k + q / k) 0) && !((q / k == q % k) && (met.getD q 0 != 0)))) := rfl
          have hr : q % k < k := Nat.mod_lt _ (by omega)
          have hd : q / k < k := Nat.div_lt_of_lt_mul (by rw [← HN.out]; exact hlt)
          have hm : q % k * k + q / k < n' := by
            rw [HN.out]
            have : (q % k + 1) * k ≤ k * k := Nat.mul_le_mul_right k hr
            rw [Nat.succ_mul] at this
            omega
          have T1 : (q : Int).tmod (k : Int) = ((q % k : Nat) : Int) := by rw [Int.tmod_eq_emod_of_nonneg (by omega)]; simp
          have T2 : (q : Int).tdiv (k : Int) = ((q / k : Nat) : Int) := by rw [Int.tdiv_eq_ediv_of_nonneg (by omega)]; simp
          have x0 := cell_on (HQ.out.below _) (hx q hlt)
          have x1 := cell_on (HQ.out.below _) (hx (q % k * k + q / k) hm)
          have HBad : Hid (metOk met k q = false → swRes sc met = ([], false)) := fun e => swRes_met (by rw [HL.out]; exact metOks_not (by rw [← HN.out]; exact hlt) e)
          have HS : Hid (metOk met k q = true → ∀ j, j < q + 1 → metOk met k j = true) := fun e j hj => by
            by_cases e2 : j = q
            · subst e2; exact e
            · exact HM.out j (by omega)
          generalize hmm : q % k * k + q / k = m at *
          have cm : ((q % k : Nat) : Int) * k + ((q / k : Nat) : Int) = (m : Int) := by rw [← hmm]; simp
          generalize q % k = r at *
          generalize q / k = d at *
          have W0 : IntKind.i64.wrap (d : Int) = d := IntWalk.i64_in _ (by omega)
          have b3 : 0 ≤ (r : Int) * k := Int.mul_nonneg (by omega) (by omega)
          have W2 : IntKind.i64.wrap ((r : Int) * k) = (r : Int) * k := IntWalk.i64_in _ (by omega)
          have W3 : IntKind.i64.wrap (m : Int) = m := IntWalk.i64_in _ (by omega)
          clear hcell hcell' hx HM hmm
          generalize met.getD q 0 = x at *
          generalize met.getD m 0 = y at *
          generalize hME : metOk met k q = me at *
          clear hME
          rcases Bool.eq_false_or_eq_true (inB x 0 128) with e0 | e0
          · by_cases e1 : x = y
            · subst e1
              have e1' : (x != x) = false := by simp
              by_cases e2 : d = r
              · subst e2
                have e2' : ((d : Int) == (d : Int)) = true := by simp
                by_cases e3 : x = 0
                · subst e3
                  have e3' : ((0 : Int) != 0) = false := rfl
                  have HG := Lib.hid (HS.out (by rw [HE.out]; simp [e0]))
                  clear HBad HS HE
                  go_wp2
                  go_quiet ((go_at_call 35; exact qS (l00In_any _ _ _ _)))
                  go_wp2
                  go_roundw
                  case rel => exact ⟨q + 1, by omega, by go_num, HG.out, HQ.out.trans ⟨_, rfl⟩⟩
                  case measure => simp [intOf]; omega
                · have e3' : (x != 0) = true := by simp [e3]
                  have E3 := Lib.hid e3
                  clear e3
                  have HG := Lib.hid (HBad.out (by rw [HE.out]; simp [e0, E3.out]))
                  clear HBad HS HE
                  go_wp2
                  go_quiet ((go_at_call 35; exact qS (l00In_any _ _ _ _)))
                  go_wp2
                  go_ret2
                  exact RetI.nil HG.out (HQ.out.below _ |>.trans (Quiet.below ⟨_, rfl⟩ _))
              · have e2' : ((d : Int) == (r : Int)) = false := by simp; omega
                have E2 := Lib.hid e2
                clear e2
                have HG := Lib.hid (HS.out (by rw [HE.out]; simp [e0, E2.out]))
                clear HBad HS HE
                go_wp2
                go_quiet ((go_at_call 35; exact qS (l00In_any _ _ _ _)))
                go_wp2
                go_roundw
                case rel => exact ⟨q + 1, by omega, by go_num, HG.out, HQ.out.trans ⟨_, rfl⟩⟩
                case measure => simp [intOf]; omega
            · have e1' : (x != y) = true := by simp [e1]
              have E1 := Lib.hid e1
              clear e1
              have HG := Lib.hid (HBad.out (by rw [HE.out]; simp [e0, E1.out]))
              clear HBad HS HE
              go_wp2
              go_quiet ((go_at_call 35; exact qS (l00In_any _ _ _ _)))
              go_wp2
              go_ret2
              exact RetI.nil HG.out (HQ.out.below _ |>.trans (Quiet.below ⟨_, rfl⟩ _))
          · go_wp2
            go_quiet ((go_at_call 35; exact qS (l00In_any _ _ _ _)))
            go_wp2
            go_ret2
            exact RetI.nil (HBad.out (by rw [HE.out, e0]; rfl)) (HQ.out.below _ |>.trans (Quiet.below ⟨_, rfl⟩ _))
        · obtain rfl : q = n' := by omega
          have HR : Hid (swRes sc met = swF met k k (tieList sc (zeros k)) []) := by
            have := swRes_ok (sc := sc) (met := met) (by rw [HL.out]; exact h2) (by rw [HL.out]; exact h16) (by rw [HL.out]; exact he) (by rw [HL'.out, HL.out]; exact HN.out) (by rw [HL.out]; exact HSc.out) ((metOks_iff _ _).2 (by rw [HL.out, ← HN.out]; exact HM.out))
            rw [HL.out] at this
            exact this
          clear HM HSc
          obtain ⟨w0, rfl⟩ : ∃ w0 : World, w0 = wr := ⟨_, rfl⟩
          go_wp2_with (first | (at_make; go_must (refine wpList_make_full _ rfl _ _ 30 rfl w0.heap.size 4 j0 _ 1 Try.underlying30 ji jz0 jz1 _ _ _ _ k rfl rfl rfl rfl (by rw [jz2]; omega) (by unfold maxLen; omega) (by simp) ?_; intro w1 hown1 hg1)))
          have hsz0 : w.heap.size = w0.heap.size := by obtain ⟨q, rfl⟩ := HQ.out; rfl
          have HG : Hid (Below w.heap.size w w1) := below_made (HQ.out.below _) (by omega) hg1
          have HO1 : Hid (w1.ownsRow w0.heap.size 4 1 (.slice (some ⟨w0.heap.size, 0, none⟩) k k) k ((goneOf (tieList sc (zeros k)) k).map Value.bool)) := by
            show w1.ownsRow _ _ _ _ _ _
            have := hown1
            rw [made_const _ (.bool false) (by decide) (by intro i hi; match i, hi with | 0, _ => rfl), Nat.mul_one] at this
            have e := goneOf_all sc (zeros k)
            rw [HL.out] at e
            rw [e, List.map_replicate]
            exact this
          have hs1 : w0.heap.size < w1.heap.size := (own_block hown1).2
          clear hown1 hg1
          generalize hT : swF met k k (tieList sc (zeros k)) [] = T at *
          have HT := Lib.hid hT
          clear hT
          have HLf := Lib.hid (Left.all sc k HL.out)
          go_loopw [10] (fun vo wr => ∃ (S O : List Int) (oa : Option Addr) (oc f : Nat), vo = .slice oa O.length oc ∧ O.length + S.length = k ∧ S.length ≤ f ∧ Left sc k S ∧ swF met k f S O = T ∧ Below w.heap.size w wr ∧ wr.ownsRow (w0.heap.size + 1) 2 1 (.slice oa O.length oc) O.length (intCells O) ∧ wr.ownsRow w0.heap.size 4 1 (.slice (some ⟨w0.heap.size, 0, none⟩) k k) k ((goneOf S k).map Value.bool)) (fun vo _ => k - lenV vo)
          case atStart => exact ⟨tieList sc (zeros k), [], _, _, k, rfl, by rw [tieList_len]; simpa using HL.out, by rw [tieList_len, HL.out]; omega, HLf.out, HT.out, HG.out.alloc HG.out.size _, World.ownsRow_made w1 #[] 0 (by omega) (by unfold maxLen; omega) rfl, HO1.out.alloc _⟩
          case round =>
            obtain ⟨S, O, oa, oc, f, rfl, eLen, hf, hleft, eT, hbel, hown, hgone⟩ := hrel
            have HB := Lib.hid hbel
            have HLf' := Lib.hid hleft
            have HLen := Lib.hid eLen
            have HTq := Lib.hid eT
            have HGn := Lib.hid hgone
            generalize hol : O.length = ol at *
            have HOl := Lib.hid hol
            have HO := Lib.hid hown
            have hsz1 : w0.heap.size + 1 ≤ wr.heap.size := by have := (own_block hgone).2; omega
            clear hbel hleft eLen eT hgone hol hown HG HO1 HLf HT
            by_cases hqk : ol < k
            · cases S with
              | nil => have := HLen.out; simp at this; omega
              | cons a0 rest =>
              have hra := HLf'.out.rng a0 List.mem_cons_self
              obtain ⟨an, rfl⟩ : ∃ an : Nat, a0 = (an : Int) := ⟨a0.toNat, by omega⟩
              have hank : an < k := by omega
              obtain ⟨f, rfl⟩ : ∃ f', f = f' + 1 := ⟨f - 1, by simp at hf; omega⟩
              have HF : Hid (rest.length ≤ f) := by show _ ≤ _; simp at hf; omega
              clear hf hra
              go_wp2
              obtain ⟨wo, rfl⟩ : ∃ wo : World, wo = wr := ⟨_, rfl⟩
              go_loopw [11, 104] (fun vb vi w2 => ∃ (i : Nat) (b : Int), i ≤ k ∧ vi = .int .i64 i ∧ vb = .int .i64 b ∧ BestTo sc (zeros k) (fun i => decide ((i : Int) ∈ ((an : Int) :: rest))) i b ∧ Quiet wo w2) (fun _ vi _ => k - (intOf vi).toNat)
              case atStart => exact ⟨0, -1, by omega, rfl, rfl, BestTo.zero _ _ _, Quiet.refl _⟩
              case round =>
                obtain ⟨i, b, hik, rfl, rfl, hbest, hquiet⟩ := hrel
                have HBe := Lib.hid hbest
                have HQ1 := Lib.hid hquiet
                clear hbest hquiet
                by_cases hil : i < k
                · obtain ⟨ba, off, rfl, hlb, hx⟩ := hcell i hil
                  have xi := cell_on (HQ1.out.below _) (cell_on HB.out (hx i hil))
                  have ti := cell_on (HQ1.out.below _) (own_getB HGn.out i hil)
                  rw [goneOf_getD _ _ _ hil] at ti
                  have HSk : Hid (decide ((i : Int) ∈ ((an : Int) :: rest)) = false → BestTo sc (zeros k) (fun i => decide ((i : Int) ∈ ((an : Int) :: rest))) (i + 1) b) := fun e => HBe.out.skip e
                  have HFi : Hid (decide ((i : Int) ∈ ((an : Int) :: rest)) = true → b < 0 → BestTo sc (zeros k) (fun i => decide ((i : Int) ∈ ((an : Int) :: rest))) (i + 1) (i : Int)) := fun e hb => HBe.out.first hb e
                  have HWo : Hid (0 ≤ b → better sc (zeros k) (i : Int) b = false → BestTo sc (zeros k) (fun i => decide ((i : Int) ∈ ((an : Int) :: rest))) (i + 1) b) := fun e hb => HBe.out.worse e hb
                  have HMo : Hid (decide ((i : Int) ∈ ((an : Int) :: rest)) = true → 0 ≤ b → better sc (zeros k) (i : Int) b = true → BestTo sc (zeros k) (fun i => decide ((i : Int) ∈ ((an : Int) :: rest))) (i + 1) (i : Int)) := fun e h0 hb => HBe.out.more h0 e hb
                  have hbr : b < 0 ∧ b = -1 ∨ 0 ≤ b ∧ b < k := by
                    rcases HBe.out with ⟨e, _⟩ | ⟨e1, e2, _⟩
                    · exact .inl ⟨by omega, e⟩
                    · exact .inr ⟨e1, by omega⟩
                  generalize decide ((i : Int) ∈ ((an : Int) :: rest)) = tb at *
                  cases tb
                  · simp only [Bool.not_false] at ti
                    have HG1 := Lib.hid (HSk.out (by first | rfl | trivial))
                    clear hx hbr
                    go_wp2
                    go_quiet (fail)
                    go_wp2
                    go_roundw
                    case rel => exact ⟨i + 1, b, by omega, by go_num, rfl, HG1.out, HQ1.out.trans ⟨_, rfl⟩⟩
                    case measure => simp [intOf]; omega
                  · simp only [Bool.not_true] at ti
                    rcases hbr with ⟨hb0, rfl⟩ | ⟨hb0, hbk⟩
                    · have HG1 := Lib.hid (HFi.out (by first | rfl | trivial) hb0)
                      clear hx
                      go_wp2
                      go_quiet (fail)
                      go_wp2
                      go_roundw
                      case rel => exact ⟨i + 1, i, by omega, by go_num, by go_num, HG1.out, HQ1.out.trans ⟨_, rfl⟩⟩
                      case measure => simp [intOf]; omega
                    · obtain ⟨bn, rfl⟩ : ∃ bn : Nat, b = (bn : Int) := ⟨b.toNat, by omega⟩
                      have hbn : bn < k := by omega
                      have xb := cell_on (HQ1.out.below _) (cell_on HB.out (hx bn hbn))
                      have HBt : Hid (better sc (zeros k) (i : Int) (bn : Int) = decide (sc.getD bn 0 < sc.getD i 0)) := by
                        have := better_zeros sc k i bn
                        rw [Int.toNat_natCast, Int.toNat_natCast] at this
                        exact this
                      have hnb : decide ((bn : Int) < 0) = false := by simp
                      clear hx hbk
                      generalize sc.getD i 0 = si at *
                      generalize sc.getD bn 0 = sb at *
                      by_cases s1 : sb < si
                      · have HM1 := Lib.hid (HMo.out (by first | rfl | trivial) hb0 (by rw [HBt.out]; exact decide_eq_true s1))
                        go_wp2
                        go_quiet (fail)
                        go_wp2
                        go_roundw
                        case rel => exact ⟨i + 1, i, by omega, by go_num, by go_num, HM1.out, HQ1.out.trans ⟨_, rfl⟩⟩
                        case measure => simp [intOf]; omega
                      · have d1 : decide (sb < si) = false := decide_eq_false s1
                        have HW1 := Lib.hid (HWo.out hb0 (by rw [HBt.out]; exact d1))
                        clear s1
                        go_wp2
                        go_quiet (fail)
                        go_wp2
                        go_roundw
                        case rel => exact ⟨i + 1, bn, by omega, by go_num, rfl, HW1.out, HQ1.out.trans ⟨_, rfl⟩⟩
                        case measure => simp [intOf]; omega
                · obtain rfl : i = k := by omega
                  have hbb : b = (an : Int) := by
                    rcases HLf'.out.best HBe.out with ⟨e, _⟩ | ⟨r, e⟩
                    · cases e
                    · simp only [List.cons.injEq] at e; exact e.1.symm
                  subst hbb
                  clear HBe
                  have f0 := (ownsRow_below HGn.out HQ1.out.b).frozenAt an
                  have c0 := own_getB (ownsRow_below HGn.out HQ1.out.b) an hank
                  have hs2 := HQ1.out.b.size
                  have hOB : Hid (∀ x, oa = some x → w0.heap.size + 1 ≤ x.block) := by
                    intro x hx
                    rcases HO.out.2 with ⟨e, e0⟩ | ⟨gg, _, _, e, hb, _⟩
                    · simp only [Value.slice.injEq] at e; rw [e.1] at hx; cases hx
                    · simp only [Value.slice.injEq] at e; rw [e.1] at hx; cases hx; exact hb
                  have HO2 : Hid ((wr.setCell ⟨w0.heap.size, an, none⟩ (.bool true)).ownsRow (w0.heap.size + 1) 2 1 (.slice oa ol oc) ol (intCells O)) := ownsRow_setCell_other (ownsRow_below HO.out HQ1.out.b) (p := ⟨w0.heap.size, an, none⟩) (fun x hx => by have := hOB.out x hx; dsimp only; omega) (.bool true)
                  have HB2 : Hid (Below w.heap.size w (wr.setCell ⟨w0.heap.size, an, none⟩ (.bool true))) := (HB.out.trans (HQ1.out.below _)).setCell (p := ⟨w0.heap.size, an, none⟩) (by dsimp only; omega) (.bool true)
                  have HG2 : Hid ((wr.setCell ⟨w0.heap.size, an, none⟩ (.bool true)).ownsRow w0.heap.size 4 1 (.slice (some ⟨w0.heap.size, 0, none⟩) i i) i ((goneOf rest i).map Value.bool)) := by
                    show World.ownsRow _ _ _ _ _ _ _
                    rw [← goneOf_tail an rest i HLf'.out.nd]
                    exact own_putB (ownsRow_below HGn.out HQ1.out.b) an true
                  have hs3 : w0.heap.size + 1 ≤ (wr.setCell ⟨w0.heap.size, an, none⟩ (.bool true)).heap.size := by simp; omega
                  go_wp2
                  clear f0 c0
                  generalize wr.setCell ⟨w0.heap.size, an, none⟩ (.bool true) = v1 at *
                  go_loopw [13, 134] (fun vb vi w2 => ∃ (j : Nat) (b : Int), j ≤ i ∧ vi = .int .i64 j ∧ vb = .int .i64 b ∧ BestTo sc (zeros i) (fun q => decide ((q : Int) ∈ rest) && freeOf met i (an : Int) (q : Int)) j b ∧ Quiet v1 w2) (fun _ vi _ => i - (intOf vi).toNat)
                  case atStart => exact ⟨0, -1, by omega, rfl, rfl, BestTo.zero _ _ _, Quiet.refl _⟩
                  case round =>
                    obtain ⟨j, b, hji, rfl, rfl, hbest, hquiet⟩ := hrel
                    have HBe := Lib.hid hbest
                    have HQ2 := Lib.hid hquiet
                    clear hbest hquiet
                    by_cases hil : j < i
                    · obtain ⟨ba, off, rfl, hlb, hx⟩ := hcell j hil
                      have hmn : an * i + j < q := by
                        have e1 := HN.out
                        have : (an + 1) * i ≤ i * i := Nat.mul_le_mul_right i (by omega)
                        rw [Nat.succ_mul] at this
                        omega
                      obtain ⟨bm, offm, rfl, hlm, hy⟩ := hcell' (an * i + j) hmn
                      have xi := cell_on (HQ2.out.below _) (cell_on HB2.out (hx j hil))
                      have ym := cell_on (HQ2.out.below _) (cell_on HB2.out (hy (an * i + j) hmn))
                      have ti := cell_on (HQ2.out.below _) (own_getB HG2.out j hil)
                      rw [goneOf_getD _ _ _ hil] at ti
                      have HFr : Hid (freeOf met i (an : Int) (j : Int) = (met.getD (an * i + j) 0 == 0)) := by
                        show freeOf met i (an : Int) (j : Int) = _
                        unfold freeOf
                        rw [show ((an : Int) * (i : Int) + (j : Int)).toNat = an * i + j by rw [← Int.natCast_mul, ← Int.natCast_add, Int.toNat_natCast]]
                      have HSk : Hid ((decide ((j : Int) ∈ rest) && freeOf met i (an : Int) (j : Int)) = false → BestTo sc (zeros i) (fun q => decide ((q : Int) ∈ rest) && freeOf met i (an : Int) (q : Int)) (j + 1) b) := fun e => HBe.out.skip e
                      have HFi : Hid ((decide ((j : Int) ∈ rest) && freeOf met i (an : Int) (j : Int)) = true → b < 0 → BestTo sc (zeros i) (fun q => decide ((q : Int) ∈ rest) && freeOf met i (an : Int) (q : Int)) (j + 1) (j : Int)) := fun e hb => HBe.out.first hb e
                      have HWo : Hid (0 ≤ b → better sc (zeros i) (j : Int) b = false → BestTo sc (zeros i) (fun q => decide ((q : Int) ∈ rest) && freeOf met i (an : Int) (q : Int)) (j + 1) b) := fun e hb => HBe.out.worse e hb
                      have HMo : Hid ((decide ((j : Int) ∈ rest) && freeOf met i (an : Int) (j : Int)) = true → 0 ≤ b → better sc (zeros i) (j : Int) b = true → BestTo sc (zeros i) (fun q => decide ((q : Int) ∈ rest) && freeOf met i (an : Int) (q : Int)) (j + 1) (j : Int)) := fun e h0 hb => HBe.out.more h0 e hb
                      have hbr : b < 0 ∧ b = -1 ∨ 0 ≤ b ∧ b < i := by
                        rcases HBe.out with ⟨e, _⟩ | ⟨e1, e2, _⟩
                        · exact .inl ⟨by omega, e⟩
                        · exact .inr ⟨e1, by omega⟩
                      generalize decide ((j : Int) ∈ rest) = tb at *
                      generalize freeOf met i (an : Int) (j : Int) = fr at *
                      generalize hmq : an * i + j = m at *
                      have cm : (an : Int) * i + (j : Int) = (m : Int) := by rw [← hmq]; simp
                      clear hmq
                      have b3 : 0 ≤ (an : Int) * i := Int.mul_nonneg (by omega) (by omega)
                      have W2 : IntKind.i64.wrap ((an : Int) * i) = (an : Int) * i := IntWalk.i64_in _ (by omega)
                      have W3 : IntKind.i64.wrap (m : Int) = m := IntWalk.i64_in _ (by omega)
                      cases tb
                      · simp only [Bool.not_false] at ti
                        have HG1 := Lib.hid (HSk.out (by first | rfl | trivial))
                        clear hx hy hbr HSk HFi HWo HMo
                        go_wp2
                        go_quiet (fail)
                        go_wp2
                        go_roundw
                        case rel => exact ⟨j + 1, b, by omega, by go_num, rfl, HG1.out, HQ2.out.trans ⟨_, rfl⟩⟩
                        case measure => simp [intOf]; omega
                      · simp only [Bool.not_true] at ti
                        generalize met.getD m 0 = y at *
                        by_cases hy0 : y = 0
                        · subst hy0
                          have hfr : fr = true := by have := HFr.out; simpa using this
                          subst hfr
                          have hyy : ((0 : Int) == 0) = true := rfl
                          rcases hbr with ⟨hb0, rfl⟩ | ⟨hb0, hbk⟩
                          · have HG1 := Lib.hid (HFi.out (by first | rfl | trivial) hb0)
                            clear hx hy HSk HFi HWo HMo HFr
                            go_wp2
                            go_quiet (fail)
                            go_wp2
                            go_roundw
                            case rel => exact ⟨j + 1, j, by omega, by go_num, by go_num, HG1.out, HQ2.out.trans ⟨_, rfl⟩⟩
                            case measure => simp [intOf]; omega
                          · obtain ⟨bn, rfl⟩ : ∃ bn : Nat, b = (bn : Int) := ⟨b.toNat, by omega⟩
                            have hbn : bn < i := by omega
                            have xb := cell_on (HQ2.out.below _) (cell_on HB2.out (hx bn hbn))
                            have HBt : Hid (better sc (zeros i) (j : Int) (bn : Int) = decide (sc.getD bn 0 < sc.getD j 0)) := by
                              have := better_zeros sc i j bn
                              rw [Int.toNat_natCast, Int.toNat_natCast] at this
                              exact this
                            have hnb : decide ((bn : Int) < 0) = false := by simp
                            clear hx hy hbk
                            generalize sc.getD j 0 = si at *
                            generalize sc.getD bn 0 = sb at *
                            by_cases s1 : sb < si
                            · have HM1 := Lib.hid (HMo.out (by first | rfl | trivial) hb0 (by rw [HBt.out]; exact decide_eq_true s1))
                              clear HSk HFi HWo HMo HFr
                              go_wp2
                              go_quiet (fail)
                              go_wp2
                              go_roundw
                              case rel => exact ⟨j + 1, j, by omega, by go_num, by go_num, HM1.out, HQ2.out.trans ⟨_, rfl⟩⟩
                              case measure => simp [intOf]; omega
                            · have d1 : decide (sb < si) = false := decide_eq_false s1
                              have HW1 := Lib.hid (HWo.out hb0 (by rw [HBt.out]; exact d1))
                              clear s1 HSk HFi HWo HMo HFr
                              go_wp2
                              go_quiet (fail)
                              go_wp2
                              go_roundw
                              case rel => exact ⟨j + 1, bn, by omega, by go_num, rfl, HW1.out, HQ2.out.trans ⟨_, rfl⟩⟩
                              case measure => simp [intOf]; omega
                        · have hy1 : (y == 0) = false := by simp [hy0]
                          have HG1 := Lib.hid (HSk.out (by rw [HFr.out, hy1]; rfl))
                          clear hx hy hy0 hbr HSk HFi HWo HMo HFr
                          go_wp2
                          go_quiet (fail)
                          go_wp2
                          go_roundw
                          case rel => exact ⟨j + 1, b, by omega, by go_num, rfl, HG1.out, HQ2.out.trans ⟨_, rfl⟩⟩
                          case measure => simp [intOf]; omega
                    · obtain rfl : j = i := by omega
                      have HSec := HLf'.out.tail.second HBe.out
                      have HT2 := HTq.out
                      rw [swF_cons] at HT2
                      rcases HSec with ⟨e1, rfl⟩ | ⟨p, e1, hql, e2⟩
                      · rw [e1, if_pos (by omega)] at HT2
                        have HT3 := Lib.hid HT2
                        clear e1 HT2 HBe HTq hcell hcell'
                        go_wp2
                        go_ret2
                        exact RetI.nil (HR.out.trans HT3.out.symm) (HB2.out.trans (HQ2.out.below _))
                      · rw [e1, if_neg (by omega), Int.toNat_natCast, e2] at HT2
                        have hrb := HLf'.out.tail.rng (rest.getD p 0) (getD_mem hql)
                        rw [e2] at hrb
                        obtain ⟨bn, rfl⟩ : ∃ bn : Nat, b = (bn : Int) := ⟨b.toNat, by omega⟩
                        have hbj : bn < j := by omega
                        have HT3 := Lib.hid HT2
                        have HLe := Lib.hid (List.length_eraseIdx_of_lt hql)
                        have hlr : ol + (rest.length + 1) = j := by have := HLen.out; simpa using this
                        have f0 := (ownsRow_below HG2.out HQ2.out.b).frozenAt bn
                        have c0 := own_getB (ownsRow_below HG2.out HQ2.out.b) bn hbj
                        have hs4 := HQ2.out.b.size
                        have hO3 := ownsRow_setCell_other (ownsRow_below HO2.out HQ2.out.b) (p := ⟨w0.heap.size, bn, none⟩) (fun x hx => by have := hOB.out x hx; dsimp only; omega) (.bool true)
                        have HB3 := Lib.hid ((HB2.out.trans (HQ2.out.below _)).setCell (p := ⟨w0.heap.size, bn, none⟩) (by dsimp only; omega) (.bool true))
                        have HG3 : Hid ((wr.setCell ⟨w0.heap.size, bn, none⟩ (.bool true)).ownsRow w0.heap.size 4 1 (.slice (some ⟨w0.heap.size, 0, none⟩) j j) j ((goneOf (rest.eraseIdx p) j).map Value.bool)) := by
                          show World.ownsRow _ _ _ _ _ _ _
                          rw [← goneOf_erase rest j p bn HLf'.out.tail.nd hql e2]
                          exact own_putB (ownsRow_below HG2.out HQ2.out.b) bn true
                        have HNe : Hid ((Value.slice (some ⟨w0.heap.size, 0, none⟩) j j).ownBlock ≠ (Value.slice oa ol oc).ownBlock) := by
                          show _ ≠ _
                          have := hOB.out
                          cases oa with
                          | none => simp [Value.ownBlock]
                          | some y => have := this y rfl; simp only [Value.ownBlock]; intro e; have := Option.some_inj.1 e; omega
                        have hnb : decide ((bn : Int) < 0) = false := by simp
                        clear e1 e2 HT2 HBe HTq hcell hcell' hrb
                        go_wp2_with (first | (at_builtin; go_must (refine wpList_append_own _ rfl _ _ 24 rfl (w0.heap.size + 1) 2 i0 (.int .i64 0) 1 8 Try.underlying24 hi hz0 hz1 hz2 rfl (by decide) _ _ _ rfl (hO3.alloc _) ⟨wr.heap.size, 0, none⟩ 2 2 [.int .i64 an, .int .i64 bn] rfl rfl (new2S _ _ _ _ _ (by simp)) (one2 rfl rfl) (by unfold maxLen; omega) (by omega) (by simp; omega) ?_); intro v' w5 hown1 hg1 _))
                        have HB5 := Lib.hid (below_app HB3.out (by simp; omega) hg1 (ownsRow_low hO3 (by omega)))
                        have HG5 := Lib.hid ((HG3.out.alloc _).kept hg1 (.inr HNe.out))
                        obtain ⟨a', c', rfl⟩ := own_form hown1
                        have HO5 : Hid (w5.ownsRow (w0.heap.size + 1) 2 1 (.slice a' (ol + 2) c') (ol + 2) (intCells (O ++ [(an : Int), (bn : Int)]))) := by
                          show w5.ownsRow _ _ _ _ _ _
                          rw [show intCells (O ++ [(an : Int), (bn : Int)]) = intCells O ++ intCells [(an : Int), (bn : Int)] from List.map_append]
                          exact hown1
                        have HOl2 : Hid ((O ++ [(an : Int), (bn : Int)]).length = ol + 2) := by show _ = _; rw [List.length_append, HOl.out]; rfl
                        clear hown1 hg1 hO3
                        go_wp2
                        go_roundw
                        case rel =>
                          refine ⟨rest.eraseIdx p, O ++ [(an : Int), (bn : Int)], a', c', f, by rw [HOl2.out], ?_, ?_, HLf'.out.tail.erase p, HT3.out, HB5.out, ?_, HG5.out⟩
                          · rw [HOl2.out, HLe.out]; omega
                          · rw [HLe.out]; have := HF.out; omega
                          · rw [HOl2.out]; exact HO5.out
                        case measure => simp [lenV]; omega
            · obtain rfl : ol = k := by have := HLen.out; omega
              cases S with
              | cons a0 rest => have := HLen.out; simp at this
              | nil =>
              have e := HTq.out
              rw [swF_nil] at e
              have HE := Lib.hid e
              clear e hcell hcell'
              go_wp2
              go_ret2
              exact RetI.ok (HR.out.trans HE.out.symm) HB.out (ownsRow_low HO.out (by omega))

end Go.Proofs.Ythakjkhceeocfaa
