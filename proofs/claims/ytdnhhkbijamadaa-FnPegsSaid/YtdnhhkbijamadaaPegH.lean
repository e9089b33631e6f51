/- Pegs, impl: PegLine. -/
import Derived.Test.YtdnhhkbijamadaaPegF
import Derived.Deep.AppendLies
namespace Go.Proofs.Ytdnhhkbijamadaa
open Go.RowKit
set_option linter.unusedVariables false

theorem TabP.new (n : Nat) (W : World) : TabP n W.heap.size (W.alloc (.map #[] 0)) := ⟨0, .map [], World.ownsMap_made W Try.prog 3 _, KnownP.empty n⟩
theorem peg_no {bs : List Bool} (h : isB bs.length = false) : pegRes bs = ([], false) := by
  unfold pegRes
  rw [if_neg]
  rintro ⟨a, b⟩
  unfold isB at h
  rw [decide_eq_true a, decide_eq_true b] at h
  cases h
theorem peg_yes {bs : List Bool} (h : isB bs.length = true) : (1 ≤ bs.length ∧ bs.length ≤ 14) ∧ pegRes bs = (lineP bs.length (Lst bs.length (bN bs)) (ones bs.length (bN bs) - Lst bs.length (bN bs)) (bN bs), true) := by
  unfold isB at h
  rw [Bool.and_eq_true, decide_eq_true_eq, decide_eq_true_eq] at h
  exact ⟨h, if_pos h⟩

set_option maxHeartbeats 3200000 in
set_option maxRecDepth 100000 in
theorem implPegLine_any (a : Option Addr) (n c : Nat) (bs : List Bool) (w : World) (h : Row Value.bool w a n c bs) :
    Calls Try.prog 8 #[.slice a n c] w (RetI 2 w (pegRes bs)) := by
  have hl := h.len
  obtain ⟨hc, hb, _⟩ := h.at false
  have C0 := isBoard_any a n c w hc hb
  rcases Bool.eq_false_or_eq_true (isB n) with e | e
  case inr =>
    have HR := Lib.hid (peg_no (bs := bs) (by rw [hl]; exact e))
    rw [e] at C0
    have C0 := Lib.hid C0
    clear h hl e
    generalize pegRes bs = r at *
    go_enter Try.func8, Try.ntmps8
    go_wp2_with (fail)
    refine C0.out.mono ?_
    rintro e w1 ⟨rfl, rfl⟩
    go_wp2
    go_ret2
    exact RetI.nil HR.out (Below.refl _ _)
  obtain ⟨⟨h1, h14⟩, hR⟩ := peg_yes (bs := bs) (by rw [hl]; exact e)
  rw [hl] at h1 h14 hR
  obtain ⟨ad, rfl⟩ : ∃ ad, a = some ad := by
    rcases h.2.2.2 with h4 | ⟨b, off, ha, _⟩
    · omega
    · exact ⟨_, ha⟩
  rw [e] at C0
  have C0 := Lib.hid C0
  have HR := Lib.hid hR
  have hb0 := Lst_le n (bN bs)
  have hb1 := ones_le n (bN bs)
  have HRow := Lib.hid h
  have hmm := @run_makeMap Try.prog
  have HAv0 : Hid (Av w.heap.size (some ad)) := fun x hx => by have := Rd.in_heap h (by omega) x hx; omega
  obtain ⟨i0, hi, hz0, hz1, hz2⟩ := info_parts infoI64T
  clear h hl e hR
  generalize hT : lineP n (Lst n (bN bs)) (ones n (bN bs) - Lst n (bN bs)) (bN bs) = TT at *
  have HT0 := Lib.hid hT
  clear hT
  generalize pegRes bs = r at *
  generalize hL : Lst n (bN bs) = L0 at *
  have HL := Lib.hid hL
  clear hL
  generalize hK : ones n (bN bs) - L0 = K0 at *
  have HK : Hid (ones n (bN bs) = L0 + K0) := by show _ = _; omega
  have hK14 : K0 ≤ 14 := by omega
  have hL14 : L0 ≤ 14 := by omega
  clear hK hb0 hb1
  go_enter Try.func8, Try.ntmps8
  go_wp2_with (fail)
  refine C0.out.mono ?_
  rintro e w1 ⟨rfl, rfl⟩
  clear C0
  have hM1 : (w.alloc (.map #[] 0)).heap.size = w.heap.size + 1 := by simp
  have HB0 : Hid (Below w.heap.size w ((w.alloc (.map #[] 0)).alloc (.cells #[] 2))) := ((Below.refl _ _).alloc (Nat.le_refl _) _).alloc (by simp) _
  have HT1 : Hid (TabP n w.heap.size ((w.alloc (.map #[] 0)).alloc (.cells #[] 2))) := (TabP.new n w).mono ((Below.refl _ _).alloc (Nat.le_refl _) _)
  have HO1 : Hid (((w.alloc (.map #[] 0)).alloc (.cells #[] 2)).ownsRow (w.heap.size + 1) 2 1 (.slice (some ⟨w.heap.size + 1, 0, none⟩) 0 0) 0 (intCells [])) := by
    have := World.ownsRow_made (e := 2) (size := 1) (base := w.heap.size + 1) (w.alloc (.map #[] 0)) #[] 0 (by simp) (Nat.zero_le _) (by simp)
    rw [hM1] at this
    exact this
  have CP := pegLeast_any n w.heap.size h1 h14 _ ad c bs _ (HRow.out.mono HB0.out) HAv0.out rfl HT1.out
  rw [HL.out] at CP
  have CP := Lib.hid CP
  go_wp2_with (fail)
  refine CP.out.mono ?_
  rintro e w2 ⟨rfl, hc2, ht2⟩
  have HB2 : Hid (Below w.heap.size w w2) := below_chg HB0.out HB0.out.size (Nat.le_refl _) hc2
  have HO2 : Hid (w2.ownsRow (w.heap.size + 1) 2 1 (.slice (some ⟨w.heap.size + 1, 0, none⟩) 0 0) 0 (intCells [])) := own_av HO1.out hc2 (av_own HO1.out (by omega))
  have HT2 := Lib.hid ht2
  have HR2 := Lib.hid (HRow.out.mono HB2.out)
  have hM2 : w.heap.size + 1 ≤ w2.heap.size := by have := hc2.size; simp at this; omega
  clear hc2 ht2 CP HO1 HT1 HB0 hM1 hmm HRow
  go_wp2
  go_loopw [0, 5] (fun vb vo wr => ∃ (bs' : List Bool) (ad' : Addr) (c' : Nat) (O : List Int) (k m oc : Nat) (oa : Option Addr), vb = .slice (some ad') n c' ∧ Row Value.bool wr (some ad') n c' bs' ∧ Av w.heap.size (some ad') ∧ Lst n (bN bs') = L0 ∧ ones n (bN bs') = L0 + k ∧ O ++ lineP n L0 k (bN bs') = TT ∧ m + 2 * k = 2 * K0 ∧ vo = .slice oa m oc ∧ wr.ownsRow (w.heap.size + 1) 2 1 (.slice oa m oc) m (intCells O) ∧ Below w.heap.size w wr ∧ w.heap.size + 1 ≤ wr.heap.size ∧ TabP n w.heap.size wr) (fun _ vo _ => 28 - lenV vo)
  case atStart => exact ⟨bs, ad, c, [], K0, 0, 0, _, rfl, HR2.out, HAv0.out, HL.out, HK.out, HT0.out, by omega, rfl, HO2.out, HB2.out, hM2, HT2.out⟩
  case round =>
    obtain ⟨bs', ad', c', O, k, m, oc, oa, rfl, hrow, hav, hL, hK, hTT, hmk, rfl, hown, hbel, hMr, htab⟩ := hrel
    have hl' := hrow.len
    obtain ⟨hc', hb', hcell⟩ := hrow.at false
    have HRw := Lib.hid hrow
    have HAv := Lib.hid hav
    have HLs := Lib.hid hL
    have HKs := Lib.hid hK
    have HTT := Lib.hid hTT
    have HOw := Lib.hid hown
    have HBe := Lib.hid hbel
    have HTa := Lib.hid htab
    have HMK := Lib.hid hmk
    have HOn : Hid (ones n (bN bs') = sumR (fun i => (bs'.getD i false).toNat) n) := by show _ = _; have := ones_bN bs'; rw [hl'] at this; exact this
    have HBt : Hid (∀ i, sumR (fun i => (bs'.getD i false).toNat) i ≤ i) := fun i => by
      have := ones_le i (bN bs')
      have e : ones i (bN bs') = sumR (fun i => (bs'.getD i false).toNat) i := sumR_congr _ fun j _ => by rw [bN_bit]
      omega
    have HCell := Lib.hid hcell
    have hk14 : k ≤ 14 := by omega
    have hm28 : m ≤ 28 := by omega
    have hl' := Lib.hid hl'
    clear hrow hav hL hK hTT hown hbel htab hmk hcell HR2 HO2 HB2 HT2 HAv0
    go_wp2
    go_loop [7, 23] (fun vl vi => ∃ k : Nat, k ≤ n ∧ vi = .int .i64 k ∧ vl = .int .i64 (sumR (fun i => (bs'.getD i false).toNat) k : Nat)) (fun _ vi => n - (intOf vi).toNat)
    case atStart => exact ⟨0, by omega, rfl, rfl⟩
    case round =>
      obtain ⟨q, hq, rfl, rfl⟩ := hrel
      have hsk := HBt.out q
      by_cases hlt : q < n
      · obtain ⟨b, off, hae, hlb, hx⟩ := HCell.out q hlt
        obtain rfl := Option.some.inj hae
        have c0 := hx q hlt
        have HSu := Lib.hid (sumR_succ (fun i => (bs'.getD i false).toNat) q)
        clear hx
        generalize hS : sumR (fun i => (bs'.getD i false).toNat) q = S at *
        have HSe := Lib.hid hS
        clear hS
        rcases Bool.eq_false_or_eq_true (bs'.getD q false) with e | e
        · have HE : Hid (sumR (fun i => (bs'.getD i false).toNat) (q + 1) = S + 1) := by show _ = _; rw [HSu.out, e]; rfl
          rw [e] at c0
          clear e
          go_wp2
          go_round
          case rel => exact ⟨q + 1, by omega, by go_num, by rw [HE.out]; go_num⟩
          case measure => simp [intOf]; omega
        · have HE : Hid (sumR (fun i => (bs'.getD i false).toNat) (q + 1) = S) := by show _ = _; rw [HSu.out, e]; rfl
          rw [e] at c0
          clear e
          go_wp2
          go_round
          case rel => exact ⟨q + 1, by omega, by go_num, by rw [HE.out]⟩
          case measure => simp [intOf]; omega
      · obtain rfl : q = n := by omega
        have eO := HOn.out
        rw [← eO, HKs.out]
        clear eO hsk hlt
        by_cases hk0 : k = 0
        · subst hk0
          have hF : r = (O, true) := by
            have := HTT.out
            rw [show lineP q L0 0 (bN bs') = [] from rfl, List.append_nil] at this
            rw [HR.out, ← this]
          have HF := Lib.hid hF
          have HO9 := Lib.hid (ownsRow_low HOw.out (show w.heap.size ≤ w.heap.size + 1 by omega))
          have e1 : (((L0 + 0 : Nat) : Int) == (L0 : Int)) = true := by simp
          clear hF
          go_wp2
          go_ret2
          exact RetI.ok HF.out HBe.out HO9.out
        · have hX : bN bs' < 16384 := by have := bN_lt bs'; rw [hl'.out] at this; exact Nat.lt_of_lt_of_le this (Nat.pow_le_pow_right (by omega : 0 < 2) h14 : 2 ^ q ≤ 2 ^ 14)
          have e1 : (((L0 + k : Nat) : Int) == (L0 : Int)) = false := by simp only [beq_eq_false_iff_ne]; omega
          have C2 := Lib.hid (pegMoves_any (some ad') q c' bs' wr HRw.out h14)
          go_wp2_with (fail)
          refine C2.out.mono ?_
          rintro e w3 ⟨mm, ma, mc, rfl, hb3, ho3⟩
          obtain ⟨wo, rfl⟩ : ∃ wo : World, wo = wr := ⟨_, rfl⟩
          have hmlen : mm = (mv q (bN bs')).length * 2 := by have := ho3.1; rw [intCells_len, flatP_len] at this; omega
          have hmb : (mv q (bN bs')).length ≤ 2 * q := mvTo_len q (bN bs') q
          have hmm56 : mm ≤ 56 := by omega
          have hcap : mm ≤ mc ∧ mc ≤ 9223372036854775807 := by have := Rd.own ho3; exact ⟨this.2.1, this.2.2.1⟩
          have HO3 := Lib.hid ho3
          have HV3 := Lib.hid (av_own ho3 (show w.heap.size < wo.heap.size by omega))
          have HB3 := Lib.hid (HBe.out.trans (hb3.mono HBe.out.size))
          have HT3 := Lib.hid (HTa.out.mono hb3)
          have HR3 := Lib.hid (HRw.out.mono hb3)
          have HOu := Lib.hid (ownsRow_below HOw.out hb3)
          have hOl : Hid (∀ x, (Value.slice oa m oc).ownBlock = some x → w.heap.size < x ∧ x < wo.heap.size) := fun x hx => by have := HOw.out.lt x hx; omega
          have hs3 := hb3.size
          have HMlen := Lib.hid hmlen
          clear hb3 ho3 C2 hmlen hmb e1
          go_wp2
          go_loopw [0, 5, 11] (fun vb vo vi wx => ∃ j i : Nat, vb = .slice (some ad') q c' ∧ vo = .slice oa m oc ∧ i = 2 * j ∧ j ≤ (mv q (bN bs')).length ∧ vi = .int .i64 i ∧ (∀ i, i < j → Lst q (md (bN bs') ((mv q (bN bs')).getD i (0, 0)).1 ((mv q (bN bs')).getD i (0, 0)).2) ≠ L0) ∧ Chg w.heap.size (w.heap.size + 1) w3 wx ∧ TabP q w.heap.size wx) (fun _ _ vi _ => mm - (intOf vi).toNat)
          case atStart => exact ⟨0, 0, rfl, rfl, rfl, by omega, rfl, fun i hi => by omega, Chg.refl _ _ _, HT3.out⟩
          case round =>
            obtain ⟨j, i, rfl, rfl, hij, hj, rfl, hno, hchg, htab⟩ := hrel
            have HC := Lib.hid hchg
            have HTx := Lib.hid htab
            have HNo := Lib.hid hno
            have hxs := hchg.size
            clear hchg htab hno
            by_cases hjl : j < (mv q (bN bs')).length
            · have him : i + 1 < mm := by have := HMlen.out; omega
              obtain ⟨gm, rfl⟩ : ∃ g, ma = some ⟨g, 0, none⟩ := by
                rcases HO3.out.2 with h2 | ⟨g, cap, cur, e, _⟩
                · omega
                · simp only [Value.slice.injEq] at e
                  exact ⟨g, e.1⟩
              have ho := own_av HO3.out HC.out HV3.out
              have hgr := (HO3.out.lt gm rfl).1
              have him0 : i < mm := by omega
              have hi0 : (0 : Int) ≤ (i : Int) + 1 := by omega
              have hi1 : (i : Int) + 1 < (mm : Int) := by omega
              have hwr : IntKind.i64.wrap ((i : Int) + 1) = (i : Int) + 1 := IntWalk.i64_in _ (by omega)
              have z0 := own_getI ho i him0
              have z1 := own_getI ho (i + 1) him
              obtain ⟨f0, f1⟩ := flatP_get (mv q (bN bs')) j hjl
              rw [hij, f0] at z0
              rw [hij, f1] at z1
              rw [← hij] at z0 z1
              have HIJ := Lib.hid hij
              clear hij hj
              have hgm : gm ≠ w.heap.size := HV3.out _ rfl
              have HPm : Hid ((mv q (bN bs')).getD j (0, 0) ∈ mv q (bN bs')) := getD_mem hjl
              have HGM := Lib.hid (mv_good HPm.out)
              have HBx : Hid (Below w.heap.size w wr) := below_chg HB3.out HB3.out.size (Nat.le_refl _) HC.out
              have CA := Lib.hid (jumped_any ad' q c' bs' _ _ wr.drew ((HR3.out.av HC.out HAv.out).drewN 1) h14 HGM.out.hf HGM.out.ht HGM.out.hm)
              have HJ : Hid (bN (jump bs' ((mv q (bN bs')).getD j (0, 0)).1 ((mv q (bN bs')).getD j (0, 0)).2) = md (bN bs') ((mv q (bN bs')).getD j (0, 0)).1 ((mv q (bN bs')).getD j (0, 0)).2) := bN_jump (by rw [hl'.out]; exact HGM.out)
              have HOm := Lib.hid (ones_md HGM.out)
              have HLa : Hid (Lst q (md (bN bs') ((mv q (bN bs')).getD j (0, 0)).1 ((mv q (bN bs')).getD j (0, 0)).2) = L0 → lineP q L0 k (bN bs') = (((mv q (bN bs')).getD j (0, 0)).1 : Int) :: (((mv q (bN bs')).getD j (0, 0)).2 : Int) :: lineP q L0 (k - 1) (md (bN bs') ((mv q (bN bs')).getD j (0, 0)).1 ((mv q (bN bs')).getD j (0, 0)).2)) := fun e => by
                obtain ⟨kk, rfl⟩ : ∃ kk, k = kk + 1 := ⟨k - 1, by omega⟩
                exact lineP_at hjl HNo.out e
              have hLb2 := Lst_le q (md (bN bs') ((mv q (bN bs')).getD j (0, 0)).1 ((mv q (bN bs')).getD j (0, 0)).2)
              have hLb := ones_le q (md (bN bs') ((mv q (bN bs')).getD j (0, 0)).1 ((mv q (bN bs')).getD j (0, 0)).2)
              have HNx : Hid (Lst q (md (bN bs') ((mv q (bN bs')).getD j (0, 0)).1 ((mv q (bN bs')).getD j (0, 0)).2) ≠ L0 → ∀ i, i < j + 1 → Lst q (md (bN bs') ((mv q (bN bs')).getD i (0, 0)).1 ((mv q (bN bs')).getD i (0, 0)).2) ≠ L0) := fun e i hi => by
                by_cases c : i = j
                · rw [c]; exact e
                · exact HNo.out i (by omega)
              clear ho f0 f1
              rcases hpp : (mv q (bN bs')).getD j (0, 0) with ⟨pf, pt⟩
              rw [hpp] at z0 z1 hLb hLb2 CA HJ HOm HLa HNx
              dsimp only at z0 z1 hLb hLb2 CA HJ HOm HLa HNx
              clear hpp
              go_wp2
              go_region_held3 (fun W => W.cell? ⟨gm, i, none⟩ = some (.int .i64 pf) ∧ W.cell? ⟨gm, i + 1, none⟩ = some (.int .i64 pt)) (first | exact ⟨z0, z1⟩ | go_keep)
                (first
                  | (go_at_call 15; refine CA.out.mono ?_; rintro e w4 ⟨g4, c4, rfl, hb4, ho4⟩; have z0 := cell_on hb4 z0; have z1 := cell_on hb4 z1))
              have hW4 : Below wr.heap.size wr w4 := (Below.refl _ _).drew.trans hb4
              have hg4 : wr.heap.size ≤ g4 := (ho4.lt g4 rfl).1
              have hg4M : g4 ≠ w.heap.size := by omega
              have HB4 := Lib.hid (HBx.out.trans (hW4.mono HBx.out.size))
              have HT4 := Lib.hid (HTx.out.mono hW4)
              have HO4 := Lib.hid ho4
              have HC4 := Lib.hid (HC.out.trans (Chg.below hW4))
              have HCd := Lib.hid (Chg.below (M := w.heap.size) hW4)
              have CP := pegLeast_any q w.heap.size h1 h14 _ ⟨g4, 0, none⟩ c4 (jump bs' pf pt) w4 (Rd.own ho4) (fun x hx => by obtain rfl := Option.some.inj hx; exact hg4M) rfl HT4.out
              rw [HJ.out] at CP
              have CP := Lib.hid CP
              have HOu4 := Lib.hid (own_av HOu.out HC4.out (av_own HOu.out (by omega)))
              clear hb4 ho4 hW4 CA hwr
              generalize hV : Lst q (md (bN bs') pf pt) = V at *
              have HV := Lib.hid hV
              clear hV
              go_wp2_with (fail)
              refine CP.out.mono ?_
              rintro e w5 ⟨rfl, hc5, ht5⟩
              have HC5 := Lib.hid (HC4.out.trans hc5)
              have HT5 := Lib.hid ht5
              have z0 := hc5.cellNe z0 hgm
              have z1 := hc5.cellNe z1 hgm
              have HB5 := Lib.hid (below_chg HB4.out HB4.out.size (Nat.le_refl _) hc5)
              have HO5 := Lib.hid (own_av HO4.out hc5 (fun x hx => by obtain rfl := Option.some.inj hx; exact hg4M))
              have hO5 := own_av HOu4.out hc5 (av_own HOu4.out (by omega))
              have hs5 : wr.heap.size < w5.heap.size := by have := (HO5.out.lt g4 rfl).2; omega
              clear hc5 ht5 CP
              by_cases hVL : V = L0
              · have HLn := Lib.hid (HLa.out hVL)
                have e1 : ((V : Int) == (L0 : Int)) = true := by simp [hVL]
                have ak : some gm ≠ (Value.slice oa m oc).ownBlock := fun e => by have := hOl.out gm e.symm; omega
                have hwr : IntKind.i64.wrap ((i : Int) + 1) = (i : Int) + 1 := IntWalk.i64_in _ (by omega)
                have HVL := Lib.hid hVL
                have hgl : gm < w5.heap.size := by have := (HO3.out.lt gm rfl).2; omega
                clear hVL
                go_wp2
                go_region_held3 (fun W => W.cell? ⟨gm, i, none⟩ = some (.int .i64 pf) ∧ W.cell? ⟨gm, i + 1, none⟩ = some (.int .i64 pt))
                  (first
                    | exact ⟨z0, z1⟩
                    | go_keep
                    | (go_split_ands
                       refine ⟨?_, ?_⟩
                       · (rw [hg1.cell_far _ (by simp; omega) ak]; assumption)
                       · (rw [hg1.cell_far _ (by simp; omega) ak]; assumption)))
                  ((refine step_append_lies _ (by rfl) _ _ _ (by rfl) (w.heap.size + 1) 2 i0 _ 1 8 Try.underlying26 hi hz0 hz1 hz2 rfl (by omega) (.slice oa m oc) m (intCells O) (by rfl) ((hO5.alloc _).drew)
                      ⟨w5.heap.size, 0, none⟩ 2 2 [.int .i64 pf, .int .i64 pt] (by rfl) (by rfl) (new2S _ _ _ _ _ (by simp)) (one2 rfl rfl) (by omega) (by unfold maxLen; omega) (by omega) (by simp; omega) (w5.heap.size + 1) (by simp) ?_; intro gg cap w6 hown1 hg1 hat hlt))
                have hg2 : (w5.alloc (.cells #[.int .i64 pf, .int .i64 pt] 2)).grownBy w6 (Value.slice oa m oc).ownBlock := ⟨hg1.os, hg1.tape, hg1.output, hg1.size, hg1.block⟩
                have hA5 : Below w5.heap.size w5 (w5.alloc (.cells #[.int .i64 pf, .int .i64 pt] 2)) := (Below.refl _ _).alloc (Nat.le_refl _) _
                have hOin : In (w.heap.size + 1) wo.heap.size oa := fun x hx => by have := hOl.out x.block (by rw [hx]; rfl); omega
                have HC6 : Hid (Chg (w.heap.size + 1) wo.heap.size w5 w6) := (Chg.of_below hA5 (Nat.le_refl _)).trans (Chg.of_grown hOin hg2)
                have HB6 : Hid (Below w.heap.size w w6) := below_chg HB5.out HB5.out.size (by omega) HC6.out
                have HT6 : Hid (TabP q w.heap.size w6) := by
                  obtain ⟨k', D, a1, a2⟩ := HT5.out.mono hA5
                  exact ⟨k', D, a1.kept hg2 (fun e => by have := hOl.out _ e.symm; omega), a2⟩
                have HO6 : Hid (w6.ownsRow (w.heap.size + 1) 2 1 (.slice (some ⟨gg, 0, none⟩) (m + 2) cap) (m + 2) (intCells (O ++ [(pf : Int), (pt : Int)]))) := by
                  show w6.ownsRow _ _ _ _ _ _
                  rw [show intCells (O ++ [(pf : Int), (pt : Int)]) = intCells O ++ intCells [(pf : Int), (pt : Int)] from List.map_append]
                  exact hown1
                have HG4 : Hid (Row Value.bool w6 (some ⟨g4, 0, none⟩) q c4 (jump bs' pf pt)) := Rd.own (own_chg HO5.out HC6.out (fun x hx => by obtain rfl := Option.some.inj hx; exact ⟨hg4, (HO5.out.lt g4 rfl).2⟩ : In wr.heap.size w5.heap.size (some ⟨g4, 0, none⟩)) (.inr (by omega)))
                have hs6 := HC6.out.size
                obtain ⟨kk, rfl⟩ : ∃ kk, k = kk + 1 := ⟨k - 1, by omega⟩
                clear hown1 hg1 hg2 hO5 z0 z1 hat hlt ak hA5 hOin hwr
                go_wp2
                go_roundw
                case rel =>
                  refine ⟨jump bs' pf pt, ⟨g4, 0, none⟩, c4, O ++ [(pf : Int), (pt : Int)], kk, m + 2, cap, some ⟨gg, 0, none⟩, rfl, HG4.out, fun x hx => ?_, ?_, ?_, ?_, by have := HMK.out; omega, rfl, HO6.out, HB6.out, by omega, HT6.out⟩
                  · obtain rfl := Option.some.inj hx; exact hg4M
                  · rw [HJ.out, HV.out]; exact HVL.out
                  · rw [HJ.out]; have := HOm.out; have := HKs.out; omega
                  · rw [HJ.out, List.append_assoc]
                    have a1 := HLn.out
                    rw [Nat.add_sub_cancel] at a1
                    rw [← HTT.out, a1]; rfl
                case measure => simp [lenV]; have := HMK.out; omega
              · have HNy := Lib.hid (HNx.out hVL)
                have e1 : ((V : Int) == (L0 : Int)) = false := by simp only [beq_eq_false_iff_ne]; omega
                clear hVL
                go_wp2
                go_roundw
                case rel => exact ⟨j + 1, i + 2, rfl, rfl, by have := HIJ.out; omega, by omega, by go_num, HNy.out, HC5.out, HT5.out⟩
                case measure => simp [intOf]; omega
            · exfalso
              obtain rfl : j = (mv q (bN bs')).length := by omega
              obtain ⟨p, hp, hpe⟩ := find_ok HLs.out (by rw [HKs.out]; omega)
              obtain ⟨t, ht, rfl⟩ := List.getElem_of_mem hp
              have := HNo.out t ht
              apply this
              simpa [ht] using hpe

end Go.Proofs.Ytdnhhkbijamadaa
