/- Pegs, spec: PegLine. -/
import Derived.Test.YtndkaelpeembhaaPegH
import Derived.Test.YtndkaelpeembhaaPegG
namespace Go.Proofs.Ytndkaelpeembhaa
open Go.RowKit
set_option linter.unusedVariables false

set_option maxHeartbeats 3200000 in
set_option maxRecDepth 100000 in
theorem specPegLine_any (a : Option Addr) (n c : Nat) (bs : List Bool) (w : World) (h : Row Value.bool w a n c bs) :
    Calls Try.prog 13 #[.slice a n c] w (RetI 2 w (pegRes bs)) := by
  have hl := h.len
  obtain ⟨hc, hb, _⟩ := h.at false
  by_cases h14 : n ≤ 14
  case neg =>
    have C0 := Lib.hid (l06Board_no a n c w hc hb (by omega))
    have HR := Lib.hid (peg_no (bs := bs) (by rw [hl]; unfold isB; rw [decide_eq_false h14, Bool.and_false]))
    clear h hl
    generalize pegRes bs = r at *
    go_enter Try.func13, Try.ntmps13
    go_wp2_with (fail)
    refine C0.out.mono ?_
    rintro e w1 ⟨rfl, rfl⟩
    go_wp2
    go_ret2
    exact RetI.nil HR.out (Below.refl _ _)
  have C0 := l06Board_any a n c bs w h h14
  rcases Bool.eq_false_or_eq_true (isB n) with e | e
  case inr =>
    have HR := Lib.hid (peg_no (bs := bs) (by rw [hl]; exact e))
    rw [e] at C0
    have C0 := Lib.hid C0
    clear h hl e
    generalize pegRes bs = r at *
    go_enter Try.func13, Try.ntmps13
    go_wp2_with (fail)
    refine C0.out.mono ?_
    rintro e w1 ⟨rfl, rfl⟩
    go_wp2
    go_ret2
    exact RetI.nil HR.out (Below.refl _ _)
  obtain ⟨⟨h1, _⟩, hR⟩ := peg_yes (bs := bs) (by rw [hl]; exact e)
  rw [hl] at h1 hR
  rw [e] at C0
  have C0 := Lib.hid C0
  have HR := Lib.hid hR
  have hb0 := Lst_le n (bN bs)
  have hb1 := ones_le n (bN bs)
  have hX := bN_lt bs
  rw [hl] at hX
  obtain ⟨i0, hi, hz0, hz1, hz2⟩ := info_parts infoI64T
  clear h hl e hR
  generalize hT : lineP n (Lst n (bN bs)) (ones n (bN bs) - Lst n (bN bs)) (bN bs) = TT at *
  have HT0 := Lib.hid hT
  clear hT
  generalize pegRes bs = r at *
  generalize hL : Lst n (bN bs) = L0 at *
  have HL := Lib.hid hL
  clear hL
  generalize hK : ones n (bN bs) - L0 = K0 at *
  have HK : Hid (ones n (bN bs) = L0 + K0) := by show _ = _; omega
  have hK14 : K0 ≤ 14 := by omega
  have hL14 : L0 ≤ 14 := by omega
  clear hK hb0 hb1
  generalize bN bs = X0 at *
  have C1 := Lib.hid (l06Told_any n w h14)
  go_enter Try.func13, Try.ntmps13
  go_wp2_with (fail)
  refine C0.out.mono ?_
  rintro e w0 ⟨rfl, rfl⟩
  clear C0
  go_wp2_with (fail)
  refine C1.out.mono ?_
  rintro e w1 ⟨g, rfl, hb1, ho1⟩
  have HB1 := Lib.hid hb1
  have hgw : w.heap.size ≤ g := (ho1.lt g rfl).1
  have HT1 : Hid (TabF n g w.heap.size w1) := ⟨_, ho1, ToldOk.zero n⟩
  clear hb1 ho1 C1
  have CF := Lib.hid (fun x W hx hT => l06Fewest_any n g w.heap.size h14 (ones n x) x W hx rfl hT)
  have CP := CF.out X0 w1 hX HT1.out
  rw [HL.out] at CP
  have CP := Lib.hid CP
  go_wp2_with (fail)
  refine CP.out.mono ?_
  rintro e w2 ⟨rfl, hc2, ht2⟩
  have HB2 := Lib.hid (below_chg HB1.out HB1.out.size hgw hc2)
  have hg2 := ht2.lt
  have HT2 := Lib.hid (ht2.mono ((Below.refl _ _).alloc (Nat.le_refl _) (.cells #[] 2)))
  have HBm := Lib.hid (HB2.out.alloc HB2.out.size (.cells #[] 2))
  have HO1 : Hid ((w2.alloc (.cells #[] 2)).ownsRow w2.heap.size 2 1 (.slice (some ⟨w2.heap.size, 0, none⟩) 0 0) 0 (intCells [])) := World.ownsRow_made (e := 2) (size := 1) (base := w2.heap.size) w2 #[] 0 (by simp) (Nat.zero_le _) (by simp)
  clear hc2 ht2 CP
  go_wp2
  go_loopw [4, 9] (fun vx vo wr => ∃ (X : Nat) (O : List Int) (k m oc : Nat) (oa : Option Addr), vx = .int .i64 X ∧ X < 2 ^ n ∧ Lst n X = L0 ∧ ones n X = L0 + k ∧ O ++ lineP n L0 k X = TT ∧ m + 2 * k = 2 * K0 ∧ vo = .slice oa m oc ∧ wr.ownsRow w2.heap.size 2 1 (.slice oa m oc) m (intCells O) ∧ Below w.heap.size w wr ∧ w2.heap.size ≤ wr.heap.size ∧ TabF n g w.heap.size wr) (fun _ vo _ => 28 - lenV vo)
  case atStart => exact ⟨X0, [], K0, 0, 0, _, rfl, hX, HL.out, HK.out, HT0.out, by omega, rfl, HO1.out, HBm.out, by simp, HT2.out⟩
  case round =>
    obtain ⟨X, O, k, m, oc, oa, rfl, hX1, hL, hK, hTT, hmk, rfl, hown, hbel, hMr, htab⟩ := hrel
    have HLs := Lib.hid hL
    have HKs := Lib.hid hK
    have HTT := Lib.hid hTT
    have HOw := Lib.hid hown
    have HBe := Lib.hid hbel
    have HTa := Lib.hid htab
    have HMK := Lib.hid hmk
    have hk14 : k ≤ 14 := by omega
    have hm28 : m ≤ 28 := by omega
    have hX14 : X < 16384 := Nat.lt_of_lt_of_le hX1 (Nat.pow_le_pow_right (by omega : 0 < 2) h14 : 2 ^ n ≤ 2 ^ 14)
    have C1 := l06Ones_any n X wr h14 hX1
    rw [hK] at C1
    have C1 := Lib.hid C1
    have C2 := Lib.hid (l06Moves_any X n wr hX14 h14)
    have CJ := Lib.hid (fun (p : Nat × Nat) (hp : p ∈ mv n X) W => l06Moved_any X p.1 p.2 W hX14 (by have := (mv_good hp).hf; omega) (by have := (mv_good hp).ht; omega))
    clear hL hK hTT hown hbel htab hmk HT2 HBm HO1
    by_cases hk0 : k = 0
    · subst hk0
      have hF : r = (O, true) := by
        have := HTT.out
        rw [show lineP n L0 0 X = [] from rfl, List.append_nil] at this
        rw [HR.out, ← this]
      have HF := Lib.hid hF
      have HO9 := Lib.hid (ownsRow_low HOw.out (show w.heap.size ≤ w2.heap.size by omega))
      clear hF
      go_wp2_with (fail)
      refine C1.out.mono ?_
      rintro e w3 ⟨rfl, rfl⟩
      go_wp2
      go_ret2
      exact RetI.ok HF.out HBe.out HO9.out
    · go_wp2_with (fail)
      refine C1.out.mono ?_
      rintro e w4 ⟨rfl, rfl⟩
      go_wp2_with (fail)
      refine C2.out.mono ?_
      rintro e w3 ⟨mm, ma, mc, rfl, hb3, ho3⟩
      obtain ⟨wo, rfl⟩ : ∃ wo : World, wo = wr := ⟨_, rfl⟩
      have hmlen : mm = (mv n X).length * 2 := by have := ho3.1; rw [intCells_len, flatP_len] at this; omega
      have hmb : (mv n X).length ≤ 2 * n := mvTo_len n X n
      have hmm56 : mm ≤ 56 := by omega
      have hcap : mm ≤ mc ∧ mc ≤ 9223372036854775807 := by have := Rd.own ho3; exact ⟨this.2.1, this.2.2.1⟩
      have hgo : g < wo.heap.size := HTa.out.lt
      have HO3 := Lib.hid ho3
      have HV3 := Lib.hid (av_own ho3 hgo)
      have HB3 := Lib.hid (HBe.out.trans (hb3.mono HBe.out.size))
      have HT3 := Lib.hid (HTa.out.mono hb3)
      have HOu := Lib.hid (ownsRow_below HOw.out hb3)
      have hOl : Hid (∀ x, (Value.slice oa m oc).ownBlock = some x → w2.heap.size ≤ x ∧ x < wo.heap.size) := fun x hx => by have := HOw.out.lt x hx; omega
      have hs3 := hb3.size
      have HMlen := Lib.hid hmlen
      clear hb3 ho3 C1 C2 hmlen hmb
      go_wp2
      go_loopw [4, 9, 11] (fun vb vo vi wx => ∃ j i : Nat, vb = .int .i64 X ∧ vo = .slice oa m oc ∧ i = 2 * j ∧ j ≤ (mv n X).length ∧ vi = .int .i64 i ∧ (∀ i, i < j → Lst n (md X ((mv n X).getD i (0, 0)).1 ((mv n X).getD i (0, 0)).2) ≠ L0) ∧ Chg g (g + 1) w3 wx ∧ TabF n g w.heap.size wx) (fun _ _ vi _ => mm - (intOf vi).toNat)
      case atStart => exact ⟨0, 0, rfl, rfl, rfl, by omega, rfl, fun i hi => by omega, Chg.refl _ _ _, HT3.out⟩
      case round =>
        obtain ⟨j, i, rfl, rfl, hij, hj, rfl, hno, hchg, htab⟩ := hrel
        have HC := Lib.hid hchg
        have HTx := Lib.hid htab
        have HNo := Lib.hid hno
        have hxs := hchg.size
        clear hchg htab hno
        by_cases hjl : j < (mv n X).length
        · have him : i + 1 < mm := by have := HMlen.out; omega
          obtain ⟨gm, rfl⟩ : ∃ g, ma = some ⟨g, 0, none⟩ := by
            rcases HO3.out.2 with h2 | ⟨g, cap, cur, e, _⟩
            · omega
            · simp only [Value.slice.injEq] at e
              exact ⟨g, e.1⟩
          have ho := own_av HO3.out HC.out HV3.out
          have hgr := (HO3.out.lt gm rfl).1
          have him0 : i < mm := by omega
          have hi0 : (0 : Int) ≤ (i : Int) + 1 := by omega
          have hi1 : (i : Int) + 1 < (mm : Int) := by omega
          have hwr : IntKind.i64.wrap ((i : Int) + 1) = (i : Int) + 1 := IntWalk.i64_in _ (by omega)
          have z0 := own_getI ho i him0
          have z1 := own_getI ho (i + 1) him
          obtain ⟨f0, f1⟩ := flatP_get (mv n X) j hjl
          rw [hij, f0] at z0
          rw [hij, f1] at z1
          rw [← hij] at z0 z1
          have HIJ := Lib.hid hij
          clear hij hj
          have hgm : gm ≠ g := HV3.out _ rfl
          have HPm : Hid ((mv n X).getD j (0, 0) ∈ mv n X) := getD_mem hjl
          have HGM := Lib.hid (mv_good HPm.out)
          have HBx : Hid (Below w.heap.size w wr) := below_chg HB3.out HB3.out.size hgw HC.out
          have CA := Lib.hid (fun W => CJ.out _ HPm.out W)
          have HOm := Lib.hid (ones_md HGM.out)
          have HYl : Hid (md X ((mv n X).getD j (0, 0)).1 ((mv n X).getD j (0, 0)).2 < 2 ^ n) := md_lt hX1 HGM.out.ht
          have HLa : Hid (Lst n (md X ((mv n X).getD j (0, 0)).1 ((mv n X).getD j (0, 0)).2) = L0 → lineP n L0 k X = (((mv n X).getD j (0, 0)).1 : Int) :: (((mv n X).getD j (0, 0)).2 : Int) :: lineP n L0 (k - 1) (md X ((mv n X).getD j (0, 0)).1 ((mv n X).getD j (0, 0)).2)) := fun e => by
            obtain ⟨kk, rfl⟩ : ∃ kk, k = kk + 1 := ⟨k - 1, by omega⟩
            exact lineP_at hjl HNo.out e
          have hLb2 := Lst_le n (md X ((mv n X).getD j (0, 0)).1 ((mv n X).getD j (0, 0)).2)
          have hLb := ones_le n (md X ((mv n X).getD j (0, 0)).1 ((mv n X).getD j (0, 0)).2)
          have HNx : Hid (Lst n (md X ((mv n X).getD j (0, 0)).1 ((mv n X).getD j (0, 0)).2) ≠ L0 → ∀ i, i < j + 1 → Lst n (md X ((mv n X).getD i (0, 0)).1 ((mv n X).getD i (0, 0)).2) ≠ L0) := fun e i hi => by
            by_cases c : i = j
            · rw [c]; exact e
            · exact HNo.out i (by omega)
          clear ho f0 f1
          rcases hpp : (mv n X).getD j (0, 0) with ⟨pf, pt⟩
          rw [hpp] at z0 z1 hLb hLb2 CA HOm HYl HLa HNx
          dsimp only at z0 z1 hLb hLb2 CA HOm HYl HLa HNx
          clear hpp
          have CB := CF.out (md X pf pt) 
          generalize hV : Lst n (md X pf pt) = V at *
          have HV := Lib.hid hV
          clear hV
          generalize hY : md X pf pt = Y at *
          have HY := Lib.hid hY
          clear hY
          have CB := Lib.hid CB
          go_wp2
          go_region_held3 (fun W => W.cell? ⟨gm, i, none⟩ = some (.int .i64 pf) ∧ W.cell? ⟨gm, i + 1, none⟩ = some (.int .i64 pt)) (first | exact ⟨z0, z1⟩ | go_keep)
            (first
              | (go_at_call 33; refine (CA.out _).mono ?_; rintro e w4 ⟨rfl, rfl⟩))
          have CP := Lib.hid (CB.out wr.drew HYl.out (HTx.out.mono ((Below.refl _ _).drew)))
          clear CB hwr
          go_wp2_with (fail)
          refine CP.out.mono ?_
          rintro e w5 ⟨rfl, hc5, ht5⟩
          have hcd : Chg g (g + 1) wr w5 := ((Chg.refl _ _ wr).drewN 1).trans hc5
          have HC5 := Lib.hid (HC.out.trans hcd)
          have HT5 := Lib.hid ht5
          have z0 := hc5.cellNe z0 hgm
          have z1 := hc5.cellNe z1 hgm
          have HB5 := Lib.hid (below_chg HBx.out HBx.out.size hgw hcd)
          have hO5 := own_av HOu.out HC5.out (av_own HOu.out (by omega))
          have hs5 := hcd.size
          clear hc5 ht5 CP hcd
          by_cases hVL : V = L0
          · have HLn := Lib.hid (HLa.out hVL)
            have e1 : ((V : Int) == (L0 : Int)) = true := by simp [hVL]
            have ak : some gm ≠ (Value.slice oa m oc).ownBlock := fun e => by have := hOl.out gm e.symm; omega
            have hwr : IntKind.i64.wrap ((i : Int) + 1) = (i : Int) + 1 := IntWalk.i64_in _ (by omega)
            have HVL := Lib.hid hVL
            have hgl : gm < w5.heap.size := by have := (HO3.out.lt gm rfl).2; omega
            clear hVL
            go_wp2
            go_region_held3 (fun W => W.cell? ⟨gm, i, none⟩ = some (.int .i64 pf) ∧ W.cell? ⟨gm, i + 1, none⟩ = some (.int .i64 pt))
              (first
                | exact ⟨z0, z1⟩
                | go_keep
                | (go_split_ands
                   refine ⟨?_, ?_⟩
                   · (rw [hg1.cell_far _ (by simp; omega) ak]; assumption)
                   · (rw [hg1.cell_far _ (by simp; omega) ak]; assumption)))
              ((refine step_append_lies _ (by rfl) _ _ _ (by rfl) w2.heap.size 2 i0 _ 1 8 Try.underlying26 hi hz0 hz1 hz2 rfl (by omega) (.slice oa m oc) m (intCells O) (by rfl) ((hO5.alloc _).drew)
                  ⟨w5.heap.size, 0, none⟩ 2 2 [.int .i64 pf, .int .i64 pt] (by rfl) (by rfl) (new2S _ _ _ _ _ (by simp)) (one2 rfl rfl) (by omega) (by unfold maxLen; omega) (by omega) (by simp; omega) (w5.heap.size + 1) (by simp) ?_; intro gg cap w6 hown1 hg1 hat hlt))
            have hg2 : (w5.alloc (.cells #[.int .i64 pf, .int .i64 pt] 2)).grownBy w6 (Value.slice oa m oc).ownBlock := ⟨hg1.os, hg1.tape, hg1.output, hg1.size, hg1.block⟩
            have hA5 : Below w5.heap.size w5 (w5.alloc (.cells #[.int .i64 pf, .int .i64 pt] 2)) := (Below.refl _ _).alloc (Nat.le_refl _) _
            have hOin : In w2.heap.size wo.heap.size oa := fun x hx => by have := hOl.out x.block (by rw [hx]; rfl); omega
            have HC6 : Hid (Chg w2.heap.size wo.heap.size w5 w6) := (Chg.of_below hA5 (Nat.le_refl _)).trans (Chg.of_grown hOin hg2)
            have HB6 : Hid (Below w.heap.size w w6) := below_chg HB5.out HB5.out.size (by omega) HC6.out
            have HT6 : Hid (TabF n g w.heap.size w6) := by
              obtain ⟨T, a1, a2⟩ := HT5.out.mono hA5
              exact ⟨T, a1.kept hg2 (.inr fun e => by have := hOl.out g e.symm; omega), a2⟩
            have HO6 : Hid (w6.ownsRow w2.heap.size 2 1 (.slice (some ⟨gg, 0, none⟩) (m + 2) cap) (m + 2) (intCells (O ++ [(pf : Int), (pt : Int)]))) := by
              show w6.ownsRow _ _ _ _ _ _
              rw [show intCells (O ++ [(pf : Int), (pt : Int)]) = intCells O ++ intCells [(pf : Int), (pt : Int)] from List.map_append]
              exact hown1
            have hs6 := HC6.out.size
            obtain ⟨kk, rfl⟩ : ∃ kk, k = kk + 1 := ⟨k - 1, by omega⟩
            clear hown1 hg1 hg2 hO5 z0 z1 hat hlt ak hA5 hOin hwr
            go_wp2
            go_roundw
            case rel =>
              refine ⟨Y, O ++ [(pf : Int), (pt : Int)], kk, m + 2, cap, some ⟨gg, 0, none⟩, rfl, HYl.out, by rw [HV.out]; exact HVL.out, by have := HOm.out; have := HKs.out; omega, ?_, by have := HMK.out; omega, rfl, HO6.out, HB6.out, by omega, HT6.out⟩
              rw [List.append_assoc]
              have a1 := HLn.out
              rw [Nat.add_sub_cancel] at a1
              rw [← HTT.out, a1]; rfl
            case measure => simp [lenV]; have := HMK.out; omega
          · have HNy := Lib.hid (HNx.out hVL)
            have e1 : ((V : Int) == (L0 : Int)) = false := by simp only [beq_eq_false_iff_ne]; omega
            clear hVL
            go_wp2
            go_roundw
            case rel => exact ⟨j + 1, i + 2, rfl, rfl, by have := HIJ.out; omega, by omega, by go_num, HNy.out, HC5.out, HT5.out⟩
            case measure => simp [intOf]; omega
        · exfalso
          obtain rfl : j = (mv n X).length := by omega
          obtain ⟨p, hp, hpe⟩ := find_ok HLs.out (by rw [HKs.out]; omega)
          obtain ⟨t, ht, rfl⟩ := List.getElem_of_mem hp
          have := HNo.out t ht
          apply this
          simpa [ht] using hpe

end Go.Proofs.Ytndkaelpeembhaa
