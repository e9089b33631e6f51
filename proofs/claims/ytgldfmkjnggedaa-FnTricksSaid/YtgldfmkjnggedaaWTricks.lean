/- The law FnTricks returns true: its walk. -/
import Derived.Test.YtgldfmkjnggedaaFTricksD
import Derived.Deep.Cut
namespace Go.Proofs.Ytgldfmkjnggedaa
open Go.RowKit
set_option linter.unusedVariables false

set_option maxHeartbeats 12800000 in
set_option maxRecDepth 100000 in
theorem fnTricks_walk (a0 : Option Addr) (n0 c0 : Nat) (x0 : List Int) (a1 : Option Addr) (n1 c1 : Nat) (x1 : List Int) (w : World) (ok0 : okB x0) (v0 : Bytes w a0 n0 c0 x0) (ok1 : okB x1) (v1 : Bytes w a1 n1 c1 x1) :
    Calls Try.prog 3 #[.slice a0 n0 c0, .slice a1 n1 c1] w (Ret w (.bool true)) := by
  obtain ⟨hc0, hm0, _⟩ := v0.at 0
  obtain ⟨hc1, hm1, _⟩ := v1.at 0
  have C0 := r8Long_any a0 n0 c0 a1 n1 c1 w (by omega) (by omega)
  have CR := Lib.hid (fun (n : Nat) (hn : n ≤ 6) => R8Hands_any a0 n0 c0 x0 n w v0 ok0 hn)
  have CA := Lib.hid (fun (k m : Int) W (hW : Below w.heap.size w W) (h1 : 0 ≤ k) (h2 : k ≤ 1000) (h3 : 1 ≤ m) (h4 : m ≤ 1000) => r8At_any a1 n1 c1 x1 k m W (v1.mono hW) ok1 h1 h2 h3 h4)
  clear v0 v1 ok0 ok1
  rcases Bool.eq_false_or_eq_true (isLong n0 n1) with e | e
  · rw [e] at C0
    have C0 := Lib.hid C0
    go_enter Try.func3, Try.ntmps3
    go_wp2_with (fail)
    refine C0.out.mono ?_
    rintro e w1 ⟨rfl, rfl⟩
    go_wp2
    go_ret
    exact ⟨rfl, Below.refl _ _⟩
  rw [e] at C0
  have C0 := Lib.hid C0
  clear e
  go_enter Try.func3, Try.ntmps3
  go_wp2_with (fail)
  refine C0.out.mono ?_
  rintro e w1 ⟨rfl, rfl⟩
  go_wp2_with (fail)
  refine (CA.out 40 4 _ (Below.refl _ _) (by omega) (by omega) (by omega) (by omega)).mono ?_
  rintro e w2 ⟨x, rfl, hx0, hx1, rfl⟩
  obtain ⟨N, rfl⟩ : ∃ N : Nat, x = (N : Int) - 1 := ⟨(x + 1).toNat, by omega⟩
  have hN1 : 1 ≤ N := by omega
  have hN4 : N ≤ 4 := by omega
  have hwN : IntKind.i64.wrap (1 + ((N : Int) - 1)) = (N : Int) := by rw [IntWalk.i64_in _ (by omega)]; omega
  have C2 := Lib.hid (CR.out N (by omega))
  clear hx0 hx1
  clear C0 CR
  go_wp2_with (fail)
  refine C2.out.mono ?_
  rintro e w3 ⟨g1, d1, g2, d2, M, T, rfl, hb3, ho1, ho2, h2h⟩
  have HB3 := Lib.hid hb3
  have hs3 := hb3.size
  have HM := Lib.hid (Rd.own ho1 : Ints w3 (some ⟨g1, 0, none⟩) N d1 M)
  have HT := Lib.hid (Rd.own ho2 : Ints w3 (some ⟨g2, 0, none⟩) N d2 T)
  have H2 := Lib.hid h2h
  have hcap1 : N ≤ d1 ∧ d1 ≤ 9223372036854775807 := ⟨HM.out.2.1, HM.out.2.2.1⟩
  have hcap2 : N ≤ d2 ∧ d2 ≤ 9223372036854775807 := ⟨HT.out.2.1, HT.out.2.2.1⟩
  clear hb3 ho1 ho2 h2h C2
  go_wp2_with (fail)
  refine (CA.out 41 5 _ HB3.out (by omega) (by omega) (by omega) (by omega)).mono ?_
  rintro e w4 ⟨t5, rfl, ht0, ht1, rfl⟩
  go_wp2_with (fail)
  refine (CA.out 42 2 _ HB3.out (by omega) (by omega) (by omega) (by omega)).mono ?_
  rintro e w4 ⟨y, rfl, hy0, hy1, rfl⟩
  obtain ⟨t, rfl⟩ : ∃ t, t5 = t + 1 := ⟨t5 - 1, by omega⟩
  have hw1 : IntKind.i64.wrap (t + 1 - 1) = t := by rw [IntWalk.i64_in _ (by omega)]; omega
  have hte : t + 1 - 1 = t := by omega
  obtain ⟨B, LD, LE, WY, L, hB, hLl, hWY, hVB, hVL, CB1, CB2, CCa, CLi, CLe, CAh, CCl, CSh⟩ := tricks_all w3 g1 d1 g2 d2 N M T t (y == 1) HM.out HT.out H2.out (by omega) (by omega) (by omega)
  have HVB := Lib.hid hVB
  have HVL := Lib.hid hVL
  have HLl := Lib.hid hLl
  clear hVB hVL hLl
  generalize hl0 : L.getD 0 0 = l0 at *
  have Hl0 := Lib.hid hl0
  clear hl0
  generalize hbb : (y == 1) = b at *
  have Hbb := Lib.hid hbb
  clear hbb
  go_wp2_with (fail)
  rw [Hbb.out]
  refine (CB1.out _ (Below.refl _ _)).mono ?_
  rintro e w4 ⟨rfl, hb4⟩
  have HB4 := Lib.hid hb4
  have hs4 := hb4.size
  clear hb4 CB1
  go_wp2_with (fail)
  refine (CB2.out _ HB4.out).mono ?_
  rintro e w5 ⟨rfl, hb5⟩
  have HB5 := Lib.hid (below_step HB4.out hs4 hb5)
  have hs5 := HB5.out.size
  clear hb5 CB2 HB4 hs4
  go_wp2_with (fail)
  refine (CCa.out _ HB5.out).mono ?_
  rintro e w6 ⟨rfl, hb6⟩
  have HB6 := Lib.hid (below_step HB5.out hs5 hb6)
  have hs6 := HB6.out.size
  clear hb6 CCa HB5 hs5
  go_wp2_with (fail)
  refine (CLi.out _ HB6.out).mono ?_
  rintro e w7 ⟨g3, d3, rfl, hb7, hL7⟩
  have HB7 := Lib.hid (below_step HB6.out hs6 hb7)
  have hs7 := HB7.out.size
  have HL7 := Lib.hid hL7
  have hcap3 : 2 * N ≤ d3 ∧ d3 ≤ 9223372036854775807 := ⟨hL7.2.1, hL7.2.2.1⟩
  clear hb7 CLi HB6 hs6 hL7
  go_wp2_with (fail)
  have hA1 := fun (o1 o2 : Obj) => ((Below.refl w.heap.size w7).alloc (by omega) o1).alloc (by simp; omega) o2
  refine (CA.out 43 8 _ ((HB3.out.trans (HB7.out.mono hs3)).trans (hA1 _ _)) (by omega) (by omega) (by omega) (by omega)).mono ?_
  rintro e w8 ⟨z, rfl, hz0, hz1, rfl⟩
  have hwz : IntKind.i64.wrap (1 + z) = 1 + z := IntWalk.i64_in _ (by omega)
  go_wp2_with (fail)
  refine (CSh.out w7 _ HB7.out (1 + z) ⟨by omega, by omega⟩).mono ?_
  rintro e w9 ⟨g4, d4, rfl, hb9, hL9⟩
  have HB9 := Lib.hid (HB7.out.trans (hb9.mono hs7))
  have hs9 := HB9.out.size
  have HL9 := Lib.hid (HL7.out.mono hb9)
  have HS9 := Lib.hid hL9
  have hcap4 : 2 ≤ d4 ∧ d4 ≤ 9223372036854775807 := ⟨hL9.2.1, hL9.2.2.1⟩
  clear hb9 hL9 CSh HL7 HB7 hs7 hA1 hwz hz0 hz1
  go_wp2_with (fail)
  refine (CLe.out _ HB9.out).mono ?_
  rintro e w10 ⟨rfl, hb10⟩
  have HB10 := Lib.hid (below_step HB9.out hs9 hb10)
  have hs10 := HB10.out.size
  have HL10 := Lib.hid (Ints.mono HL9.out hb10)
  have HS10 := Lib.hid (Ints.mono HS9.out hb10)
  clear hb10 CLe HL9 HS9 HB9 hs9
  go_wp2_with (fail)
  refine (CAh.out _ HB10.out).mono ?_
  rintro e w11 ⟨rfl, hb11⟩
  have HB11 := Lib.hid (below_step HB10.out hs10 hb11)
  have hs11 := HB11.out.size
  have hI11 := Ints.mono HL10.out hb11
  have hS11 := Ints.mono HS10.out hb11
  have HI11 := Lib.hid hI11
  obtain ⟨_, _, hx⟩ := hI11.at
  obtain ⟨_, _, hy⟩ := hS11.at
  have z0 : w11.cell? ⟨g3, 0, none⟩ = some (.int .i64 l0) := by
    obtain ⟨b', off, e, _, h⟩ := hx 0 (by omega)
    simp only [Option.some.injEq, Addr.mk.injEq] at e
    obtain ⟨rfl, rfl, _⟩ := e
    have := h 0 (by omega)
    rw [Hl0.out] at this
    exact this
  have z1 : w11.cell? ⟨g4, 0, none⟩ = some (.int .i64 LD) := by
    obtain ⟨b', off, e, _, h⟩ := hy 0 (by omega)
    simp only [Option.some.injEq, Addr.mk.injEq] at e
    obtain ⟨rfl, rfl, _⟩ := e
    exact h 0 (by omega)
  have hw2 : IntKind.i64.wrap (B + ((N : Int) - B)) = (N : Int) := by rw [IntWalk.i64_in _ (by omega)]; omega
  have hw3 : IntKind.i64.wrap (2 * (N : Int)) = 2 * (N : Int) := IntWalk.i64_in _ (by omega)
  have hl2 : IntKind.i64.wrap ((2 * N : Nat) : Int) = 2 * (N : Int) := by rw [IntWalk.i64_in _ (by omega)]; omega
  clear hb11 CAh HL10 HS10 HB10 hs10 hI11 hS11 hx hy
  go_upto_if 177 with fail
  go_cut [] from 36 (fun wx => wx = w11)
  case first => as_aux_lemma =>
    go_wp2
    go_meet
    case rel => rfl
  case rest =>
  obtain rfl := hcut
  clear hw2 hl2 z0 z1 hwN hte
  obtain ⟨i0, hi, hz0, hz1, hz2⟩ := info_parts infoI64
  have HN1 := Lib.hid (Ints.news (Ints.mono HM.out HB11.out))
  have HN2 := Lib.hid (Ints.news (Ints.mono HT.out HB11.out))
  have HLM : Hid ((intCells M).length = N * 1) := HM.out.1
  have HLT : Hid ((intCells T).length = N * 1) := HT.out.1
  go_wp2_with (first
    | (at_builtin; (refine wpList_append_lies _ rfl _ _ 25 rfl wc.heap.size 2 i0 _ 1 8 Try.underlying25 hi hz0 hz1 hz2 rfl (by omega) (.slice (some ⟨wc.heap.size, 0, none⟩) 0 0) 0 [] rfl (World.ownsRow_made wc #[] 0 (Nat.le_refl _) (Nat.zero_le _) (by simp)) ⟨g1, 0, none⟩ N d1 (intCells M) rfl HLM.out (fun j u hu => cell_on ((Below.refl _ _).alloc (Nat.le_refl _) _) (HN1.out j u hu)) (intCells_one M) (by omega) (by unfold maxLen; omega) (by omega) (by simp) (wc.heap.size + 1) (by simp) ?_); intro g1n d1n w12 hown1 hg1 hat hlt7; have hb7 : Below wc.heap.size wc w12 := below_grown ((Below.refl wc.heap.size wc).alloc (Nat.le_refl _) _) (by simp) hg1 (World.ownsRow_made (e := 2) (size := 1) wc #[] 0 (Nat.le_refl _) (Nat.zero_le _) (by simp)); have HP1 := Lib.hid hb7; have HP1I : Hid (Ints w12 (some ⟨g1n, 0, none⟩) N d1n M) := (by rw [Nat.zero_add] at hown1; exact Rd.own hown1); rw [Nat.zero_add]; clear hown1 hg1 hat hb7)
    | (at_builtin; go_must (refine wpList_append_lies _ rfl _ _ 25 rfl w12.heap.size 2 i0 _ 1 8 Try.underlying25 hi hz0 hz1 hz2 rfl (by omega) (.slice (some ⟨w12.heap.size, 0, none⟩) 0 0) 0 [] rfl (World.ownsRow_made w12 #[] 0 (Nat.le_refl _) (Nat.zero_le _) (by simp)) ⟨g2, 0, none⟩ N d2 (intCells T) rfl HLT.out (fun j u hu => cell_on ((Below.refl _ _).alloc (Nat.le_refl _) _) ((fun j u hu => cell_on HP1.out (HN2.out j u hu)) j u hu)) (intCells_one T) (by omega) (by unfold maxLen; omega) (by omega) (by simp) (w12.heap.size + 1) (by simp) ?_); intro g2n d2n w13 hown1 hg1 hat hlt7; have hb7 : Below w12.heap.size w12 w13 := below_grown ((Below.refl w12.heap.size w12).alloc (Nat.le_refl _) _) (by simp) hg1 (World.ownsRow_made (e := 2) (size := 1) w12 #[] 0 (Nat.le_refl _) (Nat.zero_le _) (by simp)); have HP2 := Lib.hid hb7; have HP2I : Hid (Ints w13 (some ⟨g2n, 0, none⟩) N d2n T) := (by rw [Nat.zero_add] at hown1; exact Rd.own hown1); rw [Nat.zero_add]; clear hown1 hg1 hat hb7))
  have hb13 := HP1.out.trans (HP2.out.mono HP1.out.size)
  have HQ0 := Lib.hid (HB11.out.trans (hb13.mono hs11))
  have HLi := Lib.hid (Ints.mono HI11.out hb13)
  have HM13 := Lib.hid (Ints.mono HP1I.out HP2.out)
  have hs13 := HQ0.out.size
  have hcm : N ≤ d1n ∧ d1n ≤ 9223372036854775807 := ⟨HM13.out.2.1, HM13.out.2.2.1⟩
  have hct : N ≤ d2n ∧ d2n ≤ 9223372036854775807 := ⟨HP2I.out.2.1, HP2I.out.2.2.1⟩
  clear HP1 HP1I HI11 HB11 hs11 HN1 HN2 hb13 HLM HLT HM HT
  have HCn := Lib.hid (fun W (hW : Below w13.heap.size w13 W) => CCl.out W (HQ0.out.trans (hW.mono hs13)))
  have HQw := Lib.hid (HB3.out.trans (HQ0.out.mono hs3))
  clear CCl HB3 HQ0 hw1 hcap1 hcap2
  go_loopw [22, 23, 24, 25, 26, 27, 28, 29, 30, 31, 32, 33] (fun v22 v23 v24 v25 v26 _ _ _ _ _ _ _ wr => ∃ (m f q : Nat) (bb : Bool) (ga ca gb cb : Nat) (A Z : List Int) (won : Int), m + f = N ∧ q = 2 * m ∧ v26 = .int .i64 q ∧ v22 = .bool bb ∧ v23 = .slice (some ⟨ga, 0, none⟩) f ca ∧ v24 = .slice (some ⟨gb, 0, none⟩) f cb ∧ v25 = .int .i64 won ∧ TwoH f A Z ∧ L.drop q = lineS t f bb A Z ∧ won + valF t f bb A Z = B ∧ 0 ≤ won ∧ won ≤ m ∧ Ints wr (some ⟨ga, 0, none⟩) f ca A ∧ Ints wr (some ⟨gb, 0, none⟩) f cb Z ∧ Below w13.heap.size w13 wr) (fun _ _ _ _ v26 _ _ _ _ _ _ _ _ => 2 * N - (intOf v26).toNat)
  case atStart => exact ⟨0, N, 0, b, g1n, d1n, g2n, d2n, M, T, 0, by omega, rfl, rfl, rfl, rfl, rfl, rfl, H2.out, HVL.out, by rw [HVB.out]; omega, by omega, by omega, HM13.out, HP2I.out, Below.refl _ _⟩
  case round =>
    obtain ⟨m, f, q, bb, ga, ca, gb, cb, A, Z, won, hmf, hq, rfl, rfl, rfl, rfl, rfl, h2, hdr, hwv, hw0, hwm, hIa, hIb, hbr⟩ := hrel
    have hsr := hbr.size
    cases f with
    | zero =>
      as_aux_lemma =>
        have C1 := Lib.hid (HCn.out wr hbr)
        have HB1 := Lib.hid (HQw.out.trans (hbr.mono HQw.out.size))
        have hz : valF t 0 bb A Z = 0 := valF_zero _ _ _ _
        rw [hz] at hwv
        obtain rfl : won = B := by omega
        obtain rfl : m = N := by omega
        subst hq
        clear hz hwv hIa hIb hbr hdr h2
        go_wp2_with (fail)
        refine C1.out.mono ?_
        rintro e w7 ⟨rfl, hb7⟩
        have HB7 := Lib.hid (HB1.out.trans (hb7.mono HB1.out.size))
        clear hb7 C1 HB1
        go_wp2
        go_ret
        exact ⟨rfl, HB7.out⟩
    | succ f =>
      obtain ⟨c, a, hline, hval, h2n, hc, ha, hcr, har⟩ := trick_step (t := t) (f := f) (by omega) bb h2
      rw [hline] at hdr
      obtain ⟨hc0', hc1', hdr', hlen⟩ := drop_two hdr.symm
      have hL2 : L.length = 2 * N := HLl.out
      have hq1 : q + 1 < 2 * N := by omega
      have hIL := Ints.mono HLi.out hbr
      obtain ⟨_, _, hx⟩ := hIL.at
      have z0 : wr.cell? ⟨g3, q, none⟩ = some (.int .i64 c) := by
        obtain ⟨b', off, e, _, h⟩ := hx q (by omega)
        simp only [Option.some.injEq, Addr.mk.injEq] at e
        obtain ⟨rfl, rfl, _⟩ := e
        have := h q (by omega)
        rw [hc0', Nat.zero_add] at this
        exact this
      have z1 : wr.cell? ⟨g3, q + 1, none⟩ = some (.int .i64 a) := by
        obtain ⟨b', off, e, _, h⟩ := hx (q + 1) (by omega)
        simp only [Option.some.injEq, Addr.mk.injEq] at e
        obtain ⟨rfl, rfl, _⟩ := e
        have := h (q + 1) (by omega)
        rw [hc1', Nat.zero_add] at this
        exact this
      have HDr : Hid (L.drop (q + 2) = lineS t f (winsL c a t == bb) (lessB A c a) (lessB Z c a)) := hdr'.symm
      have hne : c ≠ a := by
        intro e
        have h3 := legalL_mem ha
        rw [← e] at h3
        cases bb
        · exact h2.dj c (by simpa using h3) (by simpa using hc)
        · exact h2.dj c (by simpa using hc) (by simpa using h3)
      rw [hval] at hwv
      have CW := Lib.hid (fun W => WinsTrick_any c a t W hcr har hne (by omega))
      have HBr := Lib.hid (HQw.out.trans (hbr.mono HQw.out.size))
      have h2L : (if bb = true then Z else A).length = f + 1 := by cases bb <;> simp [h2.m.len, h2.t.len]
      have hlegR : legalRes (if bb = true then Z else A) c = (legalL (if bb = true then Z else A) c, true) := by
        cases bb
        · exact h2.legal (by omega) (by omega) hcr
        · exact h2.symm.legal (by omega) (by omega) hcr
      have hndR : (if bb = true then Z else A).Nodup := by
        cases bb
        · exact h2.m.nd
        · exact h2.t.nd
      have hca : f + 1 ≤ ca ∧ ca ≤ 9223372036854775807 := ⟨hIa.2.1, hIa.2.2.1⟩
      have hcb : f + 1 ≤ cb ∧ cb ≤ 9223372036854775807 := ⟨hIb.2.1, hIb.2.2.1⟩
      have HIa := Lib.hid hIa
      have HIb := Lib.hid hIb
      obtain ⟨gn, cn, gr, cr, hsel, hIn, hIr⟩ : ∃ gn cn gr cr, (gn = (if bb = true then ga else gb) ∧ cn = (if bb = true then ca else cb) ∧ gr = (if bb = true then gb else ga) ∧ cr = (if bb = true then cb else ca)) ∧ Ints wr (some ⟨gn, 0, none⟩) (f + 1) cn (if bb = true then A else Z) ∧ Ints wr (some ⟨gr, 0, none⟩) (f + 1) cr (if bb = true then Z else A) := by
        cases bb
        · exact ⟨gb, cb, ga, ca, ⟨rfl, rfl, rfl, rfl⟩, hIb, hIa⟩
        · exact ⟨ga, ca, gb, cb, ⟨rfl, rfl, rfl, rfl⟩, hIa, hIb⟩
      have HSel := Lib.hid hsel
      have hcn : f + 1 ≤ cn ∧ cn ≤ 9223372036854775807 := ⟨hIn.2.1, hIn.2.2.1⟩
      have hcr' : f + 1 ≤ cr ∧ cr ≤ 9223372036854775807 := ⟨hIr.2.1, hIr.2.2.1⟩
      have CN := r8Has_any (some ⟨gn, 0, none⟩) (f + 1) cn _ c wr hIn
      rw [decide_eq_true hc] at CN
      have CL := implLegalPlays_any (some ⟨gr, 0, none⟩) (f + 1) cr _ c wr hIr
      rw [hlegR] at CL
      have HLeg := Lib.hid (fun k (hk : k < (legalL (if bb = true then Z else A) c).length) => legal_at (xs := (if bb = true then Z else A)) c hk)
      have HLt := Lib.hid (fun k h0 (hk : k < (legalL (if bb = true then Z else A) c).length) => legal_lt hndR c (k := k) h0 hk)
      have HIr := Lib.hid hIr
      have CN := Lib.hid CN
      have CL := Lib.hid CL
      have Hha := Lib.hid ha
      have H2n := Lib.hid h2n
      clear hsel hIn hlegR hndR ha hc h2L h2 h2n hdr hdr' hline hval hx hIL hIa hIb hIr hc0' hc1' hlen hL2 hne
      generalize (if bb = true then Z else A) = R at *
      generalize hww : (winsL c a t == bb) = b' at *
      have Hww := Lib.hid hww
      generalize winsL c a t = ww at *
      generalize hLA : lessB A c a = LA at *
      generalize hLZ : lessB Z c a = LZ at *
      have HLA := Lib.hid hLA
      have HLZ := Lib.hid hLZ
      have hwv := Lib.hid hwv
      have hwq : IntKind.i64.wrap ((q : Int) + 1) = ((q + 1 : Nat) : Int) := by rw [IntWalk.i64_in _ (by omega)]; omega
      generalize hqq : q + 1 = q1 at *
      have Hqq := Lib.hid hqq
      clear hqq
      have hlq1 : (q1 : Int) < 2 * (N : Int) := by omega
      have hwq2 : IntKind.i64.wrap ((q : Int) + 2) = ((q + 2 : Nat) : Int) := by rw [IntWalk.i64_in _ (by omega)]; omega
      have hlq : (q : Int) < 2 * (N : Int) := by omega
      have Hq := Lib.hid hq
      have hmf' : m + f + 1 ≤ N := by omega
      have hmf2 : N ≤ m + f + 1 := by omega
      have hq0 : q < 2 * N := by omega
      have hq2 : q ≤ 2 * m := by omega
      have hq3 : 2 * m ≤ q := by omega
      clear hww hLA hLZ hq hmf
      go_upto_if 194 with fail
      go_cut [27, 28] from 185 to 301 (fun vn vr wx => vn = .slice (some ⟨gn, 0, none⟩) (f + 1) cn ∧ vr = .slice (some ⟨gr, 0, none⟩) (f + 1) cr ∧ wx = wr)
      case first => as_aux_lemma =>
        obtain ⟨s1, s2, s3, s4⟩ := HSel.out
        subst s1 s2 s3 s4
        cases bb
        · go_wp2
          go_meet
          case rel => exact ⟨rfl, rfl, rfl⟩
        · go_wp2
          go_meet
          case rel => exact ⟨rfl, rfl, rfl⟩
      case rest =>
      obtain ⟨rfl, rfl, rfl⟩ := hcut
      go_wp2_with (fail)
      refine CN.out.mono ?_
      rintro e w20 ⟨rfl, rfl⟩
      go_wp2_with (fail)
      refine CL.out.mono ?_
      rintro e w21 ⟨la, ln, lc, rfl, hb21, ho21⟩
      have HB21 := Lib.hid hb21
      have hs21 := hb21.size
      have hIl : Ints w21 la ln lc (legalL R c) := Rd.own ho21
      have hln : (legalL R c).length = ln := hIl.len
      have Hln := Lib.hid hln
      have HIl := Lib.hid hIl
      obtain ⟨hlc, hlc2, _⟩ := hIl.at
      have z2 := cell_on hb21 z0
      have z3 := cell_on hb21 z1
      clear CN CL hb21 ho21 hIl hln z0 z1
      go_wp2
      go_region_held3 (fun W => W.cell? ⟨g3, q, none⟩ = some (.int .i64 c) ∧ W.cell? ⟨g3, q1, none⟩ = some (.int .i64 a)) (first | exact ⟨z2, z3⟩ | go_keep)
        (first
          | (go_at_call 14; refine (CW.out _).mono ?_; rintro e w22 ⟨rfl, hb22⟩; have z2 := cell_on hb22 z2; have z3 := cell_on hb22 z3))
      have hb22' : Below w21.heap.size w21 w22 := (Below.refl _ _).drew.trans hb22
      have HB22 := Lib.hid (HB21.out.trans (hb22'.mono hs21))
      have hs22 := HB22.out.size
      have HIl2 := Lib.hid (Ints.mono HIl.out hb22')
      have z4 : w22.cell? ⟨g3, q, none⟩ = some (.int .i64 c) := z2
      have z5 : w22.cell? ⟨g3, q1, none⟩ = some (.int .i64 a) := z3
      have CLa := r8Has_any la ln lc _ a w22 HIl2.out
      rw [decide_eq_true Hha.out] at CLa
      have CLa := Lib.hid CLa
      have HIr2 := Lib.hid (Ints.mono HIr.out HB22.out)
      clear CW hb22 hb22' z2 z3 HIl HB21
      go_wp2_with (fail)
      refine CLa.out.mono ?_
      rintro e w23 ⟨rfl, rfl⟩
      have HMM := Lib.hid hs22
      have CAll : Hid (∀ (k : Nat) (W : World), k < ln → Below w22.heap.size w22 W → Calls Try.prog 12 #[.slice (some ⟨gr, 0, none⟩) (f + 1) cr, .int .i64 ((legalL R c).getD k 0)] W (RetS W (.bool true))) := by
        intro k W hk hW
        have := r8Has_any (some ⟨gr, 0, none⟩) (f + 1) cr _ ((legalL R c).getD k 0) W (HIr2.out.mono hW)
        rw [decide_eq_true (HLeg.out k (by rw [Hln.out]; exact hk))] at this
        exact this
      have HCl : Hid (∀ i, i < ln → ∃ b off, la = some ⟨b, off, none⟩ ∧ b < w22.heap.size ∧ ∀ j, j < ln → w22.cell? ⟨b, off + j, none⟩ = some (.int .i64 ((legalL R c).getD j 0))) := HIl2.out.at.2.2
      have HLt2 : Hid (∀ k, 0 < k → k < ln → (legalL R c).getD (k - 1) 0 < (legalL R c).getD k 0) := fun k h0 hk => HLt.out k h0 (by rw [Hln.out]; exact hk)
      generalize legalL R c = lg at *
      clear CLa
      go_wp2
      go_loopw [33] (fun vk wx => ∃ k : Nat, k ≤ ln ∧ vk = .int .i64 k ∧ Quiet w22 wx) (fun vk _ => ln - (intOf vk).toNat)
      case atStart => exact ⟨0, by omega, rfl, Quiet.refl _⟩
      case round =>
        obtain ⟨k, hk, rfl, hqt⟩ := hrel
        have HQt := Lib.hid hqt
        have hbq := hqt.b
        clear hqt
        by_cases hlt : k < ln
        · as_aux_lemma =>
            obtain ⟨lb, lo, rfl, hlb, hlx⟩ := HCl.out k hlt
            have y0 := cell_on hbq (hlx k hlt)
            have CHk := Lib.hid (fun p => CAll.out k (wr.drewN p) hlt (HQt.out.drewN p).b)
            by_cases hk0 : k = 0
            · subst hk0
              rw [Nat.add_zero] at y0
              generalize lg.getD 0 0 = u at *
              clear hlx hbq
              go_wp2
              go_quiet ((go_at_call 12; exact qS (CHk.out _)))
              go_wp2
              go_roundw
              case rel => exact ⟨1, by omega, by go_num, HQt.out.drewN _⟩
              case measure => simp [intOf]; omega
            · obtain ⟨k', rfl⟩ : ∃ k', k = k' + 1 := ⟨k - 1, by omega⟩
              have y1 := cell_on hbq (hlx k' (by omega))
              have hl1 := HLt2.out (k' + 1) (by omega) hlt
              rw [Nat.add_sub_cancel] at hl1
              generalize lg.getD (k' + 1) 0 = u at *
              generalize lg.getD k' 0 = u' at *
              have hd : decide (u ≤ u') = false := by simpa using hl1
              have hwk : IntKind.i64.wrap (((k' + 1 : Nat) : Int) - 1) = (k' : Int) := by rw [IntWalk.i64_in _ (by omega)]; omega
              generalize hkk : k' + 1 = k1 at *
              have Hkk := Lib.hid hkk
              have hk1 : decide (0 < (k1 : Int)) = true := by simp; omega
              have hk1n : decide (0 < k1) = true := by simp; omega
              have hki : (k' : Int) < (ln : Int) := by omega
              have hki1 : (k1 : Int) < (ln : Int) := by omega
              clear hkk hl1 hlx hbq hk0
              go_wp2
              go_quiet ((go_at_call 12; exact qS (CHk.out _)))
              go_wp2
              go_roundw
              case rel => exact ⟨k1 + 1, by omega, by go_num, HQt.out.drewN _⟩
              case measure => have := Hkk.out; simp [intOf]; omega
        · as_aux_lemma =>
            obtain rfl : k = ln := by omega
            have HB30 := Lib.hid (HB22.out.trans (hbq.mono hs22))
            have hs30 := HB30.out.size
            have z6 := cell_on hbq z4
            have z7 := cell_on hbq z5
            have HCA : Hid (∀ W, Below wc.heap.size wc W → Calls Try.prog 15 #[.slice (some ⟨ga, 0, none⟩) (f + 1) ca, .int .i64 c, .int .i64 a] W (fun e w' => ∃ g c', e = .returned (.slice (some ⟨g, 0, none⟩) f c') ∧ Below W.heap.size W w' ∧ Ints w' (some ⟨g, 0, none⟩) f c' LA)) := by
              intro W hW
              have := r8Less_any (some ⟨ga, 0, none⟩) (f + 1) ca A c a W (HIa.out.mono hW) (by omega)
              rw [HLA.out, H2n.out.m.len] at this
              refine this.mono ?_
              rintro e w' ⟨g, c', rfl, hb, ho⟩
              exact ⟨g, c', rfl, hb, Rd.own ho⟩
            have HCZ : Hid (∀ W, Below wc.heap.size wc W → Calls Try.prog 15 #[.slice (some ⟨gb, 0, none⟩) (f + 1) cb, .int .i64 c, .int .i64 a] W (fun e w' => ∃ g c', e = .returned (.slice (some ⟨g, 0, none⟩) f c') ∧ Below W.heap.size W w' ∧ Ints w' (some ⟨g, 0, none⟩) f c' LZ)) := by
              intro W hW
              have := r8Less_any (some ⟨gb, 0, none⟩) (f + 1) cb Z c a W (HIb.out.mono hW) (by omega)
              rw [HLZ.out, H2n.out.t.len] at this
              refine this.mono ?_
              rintro e w' ⟨g, c', rfl, hb, ho⟩
              exact ⟨g, c', rfl, hb, Rd.own ho⟩
            clear hbq z4 z5 HCl HLt2 CAll HLt HLeg HIr2 HIl2 HIr HMM Hha
            go_wp2
            go_still_tail 10, (by kernel_rfl)
            change wpList _ _ _ _ _ wr.drew
            go_wp2_with (fail)
            refine (HCA.out _ HB30.out.drew).mono ?_
            rintro e w31 ⟨gA, cA, rfl, hb31, hI31⟩
            have hb31' : Below wr.heap.size wr w31 := (Below.refl _ _).drew.trans hb31
            have HB31 := Lib.hid (HB30.out.trans (hb31'.mono hs30))
            have hs31 := HB31.out.size
            have z8 := cell_on hb31' z6
            have z9 := cell_on hb31' z7
            have HI31 := Lib.hid hI31
            clear hb31 hb31' hI31 z6 z7 HCA HB30
            go_wp2
            go_still_tail 10, (by kernel_rfl)
            change wpList _ _ _ _ _ w31.drew
            go_wp2_with (fail)
            refine (HCZ.out _ HB31.out.drew).mono ?_
            rintro e w32 ⟨gZ, cZ, rfl, hb32, hI32⟩
            have hb32' : Below w31.heap.size w31 w32 := (Below.refl _ _).drew.trans hb32
            have HB32 := Lib.hid (hbr.trans ((HB31.out.trans (hb32'.mono hs31)).mono hsr))
            have HI32 := Lib.hid hI32
            have HI31' := Lib.hid (Ints.mono HI31.out hb32')
            clear hb32 hb32' hI32 z8 z9 HCZ HB31
            cases b'
            · have hww := Hww.out
              have HW : Hid (won + valF t f false LA LZ = B) := by show _ = _; have := hwv.out; simpa using this
              go_wp2
              go_roundw
              case rel => exact ⟨m + 1, f, q + 2, false, gA, cA, gZ, cZ, LA, LZ, won, by omega, by omega, by go_num, rfl, rfl, rfl, rfl, H2n.out, HDr.out, HW.out, by omega, by omega, HI31'.out, HI32.out, HB32.out⟩
              case measure => simp [intOf]; omega
            · have hww := Hww.out
              have HW : Hid (won + 1 + valF t f true LA LZ = B) := by show _ = _; have := hwv.out; simp at this; omega
              have hw9 : IntKind.i64.wrap (won + 1) = won + 1 := IntWalk.i64_in _ (by omega)
              go_wp2
              go_roundw
              case rel => exact ⟨m + 1, f, q + 2, true, gA, cA, gZ, cZ, LA, LZ, won + 1, by omega, by omega, by go_num, rfl, rfl, rfl, rfl, H2n.out, HDr.out, HW.out, by omega, by omega, HI31'.out, HI32.out, HB32.out⟩
              case measure => simp [intOf]; omega

end Go.Proofs.Ytgldfmkjnggedaa
