/- The law FnPegs returns true: its walk. -/
import Derived.Test.YtdnhhkbijamadaaFPegsB
import Derived.Deep.Cut
import Derived.Deep.CutBlock
import Derived.StillTailTactics
import Derived.Deep.RegionHeld3
namespace Go.Proofs.Ytdnhhkbijamadaa
open Go.RowKit
set_option linter.unusedVariables false
set_option linter.unusedSimpArgs false

set_option maxHeartbeats 12800000 in
set_option maxRecDepth 100000 in
theorem fnPegs_walk (a0 : Option Addr) (n0 c0 : Nat) (x0 : List Int) (a1 : Option Addr) (n1 c1 : Nat) (x1 : List Int) (w : World) (ok0 : okB x0) (v0 : Bytes w a0 n0 c0 x0) (ok1 : okB x1) (v1 : Bytes w a1 n1 c1 x1) :
    Calls Try.prog 3 #[.slice a0 n0 c0, .slice a1 n1 c1] w (Ret w (.bool true)) := by
  obtain ⟨hc0, hm0, _⟩ := v0.at 0
  obtain ⟨hc1, hm1, _⟩ := v1.at 0
  have C0 := r8Long_any a0 n0 c0 a1 n1 c1 w (by omega) (by omega)
  have CA := Lib.hid (fun (k m : Int) W (hW : Below w.heap.size w W) (h1 : 0 ≤ k) (h2 : k ≤ 1000) (h3 : 1 ≤ m) (h4 : m ≤ 1000) => r8At_any a0 n0 c0 x0 k m W (v0.mono hW) ok0 h1 h2 h3 h4)
  have CB := Lib.hid (fun (k m : Int) W (hW : Below w.heap.size w W) (h1 : 0 ≤ k) (h2 : k ≤ 1000) (h3 : 1 ≤ m) (h4 : m ≤ 1000) => r8At_any a1 n1 c1 x1 k m W (v1.mono hW) ok1 h1 h2 h3 h4)
  have CR := Lib.hid (fun (N : Nat) W (hW : Below w.heap.size w W) (h1 : 1 ≤ N) (h2 : N ≤ 64) => R8Deck_any a1 n1 c1 x1 N W (v1.mono hW) ok1 h1 h2)
  clear v0 v1 ok0 ok1
  rcases Bool.eq_false_or_eq_true (isLong n0 n1) with e | e
  · rw [e] at C0
    have C0 := Lib.hid C0
    go_enter Try.func3, Try.ntmps3
    go_wp2_with (fail)
    refine C0.out.mono ?_
    rintro e w1 ⟨rfl, rfl⟩
    go_wp2
    go_ret
    exact ⟨rfl, Below.refl _ _⟩
  rw [e] at C0
  have C0 := Lib.hid C0
  clear e
  obtain ⟨i0, hii, hq0, hq1, hq2⟩ := info_parts infoBp
  obtain ⟨i1, hij, hr0, hr1, hr2⟩ := info_parts infoI64
  go_enter Try.func3, Try.ntmps3
  go_wp2_with (fail)
  refine C0.out.mono ?_
  rintro e w0 ⟨rfl, rfl⟩
  go_wp2_with (fail)
  refine (CB.out 40 10 _ (Below.refl _ _) (by omega) (by omega) (by omega) (by omega)).mono ?_
  rintro e w0 ⟨y, rfl, hy0, hy1, rfl⟩
  obtain ⟨n, hn⟩ : ∃ n : Nat, 1 + y = (n : Int) := ⟨(1 + y).toNat, by omega⟩
  have hn1 : 1 ≤ n := by omega
  have hn10 : n ≤ 10 := by omega
  have hwn : IntKind.i64.wrap (1 + y) = (n : Int) := by rw [IntWalk.i64_in _ (by omega)]; exact hn
  have O0 : (w.alloc (.cells #[] 4)).ownsRow w.heap.size 4 1 (.slice (some ⟨w.heap.size, 0, none⟩) 0 0) 0 ([].map Value.bool) := World.ownsRow_made (e := 4) (size := 1) (base := w.heap.size) w #[] 0 (by simp) (Nat.zero_le _) (by simp)
  have HO0 := Lib.hid O0
  clear O0 C0
  go_upto_block 0 with fail
  go_cut [6, 7] from 6 to 60 (fun vb vp wr => ∃ (g c : Nat) (bs : List Bool), bs.length = n ∧ vp = .int .i64 (ones n (bN bs) : Nat) ∧ vb = .slice (some ⟨g, 0, none⟩) n c ∧ Row Value.bool wr (some ⟨g, 0, none⟩) n c bs ∧ Below w.heap.size w wr)
  case first => as_aux_lemma =>
    go_wp2_with fail
    go_loopw [6, 7, 8] (fun vb vp vi wr => ∃ (i g c : Nat) (bs : List Bool), i ≤ n ∧ vi = .int .i64 i ∧ bs.length = i ∧ vp = .int .i64 (sumR (fun j => (bs.getD j false).toNat) bs.length : Nat) ∧ vb = .slice (some ⟨g, 0, none⟩) i c ∧ wr.ownsRow w.heap.size 4 1 (.slice (some ⟨g, 0, none⟩) i c) i (bs.map Value.bool) ∧ Below w.heap.size w wr) (fun _ _ vi _ => n - (intOf vi).toNat)
    case atStart => exact ⟨0, w.heap.size, 0, [], by omega, rfl, rfl, rfl, rfl, HO0.out, (Below.refl _ _).alloc (Nat.le_refl _) _⟩
    case round =>
      obtain ⟨i, g, c, bs, hi, rfl, hbl, rfl, rfl, ho, hb⟩ := hrel
      have HB := Lib.hid hb
      have HO := Lib.hid ho
      have hsz := hb.size
      have hbd : sumR (fun j => (bs.getD j false).toNat) bs.length ≤ bs.length := by
        rw [← ones_bN]; exact ones_le _ _
      by_cases hlt : i < n
      · have C2 := Lib.hid (CA.out i 3 _ hb (by omega) (by omega) (by omega) (by omega))
        have HSn := Lib.hid (fun b => peg_snoc bs b)
        have HL := Lib.hid hbl
        generalize sumR (fun j => (bs.getD j false).toNat) bs.length = K at *
        clear hb ho HO0
        go_wp2_with (fail)
        refine C2.out.mono ?_
        rintro e w2 ⟨z, rfl, hz0, hz1, rfl⟩
        by_cases hz : 0 < z
        · have hzb : decide (0 < z) = true := decide_eq_true hz
          have HS2 := Lib.hid (HSn.out true)
          go_wp2_with (first | (at_builtin; go_must (refine wpList_append_lies _ rfl _ _ 25 rfl w.heap.size 4 i0 _ 1 1 Try.underlying25 hii hq0 hq1 hq2 rfl (by omega) (.slice (some ⟨g, 0, none⟩) i c) i (bs.map Value.bool) rfl (HO.out.alloc _) ⟨_, 0, none⟩ 1 1 [.bool true] rfl rfl (new1 _ _ _) (one1 rfl) (by omega) (by unfold maxLen; omega) (by omega) (by simp; omega) _ rfl ?_); intro gg cap w5 hown1 hg1 hat hlt5; have HBn := Lib.hid (below_app HB.out hsz hg1 HO.out); have HOn : Hid (w5.ownsRow w.heap.size 4 1 (.slice (some ⟨gg, 0, none⟩) (i + 1) cap) (i + 1) ((bs ++ [true]).map Value.bool)) := (by show w5.ownsRow _ _ _ _ _ _; rw [List.map_append]; exact hown1); clear hown1 hg1 hat))
          go_roundw
          case rel => exact ⟨i + 1, gg, cap, bs ++ [true], by omega, by go_num, by rw [List.length_append, HL.out]; rfl, by rw [List.length_append, List.length_singleton, HS2.out]; first | rfl | go_num, rfl, HOn.out, HBn.out⟩
          case measure => simp [intOf]; omega
        · have hzb : decide (0 < z) = false := decide_eq_false hz
          have HS2 := Lib.hid (HSn.out false)
          go_wp2_with (first | (at_builtin; go_must (refine wpList_append_lies _ rfl _ _ 25 rfl w.heap.size 4 i0 _ 1 1 Try.underlying25 hii hq0 hq1 hq2 rfl (by omega) (.slice (some ⟨g, 0, none⟩) i c) i (bs.map Value.bool) rfl (HO.out.alloc _) ⟨_, 0, none⟩ 1 1 [.bool false] rfl rfl (new1 _ _ _) (one1 rfl) (by omega) (by unfold maxLen; omega) (by omega) (by simp; omega) _ rfl ?_); intro gg cap w5 hown1 hg1 hat hlt5; have HBn := Lib.hid (below_app HB.out hsz hg1 HO.out); have HOn : Hid (w5.ownsRow w.heap.size 4 1 (.slice (some ⟨gg, 0, none⟩) (i + 1) cap) (i + 1) ((bs ++ [false]).map Value.bool)) := (by show w5.ownsRow _ _ _ _ _ _; rw [List.map_append]; exact hown1); clear hown1 hg1 hat))
          go_roundw
          case rel => exact ⟨i + 1, gg, cap, bs ++ [false], by omega, by go_num, by rw [List.length_append, HL.out]; rfl, by rw [List.length_append, List.length_singleton, HS2.out]; first | rfl | go_num, rfl, HOn.out, HBn.out⟩
          case measure => simp [intOf]; omega
      · obtain rfl : i = n := by omega
        have hI := Lib.hid (show Row Value.bool _ (some ⟨g, 0, none⟩) i c bs from Rd.own ho)
        have hpg : sumR (fun j => (bs.getD j false).toNat) bs.length = ones i (bN bs) := by rw [← ones_bN, hbl]
        rw [hpg]
        clear ho hb
        go_wp2
        go_meet
        case rel => exact ⟨g, c, bs, hbl, rfl, rfl, hI.out, HB.out⟩
  case rest =>
  obtain ⟨g, c, bs, hbl, rfl, rfl, hI, hb0⟩ := hcut
  have HI := Lib.hid hI
  have HB := Lib.hid hb0
  have hsz := hb0.size
  have hMo := Lib.hid (fun W (hW : Below wc.heap.size wc W) => implPegMoves_any ⟨g, 0, none⟩ n c bs W (Row.mono hI hW) hn1 (by omega))
  have hLe := Lib.hid (fun W (hW : Below wc.heap.size wc W) => implPegLeast_any ⟨g, 0, none⟩ n c bs W (Row.mono hI hW) hn1 (by omega))
  have hLi := Lib.hid (fun W (hW : Below wc.heap.size wc W) => implPegLine_any (some ⟨g, 0, none⟩) n c bs W (Row.mono hI hW))
  have hRe := Lib.hid (fun W (hW : Below wc.heap.size wc W) => implPegReach_any ⟨g, 0, none⟩ n c bs W (Row.mono hI hW) hn1 (by omega))
  have hpr : pegRes bs = (lineP n (Lst n (bN bs)) (ones n (bN bs) - Lst n (bN bs)) (bN bs), true) := by
    have := (peg_yes (bs := bs) (by rw [hbl]; exact isB_yes hn1 (by omega))).2
    rw [hbl] at this
    exact this
  rw [hpr] at hLi
  have hLle := Lst_le n (bN bs)
  have hOle := ones_le n (bN bs)
  have hLpos : 0 < ones n (bN bs) → 1 ≤ Lst n (bN bs) := Lst_one
  have hLn : (lineP n (Lst n (bN bs)) (ones n (bN bs) - Lst n (bN bs)) (bN bs)).length = 2 * (ones n (bN bs) - Lst n (bN bs)) := line_end
  have hMv : (flatP (mv n (bN bs))).length = (mv n (bN bs)).length * 2 := flatP_len _
  have hMl : (mv n (bN bs)).length ≤ 2 * n := mvTo_len _ _ _
  generalize hLP : lineP n (Lst n (bN bs)) (ones n (bN bs) - Lst n (bN bs)) (bN bs) = LP at *
  have HLP := Lib.hid hLP
  generalize hLL : Lst n (bN bs) = L0 at *
  have HLL := Lib.hid hLL
  generalize hKK : ones n (bN bs) = K at *
  have HKK := Lib.hid hKK
  have HBL := Lib.hid hbl
  clear hLP hLL hKK hI hb0 hpr hbl CA HO0
  go_wp2_with (fail)
  refine (hMo.out _ (Below.refl _ _)).mono ?_
  rintro e w1 ⟨m, ma, mc, rfl, hb1, ho1⟩
  have HMl : Hid (m = (mv n (bN bs)).length * 2) := by show _ = _; have := ho1.1; rw [intCells_len, hMv] at this; omega
  have HM1 : Hid (Ints w1 ma m mc (flatP (mv n (bN bs)))) := Rd.own ho1
  have HB1 := Lib.hid hb1
  have hs1 := hb1.size
  clear hMo ho1 hb1
  go_wp2_with (fail)
  refine (hLe.out _ HB1.out).mono ?_
  rintro e w2 ⟨rfl, hb2⟩
  have HB2 := Lib.hid (HB1.out.trans (hb2.mono hs1))
  have hs2 := hb2.size
  have HM2 := Lib.hid (Ints.mono HM1.out hb2)
  clear hLe hb2 HM1
  go_wp2_with (fail)
  refine (hLi.out _ HB2.out).mono ?_
  rintro e w3 ⟨la, ln, lc, rfl, hb3, ho3⟩
  have HLn : Hid (ln = 2 * (K - L0)) := by show _ = _; have := ho3.1; rw [intCells_len] at this; dsimp only at this; omega
  have HL3 : Hid (Ints w3 la ln lc LP) := Rd.own ho3
  have HB3 := Lib.hid (HB2.out.trans (hb3.mono (by omega)))
  have hs3 := hb3.size
  have HM3 := Lib.hid (Ints.mono HM2.out hb3)
  clear hLi hb3 ho3 HM2
  go_wp2_with (fail)
  refine (hRe.out _ HB3.out).mono ?_
  rintro e w4 ⟨kr, rfl, hb4, hk1, hk2, hk3⟩
  have HB4 := Lib.hid (HB3.out.trans (hb4.mono (by omega)))
  have hs4 := hb4.size
  have HM4 := Lib.hid (Ints.mono HM3.out hb4)
  have HL4 := Lib.hid (Ints.mono HL3.out hb4)
  clear hRe hb4 HM3 HL3
  obtain ⟨q, hq⟩ : ∃ q : Nat, K = L0 + q := ⟨K - L0, by omega⟩
  have hln : ln = 2 * q := by have := HLn.out; omega
  clear HLn
  have hml := HMl.out
  have hm0 : m = 0 ↔ kr = 1 := by
    rw [hk2]
    refine ⟨fun e => List.length_eq_zero_iff.1 (by omega), fun e => by rw [hml, e]; rfl⟩
  have HQ := Lib.hid hq
  have HLn := Lib.hid hln
  have HMz := Lib.hid hm0
  have HMv := Lib.hid hMv
  have hm40 : m ≤ 40 := by omega
  have hln40 : ln ≤ 40 := by omega
  have hq40 : q ≤ 40 := by omega
  clear hk2 hq hln hml hm0 hMv hLn
  go_upto_region 17 with fail
  go_cut [133] from 60 to 134 (fun v wc => v = .bool false ∧ wc = w4)
  case first => as_aux_lemma =>
    have hm2 : (m : Int) % 2 = 0 := by have := HMl.out; omega
    have hg1 : ¬ (K : Int) < (L0 : Int) := by omega
    have hw1 : IntKind.i64.wrap ((K : Int) - (L0 : Int)) = (q : Int) := by have := HQ.out; rw [IntWalk.i64_in _ (by omega)]; omega
    have hw2 : IntKind.i64.wrap (2 * (q : Int)) = (ln : Int) := by have := HLn.out; rw [IntWalk.i64_in _ (by omega)]; omega
    have hr1 : ¬ (kr : Int) < 1 := by omega
    have hmi : IntKind.i64.wrap (m : Int) = (m : Int) := IntWalk.i64_in _ (by omega)
    have hli : IntKind.i64.wrap (ln : Int) = (ln : Int) := IntWalk.i64_in _ (by omega)
    have hm0 := HMz.out
    clear hMl
    by_cases hK : 0 < K
    · have hL1 := hLpos hK
      have hK1 : (0 : Int) < (K : Int) := by omega
      have hL2 : ¬ (L0 : Int) < 1 := by omega
      by_cases hz : m = 0
      · have hkr := hm0.1 hz
        subst hz
        subst hkr
        clear hm0 hLpos
        go_wp2
        go_meet
        case rel => exact ⟨congrArg Value.bool (by simp <;> omega), rfl⟩
      · have hkr : ¬ kr = 1 := fun e => hz (hm0.2 e)
        have hz1 : ((m : Int) == 0) = false := by simpa using hz
        have hz2 : ((kr : Int) == 1) = false := by simpa using (show ¬ (kr : Int) = 1 by omega)
        clear hm0 hLpos
        go_wp2
        go_meet
        case rel => exact ⟨congrArg Value.bool (by simp <;> omega), rfl⟩
    · have hK1 : ¬ (0 : Int) < (K : Int) := by omega
      by_cases hz : m = 0
      · have hkr := hm0.1 hz
        subst hz
        subst hkr
        clear hm0 hLpos
        go_wp2
        go_meet
        case rel => exact ⟨congrArg Value.bool (by simp <;> omega), rfl⟩
      · have hkr : ¬ kr = 1 := fun e => hz (hm0.2 e)
        have hz1 : ((m : Int) == 0) = false := by simpa using hz
        have hz2 : ((kr : Int) == 1) = false := by simpa using (show ¬ (kr : Int) = 1 by omega)
        clear hm0 hLpos
        go_wp2
        go_meet
        case rel => exact ⟨congrArg Value.bool (by simp <;> omega), rfl⟩
  case rest =>
  obtain ⟨rfl, rfl⟩ := hcut
  have HB4w := Lib.hid (HB.out.trans (HB4.out.mono hsz))
  have hcw : w.heap.size ≤ wc.heap.size := HB4w.out.size
  have HI4 := Lib.hid (show Row Value.bool wc (some ⟨g, 0, none⟩) n c bs from Row.mono HI.out HB4.out)
  have hNl : Hid ((bs.map Value.bool).length = n * 1) := by show _ = _; rw [List.length_map, HBL.out, Nat.mul_one]
  have hNs : Hid (∀ j u, (bs.map Value.bool)[j]? = some u → wc.cell? ((⟨g, 0, none⟩ : Addr).add j) = some u) := Row.news HI4.out
  clear hk1 hk3 HB HB4 HMz hs1 hs2 hs3 hs4 HMv HI hsz
  go_upto_block 2 with (first | (at_builtin; go_must (refine wpList_append_lies _ rfl _ _ 25 rfl wc.heap.size 4 i0 _ 1 1 Try.underlying25 hii hq0 hq1 hq2 rfl (by omega) _ 0 [] rfl (World.ownsRow_made wc #[] 0 (Nat.le_refl _) (Nat.zero_le _) (by simp)) ⟨g, 0, none⟩ n c (bs.map Value.bool) rfl hNl.out (fun j u hu => cell_on ((Below.refl _ _).alloc (Nat.le_refl _) _) (hNs.out j u hu)) (boolCells_one bs) (by omega) (by unfold maxLen; omega) (by omega) (by simp) _ rfl ?_); intro gg cap w5 hown1 hg1 hat hlt5; rw [Nat.zero_add, List.nil_append] at hown1; rw [Nat.zero_add]; have HB5 := Lib.hid (below_grown ((Below.refl wc.heap.size wc).alloc (Nat.le_refl _) _) (by simp) hg1 (show World.ownsRow (wc.alloc (.cells #[] 4)) wc.heap.size 4 1 (.slice (some ⟨wc.heap.size, 0, none⟩) 0 0) 0 [] from World.ownsRow_made wc #[] 0 (Nat.le_refl _) (Nat.zero_le _) (by simp))); have HO5 := Lib.hid hown1; clear hown1 hg1 hat))
  clear hNs
  go_cut [18] from 18 to 215 (fun v wr => ∃ (cap : Nat) (bs' : List Bool), v = .slice (some ⟨gg, 0, none⟩) n cap ∧ Row Value.bool wr (some ⟨gg, 0, none⟩) n cap bs' ∧ Hid (Lst n (bN bs') = L0) ∧ Below wc.heap.size wc wr)
  case first => as_aux_lemma =>
    have HL0 : Hid (LP.drop 0 = lineP n L0 q (bN bs)) := by
      show _ = _
      have e1 := HLP.out
      have e2 := HQ.out
      rw [← e1, List.drop_zero]
      congr 1
      omega
    go_wp2_with fail
    go_loopw [19] (fun vi wr => ∃ (x j k : Nat) (bs' : List Bool), Hid (x = 2 * j) ∧ vi = .int .i64 x ∧ Hid (j + k = q) ∧ bs'.length = n ∧ Hid (Lst n (bN bs') = L0) ∧ Hid (ones n (bN bs') = L0 + k) ∧ Hid (LP.drop x = lineP n L0 k (bN bs')) ∧ wr.ownsRow wc.heap.size 4 1 (.slice (some ⟨gg, 0, none⟩) n cap) n (bs'.map Value.bool) ∧ Below wc.heap.size wc wr) (fun vi _ => ln - (intOf vi).toNat)
    case atStart => exact ⟨0, 0, q, bs, rfl, rfl, Nat.zero_add _, HBL.out, HLL.out, by show _ = _; rw [HKK.out, HQ.out], HL0.out, HO5.out, HB5.out⟩
    case round =>
      obtain ⟨x, j, k, bs', HX, rfl, HJ, hbl', HL', HK', HD', ho, hb⟩ := hrel
      have HO := Lib.hid ho
      have HBr := Lib.hid hb
      clear HO5 HB5 HL0
      by_cases hlt : x < ln
      · obtain ⟨k', hk'⟩ : ∃ k', k = k' + 1 := ⟨k - 1, by have := HJ.out; have := HLn.out; have := HX.out; omega⟩
        rw [hk'] at HD' HK' HJ
        obtain ⟨p, hp, p1, p2, p3⟩ := line_step HL'.out HK'.out
        have hd := HD'.out
        rw [p3] at hd
        obtain ⟨e0, e1, e2⟩ := drop_two hd
        have gm := mv_good hp
        have h2 := mv_two hp
        obtain ⟨b1, b2, b3⟩ := gm_board (bs := bs') (p := p) (by rw [hbl']; exact hp)
        have hjp : bN (jump bs' p.1 p.2) = md (bN bs') p.1 p.2 := bN_jump (by rw [hbl']; exact gm)
        have hjl := jump_len bs' p.1 p.2
        rcases p with ⟨f, t⟩
        dsimp only at p1 p2 p3 hd e0 e1 e2 gm h2 b1 b2 b3 hjp hjl
        have hxl : x + 1 < ln := by have := HLn.out; have := HX.out; have := HJ.out; omega
        obtain ⟨_, hlc, hcl⟩ := (Ints.mono HL4.out hb).at
        obtain ⟨lb, lo, rfl, _, hx⟩ := hcl x hlt
        have z0 := hx x hlt
        have z1 := hx (x + 1) hxl
        rw [e0] at z0
        rw [e1] at z1
        have hf := gm.hf
        have ht := gm.ht
        have hm := gm.hm
        have hfm := gm.mf
        have htm := gm.mt
        have hft := gm.ft
        have k0 := own_getB ho f hf
        have k0b := own_getB ho ((f + t) / 2) hm
        have k0c := own_getB ho t ht
        rw [b1] at k0
        rw [b2] at k0b
        rw [b3] at k0c
        have k1 := own_getB (own_putB ho f false) ((f + t) / 2) hm
        have k2 := own_getB (own_putB (own_putB ho f false) ((f + t) / 2) false) t ht
        have fz := fun j => ho.frozenAt j
        have fz1 := fun j => (own_putB ho f false).frozenAt j
        have fz2 := fun j => (own_putB (own_putB ho f false) ((f + t) / 2) false).frozenAt j
        have HN := Lib.hid (show World.ownsRow _ wc.heap.size 4 1 (.slice (some ⟨gg, 0, none⟩) n cap) n ((jump bs' f t).map Value.bool) from own_putB (own_putB (own_putB ho f false) ((f + t) / 2) false) t true)
        have hgg := (ho.lt gg rfl).1
        have HBn := Lib.hid (((hb.setCell hgg (p := ⟨gg, f, none⟩) (.bool false)).setCell hgg (p := ⟨gg, (f + t) / 2, none⟩) (.bool false)).setCell hgg (p := ⟨gg, t, none⟩) (.bool true))
        have em := mid_int f t
        have HLn' : Hid (Lst n (bN (jump bs' f t)) = L0) := by show _ = _; rw [hjp]; exact p1
        have HKn' : Hid (ones n (bN (jump bs' f t)) = L0 + k') := by show _ = _; rw [hjp]; exact p2
        have HDn' : Hid (LP.drop (x + 2) = lineP n L0 k' (bN (jump bs' f t))) := by show _ = _; rw [hjp]; exact e2
        have hif : ¬ (n : Int) ≤ (f : Int) := by omega
        have hit : ¬ (n : Int) ≤ (t : Int) := by omega
        have hf0 : ¬ (f : Int) < 0 := by omega
        have ht0 : ¬ (t : Int) < 0 := by omega
        have hjl' : (jump bs' f t).length = n := by rw [hjl, hbl']
        have HX2 : Hid (x + 2 = 2 * (j + 1)) := by show _ = _; have := HX.out; omega
        have HJ2 : Hid (j + 1 + k' = q) := by show _ = _; have := HJ.out; omega
        have hx40 : x ≤ 40 := by omega
        clear HD' HK' HL' HJ HX hd e0 e1 e2 gm hjp hjl p1 p2 p3 hp hcl hx ho hb HO HBr b1 b2 b3 hk' hbl'
        generalize jump bs' f t = bj at *
        generalize hM : (f + t) / 2 = M at *
        rcases h2 with h2 | h2
        · have hw1 : IntKind.i64.wrap ((t : Int) - (f : Int)) = -2 := by rw [IntWalk.i64_in _ (by omega)]; omega
          have hw2 : IntKind.i64.wrap ((f : Int) - (t : Int)) = 2 := by rw [IntWalk.i64_in _ (by omega)]; omega
          clear h2 hM
          go_wp2
          go_roundw
          case rel => exact ⟨x + 2, j + 1, k', bj, HX2.out, by go_num, HJ2.out, hjl', HLn'.out, HKn'.out, HDn'.out, HN.out, HBn.out⟩
          case measure => simp [intOf]; omega
        · have hw1 : IntKind.i64.wrap ((t : Int) - (f : Int)) = 2 := by rw [IntWalk.i64_in _ (by omega)]; omega
          clear h2 hM
          go_wp2
          go_roundw
          case rel => exact ⟨x + 2, j + 1, k', bj, HX2.out, by go_num, HJ2.out, hjl', HLn'.out, HKn'.out, HDn'.out, HN.out, HBn.out⟩
          case measure => simp [intOf]; omega
      · have hk0 : k = 0 ∧ x = ln := by have := HX.out; have := HLn.out; have := HJ.out; omega
        have hR := Lib.hid (show Row Value.bool _ (some ⟨gg, 0, none⟩) n cap bs' from Rd.own ho)
        clear ho hb HD' HK' HJ HX HO hk0
        go_wp2
        go_meet
        case rel => exact ⟨cap, bs', rfl, hR.out, HL', HBr.out⟩
  case rest =>
  obtain ⟨cap', bs', rfl, hR', HL', hb'⟩ := hcut
  rename_i wx
  have C6 := implPegLeast_any ⟨gg, 0, none⟩ n cap' bs' _ hR' hn1 (by omega)
  rw [HL'.out] at C6
  have C6 := Lib.hid C6
  have HBx := Lib.hid hb'
  have hsx := hb'.size
  clear hR' HL' hb' HL4 HLP HLn HQ
  go_wp2_with (fail)
  refine C6.out.mono ?_
  rintro e w6 ⟨rfl, hb6⟩
  have HB6 := Lib.hid (HBx.out.trans (hb6.mono hsx))
  have hs6 := hb6.size
  clear hb6 C6
  have HM6 := Lib.hid (Ints.mono HM4.out HB6.out)
  have HI6 := Lib.hid (show Row Value.bool w6 (some ⟨g, 0, none⟩) n c bs from Row.mono HI4.out HB6.out)
  have HB6w := Lib.hid (HB4w.out.trans (HB6.out.mono hcw))
  clear HB6 HM4 HI4 HBx HB4w
  go_upto_block 4 with fail
  go_cut [] from 24 to 24 (fun wr => Below w6.heap.size w6 wr)
  case first => as_aux_lemma =>
    go_wp2_with fail
    go_loopw [24] (fun vi wr => ∃ (x j : Nat), Hid (x = 2 * j) ∧ vi = .int .i64 x ∧ Below w6.heap.size w6 wr) (fun vi _ => m - (intOf vi).toNat)
    case atStart => exact ⟨0, 0, rfl, rfl, Below.refl _ _⟩
    case round =>
      obtain ⟨x, j, HX, rfl, hb⟩ := hrel
      have HBd := Lib.hid hb
      have hsd := hb.size
      by_cases hlt : x < m
      · have hj : j < (mv n (bN bs)).length := by have := HX.out; have := HMl.out; omega
        have hp : (mv n (bN bs)).getD j (0, 0) ∈ mv n (bN bs) := getD_mem hj
        obtain ⟨e0, e1⟩ := flatP_get (mv n (bN bs)) j hj
        rw [← HX.out] at e0 e1
        have hxl : x + 1 < m := by have := HX.out; have := HMl.out; omega
        generalize (mv n (bN bs)).getD j (0, 0) = p at *
        have gm := mv_good hp
        obtain ⟨b1, b2, b3⟩ := gm_board (bs := bs) (p := p) (by rw [HBL.out]; exact hp)
        have hjp : bN (jump bs p.1 p.2) = md (bN bs) p.1 p.2 := bN_jump (by rw [HBL.out]; exact gm)
        have hLm : L0 ≤ Lst n (md (bN bs) p.1 p.2) := by rw [← HLL.out]; exact Lst_md hp
        have hLb := Lst_le n (md (bN bs) p.1 p.2)
        have hOb := ones_le n (md (bN bs) p.1 p.2)
        rcases p with ⟨f, t⟩
        dsimp only at e0 e1 gm b1 b2 b3 hjp hLm hLb hOb
        obtain ⟨_, hlc, hcl⟩ := (Ints.mono HM6.out hb).at
        obtain ⟨lb, lo, rfl, hlb, hx⟩ := hcl x hlt
        have z0 := hx x hlt
        have z1 := hx (x + 1) hxl
        rw [e0] at z0
        rw [e1] at z1
        have hf := gm.hf
        have ht := gm.ht
        have hm := gm.hm
        have hRd := Row.mono HI6.out hb
        have y0 := rowB_at hRd hf
        have y1 := rowB_at hRd ht
        rw [b1] at y0
        rw [b3] at y1
        have hglt := cell_lt y0
        have hlblt := cell_lt z0
        have hNs : Hid (∀ j u, (bs.map Value.bool)[j]? = some u → wr.cell? ((⟨g, 0, none⟩ : Addr).add j) = some u) := Row.news hRd
        have HC8 := Lib.hid (fun (gg cap : Nat) W (h : Row Value.bool W (some ⟨gg, 0, none⟩) n cap (jump bs f t)) => implPegLeast_any ⟨gg, 0, none⟩ n cap (jump bs f t) W h hn1 (by omega))
        rw [hjp] at HC8
        generalize Lst n (md (bN bs) f t) = L1 at *
        have em := mid_int f t
        have hx40 : x ≤ 40 := by omega
        have hL14 : L1 ≤ 14 := by omega
        have hgr : g < wr.heap.size := hglt
        have hlbr : lb < wr.heap.size := hlblt
        have HX2 : Hid (x + 2 = 2 * (j + 1)) := by show _ = _; have := HX.out; omega
        clear hx hcl gm hp e0 e1 b1 b2 b3 hjp hRd hLb hOb hb hglt hlblt HX
        go_upto_region 37 with (first | (at_builtin; go_must (refine wpList_append_lies _ rfl _ _ 25 rfl wr.heap.size 4 i0 _ 1 1 Try.underlying25 hii hq0 hq1 hq2 rfl (by omega) _ 0 [] rfl (World.ownsRow_made wr #[] 0 (Nat.le_refl _) (Nat.zero_le _) (by simp)) ⟨g, 0, none⟩ n c (bs.map Value.bool) rfl hNl.out (fun j u hu => cell_on ((Below.refl _ _).alloc (Nat.le_refl _) _) (hNs.out j u hu)) (boolCells_one bs) (by omega) (by unfold maxLen; omega) (by omega) (by simp) _ rfl ?_); intro g7 cap7 w7 hown1 hg1 hat hlt5; rw [Nat.zero_add, List.nil_append] at hown1; rw [Nat.zero_add]; have HB7 := Lib.hid (below_grown ((Below.refl wr.heap.size wr).alloc (Nat.le_refl _) _) (by simp) hg1 (show World.ownsRow (wr.alloc (.cells #[] 4)) wr.heap.size 4 1 (.slice (some ⟨wr.heap.size, 0, none⟩) 0 0) 0 [] from World.ownsRow_made wr #[] 0 (Nat.le_refl _) (Nat.zero_le _) (by simp))); have HO7 := Lib.hid hown1; clear hown1 hg1 hat))
        have z0 := cell_on HB7.out z0
        have z1 := cell_on HB7.out z1
        have y0 := cell_on HB7.out y0
        have y1 := cell_on HB7.out y1
        have hg7 := (HO7.out.lt g7 rfl).1
        have hne1 : lb ≠ g7 := by omega
        have hne2 : g ≠ g7 := by omega
        have HMM : Hid (∀ l : List Bool, ((l.set f false).set ((f + t) / 2) false).set t true = jump l f t) := fun l => rfl
        generalize hM : (f + t) / 2 = M at *
        have k0 := own_getB HO7.out f hf
        have fz := fun j => HO7.out.frozenAt j
        go_upto_region 38 with fail
        have HO8 := Lib.hid (own_putB HO7.out f false)
        have HB8 := Lib.hid (HB7.out.setCell hg7 (p := ⟨g7, f, none⟩) (.bool false))
        have z0 := cell_set (q := ⟨g7, f, none⟩) (u := .bool false) z0 hne1
        have z1 := cell_set (q := ⟨g7, f, none⟩) (u := .bool false) z1 hne1
        have y0 := cell_set (q := ⟨g7, f, none⟩) (u := .bool false) y0 hne2
        have y1 := cell_set (q := ⟨g7, f, none⟩) (u := .bool false) y1 hne2
        generalize World.setCell w7 ⟨g7, f, none⟩ (.bool false) = w8 at *
        clear k0 fz HO7 HB7
        have hi0 : (0 : Int) ≤ (x : Int) + 1 := by omega
        have hi1 : (x : Int) + 1 < (m : Int) := by omega
        have hwr : IntKind.i64.wrap ((x : Int) + 1) = (x : Int) + 1 := IntWalk.i64_in _ (by omega)
        have k1 := own_getB HO8.out M hm
        have fz1 := fun j => HO8.out.frozenAt j
        go_still_tail 12, (by kernel_rfl)
        change wpList _ _ _ _ _ w8.drew
        go_upto_region 39 with fail
        have HO9 := Lib.hid (World.ownsRow.drew (own_putB HO8.out M false))
        have HB9 := Lib.hid ((HB8.out.setCell hg7 (p := ⟨g7, M, none⟩) (.bool false)).drew)
        have z0 : World.cell? (World.setCell w8 ⟨g7, M, none⟩ (.bool false)).drew _ = some _ := cell_set (q := ⟨g7, M, none⟩) (u := .bool false) z0 hne1
        have z1 : World.cell? (World.setCell w8 ⟨g7, M, none⟩ (.bool false)).drew _ = some _ := cell_set (q := ⟨g7, M, none⟩) (u := .bool false) z1 hne1
        have y0 : World.cell? (World.setCell w8 ⟨g7, M, none⟩ (.bool false)).drew _ = some _ := cell_set (q := ⟨g7, M, none⟩) (u := .bool false) y0 hne2
        have y1 : World.cell? (World.setCell w8 ⟨g7, M, none⟩ (.bool false)).drew _ = some _ := cell_set (q := ⟨g7, M, none⟩) (u := .bool false) y1 hne2
        generalize (World.setCell w8 ⟨g7, M, none⟩ (.bool false)).drew = w9 at *
        clear k1 fz1 HO8 HB8
        have k2 := own_getB HO9.out t ht
        have fz2 := fun j => HO9.out.frozenAt j
        go_upto_region 40 with fail
        have HO10 := Lib.hid (own_putB HO9.out t true)
        rw [HMM.out] at HO10
        have HB10 := Lib.hid (HB9.out.setCell hg7 (p := ⟨g7, t, none⟩) (.bool true))
        have z0 := cell_set (q := ⟨g7, t, none⟩) (u := .bool true) z0 hne1
        have z1 := cell_set (q := ⟨g7, t, none⟩) (u := .bool true) z1 hne1
        have y0 := cell_set (q := ⟨g7, t, none⟩) (u := .bool true) y0 hne2
        have y1 := cell_set (q := ⟨g7, t, none⟩) (u := .bool true) y1 hne2
        generalize World.setCell w9 ⟨g7, t, none⟩ (.bool true) = w10 at *
        clear k2 fz2 HO9 HB9
        have C8 := Lib.hid (HC8.out g7 cap7 w10 (Rd.own HO10.out))
        go_wp2_with (fail)
        refine C8.out.mono ?_
        rintro e w11 ⟨rfl, hb11⟩
        have z0 := cell_on hb11 z0
        have z1 := cell_on hb11 z1
        have y0 := cell_on hb11 y0
        have y1 := cell_on hb11 y1
        have HB11 := Lib.hid (HBd.out.trans ((HB10.out.trans (hb11.mono HB10.out.size)).mono hsd))
        clear hb11 C8 HC8 HO10
        go_wp2
        go_roundw
        case rel => exact ⟨x + 2, j + 1, HX2.out, by go_num, HB11.out⟩
        case measure => simp [intOf]; omega
      · go_wp2
        go_meet
        case rel => exact HBd.out
  case rest =>
  have HB7 := Lib.hid (HB6w.out.trans (hcut.mono HB6w.out.size))
  clear hcut HB6w HI6 HM6 HMl HBL HLL HKK hNl
  go_wp2_with (fail)
  refine (CB.out 41 5 _ HB7.out (by omega) (by omega) (by omega) (by omega)).mono ?_
  rintro e w8 ⟨y2, rfl, hy20, hy21, rfl⟩
  obtain ⟨P, hP⟩ : ∃ P : Nat, 1 + y2 = (P : Int) := ⟨(1 + y2).toNat, by omega⟩
  have hP1 : 1 ≤ P := by omega
  have hP5 : P ≤ 5 := by omega
  have hwP : IntKind.i64.wrap (1 + y2) = (P : Int) := by rw [IntWalk.i64_in _ (by omega)]; exact hP
  clear hP
  go_wp2_with (fail)
  refine (CB.out 42 4 _ HB7.out (by omega) (by omega) (by omega) (by omega)).mono ?_
  rintro e w9 ⟨z2, rfl, hz20, hz21, rfl⟩
  obtain ⟨S, hS⟩ : ∃ S : Nat, 1 + z2 = (S : Int) := ⟨(1 + z2).toNat, by omega⟩
  have hS1 : 1 ≤ S := by omega
  have hS4 : S ≤ 4 := by omega
  have hwS : IntKind.i64.wrap (1 + z2) = (S : Int) := by rw [IntWalk.i64_in _ (by omega)]; exact hS
  clear hS
  obtain ⟨N, hN⟩ : ∃ N : Nat, S * P = N := ⟨_, rfl⟩
  have hN20 : N ≤ 20 := by rw [← hN]; exact Nat.mul_le_mul hS4 hP5
  have hN1 : 1 ≤ N := by rw [← hN]; exact Nat.mul_le_mul hS1 hP1
  have hPS : (P : Int) * (S : Int) = (N : Int) := by rw [← hN, Int.natCast_mul, Int.mul_comm]
  have hwm : IntKind.i64.wrap ((P : Int) * (S : Int)) = (N : Int) := by rw [hPS]; exact IntWalk.i64_in _ (by omega)
  have hdv : (N : Int) / (P : Int) = (S : Int) := by rw [← hPS]; exact Int.mul_ediv_cancel_left _ (by omega)
  have CD := Lib.hid (CR.out N _ HB7.out hN1 (by omega))
  have HN := Lib.hid hN
  clear hN hPS CR CB
  go_wp2_with (fail)
  refine CD.out.mono ?_
  rintro e w10 ⟨dg, dc, D, rfl, hb10, hi10, hp10⟩
  obtain ⟨hok, hD⟩ := deck_ok hp10 hN1 (by omega)
  have CC := implClockDeal_any (some ⟨dg, 0, none⟩) N dc P S D w10 hi10 hP1 (by omega) HN.out.symm hok hD
  have hSt := Clk.start D (P := P) (S := S) hP1
  rw [HN.out] at CC hSt
  generalize clk D P S N (fun _ => 0) (P - 1) = T at *
  have CC := Lib.hid CC
  have HSt := Lib.hid hSt
  have HDb := Lib.hid hD
  have HI10 := Lib.hid hi10
  have HB10 := Lib.hid (HB7.out.trans (hb10.mono HB7.out.size))
  clear hb10 hi10 hp10 hok hD hSt CD HB7
  go_wp2_with (fail)
  refine CC.out.mono ?_
  rintro e w11 ⟨rfl, hb11⟩
  have HI11 := Lib.hid (Ints.mono HI10.out hb11)
  have HB11 := Lib.hid (HB10.out.trans (hb11.mono HB10.out.size))
  have hwP1 : IntKind.i64.wrap ((P : Int) - 1) = ((P - 1 : Nat) : Int) := by rw [IntWalk.i64_in _ (by omega)]; omega
  have hP0 : ¬ (P : Int) = 0 := by omega
  clear hb11 HI10 HB10 CC
  go_upto_block 6 with (first | (at_make; go_must (refine wpList_make_full _ rfl _ _ 26 rfl w11.heap.size 2 i1 _ 1 Try.underlying26 hij hr0 hr1 _ _ _ _ P rfl rfl rfl rfl (by rw [hr2]; omega) (by unfold maxLen; omega) (by simp) ?_; intro w12 hown12 hg12)))
  have h12 := hown12
  rw [made_const _ (.int .i64 0) (by decide) (by intro i hi; match i, hi with | 0, _ => rfl), Nat.mul_one] at h12
  have HO12 : Hid (w12.ownsRow w11.heap.size 2 1 (.slice (some ⟨w11.heap.size, 0, none⟩) P P) P (intCells (List.replicate P 0))) := by
    show World.ownsRow _ _ _ _ _ _ _
    unfold intCells
    rw [List.map_replicate]
    exact h12
  have HB12 : Hid (Below w11.heap.size w11 w12) := below_made (Below.refl _ _) (Nat.le_refl _) hg12
  clear hown12 hg12 h12
  generalize hgl : w11.heap.size = gl at *
  have HGL := Lib.hid hgl
  have hDl : dg < gl := by have := cell_lt (ints_at0 HI11.out (show 0 < N by omega)); rw [← hgl]; exact this
  clear hgl
  go_wp2_with fail
  go_loopw [35, 36] (fun va vc wr => ∃ (t f qq : Nat) (l : Nat → Nat) (ls : List Int), va = .int .i64 qq ∧ vc = .int .i64 t ∧ Clk D P S T t f l qq ∧ t + f = N ∧ ls.length = P ∧ Hid (∀ k, k < P → ls.getD k 0 = (l k : Int)) ∧ wr.ownsRow gl 2 1 (.slice (some ⟨gl, 0, none⟩) P P) P (intCells ls) ∧ Below gl w11 wr) (fun _ vc _ => N - (intOf vc).toNat)
  case atStart => exact ⟨0, N, P - 1, fun _ => 0, List.replicate P 0, rfl, rfl, HSt.out, by omega, by simp, fun k hk => by simp [hk], HO12.out, HB12.out⟩
  case round =>
    obtain ⟨t, f, qq, l, ls, rfl, rfl, hclk, htf, hll, HL, ho, hb⟩ := hrel
    have HK := Lib.hid hclk
    have HBr := Lib.hid hb
    have HO := Lib.hid ho
    have hq := hclk.pil
    obtain ⟨c0', f0'⟩ := getJ ho qq hq
    rw [HL.out qq hq] at c0'
    have ht20 : t ≤ 20 := by omega
    clear HO12 HB12 HSt
    by_cases hl2 : l qq < S
    · obtain ⟨f', hf, hclk'⟩ := HK.out.step hl2
      obtain ⟨t', ht'⟩ : ∃ t' : Nat, S - (l qq + 1) = t' := ⟨_, rfl⟩
      rw [ht'] at hclk'
      have hNN := HN.out
      have hlt2 : t' * P + qq < N := by
        have h1 : (t' + 1) * P ≤ S * P := Nat.mul_le_mul_right P (by omega)
        rw [Nat.succ_mul] at h1
        omega
      have hA0 : (t' : Int) * (P : Int) = ((t' * P : Nat) : Int) := (Int.natCast_mul _ _).symm
      have zD := cell_on (show Below w11.heap.size w11 _ by rw [HGL.out]; exact hb) (ints_at0 HI11.out hlt2)
      have hyb := HDb.out _ hlt2
      obtain ⟨A, hA⟩ : ∃ A : Nat, t' * P = A := ⟨_, rfl⟩
      rw [hA] at hA0 zD hyb hlt2 hclk'
      generalize D.getD (A + qq) 0 = yv at *
      obtain ⟨yn, rfl⟩ : ∃ m : Nat, yv = m := ⟨yv.toNat, by omega⟩
      obtain ⟨k, hk⟩ : ∃ k, yn % P = k := ⟨_, rfl⟩
      have hrm : (yn : Int) % (P : Int) = (k : Int) := by rw [← hk]; exact (Int.natCast_emod yn P).symm
      rw [Int.toNat_natCast, hk] at hclk'
      have HK' := Lib.hid hclk'
      have hf1 : f = f' + 1 := hf
      have hwl : IntKind.i64.wrap ((l qq : Int) + 1) = (l qq : Int) + 1 := IntWalk.i64_in _ (by omega)
      have hwt : IntKind.i64.wrap ((S : Int) - ((l qq : Int) + 1)) = (t' : Int) := by rw [IntWalk.i64_in _ (by omega)]; omega
      have hwA : IntKind.i64.wrap ((t' : Int) * (P : Int)) = (A : Int) := by rw [hA0, ]; exact IntWalk.i64_in _ (by omega)
      have hwJ : IntKind.i64.wrap ((A : Int) + (qq : Int)) = ((A + qq : Nat) : Int) := by rw [IntWalk.i64_in _ (by omega)]; omega
      have hlc : (l qq : Int) < (S : Int) := by omega
      have HL' : Hid (∀ j, j < P → (ls.set qq ((l qq : Int) + 1)).getD j 0 = (upd l qq (l qq + 1) j : Int)) := fun j hj => by
        by_cases e : j = qq
        · subst e; rw [upd_same, getD_set_self _ _ _ _ (by omega)]; rfl
        · rw [upd_ne _ _ _ e, getD_set_ne _ _ _ _ _ (Ne.symm e)]; exact HL.out j hj
      have hll' : (ls.set qq ((l qq : Int) + 1)).length = P := by rw [List.length_set]; exact hll
      have HO' := Lib.hid (putJ ho qq ((l qq : Int) + 1))
      have z9 := (getJ HO'.out qq hq).1
      rw [getD_set_self _ _ _ _ (by omega)] at z9
      have zD := cell_set (q := ⟨gl, qq, none⟩) (u := .int .i64 ((l qq : Int) + 1)) zD (by show dg ≠ gl; omega)
      have HB' := Lib.hid (hb.setCell (Nat.le_refl gl) (p := ⟨gl, qq, none⟩) (.int .i64 ((l qq : Int) + 1)))
      generalize hlq : l qq = lq at *
      clear hclk hclk' hf hk hA hNN HL HK HO ho hb HBr hlq
      go_upto_region 53 with fail
      generalize World.setCell _ ⟨gl, qq, none⟩ (.int .i64 ((lq : Int) + 1)) = w14 at *
      go_wp2
      go_roundw
      case rel => exact ⟨t + 1, f', k, _, _, by rw [hrm], by go_num, HK'.out, by omega, hll', HL', HO'.out, HB'.out⟩
      case measure => simp [intOf]; omega
    · have hT := HK.out.done (by omega)
      subst hT
      have hlc : ¬ (l qq : Int) < (S : Int) := by omega
      have HBf := Lib.hid (HB11.out.trans ((show Below w11.heap.size w11 _ by rw [HGL.out]; exact hb).mono HB11.out.size))
      clear hclk HK HO ho hb HBr HL hl2
      go_wp2
      go_ret
      have hbq : ((T : Int) == (N : Int)) = (T == N) := by
        rw [Bool.eq_iff_iff, beq_iff_eq, beq_iff_eq]
        exact Int.ofNat_inj
      exact ⟨by simp [hbq], HBf.out⟩

end Go.Proofs.Ytdnhhkbijamadaa
