/- The law FnTiles returns true: its walk. -/
import Derived.Test.YtnagmeeoeilbcaaFTilesD
import Derived.Test.YtnagmeeoeilbcaaTourC
import Derived.Deep.Cut
namespace Go.Proofs.Ytnagmeeoeilbcaa
open Go.RowKit
set_option linter.unusedVariables false

theorem sum_bd {xs : List Int} (h : Counts xs) (k : Nat) (hk : k ≤ 9) : 0 ≤ isum (xs.take k) ∧ isum (xs.take k) ≤ 36 := by
  have := isum_bd 4 xs h.2 k (by rw [h.1]; exact hk)
  omega
theorem full_res {xs : List Int} (h : okHand xs = true) : fullRes xs = (fullTo xs 9, true) := by unfold fullRes; rw [if_pos h]
theorem full_mod {xs : List Int} (h : okHand xs = true) (h3 : isum xs % 3 ≠ 2) : fullTo xs 9 = 0 := fullTo_mod xs (okHand_counts h).1.1 (fun q e => by omega) 9 (by omega)

theorem next_get {xs : List Int} (h : xs.length = 9) {i : Nat} (hi : i < 9) (v : Int) (j : Nat) : (xs.set i v).getD j 0 = if i = j then v else xs.getD j 0 := by
  rw [getD_set]
  by_cases e : i = j
  · subst e; rw [if_pos ⟨rfl, by omega⟩, if_pos rfl]
  · rw [if_neg (by omega), if_neg e]
theorem next_res {xs : List Int} (hok : okHand xs = true) (h13 : isum xs ≤ 13) {i : Nat} (hi : i < 9) :
    (isW xs i = true → (fullRes (xs.set i (xs.getD i 0 + 1))).2 = true ∧ 0 < (fullRes (xs.set i (xs.getD i 0 + 1))).1) ∧ (isW xs i = false → (fullRes (xs.set i (xs.getD i 0 + 1))).2 = true → (fullRes (xs.set i (xs.getD i 0 + 1))).1 = 0) := by
  obtain ⟨hc, _⟩ := okHand_counts hok
  have hb := hc.2 i
  have hg := next_get hc.1 hi (xs.getD i 0 + 1)
  by_cases h4 : xs.getD i 0 < 4
  · have hok2 : okHand (xs.set i (xs.getD i 0 + 1)) = true := by
      have hl : (xs.set i (xs.getD i 0 + 1)).length = 9 := by simp [hc.1]
      unfold okHand
      simp only [Bool.and_eq_true, decide_eq_true_eq, List.all_eq_true]
      refine ⟨hl, fun x hx => ?_, by rw [sum_bump xs hc.1 i hi]; omega⟩
      obtain ⟨j, hj, rfl⟩ := List.getElem_of_mem hx
      have h1 : (xs.set i (xs.getD i 0 + 1)).getD j 0 = (xs.set i (xs.getD i 0 + 1))[j] := by rw [List.getD_eq_getElem?_getD, List.getElem?_eq_getElem hj]; rfl
      rw [← h1, hg]
      have := hc.2 j
      apply (inB_iff _ _ _).2
      split <;> omega
    rw [full_res hok2]
    unfold isW
    rw [decide_eq_true_eq, decide_eq_false_iff_not]
    have := fullTo_bd (xs.set i (xs.getD i 0 + 1)) 9
    refine ⟨fun h => ⟨rfl, h.2⟩, fun h _ => ?_⟩
    dsimp only
    by_cases q : 0 < fullTo (xs.set i (xs.getD i 0 + 1)) 9
    · exact absurd ⟨h4, q⟩ h
    · omega
  · have hno : okHand (xs.set i (xs.getD i 0 + 1)) = false := by
      rcases Bool.eq_false_or_eq_true (okHand (xs.set i (xs.getD i 0 + 1))) with e | e
      · have := (okHand_counts e).1.2 i
        rw [hg, if_pos rfl] at this
        omega
      · exact e
    unfold fullRes isW
    rw [hno, decide_eq_true_eq]
    exact ⟨fun h => absurd h.1 h4, fun _ h => (by cases h)⟩
theorem tiles_ok {ts : List (Int × Int)} {N : Nat} (h : okT ts) (hl : ts.length = N) (h1 : 1 ≤ N) (h8 : N ≤ 8) : okTiles ts = true := (okTiles_iff ts).2 ⟨by omega, by omega, h⟩
theorem nodup_take {S : List Nat} (h : S.Nodup) {i : Nat} (hi : i < S.length) : ((S.getD i 0 : Nat) : Int) ∉ (S.map fun (j : Nat) => (j : Int)).take i := by
  intro hm
  rw [← List.map_take] at hm
  obtain ⟨x, hx, e⟩ := List.mem_map.1 hm
  have e2 : x = S.getD i 0 := by omega
  subst e2
  obtain ⟨j, hj, e3⟩ := List.getElem_of_mem hx
  rw [List.length_take] at hj
  rw [List.getElem_take, show S.getD i 0 = S[i] from by simp [hi]] at e3
  exact List.pairwise_iff_getElem.1 h j i (by omega) hi (by omega) e3

set_option maxHeartbeats 6400000 in
set_option maxRecDepth 100000 in
theorem fnTiles_walk (a0 : Option Addr) (n0 c0 : Nat) (x0 : List Int) (a1 : Option Addr) (n1 c1 : Nat) (x1 : List Int) (w : World) (ok0 : okB x0) (v0 : Bytes w a0 n0 c0 x0) (ok1 : okB x1) (v1 : Bytes w a1 n1 c1 x1) :
    Calls Try.prog 3 #[.slice a0 n0 c0, .slice a1 n1 c1] w (Ret w (.bool true)) := by
  obtain ⟨hc0, hm0, _⟩ := v0.at 0
  obtain ⟨hc1, hm1, _⟩ := v1.at 0
  have C0 := r8Long_any a0 n0 c0 a1 n1 c1 w (by omega) (by omega)
  have C1 := Lib.hid (R8Counts_any a0 n0 c0 x0 w v0 ok0)
  have HV1 := Lib.hid v1
  have HK1 := Lib.hid ok1
  clear v0 v1 ok0 ok1
  rcases Bool.eq_false_or_eq_true (isLong n0 n1) with e | e
  · rw [e] at C0
    have C0 := Lib.hid C0
    go_enter Try.func3, Try.ntmps3
    go_wp2_with (fail)
    refine C0.out.mono ?_
    rintro e w1 ⟨rfl, rfl⟩
    go_wp2
    go_ret
    exact ⟨rfl, Below.refl _ _⟩
  rw [e] at C0
  have C0 := Lib.hid C0
  clear e
  go_enter Try.func3, Try.ntmps3
  go_wp2_with (fail)
  refine C0.out.mono ?_
  rintro e w1 ⟨rfl, rfl⟩
  go_wp2_with (fail)
  refine C1.out.mono ?_
  rintro e w1 ⟨g, c, xs, rfl, hb1, ho1, hok⟩
  have HB1 := Lib.hid hb1
  have HO1 := Lib.hid ho1
  have HOK := Lib.hid hok
  have hcnt := (okHand_counts hok).1
  have HCn := Lib.hid hcnt
  have hs14 := (okHand_counts hok).2
  have HG := Lib.hid (fun i hi => (getI ho1 i hi).1)
  have HSt := Lib.hid (fun k hk => isum_take_succ xs k hk)
  have HSb := Lib.hid (fun k hk => sum_bd hcnt k hk)
  have hsall : isum (xs.take 9) = isum xs := by rw [List.take_of_length_le (by rw [hcnt.1]; omega)]
  have hs0 := (sum_bd hcnt 9 (by omega)).1
  rw [hsall] at hs0
  have HIn : Hid (Ints w1 (some ⟨g, 0, none⟩) 9 c xs) := Rd.own ho1
  clear C0 C1 hb1 ho1 hok hcnt
  go_wp2
  go_loop [6, 7] (fun vs vi => ∃ k : Nat, k ≤ 9 ∧ vi = .int .i64 k ∧ vs = .int .i64 (isum (xs.take k))) (fun _ vi => 9 - (intOf vi).toNat)
  case atStart => exact ⟨0, by omega, rfl, rfl⟩
  case round =>
    obtain ⟨k, hk, rfl, rfl⟩ := hrel
    by_cases hlt : k < 9
    · have z0 := HG.out k hlt
      have e1 := HSt.out k (by rw [HCn.out.1]; exact hlt)
      have b1 := HSb.out k hk
      have b2 := HSb.out (k + 1) (by omega)
      generalize isum (xs.take k) = S0 at *
      generalize hS1 : isum (xs.take (k + 1)) = S1 at *
      have HS1 := Lib.hid hS1
      clear hS1
      generalize xs.getD k 0 = y at *
      have hw1 : IntKind.i64.wrap (S0 + y) = S1 := by rw [IntWalk.i64_in _ (by omega)]; omega
      go_wp2
      go_round
      case rel => exact ⟨k + 1, by omega, by go_num, by rw [HS1.out, e1]⟩
      case measure => simp [intOf]; omega
    · obtain rfl : k = 9 := by omega
      rw [hsall]
      generalize hS : isum xs = S at *
      have HS := Lib.hid hS
      have CF := implFullWays_any (some ⟨g, 0, none⟩) 9 c xs w1 HIn.out
      rw [full_res HOK.out] at CF
      have CF := Lib.hid CF
      have hwb := fullTo_bd xs 9
      have hwm : S % 3 ≠ 2 → fullTo xs 9 = 0 := fun h => full_mod HOK.out (by rw [hS]; exact h)
      generalize hWa : fullTo xs 9 = ways at *
      have HWa := Lib.hid hWa
      clear hS hWa hsall
      go_wp2_with (fail)
      refine CF.out.mono ?_
      rintro e w2 ⟨rfl, hb2⟩
      have CI := IsTileHand_any (some ⟨g, 0, none⟩) 9 c xs w2 (HIn.out.mono hb2)
      rw [HOK.out] at CI
      have CI := Lib.hid CI
      have HB2 := Lib.hid hb2
      have hs2 := hb2.size
      clear hb2 CF
      go_upto_region 10 with fail
      go_cut [73] from 32 (fun v wc => v = .bool false ∧ Below w1.heap.size w1 wc)
      case first => as_aux_lemma =>
        by_cases h3 : S % 3 = 2
        · go_wp2_with (fail)
          refine CI.out.mono ?_
          rintro e w3 ⟨rfl, hb3⟩
          have HB3 := Lib.hid (HB2.out.trans (hb3.mono hs2))
          clear hb3
          go_wp2
          go_meet
          case rel => exact ⟨congrArg Value.bool (by simp <;> omega), HB3.out⟩
        · obtain rfl := hwm h3
          go_wp2_with (fail)
          refine CI.out.mono ?_
          rintro e w3 ⟨rfl, hb3⟩
          have HB3 := Lib.hid (HB2.out.trans (hb3.mono hs2))
          clear hb3
          go_wp2
          go_meet
          case rel => exact ⟨congrArg Value.bool (by simp <;> omega), HB3.out⟩
      case rest =>
      obtain ⟨rfl, hb3⟩ := hcut
      have HB3 := Lib.hid hb3
      have CFa := implFarFromFull_any (some ⟨g, 0, none⟩) 9 c xs wc (HIn.out.mono hb3)
      have HFar : Hid ((S % 3 = 2 → (farRes xs).2 = true ∧ 0 ≤ (farRes xs).1 ∧ (farRes xs).1 ≤ S ∧ ((farRes xs).1 = 0 ↔ 0 < ways)) ∧ (S % 3 ≠ 2 → (farRes xs).2 = false)) := ⟨fun h3 => by
        obtain ⟨F, e, h⟩ := far_law xs HCn.out (by rw [HS.out]; exact hs14) (by rw [HS.out]; exact h3) (by rw [HS.out]; exact hs0)
        rw [e, ← HWa.out, ← HS.out]; exact ⟨rfl, h⟩, fun h3 => by unfold farRes; rw [if_neg (by rw [HS.out, decide_eq_false h3]; simp)]⟩
      have HDis : Hid ((S % 3 = 2 → (discardRes xs).2.2 = true ∧ ∃ k : Nat, (discardRes xs).1 = (k : Int) ∧ k < 9 ∧ 1 ≤ xs.getD k 0 ∧ 0 ≤ (discardRes xs).2.1) ∧ (S % 3 ≠ 2 → (discardRes xs).2.2 = false)) := ⟨fun h3 => by
        obtain ⟨k, m, e, h⟩ := discard_law xs HOK.out (by rw [HS.out]; exact h3)
        rw [e]; exact ⟨rfl, k, rfl, h⟩, fun h3 => by unfold discardRes; rw [if_neg (by rw [HS.out, decide_eq_false h3]; simp)]⟩
      have CDi := Lib.hid (fun W (hW : Below w1.heap.size w1 W) => implBestDiscard_any (some ⟨g, 0, none⟩) 9 c xs W (HIn.out.mono hW))
      generalize farRes xs = FR at *
      generalize discardRes xs = DR at *
      obtain ⟨F, two⟩ := FR
      obtain ⟨kd, most, three⟩ := DR
      dsimp only at HFar HDis CFa CDi
      have CFa := Lib.hid CFa
      have hsc := hb3.size
      clear hb3 CI
      go_wp2_with (fail)
      refine CFa.out.mono ?_
      rintro e w4 ⟨rfl, hb4⟩
      have HB4 := Lib.hid (HB3.out.trans (hb4.mono hsc))
      have hs4 := hb4.size
      clear hb4 CFa
      go_wp2_with (fail)
      refine (CDi.out w4 HB4.out).mono ?_
      rintro e w5 ⟨rfl, hb5⟩
      have HB5 := Lib.hid (HB4.out.trans (hb5.mono (by omega)))
      have hs5 := hb5.size
      clear hb5 CDi
      go_upto_region 14 with fail
      go_cut [132] from 32 (fun v wx => v = .bool false ∧ wx = w5)
      case first => as_aux_lemma =>
        by_cases h3 : S % 3 = 2
        · have e3 : (S % 3 == 2) = true := by simp [h3]
          obtain ⟨rfl, f0, f1, f2⟩ := HFar.out.1 h3
          obtain ⟨rfl, k, rfl, hk9, hk1, hk2⟩ := HDis.out.1 h3
          have z0 := cell_on HB5.out (HG.out k hk9)
          generalize xs.getD k 0 = y at *
          by_cases hF : F = 0
          · have hw0 : 0 < ways := f2.1 hF
            subst hF
            clear f2 hwm
            go_wp2
            go_meet
            case rel => exact ⟨congrArg Value.bool (by simp <;> omega), rfl⟩
          · have hw0 : ¬ 0 < ways := fun q => hF (f2.2 q)
            have e4 : (F == 0) = false := by simpa using hF
            clear f2 hwm
            go_wp2
            go_meet
            case rel => exact ⟨congrArg Value.bool (by simp <;> omega), rfl⟩
        · have e3 : (S % 3 == 2) = false := by simpa using h3
          obtain rfl := HFar.out.2 h3
          obtain rfl := HDis.out.2 h3
          clear hwm
          go_wp2
          go_meet
          case rel => exact ⟨congrArg Value.bool (by simp <;> omega), rfl⟩
      case rest =>
      rename_i wx
      obtain ⟨rfl, rfl⟩ := hcut
      clear HFar HDis hwm
      go_upto_if 134 with fail
      go_cut [] from 32 (fun wy => Below w1.heap.size w1 wy)
      case first => as_aux_lemma =>
        by_cases h13 : S ≤ 13
        · have CW := implWaitsOf_any (some ⟨g, 0, none⟩) 9 c xs wc (HIn.out.mono HB5.out)
          have HWr : Hid (waitsRes xs = (waitsTo xs 9, true)) := by show _ = _; unfold waitsRes; rw [if_pos (by rw [HOK.out, HS.out, decide_eq_true h13]; rfl)]
          rw [HWr.out] at CW
          have CW := Lib.hid CW
          obtain ⟨i0, hi, hz0, hz1, hz2⟩ := info_parts infoI64
          have HWl := Lib.hid (waitsTo_len xs 9)
          go_wp2_with (fail)
          refine CW.out.mono ?_
          rintro e w6 ⟨wa, wn, wk, rfl, hb6, ho6⟩
          have hwn : wn = (waitsTo xs 9).length := by have := ho6.1; rw [intCells_len] at this; dsimp only at this; omega
          have hwn9 : wn ≤ 9 := by have := HWl.out; omega
          have HWn := Lib.hid hwn
          have HB6 := Lib.hid (HB5.out.trans (hb6.mono (by omega)))
          have hs6 := hb6.size
          have hIw : Ints w6 wa wn wk (waitsTo xs 9) := Rd.own ho6
          obtain ⟨hwk, hwk2, hwat⟩ := hIw.at
          have HWat := Lib.hid hwat
          have HO6 := Lib.hid (ownsRow_below HO1.out HB6.out)
          clear CW hb6 ho6 hwn hwat hIw
          go_wp2
          go_loopw [17, 18] (fun vk vi wr => ∃ i : Nat, i ≤ 9 ∧ vi = .int .i64 i ∧ vk = .int .i64 ((waitsTo xs i).length : Nat) ∧ Below w6.heap.size w6 wr) (fun _ vi _ => 9 - (intOf vi).toNat)
          case atStart => exact ⟨0, by omega, rfl, rfl, Below.refl _ _⟩
          case round =>
            obtain ⟨i, hi9, rfl, rfl, hbr⟩ := hrel
            have HBr := Lib.hid hbr
            have hsr := hbr.size
            by_cases hlt : i < 9
            · have HOr := Lib.hid (ownsRow_below HO6.out hbr)
              have hIr : Ints wr (some ⟨g, 0, none⟩) 9 c xs := Rd.own HOr.out
              have HN := Lib.hid (Ints.news hIr)
              have hbi := HCn.out.2 i
              have hl9 := HCn.out.1
              have HSb1 := Lib.hid (sum_bump xs HCn.out.1 i hlt (xs.getD i 0 + 1))
              have HWs := Lib.hid (waits_succ xs i)
              have HWa1 := Lib.hid (waits_at xs i hlt)
              have HWl1 := Lib.hid (waitsTo_len xs i)
              have HLL : Hid ((intCells xs).length = 9 * 1) := HOr.out.1
              clear hIr hbr
              have HNx := next_res HOK.out (by rw [HS.out]; exact h13) hlt
              have CFn := Lib.hid (fun gg cap W (hI : Ints W (some ⟨gg, 0, none⟩) 9 cap (xs.set i (xs.getD i 0 + 1))) => implFullWays_any (some ⟨gg, 0, none⟩) 9 cap (xs.set i (xs.getD i 0 + 1)) W hI)
              generalize fullRes (xs.set i (xs.getD i 0 + 1)) = RR at *
              generalize hY : xs.getD i 0 = y at *
              have HY := Lib.hid hY
              clear hY
              obtain ⟨R1, R2⟩ := RR
              have HNx := Lib.hid HNx
              generalize hKK : (waitsTo xs i).length = K at *
              have HKK := Lib.hid hKK
              have hK9 : K ≤ 9 := by have := HWl1.out; omega
              clear hKK
              go_wp2_with (first | (at_builtin; go_must (refine wpList_append_lies _ rfl _ _ 24 rfl wr.heap.size 2 i0 _ 1 8 Try.underlying24 hi hz0 hz1 hz2 rfl (by omega) (.slice (some ⟨wr.heap.size, 0, none⟩) 0 0) 0 [] rfl (World.ownsRow_made wr #[] 0 (Nat.le_refl _) (Nat.zero_le _) (by simp)) ⟨g, 0, none⟩ 9 c (intCells xs) rfl HLL.out (fun j u hu => cell_on ((Below.refl _ _).alloc (Nat.le_refl _) _) (HN.out j u hu)) (intCells_one xs) (by omega) (by unfold maxLen; omega) (by omega) (by simp) (wr.heap.size + 1) (by simp) ?_); intro gg cap w7 hown1 hg1 hat hlt7; have hb7 : Below wr.heap.size wr w7 := below_grown ((Below.refl wr.heap.size wr).alloc (Nat.le_refl _) _) (by simp) hg1 (World.ownsRow_made (e := 2) (size := 1) wr #[] 0 (Nat.le_refl _) (Nat.zero_le _) (by simp)); have HB7 := Lib.hid hb7; have HO7 : Hid (w7.ownsRow wr.heap.size 2 1 (.slice (some ⟨gg, 0, none⟩) 9 cap) 9 (intCells xs)) := hown1; obtain ⟨z0, f0⟩ := getI HO7.out i hlt; rw [HY.out] at z0; have hgg := (HO7.out.lt gg rfl).1; clear hown1 hg1 hat hb7))
              have HO8 := Lib.hid (putI HO7.out i (y + 1))
              have HB8 := Lib.hid (HB7.out.setCell (p := ⟨gg, i, none⟩) hgg (.int .i64 (y + 1)))
              have CF8 := Lib.hid (CFn.out gg cap _ (Rd.own HO8.out))
              clear CFn HO8 z0 f0
              generalize hw8 : w7.setCell ⟨gg, i, none⟩ (.int .i64 (y + 1)) = w8 at *
              have HW8 := Lib.hid hw8
              have hs8 := HB8.out.size
              clear hw8
              go_wp2_with (fail)
              try rw [HW8.out]
              refine CF8.out.mono ?_
              rintro e w9 ⟨rfl, hb9⟩
              have HB9 := Lib.hid (HB8.out.trans (hb9.mono hs8))
              have HBn := Lib.hid (HBr.out.trans (HB9.out.mono hsr))
              clear hb9 CF8
              rcases Bool.eq_false_or_eq_true (isW xs i) with eW | eW
              · obtain ⟨k1, k2⟩ := HWa1.out.1 eW
                obtain ⟨r1, r2⟩ := HNx.out.1 eW
                try dsimp only at r1 r2
                subst r1
                have hKn : K < wn := by rw [HWn.out]; exact k1
                obtain ⟨b, off, rfl, hbl, hx⟩ := HWat.out K hKn
                have z1 := cell_on HBn.out (hx K hKn)
                rw [k2] at z1
                have HLn : Hid ((waitsTo xs (i + 1)).length = K + 1) := by show _ = _; rw [HWs.out, eW, if_pos rfl, List.length_append, HKK.out]; rfl
                clear hx k1 k2
                go_wp2
                go_roundw
                case rel => exact ⟨i + 1, by omega, by go_num, by rw [HLn.out]; go_num, HBn.out⟩
                case measure => simp [intOf]; omega
              · have HLn : Hid ((waitsTo xs (i + 1)).length = K) := by show _ = _; rw [HWs.out, eW, if_neg (by simp), List.append_nil, HKK.out]
                have r1 := HNx.out.2 eW
                have k1 := HWa1.out.2 eW
                try dsimp only at r1
                cases R2
                · clear r1
                  by_cases hKn : K < wn
                  · obtain ⟨b, off, rfl, hbl, hx⟩ := HWat.out K hKn
                    have z1 := cell_on HBn.out (hx K hKn)
                    have k2 := k1 (by rw [← HWn.out]; exact hKn)
                    generalize (waitsTo xs 9).getD K 0 = v at *
                    have e1 : (v == (i : Int)) = false := by simpa using k2
                    clear hx k1
                    go_wp2
                    go_roundw
                    case rel => exact ⟨i + 1, by omega, by go_num, by rw [HLn.out], HBn.out⟩
                    case measure => simp [intOf]; omega
                  · clear k1
                    go_wp2
                    go_roundw
                    case rel => exact ⟨i + 1, by omega, by go_num, by rw [HLn.out], HBn.out⟩
                    case measure => simp [intOf]; omega
                · obtain rfl := r1 rfl
                  by_cases hKn : K < wn
                  · obtain ⟨b, off, rfl, hbl, hx⟩ := HWat.out K hKn
                    have z1 := cell_on HBn.out (hx K hKn)
                    have k2 := k1 (by rw [← HWn.out]; exact hKn)
                    generalize (waitsTo xs 9).getD K 0 = v at *
                    have e1 : (v == (i : Int)) = false := by simpa using k2
                    clear hx k1
                    go_wp2
                    go_roundw
                    case rel => exact ⟨i + 1, by omega, by go_num, by rw [HLn.out], HBn.out⟩
                    case measure => simp [intOf]; omega
                  · clear k1
                    go_wp2
                    go_roundw
                    case rel => exact ⟨i + 1, by omega, by go_num, by rw [HLn.out], HBn.out⟩
                    case measure => simp [intOf]; omega
            · obtain rfl : i = 9 := by omega
              rw [← HWn.out]
              have HB9 := Lib.hid (HB6.out.trans (hbr.mono (by omega)))
              clear hbr
              go_wp2
              go_meet
              case rel => exact HB9.out
        · go_wp2
          go_meet
          case rel => exact HB5.out
      case rest =>
      --CUT 1
      have HBy := Lib.hid (HB1.out.trans (hcut.mono HB1.out.size))
      have hsy := HBy.out.size
      clear hcut HB2 HB3 HB4 HB5 HG HSt HSb HIn hs2 hsc hs4 hs5
      have CA := Lib.hid (r8At_any a1 n1 c1 x1 40 5 _ (HV1.out.mono HBy.out) HK1.out (by omega) (by omega) (by omega) (by omega))
      go_wp2_with (fail)
      refine CA.out.mono ?_
      rintro e w2 ⟨x, rfl, hx0, hx1, rfl⟩
      obtain ⟨x, rfl⟩ : ∃ q : Nat, x = q := ⟨x.toNat, by omega⟩
      clear CA
      have hN : (1 : Int) + (x : Int) = ((x + 1 : Nat) : Int) := by omega
      have CT := R8Tiles_any a1 n1 c1 x1 (x + 1) _ (HV1.out.mono HBy.out) HK1.out (by omega)
      rw [← hN] at CT
      have CT := Lib.hid CT
      clear hN
      go_wp2_with (fail)
      refine CT.out.mono ?_
      rintro e w3 ⟨ta, tc, ts, rfl, hb3, ho3, htl, hokt⟩
      have hokT := tiles_ok hokt htl (by omega) (by omega)
      have hD : Duos w3 ta (x + 1) tc ts := Rd.own ho3
      have HB3 := Lib.hid (HBy.out.trans (hb3.mono hsy))
      have hs3 := HB3.out.size
      obtain ⟨S, i0, hlr, hnd, hlts, hhd, hmt, htr, hrg⟩ := line_law ts hokT
      have CL := implLongestLine_any ta (x + 1) tc ts w3 hD
      rw [hlr] at CL
      have CL := Lib.hid CL
      have HD := Lib.hid hD
      have HTl := Lib.hid htl
      have CTo := Lib.hid (fun (r : Bool) W (hW : Below w3.heap.size w3 W) => (show tourRes ts r = (tourS ts r, true) by unfold tourRes; rw [if_pos hokT]) ▸ implHasTour_any ta (x + 1) tc ts r W (hD.mono hW))
      have CAr := Lib.hid (fun W (hW : Below w3.heap.size w3 W) => hokT ▸ AreTiles_any ta (x + 1) tc ts W (hD.mono hW))
      have HTr := Lib.hid htr
      have HRg := Lib.hid hrg
      have HNd := Lib.hid hnd
      have HLts := Lib.hid hlts
      have HHd := Lib.hid hhd
      have HMt := Lib.hid hmt
      clear hb3 ho3 CT hlr hD hokT hokt htl htr hrg hnd hlts hhd hmt
      go_wp2_with (fail)
      refine CL.out.mono ?_
      rintro e w4 ⟨la, ln, lc, rfl, hb4, ho4⟩
      have hln : ln = S.length := by have := ho4.1; rw [intCells_len] at this; simpa using this.symm
      have hln1 : 1 ≤ ln := by
        have := HHd.out
        cases S with
        | nil => cases this
        | cons i S' => simp at hln; omega
      have hlnN : ln ≤ x + 1 := by rw [hln, ← HTl.out]; exact nodup_len _ S HNd.out HLts.out
      have hIl : Ints w4 la ln lc (S.map fun (i : Nat) => (i : Int)) := Rd.own ho4
      have HIl := Lib.hid hIl
      have HLn := Lib.hid hln
      have HB4 := Lib.hid hb4
      have hs4 := hb4.size
      clear hb4 ho4 hIl CL hln
      go_wp2_with (fail)
      refine (CTo.out false _ HB4.out).mono ?_
      rintro e w5 ⟨rfl, hb5⟩
      have HB5 := Lib.hid (HB4.out.trans (hb5.mono hs4))
      have hs5 := HB5.out.size
      have HI5 := Lib.hid (HIl.out.mono hb5)
      clear hb5
      go_wp2_with (fail)
      refine (CTo.out true _ HB5.out).mono ?_
      rintro e w6 ⟨rfl, hb6⟩
      have HB6 := Lib.hid (HB5.out.trans (hb6.mono hs5))
      have hs6 := HB6.out.size
      have HI6 := Lib.hid (HI5.out.mono hb6)
      clear hb6 CTo
      have HT1 := HTr.out
      have HT2 := HRg.out
      rw [HTl.out, ← HLn.out] at HT1
      generalize tourS ts false = T1 at *
      generalize tourS ts true = T2 at *
      have HT1 := Lib.hid HT1
      have HT2 := Lib.hid HT2
      have hcap : ln ≤ lc ∧ lc ≤ 9223372036854775807 := ⟨HIl.out.2.1, HIl.out.2.2.1⟩
      have C1 := Lib.hid (CAr.out _ HB6.out)
      have C2 := Lib.hid (fun W (hW : Below w3.heap.size w3 W) => SameTiles_same ta (x + 1) tc ts W (HD.out.mono hW))
      go_upto_region 39 with fail
      go_cut [247] from 32 (fun v wx => v = .bool false ∧ Below w6.heap.size w6 wx)
      case first => as_aux_lemma =>
        go_wp2_with (fail)
        refine C1.out.mono ?_
        rintro e w7 ⟨rfl, hb7⟩
        have C3 := Lib.hid (C2.out _ (HB6.out.trans (hb7.mono hs6)))
        have HB7 := Lib.hid hb7
        have hs7 := HB7.out.size
        clear hb7
        go_wp2_with (fail)
        refine C3.out.mono ?_
        rintro e w8 ⟨rfl, hb8⟩
        have HB8 := Lib.hid (HB7.out.trans (hb8.mono hs7))
        clear hb8
        cases T1
        · have hne : ¬ ln = x + 1 := fun e => (by have := HT1.out.2 e; cases this)
          have e1 : ((ln : Int) == 1 + (x : Int)) = false := by simp only [beq_eq_false_iff_ne]; omega
          cases T2
          · go_wp2
            go_meet
            case rel => exact ⟨congrArg Value.bool (by simp <;> omega), HB8.out⟩
          · have := HT2.out rfl
            cases this
        · obtain rfl : ln = x + 1 := HT1.out.1 rfl
          cases T2
          · go_wp2
            go_meet
            case rel => exact ⟨congrArg Value.bool (by simp <;> omega), HB8.out⟩
          · go_wp2
            go_meet
            case rel => exact ⟨congrArg Value.bool (by simp <;> omega), HB8.out⟩
      case rest =>
      --CUT 2
      obtain ⟨rfl, hbz⟩ := hcut
      have HIz := Lib.hid (HI6.out.mono hbz)
      have HDz := Lib.hid (HD.out.mono (HB6.out.trans (hbz.mono hs6)))
      have HBz := Lib.hid (HB3.out.trans ((HB6.out.trans (hbz.mono hs6)).mono hs3))
      obtain ⟨hlc, hlc2, hlat⟩ := HIz.out.at
      obtain ⟨lb, lo, rfl, hlb, hl⟩ := hlat 0 (by omega)
      --CUT 4
      have HL : Hid (∀ i, i < ln → wc.cell? ⟨lb, lo + i, none⟩ = some (.int .i64 (S.getD i 0 : Nat)) ∧ S.getD i 0 < x + 1) := fun i hi => by
        have hi' : i < S.length := by rw [← HLn.out]; exact hi
        refine ⟨?_, by rw [← HTl.out]; exact HLts.out _ (getD_mem (d := 0) hi')⟩
        rw [hl i hi]
        simp [hi']
      --CUT 5
      have CH : Hid (∀ i W, i < ln → Below wc.heap.size wc W → Calls Try.prog 17 #[.slice (some ⟨lb, lo, none⟩) i lc, .int .i64 (S.getD i 0 : Nat)] W (RetS W (.bool false))) := fun i W hi hW => by
        have := r8Has_any (some ⟨lb, lo, none⟩) i lc _ (S.getD i 0 : Nat) W ((HIz.out.mono hW).take i (by omega))
        rw [decide_eq_false (nodup_take HNd.out (by rw [← HLn.out]; exact hi))] at this
        exact this
      --CUT 6
      have CM : Hid (∀ (e : Int) W, Below wc.heap.size wc W → Calls Try.prog 18 #[.slice ta (x + 1) tc, .slice (some ⟨lb, lo, none⟩) ln lc, .int .i64 e] W (Ret W (.bool (meetsL ts S e)))) := fun e W hW =>
        r8Meets_any ta (x + 1) tc ts _ ln lc S e W (HDz.out.mono hW) (HIz.out.mono hW) (fun i hi => by rw [← HTl.out]; exact HLts.out i hi)
      --CUT 7
      obtain ⟨htc, htc2, htat⟩ := HDz.out.at
      have hi0 : S.getD 0 0 = i0 := by
        have := HHd.out
        cases S with
        | nil => cases this
        | cons i S' => simpa using this
      obtain ⟨zl, hi0N⟩ := HL.out 0 (by omega)
      rw [hi0, Nat.add_zero] at zl
      rw [hi0] at hi0N
      obtain ⟨tb, tof, rfl, htb, htx⟩ := htat i0 hi0N
      obtain ⟨t0, t1⟩ := htx i0 hi0N
      --CUT 8
      have HMt := HMt.out
      clear hbz hlat hl htat htx C1 C2 CAr hi0
      generalize (ts.getD i0 (0, 0)).1 = A0 at *
      generalize (ts.getD i0 (0, 0)).2 = B0 at *
      have HMt := Lib.hid HMt
      --CUT 3
      go_wp2
      go_loopw [31] (fun vi wr => ∃ i : Nat, i ≤ ln ∧ vi = .int .i64 i ∧ Quiet wc wr) (fun vi _ => ln - (intOf vi).toNat)
      case atStart => exact ⟨0, by omega, rfl, Quiet.refl _⟩
      case round =>
        obtain ⟨i, hi, rfl, hq⟩ := hrel
        have HQ := Lib.hid hq
        have hbq := hq.b
        clear hq
        by_cases hlt : i < ln
        · obtain ⟨z0, hsN⟩ := HL.out i hlt
          have z0 := cell_on hbq z0
          have CHi := Lib.hid (fun q => CH.out i (wr.drewN q) hlt (HQ.out.drewN q).b)
          clear hbq
          generalize S.getD i 0 = s at *
          have n1 : 0 ≤ (s : Int) := by omega
          have n2 : (s : Int) < 1 + (x : Int) := by omega
          clear hsN
          generalize (s : Int) = si at *
          have n3 : decide (si < 0) = false := by simpa using n1
          have n4 : decide (1 + (x : Int) ≤ si) = false := by simpa using n2
          clear n1 n2
          have n5 : i ≤ lc := by omega
          clear zl t0 t1
          go_wp2
          go_quiet ((go_at_call 17; exact qS (CHi.out _)))
          go_wp2
          go_roundw
          case rel => exact ⟨i + 1, by omega, by go_num, HQ.out.drewN _⟩
          case measure => simp [intOf]; omega
        · obtain rfl : i = ln := by omega
          have C1 := CM.out A0 wr HQ.out.b
          have zl := cell_on hbq zl
          have t0 := cell_on hbq t0
          have t1 := cell_on hbq t1
          clear hbq
          rcases Bool.eq_false_or_eq_true (meetsL ts S A0) with e | e
          · rw [e] at C1
            have C1 := Lib.hid C1
            go_wp2_with (fail)
            refine C1.out.mono ?_
            rintro e w7 ⟨rfl, hb7⟩
            have HB7 := Lib.hid (HBz.out.trans ((HQ.out.b.trans (hb7.mono HQ.out.b.size)).mono HBz.out.size))
            clear hb7 C1
            go_wp2
            go_ret
            exact ⟨rfl, HB7.out⟩
          · rw [e] at C1
            have C1 := Lib.hid C1
            have e2 : meetsL ts S B0 = true := HMt.out.resolve_left (by rw [e]; simp)
            have C2 := CM.out B0
            rw [e2] at C2
            have C2 := Lib.hid C2
            clear e e2
            go_wp2_with (fail)
            refine C1.out.mono ?_
            rintro e w7 ⟨rfl, hb7⟩
            have hb8 := HQ.out.b.trans (hb7.mono HQ.out.b.size)
            have z8 := cell_on hb7 zl
            have z9 := cell_on hb7 t0
            have z10 := cell_on hb7 t1
            have C3 := Lib.hid (C2.out w7 hb8)
            have HB7 := Lib.hid (HBz.out.trans (hb8.mono HBz.out.size))
            have hs7 := HB7.out.size
            clear hb7 hb8 C1 C2 zl t0 t1
            go_wp2_with (fail)
            refine C3.out.mono ?_
            rintro e w8 ⟨rfl, hb8⟩
            have HB8 := Lib.hid (HB7.out.trans (hb8.mono hs7))
            clear hb8
            go_wp2
            go_ret
            exact ⟨rfl, HB8.out⟩

end Go.Proofs.Ytnagmeeoeilbcaa
