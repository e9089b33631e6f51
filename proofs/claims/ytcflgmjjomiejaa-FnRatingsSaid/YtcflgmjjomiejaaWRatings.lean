/- The law FnRatings returns true: its walk. -/
import Derived.Test.YtcflgmjjomiejaaRtM
import Derived.Deep.RegionHeld3
namespace Go.Proofs.Ytcflgmjjomiejaa
open Go.RowKit
set_option linter.unusedVariables false
set_option linter.unusedSimpArgs false

set_option maxHeartbeats 12800000 in
set_option maxRecDepth 100000 in
theorem fnRatings_walk (a0 : Option Addr) (n0 c0 : Nat) (x0 : List Int) (a1 : Option Addr) (n1 c1 : Nat) (x1 : List Int) (w : World) (ok0 : okB x0) (v0 : Bytes w a0 n0 c0 x0) (ok1 : okB x1) (v1 : Bytes w a1 n1 c1 x1) :
    Calls Try.prog 3 #[.slice a0 n0 c0, .slice a1 n1 c1] w (Ret w (.bool true)) := by
  obtain ⟨hc0, hm0, _⟩ := v0.at 0
  obtain ⟨hc1, hm1, _⟩ := v1.at 0
  have C0 := b10Long_any a0 n0 c0 a1 n1 c1 w (by omega) (by omega)
  have CB := Lib.hid (fun (k m : Int) W (hW : Below w.heap.size w W) (h1 : 0 ≤ k) (h2 : k ≤ 1000) (h3 : 1 ≤ m) (h4 : m ≤ 1000) => b10At_any a1 n1 c1 x1 k m W (v1.mono hW) ok1 h1 h2 h3 h4)
  have CG := Lib.hid (fun (p : Nat) W (hW : Below w.heap.size w W) (h1 : 2 ≤ p) (h2 : p ≤ 16) => b10Games_any p a0 n0 c0 x0 W (v0.mono hW) ok0 h1 h2)
  clear v0 v1 ok0 ok1
  rcases Bool.eq_false_or_eq_true (isLongB n0 n1) with e | e
  · rw [e] at C0
    have C0 := Lib.hid C0
    go_enter Try.func3, Try.ntmps3
    go_wp2_with (fail)
    refine C0.out.mono ?_
    rintro e w1 ⟨rfl, rfl⟩
    go_wp2
    go_ret
    exact ⟨rfl, Below.refl _ _⟩
  rw [e] at C0
  have C0 := Lib.hid C0
  clear e
  go_enter Try.func3, Try.ntmps3
  go_wp2_with (fail)
  refine C0.out.mono ?_
  rintro e w0 ⟨rfl, rfl⟩
  clear C0
  go_wp2_with (fail)
  refine (CB.out 0 5 _ (Below.refl _ _) (by omega) (by omega) (by omega) (by omega)).mono ?_
  rintro e w1 ⟨y, rfl, hy0, hy1, rfl⟩
  obtain ⟨p, hp⟩ : ∃ p : Nat, 2 + y = (p : Int) := ⟨(2 + y).toNat, by omega⟩
  have hwp : IntKind.i64.wrap (2 + y) = (p : Int) := by rw [IntWalk.i64_in _ (by omega)]; exact hp
  have hp2 : 2 ≤ p := by omega
  have hp6 : p ≤ 6 := by omega
  go_wp2_with (fail)
  refine (CG.out p _ (Below.refl _ _) (by omega) (by omega)).mono ?_
  rintro e w9 ⟨gg, k, cg, gs, rfl, hk8, hb9, ho9, hall⟩
  clear hwp hp hy0 hy1 CG
  have hgl : gs.length = k := by have := ho9.1; rw [tripCells_len] at this; omega
  have HG9 := Lib.hid (show Trips w9 (some ⟨gg, 0, none⟩) k cg gs from Rd.own ho9)
  have HAll := Lib.hid hall
  have HGl := Lib.hid hgl
  have HB9 := Lib.hid hb9
  have hs9 := hb9.size
  clear ho9 hb9 hall hgl
  obtain ⟨i0, hi, hz0, hz1, hz2⟩ := info_parts infoF32
  go_wp2_with (fail)
  go_loopw [7, 8, 9, 10] (fun v7 v8 v9 v10 wr => ∃ (i : Nat) (I : List Nat) (g7 c7 g8 c8 : Nat), i ≤ p ∧ I.length = i ∧ Hid (∀ b ∈ I, b < 17) ∧ v10 = .int .i64 i ∧ v7 = .slice (some ⟨g7, 0, none⟩) i c7 ∧ v8 = .slice (some ⟨g8, 0, none⟩) i c8 ∧ v9 = .float .f64 (sumW (I.map qR) i) ∧ g7 ≠ g8 ∧ wr.ownsRow w9.heap.size 29 1 (.slice (some ⟨g7, 0, none⟩) i c7) i ((I.map qR).map (Value.float .f32)) ∧ wr.ownsRow w9.heap.size 29 1 (.slice (some ⟨g8, 0, none⟩) i c8) i ((List.replicate i fOne).map (Value.float .f32)) ∧ Below w9.heap.size w9 wr) (fun _ _ _ v10 _ => p - (intOf v10).toNat)
  case atStart =>
    have b1 : Below w9.heap.size w9 (w9.alloc (.cells #[] 29)) := (Below.refl _ _).alloc (Nat.le_refl _) _
    have o7 : (w9.alloc (.cells #[] 29)).ownsRow w9.heap.size 29 1 (.slice (some ⟨w9.heap.size, 0, none⟩) 0 0) 0 (([] : List Nat).map (Value.float .f32)) := World.ownsRow_made (e := 29) (size := 1) (base := w9.heap.size) w9 #[] 0 (by simp) (Nat.zero_le _) (by simp)
    have o8 : ((w9.alloc (.cells #[] 29)).alloc (.cells #[] 29)).ownsRow w9.heap.size 29 1 (.slice (some ⟨(w9.alloc (.cells #[] 29)).heap.size, 0, none⟩) 0 0) 0 (([] : List Nat).map (Value.float .f32)) := World.ownsRow_made (e := 29) (size := 1) (base := w9.heap.size) (w9.alloc (.cells #[] 29)) #[] 0 (by simp) (Nat.zero_le _) (by simp)
    exact ⟨0, [], w9.heap.size, 0, w9.heap.size + 1, 0, Nat.zero_le _, rfl, Lib.hid (fun b hb => by simp at hb), rfl, rfl, rfl, rfl, by omega, o7.alloc _, by simpa using o8, b1.alloc (by simp) _⟩
  case round =>
    obtain ⟨i, I, g7, c7, g8, c8, hi6, hIl, HI, rfl, rfl, rfl, rfl, h78, hown7, hown8, hbel⟩ := hrel
    have h7 := own_block hown7
    have h8 := own_block hown8
    have hsz := hbel.size
    have HO7 := Lib.hid hown7
    have HO8 := Lib.hid hown8
    have HB := Lib.hid hbel
    clear hown7 hown8 hbel
    by_cases hlt : i < p
    · have hw1 : IntKind.i64.wrap (1 + (i : Int)) = 1 + (i : Int) := IntWalk.i64_in _ (by omega)
      go_wp2_with (fail)
      refine (CB.out (1 + (i : Int)) 17 _ (HB9.out.trans (HB.out.mono hs9)) (by omega) (by omega) (by omega) (by omega)).mono ?_
      rintro e w2 ⟨z, rfl, hzl, hzh, rfl⟩
      obtain ⟨b, rfl⟩ : ∃ q : Nat, z = q := ⟨z.toNat, by omega⟩
      have hb : b < 17 := by omega
      have hw2 : IntKind.i64.wrap ((b : Int) - 8) = (b : Int) - 8 := IntWalk.i64_in _ (by omega)
      obtain ⟨q1, _⟩ := qR_ok hb
      obtain ⟨q2, q3⟩ := sumW_snoc HI.out hb (by omega)
      rw [hIl] at q3
      have hop1 := hop_quo q1
      have hop2 := hop_conv q2
      have hop3 := hop_add q3
      unfold fI at hop1
      have HI' : Hid (∀ x ∈ I ++ [b], x < 17) := by
        show ∀ x, _
        intro x hx
        rcases List.mem_append.1 hx with h1 | h1
        · exact HI.out x h1
        · rw [List.mem_singleton.1 h1]; exact hb
      have HP0 : Hid (((I ++ [b]).map qR).map (Value.float .f32) = (I.map qR).map (Value.float .f32) ++ [.float .f32 (qR b)]) := by show _ = _; simp
      have HP1 : Hid ((List.replicate (i + 1) fOne).map (Value.float .f32) = (List.replicate i fOne).map (Value.float .f32) ++ [.float .f32 1065353216]) := by show _ = _; rw [List.replicate_succ', snocF]; rfl
      have HIl : Hid ((I ++ [b]).length = i + 1) := by show _ = _; rw [List.length_append, hIl]; rfl
      clear q1 q2 q3 HI
      generalize qR b = x at *
      generalize sumW (I.map qR) i = s0 at *
      go_upto_region 12 with (simp only [hop1])
      go_upto_region 13 with (first | (at_builtin; go_must (refine wpList_append_lies _ rfl _ _ 27 rfl w9.heap.size 29 i0 _ 1 4 Try.underlying27 hi hz0 hz1 hz2 rfl (by omega) (.slice (some ⟨g7, 0, none⟩) i c7) i ((I.map qR).map (Value.float .f32)) rfl (HO7.out.alloc _) ⟨wr.heap.size, 0, none⟩ 1 1 [.float .f32 x] rfl rfl (new1 _ _ _) (one1 rfl) (by omega) (by unfold maxLen; omega) (by omega) (by simp; omega) (wr.heap.size + 1) (by simp) ?_); intro ga cap w5 hown1 hg1 hat hlt5; have HO7n : Hid (w5.ownsRow w9.heap.size 29 1 (.slice (some ⟨ga, 0, none⟩) (i + 1) cap) (i + 1) (((I ++ [b]).map qR).map (Value.float .f32))) := (by show w5.ownsRow _ _ _ _ _ _; rw [HP0.out]; exact hown1); have HO8n := Lib.hid ((HO8.out.alloc _).kept hg1 (.inr (ownNe (fun e => h78 e.symm)))); have HBn := Lib.hid (below_app HB.out hsz hg1 HO7.out); have hgn := blockNe hat h78 (by omega); have hs6 : wr.heap.size + 1 ≤ w5.heap.size := (by have := hg1.size; simpa using this); have h8n : g8 < w5.heap.size := (by omega); have h7n := own_block HO7n.out; clear hown1 hg1 hat))
      go_upto_region 14 with (first | (at_builtin; go_must (refine wpList_append_lies _ rfl _ _ 27 rfl w9.heap.size 29 i0 _ 1 4 Try.underlying27 hi hz0 hz1 hz2 rfl (by omega) (.slice (some ⟨g8, 0, none⟩) i c8) i ((List.replicate i fOne).map (Value.float .f32)) rfl (HO8n.out.alloc _) ⟨w5.heap.size, 0, none⟩ 1 1 [.float .f32 1065353216] rfl rfl (new1 _ _ _) (one1 rfl) (by omega) (by unfold maxLen; omega) (by omega) (by simp; omega) (w5.heap.size + 1) (by simp) ?_); intro gh caq w6 hown1 hg1 hat hlt6; have HO8m : Hid (w6.ownsRow w9.heap.size 29 1 (.slice (some ⟨gh, 0, none⟩) (i + 1) caq) (i + 1) ((List.replicate (i + 1) fOne).map (Value.float .f32))) := (by show w6.ownsRow _ _ _ _ _ _; rw [HP1.out]; exact hown1); have HO7m := Lib.hid ((HO7n.out.alloc _).kept hg1 (.inr (ownNe hgn))); have HBm := Lib.hid (below_app HBn.out (by omega) hg1 HO8n.out); have hgm := blockNe hat (fun e => hgn e.symm) (show ga < _ by omega); have hs7 : w5.heap.size + 1 ≤ w6.heap.size := (by have := hg1.size; simpa using this); clear hown1 hg1 hat))
      go_wp2_with (simp only [hop2, hop3])
      go_roundw
      case rel => exact ⟨i + 1, I ++ [b], ga, cap, gh, caq, by omega, HIl.out, HI', by go_num, rfl, rfl, by rw [List.map_append]; rfl, fun e => hgm e.symm, HO7m.out, HO8m.out, HBm.out⟩
      case measure => simp [intOf]; omega
    · obtain rfl : p = i := by omega
      generalize hwz : wr = wZ at *
      clear hwz
      obtain ⟨v, hR⟩ := qR_rv HI.out
      rw [hIl] at hR
      obtain ⟨j0, j1, hj0, hj1, hq0, hq1⟩ := qR_two hIl hp2 HI.out
      have HR0 := Lib.hid (show Floats wZ (some ⟨g7, 0, none⟩) p c7 (I.map qR) from Rd.own HO7.out)
      have HO0 := Lib.hid (show Floats wZ (some ⟨g8, 0, none⟩) p c8 (List.replicate p fOne) from Rd.own HO8.out)
      have HG0 := Lib.hid (Trips.mono HG9.out HB.out)
      have HBz := Lib.hid (HB9.out.trans (HB.out.mono hs9))
      have hs0 := HBz.out.size
      obtain ⟨_, _, hcell7⟩ := HR0.out.at 0
      obtain ⟨bq, oq, eq7, hbq, hxq⟩ := hcell7 0 (by omega)
      cases eq7
      have r0 := hxq 0 (by omega)
      have r1 := hxq 1 (by omega)
      rw [hq0] at r0
      rw [hq1] at r1
      simp only [Nat.zero_add] at r0 r1
      have HXq := Lib.hid hxq
      clear hxq hcell7 HO7 HO8 HG9 HB9 HB hq0 hq1 hs9 h7 h8 h78 HI hIl hsz
      generalize I.map qR = R at *
      have hok := okGames_of (p := p) (gs := gs) hp2 (by omega) (by rw [HGl.out]; omega) HAll.out
      have hl8 : gs.length ≤ 8 := by rw [HGl.out]; exact hk8
      have C1 := Lib.hid (fun W (hW : Below wZ.heap.size wZ W) => implRateGames_ops (some ⟨g7, 0, none⟩) p c7 R v (some ⟨gg, 0, none⟩) k cg gs W (Row.mono HR0.out hW) (Trips.mono HG0.out hW) hR hok hl8)
      have C2 := Lib.hid (fun W (hW : Below wZ.heap.size wZ W) => specRateGames_ops (some ⟨g7, 0, none⟩) p c7 R v (some ⟨gg, 0, none⟩) k cg gs W (Row.mono HR0.out hW) (Trips.mono HG0.out hW) hR hok hl8)
      have C3 := Lib.hid (fun (bm om cm : Nat) (wk : Int) W (hW : Below wZ.heap.size wZ W) hm0 hm1 hcm hk1 hk2 => implRateShared_ops (some ⟨g7, 0, none⟩) p c7 R v (some ⟨gg, 0, none⟩) k cg gs bm om cm wk W (Row.mono HR0.out hW) (Trips.mono HG0.out hW) hR hok hl8 hm0 hm1 hcm hk1 hk2)
      have C4 := Lib.hid (fun W (hW : Below wZ.heap.size wZ W) => implAreGames_any (p : Int) (some ⟨gg, 0, none⟩) k cg gs W (Trips.mono HG0.out hW))
      rw [hok] at C4
      have C5 := Lib.hid (fun W (hW : Below wZ.heap.size wZ W) => implSameGames_any (some ⟨gg, 0, none⟩) k cg gs (some ⟨gg, 0, none⟩) k cg gs W (Trips.mono HG0.out hW) (Trips.mono HG0.out hW))
      rw [show decide (gs = gs) = true from decide_eq_true rfl] at C5
      have C6 := Lib.hid (fun W (hW : Below wZ.heap.size wZ W) => implScoresOf_any (p : Int) (some ⟨gg, 0, none⟩) k cg gs W (Trips.mono HG0.out hW))
      rw [scoresRes_ok hok] at C6
      have C7 := Lib.hid (fun W (hW : Below wZ.heap.size wZ W) => implMetOf_any (p : Int) (some ⟨gg, 0, none⟩) k cg gs W (Trips.mono HG0.out hW))
      rw [metRes_ok hok] at C7
      obtain ⟨L, s, hfit, hS⟩ := fitRes_ok HAll.out hl8 hp2 hp6
      have C8 := Lib.hid (fun W (hW : Below wZ.heap.size wZ W) => implFitStrengths_any (p : Int) (some ⟨gg, 0, none⟩) k cg gs 20 W (Trips.mono HG0.out hW))
      have C9 := Lib.hid (fun W (hW : Below wZ.heap.size wZ W) => specFitStrengths_any (p : Int) (some ⟨gg, 0, none⟩) k cg gs 20 W (Trips.mono HG0.out hW))
      rw [hfit] at C8 C9
      obtain ⟨lx, l, hlik, glx, hl0, hl1⟩ := likRes_ok hS HAll.out hl8 hp2 hp6
      have C10 := Lib.hid (fun (a : Option Addr) (c : Nat) W (h0 : Floats W a p c L) (hW : Below wZ.heap.size wZ W) => implLikeOfGames_any a p c L (some ⟨gg, 0, none⟩) k cg gs W h0 (Trips.mono HG0.out hW))
      have C11 := Lib.hid (fun (a : Option Addr) (c : Nat) W (h0 : Floats W a p c L) (hW : Below wZ.heap.size wZ W) => specLikeOfGames_any a p c L (some ⟨gg, 0, none⟩) k cg gs W h0 (Trips.mono HG0.out hW))
      rw [hlik] at C10 C11
      obtain ⟨ly, m, hone, gly, hm1, hm2⟩ := likRes_ones HAll.out hl8 hp2 hp6
      have C12 := Lib.hid (fun W (hW : Below wZ.heap.size wZ W) => implLikeOfGames_any (some ⟨g8, 0, none⟩) p c8 (List.replicate p fOne) (some ⟨gg, 0, none⟩) k cg gs W (Row.mono HO0.out hW) (Trips.mono HG0.out hW))
      rw [hone] at C12
      dsimp only at C6 C7 C8 C9 C10 C11 C12
      obtain ⟨hf1, hf2, hf3, hf4, hf5⟩ := law_flip hj0 hj1
      obtain ⟨ht1, ht2⟩ := law_total hR HAll.out hl8 hp6
      have hTal := tal_all HAll.out
      obtain ⟨ha1, B1, ha2, ha3⟩ := law_all hS hp2 hp6
      rw [HGl.out] at hm1 hm2
      obtain ⟨hy1, M2, A2, B2, hy2, hy3, hy4, hy5⟩ := law_flat gly hk8 hm1 hm2
      have hlo : Ieee.single.order lx 981668463 = some .lt := vr_lt glx kS001 (by grind)
      have HNr := Lib.hid (rated_num hR HAll.out hl8)
      have HRv := Lib.hid hR
      have HRl : Hid ((rateL R gs gs.length).length = p) := by show _ = _; exact (rateL_len _ _ _).trans hR.len
      have HTal := Lib.hid hTal
      have HS := Lib.hid hS
      have HNl := Lib.hid (vr_num glx)
      have HT1 := Lib.hid ht1
      have HA1 := Lib.hid ha1
      have HPI := Lib.hid (fun (sc : Nat) (q : Rat) W (hW : Below wZ.heap.size wZ W) hq h1 h2 => implPerformanceOf_ops (some ⟨g7, 0, none⟩) p c7 R v sc q W (Row.mono HR0.out hW) hR (by omega) hp6 hq h1 h2)
      have HPS := Lib.hid (fun (sc : Nat) (q : Rat) W (hW : Below wZ.heap.size wZ W) hq h1 h2 => specPerformanceOf_ops (some ⟨g7, 0, none⟩) p c7 R v sc q W (Row.mono HR0.out hW) hR (by omega) hp6 hq h1 h2)
      have HF1 := Lib.hid (fun W => implExpectOf_ops hf1 W)
      have hf1' := (law_flip hj1 hj0).1
      have HF2 := Lib.hid (fun W => implExpectOf_ops hf1' W)
      have opF2 := Lib.hid (hop_conv hf2)
      have opF3 := Lib.hid (hop_conv hf3)
      have opF4 := Lib.hid (hop_add hf4)
      have HF5 := Lib.hid hf5
      have HT2 := Lib.hid ht2
      have HA2 := Lib.hid ha2
      have HA3 := Lib.hid ha3
      have opY1 := Lib.hid (hop_conv hy1)
      have opY2 := Lib.hid (hop_mul hy2)
      have opY3 := Lib.hid (hop_add hy3)
      have opY4 := Lib.hid (hop_mul hy4)
      have HY5 := Lib.hid hy5
      have HLo := Lib.hid hlo
      clear hf1 hf1' hf2 hf3 hf4 hf5 ht1 ht2 hTal ha1 ha2 ha3 hy1 hy2 hy3 hy4 hy5 hlo hR hS glx gly hl0 hl1 hm1 hm2 hok hl8 hfit hlik hone hj0 hj1 HR0 HO0 HG0
      generalize rateL R gs gs.length = T at *
      have HN0 := Lib.hid (HNr.out 0 (by omega))
      generalize hTx : T.getD 0 0 = tx at *
      generalize tally scorePs p gs = sc at *
      generalize tally (metPs p) (p * p) gs = mt at *
      generalize eW (qR j0) (qR j1) = E0 at *
      generalize eW (qR j1) (qR j0) = E1 at *
      generalize aW (cW E0) (cW E1) = E2 at *
      generalize cW E0 = E3 at *
      generalize cW E1 = E4 at *
      generalize qR j0 = y0 at *
      generalize qR j1 = y1 at *
      generalize cW ly = ly2 at *
      generalize sumW R p = sR at *
      clear I
      go_wp2_with (fail)
      refine (C1.out _ (Below.refl _ _)).mono ?_
      rintro e w2 ⟨gT, cT, rfl, hb2, ho2⟩
      have HD2 := Lib.hid hb2
      have HT0 := Lib.hid (show Floats w2 (some ⟨gT, 0, none⟩) p cT T from Rd.own ho2)
      clear hb2 ho2 C1
      go_wp2_with (fail)
      refine (C2.out _ HD2.out).mono ?_
      rintro e w3 ⟨gU, cU, rfl, hb3, ho3⟩
      have HD3 := Lib.hid (HD2.out.trans (hb3.mono HD2.out.size))
      have HU0 := Lib.hid (show Floats w3 (some ⟨gU, 0, none⟩) p cU T from Rd.own ho3)
      have HT3 := Lib.hid (Row.mono HT0.out hb3)
      clear hb3 ho3 C2 HD2 HT0
      have k0 := cell_on HD3.out r0
      have k1 := cell_on HD3.out r1
      clear r0 r1
      have hpp0 : 0 < p := by omega
      have hpp1 : (1 : Int) < (p : Int) := by omega
      have hpp2 : (0 : Int) < (p : Int) := by omega
      have hpp3 : 1 < p := by omega
      go_upto_region 17 with fail
      go_region_held3 (fun W => W.cell? ⟨g7, 0, none⟩ = some (.float .f32 y0) ∧ W.cell? ⟨g7, 1, none⟩ = some (.float .f32 y1)) (first | exact ⟨k0, k1⟩ | exact ⟨z0, z1⟩ | go_keep)
        (first | (go_at_call 9; refine (HF1.out _).mono ?_; rintro e w4 ⟨rfl, hb4⟩; have z0 := cell_on hb4 k0; have z1 := cell_on hb4 k1))
      have hb4' : Below w3.heap.size w3 w4 := ((Quiet.refl w3).drewN _).b.trans (hb4.mono (Nat.le_refl _))
      have HD4 := Lib.hid (HD3.out.trans (hb4'.mono HD3.out.size))
      have HT4 := Lib.hid (Row.mono HT3.out hb4')
      have HU4 := Lib.hid (Row.mono HU0.out hb4')
      clear hb4 k0 k1
      have k0 := z0
      have k1 := z1
      clear z0 z1 hb4' HD3 HT3 HU0 HF1
      go_upto_region 18 with fail
      go_region_held3 (fun W => W.cell? ⟨g7, 0, none⟩ = some (.float .f32 y0) ∧ W.cell? ⟨g7, 1, none⟩ = some (.float .f32 y1)) (first | exact ⟨k0, k1⟩ | exact ⟨z0, z1⟩ | go_keep)
        (first | (go_at_call 9; refine (HF2.out _).mono ?_; rintro e w5 ⟨rfl, hb5⟩; have z0 := cell_on hb5 k0; have z1 := cell_on hb5 k1))
      have hb5' : Below w4.heap.size w4 w5 := ((Quiet.refl w4).drewN _).b.trans (hb5.mono (Nat.le_refl _))
      have HD5 := Lib.hid (HD4.out.trans (hb5'.mono HD4.out.size))
      have HT5 := Lib.hid (Row.mono HT4.out hb5')
      have HU5 := Lib.hid (Row.mono HU4.out hb5')
      clear hb5 k0 k1 z0 z1 hb5' HD4 HT4 HU4 HF2
      have hAl : Below w5.heap.size w5 (w5.alloc (.cells #[.slice (some ⟨gg, 0, none⟩) k cg, .slice (some ⟨gg, 0, none⟩) k cg] 25)) := (Below.refl _ _).alloc (Nat.le_refl _) _
      have HD6 := Lib.hid (HD5.out.trans (hAl.mono HD5.out.size))
      have HT6 := Lib.hid (Row.mono HT5.out hAl)
      have HU6 := Lib.hid (Row.mono HU5.out hAl)
      clear hAl HT5 HU5 HD5
      go_wp2_with (fail)
      refine (CB.out 8 8 _ (HBz.out.trans (HD6.out.mono hs0)) (by omega) (by omega) (by omega) (by omega)).mono ?_
      rintro e w6 ⟨z, rfl, hzl, hzh, hwe⟩
      have hm0 : w6.cell? ⟨w5.heap.size, 0, none⟩ = some (.slice (some ⟨gg, 0, none⟩) k cg) := by subst hwe; go_simp
      have hm1 : w6.cell? ⟨w5.heap.size, 0 + 1, none⟩ = some (.slice (some ⟨gg, 0, none⟩) k cg) := by subst hwe; go_simp
      rw [hwe] at HD6 HT6 HU6
      clear hwe
      have hw3 : IntKind.i64.wrap (1 + z) = 1 + z := IntWalk.i64_in _ (by omega)
      go_wp2_with (fail)
      refine (C3.out w5.heap.size 0 2 (1 + z) _ HD6.out hm0 hm1 (by omega) (by omega) (by omega)).mono ?_
      rintro e w7 ⟨gS, cS, rfl, hb7, ho7⟩
      have HS7 := Lib.hid (show Floats w7 (some ⟨gS, 0, none⟩) 2 cS [tx, tx] from Rd.own ho7)
      have HD7 := Lib.hid (HD6.out.trans (hb7.mono HD6.out.size))
      have HT7 := Lib.hid (Row.mono HT6.out hb7)
      have HU7 := Lib.hid (Row.mono HU6.out hb7)
      clear hb7 ho7 C3 HD6 HT6 HU6 hm0 hm1 hw3 hzl hzh
      have K4 := Lib.hid (fun W (hW : Below w7.heap.size w7 W) => C4.out W (HD7.out.trans (hW.mono HD7.out.size)))
      have K5 := Lib.hid (fun W (hW : Below w7.heap.size w7 W) => C5.out W (HD7.out.trans (hW.mono HD7.out.size)))
      have KL := Lib.hid (fun W (hW : Below w7.heap.size w7 W) => b10List_num (some ⟨gT, 0, none⟩) p cT T (some ⟨gU, 0, none⟩) p cU W (Row.mono HT7.out hW) (Row.mono HU7.out hW) HNr.out)
      have s0 := floats_cell HS7.out 0 (by omega)
      have s1 := floats_cell HS7.out 1 (by omega)
      have t0 := floats_cell HT7.out 0 (by omega)
      rw [hTx] at t0
      rw [show [tx, tx].getD 0 0 = tx from rfl] at s0
      rw [show [tx, tx].getD 1 0 = tx from rfl] at s1
      have CN := Lib.hid (fun W => sameNumber_num HN0.out W)
      have hfm : FloatKind.f64.format = Ieee.double := rfl
      have opF2' := opF2.out
      have opF3' := opF3.out
      have opF4' := opF4.out
      obtain ⟨gr, hg1, hg2⟩ := HF5.out
      have Hg1 := Lib.hid hg1
      clear hg1 opF2 opF3 opF4 HF5 C4 C5
      go_upto_region 20 with fail
      go_cut [195] from 126 to 195 (fun v wz => v = .bool false ∧ Below w7.heap.size w7 wz)
      case first => as_aux_lemma =>
        simp only [List.append]
        go_region_held3 (fun W => W.cell? ⟨gS, 0, none⟩ = some (.float .f32 tx) ∧ W.cell? ⟨gS, 1, none⟩ = some (.float .f32 tx) ∧ W.cell? ⟨gT, 0, none⟩ = some (.float .f32 tx)) (first | exact ⟨s0, s1, t0⟩ | exact ⟨e0, e1, e2⟩ | exact ⟨d0, d1, d2⟩ | exact ⟨b0, b1, b2⟩ | go_keep)
          (first
            | (go_at_call 11; refine (K4.out _ (by first | exact Below.refl _ _ | exact below_drewN (Below.refl _ _) _)).mono ?_; rintro e wA ⟨rfl, hA⟩; have hA' : Below w7.heap.size w7 wA := (by first | exact hA | exact (below_drewN (Below.refl _ _) _).trans (hA.mono (Nat.le_refl _))); have b0 := cell_on hA' s0; have b1 := cell_on hA' s1; have b2 := cell_on hA' t0)
            | (go_at_call 12; refine (K5.out _ (by first | exact hA' | exact below_drewN hA' _)).mono ?_; rintro e wB ⟨rfl, hq⟩; have hB' : Below w7.heap.size w7 wB := (by first | exact hA'.trans (hq.below _) | exact (below_drewN hA' _).trans (hq.below _)); have d0 := cell_on hB' s0; have d1 := cell_on hB' s1; have d2 := cell_on hB' t0; clear hq)
            | (go_at_call 13; refine (KL.out _ (by first | exact hB' | exact below_drewN hB' _)).mono ?_; rintro e wC ⟨rfl, hq⟩; have hC' : Below w7.heap.size w7 wC := (by first | exact hB'.trans (hq.below _) | exact (below_drewN hB' _).trans (hq.below _)); have e0 := cell_on hC' s0; have e1 := cell_on hC' s1; have e2 := cell_on hC' t0; clear hq)
            | (go_at_call 14; refine (Hg1.out _).mono ?_; rintro e wD ⟨rfl, rfl⟩)
            | (go_at_call 15; refine (CN.out _).mono ?_; rintro e wD ⟨rfl, rfl⟩)
            | (simp only [opF2', opF3', opF4']))
        go_wp2
        go_meet
        case rel => exact ⟨rfl, hC'⟩
      case rest =>
      obtain ⟨rfl, hC'⟩ := hcut
      have HDb := Lib.hid (HD7.out.trans (hC'.mono HD7.out.size))
      have HTb := Lib.hid (Row.mono HT7.out hC')
      clear s0 s1 t0 hC' CN Hg1 hg2 opF2' opF3' opF4' HS7 HT7 HU7 HD7 K4 K5 KL HN0 hTx hpp0 hpp1 hpp2 hpp3
      go_wp2_with (fail)
      generalize hwb : wc = wb at *
      clear hwb
      go_loopw [22, 198] (fun vs vi wz => ∃ i : Nat, i ≤ p ∧ vi = .int .i64 i ∧ vs = .float .f64 (sumW T i) ∧ wz = wb) (fun _ vi _ => p - (intOf vi).toNat)
      case atStart => exact ⟨0, by omega, rfl, rfl, rfl⟩
      case round =>
        obtain ⟨i, hi, rfl, rfl, rfl⟩ := hrel
        by_cases hli : i < p
        · have t0 := floats_cell HTb.out i hli
          have op1 := hop_conv (HT1.out.cv i hli)
          have op2 := hop_add (HT1.out.ad i hli)
          generalize cW (T.getD i 0) = cx at *
          generalize T.getD i 0 = x at *
          generalize sumW T i = u0 at *
          go_wp2_with (simp only [op1, op2])
          go_roundw
          case rel => exact ⟨i + 1, by omega, by go_num, rfl, trivial⟩
          case measure => simp [intOf]; omega
        · obtain rfl : p = i := by omega
          clear HTb HT1 HNr
          generalize sumW T p = sT at *
          go_wp2_with (fail)
          refine (C6.out _ HDb.out).mono ?_
          rintro e we ⟨sa, sn, sk, rfl, hbe, hoe⟩
          have HSe := Lib.hid (show Ints we sa sn sk sc from Rd.own hoe)
          have HDe := Lib.hid (HDb.out.trans (hbe.mono HDb.out.size))
          clear hbe hoe C6 HDb
          go_wp2_with (fail)
          refine (C7.out _ HDe.out).mono ?_
          rintro e wf ⟨ma, mn, mk, rfl, hbf, hof⟩
          have HMf := Lib.hid (show Ints wf ma mn mk mt from Rd.own hof)
          have HSf := Lib.hid (Ints.mono HSe.out hbf)
          have HDf := Lib.hid (HDe.out.trans (hbf.mono HDe.out.size))
          clear hbf hof C7 HDe HSe
          go_wp2_with (fail)
          refine (C8.out _ HDf.out).mono ?_
          rintro e wg ⟨la, ln, lc, rfl, hbg, hog⟩
          have hln : p = ln := by have := hog.1; rw [List.length_map, HS.out.len] at this; omega
          subst hln
          obtain ⟨gl, rfl⟩ := own_some hog (by omega)
          have HLg := Lib.hid (show Floats wg (some ⟨gl, 0, none⟩) p lc L from Rd.own hog)
          have HMg := Lib.hid (Ints.mono HMf.out hbg)
          have HSg := Lib.hid (Ints.mono HSf.out hbg)
          have HDg := Lib.hid (HDf.out.trans (hbg.mono HDf.out.size))
          clear hbg hog C8 HDf HMf HSf
          go_wp2_with (fail)
          refine (C9.out _ HDg.out).mono ?_
          rintro e wh ⟨fa, fn, fc, rfl, hbh, hoh⟩
          have hfn : p = fn := by have := hoh.1; rw [List.length_map, HS.out.len] at this; omega
          subst hfn
          have HFh := Lib.hid (show Floats wh fa p fc L from Rd.own hoh)
          have HLh := Lib.hid (Row.mono HLg.out hbh)
          have HMh := Lib.hid (Ints.mono HMg.out hbh)
          have HSh := Lib.hid (Ints.mono HSg.out hbh)
          have HDh := Lib.hid (HDg.out.trans (hbh.mono HDg.out.size))
          clear hbh hoh C9 HDg HMg HSg HLg
          have K10 := Lib.hid (fun W (hW : Below wh.heap.size wh W) => C10.out (some ⟨gl, 0, none⟩) lc W (Row.mono HLh.out hW) (HDh.out.trans (hW.mono HDh.out.size)))
          have K11 := Lib.hid (fun W (hW : Below wh.heap.size wh W) => C11.out (some ⟨gl, 0, none⟩) lc W (Row.mono HLh.out hW) (HDh.out.trans (hW.mono HDh.out.size)))
          have K12 := Lib.hid (fun W (hW : Below wh.heap.size wh W) => C12.out W (HDh.out.trans (hW.mono HDh.out.size)))
          clear C10 C11 C12
          go_wp2_with (fail)
          refine (K10.out _ (Below.refl _ _)).mono ?_
          rintro e wi ⟨rfl, hbi⟩
          have HE := Lib.hid hbi
          clear hbi K10
          go_wp2_with (fail)
          refine (K11.out _ HE.out).mono ?_
          rintro e wj ⟨rfl, hbj⟩
          have HE2 := Lib.hid (HE.out.trans (hbj.mono HE.out.size))
          clear hbj K11 HE
          go_wp2_with (fail)
          refine (K12.out _ HE2.out).mono ?_
          rintro e wk ⟨rfl, hbk⟩
          have HE3 := Lib.hid (HE2.out.trans (hbk.mono HE2.out.size))
          clear hbk K12 HE2
          have KS := Lib.hid (fun W (hW : Below wh.heap.size wh W) => b10Sum_any sa sn sk sc W (Ints.mono HSh.out hW) HTal.out.sn (by rw [HTal.out.ss, HGl.out]; omega))
          have KM := Lib.hid (fun W (hW : Below wh.heap.size wh W) => b10Sum_any ma mn mk mt W (Ints.mono HMh.out hW) HTal.out.mn (by rw [HTal.out.ms, HGl.out]; omega))
          rw [HTal.out.ss, HGl.out] at KS
          rw [HTal.out.ms, HGl.out] at KM
          have KL := Lib.hid (fun W (hW : Below wh.heap.size wh W) => b10List_num (some ⟨gl, 0, none⟩) p lc L fa p fc W (Row.mono HLh.out hW) (Row.mono HFh.out hW) (fun i hi => vr_num (HS.out.vr i hi)))
          have KN := Lib.hid (fun W => sameNumber_num HNl.out W)
          obtain ⟨r1, hg1, hg2⟩ := HT2.out
          have Hg1 := Lib.hid hg1
          obtain ⟨r2, hh1, hh2⟩ := HY5.out
          have Hh1 := Lib.hid hh1
          clear hg1 hh1
          go_upto_region 35 with fail
          go_cut [329] from 251 to 329 (fun v wz => v = .bool false ∧ Below wh.heap.size wh wz)
          case first => as_aux_lemma =>
            have hfm : FloatKind.f64.format = Ieee.double := rfl
            have hfm2 : FloatKind.f32.format = Ieee.single := rfl
            have hlo := HLo.out
            have hw5 : IntKind.i64.wrap (2 * (k : Int)) = 2 * (k : Int) := IntWalk.i64_in _ (by omega)
            have op1 := opY1.out
            have op2 := opY2.out
            have op3 := opY3.out
            have op4 := opY4.out
            go_wp2_with (fail)
            refine (Hg1.out _).mono ?_
            rintro e wl ⟨rfl, rfl⟩
            go_wp2_with (fail)
            refine (KS.out _ HE3.out).mono ?_
            rintro e wl ⟨rfl, rfl⟩
            go_wp2_with (fail)
            refine (KM.out _ HE3.out).mono ?_
            rintro e wl ⟨rfl, rfl⟩
            go_wp2_with (fail)
            refine (KL.out _ HE3.out).mono ?_
            rintro e wl ⟨rfl, hq⟩
            have HE4 := Lib.hid (HE3.out.trans (hq.b.mono HE3.out.size))
            clear hq
            go_wp2_with (fail)
            refine (KN.out _).mono ?_
            rintro e wm ⟨rfl, rfl⟩
            go_wp2_with (simp only [op1, op2, op3, op4])
            refine (Hh1.out _).mono ?_
            rintro e wm ⟨rfl, rfl⟩
            go_wp2_with (simp only [op1, op2, op3, op4])
            go_meet
            case rel => exact ⟨rfl, HE4.out⟩
          case rest =>
          obtain ⟨rfl, hC'⟩ := hcut
          have HDl := Lib.hid (HDh.out.trans (hC'.mono HDh.out.size))
          have HLl := Lib.hid (Row.mono HLh.out hC')
          clear hC' KS KM KL KN Hg1 hg2 Hh1 hh2 HDh HLh HE3 HMh HSh HFh HTal HNl HLo HT2 HY5 opY1 opY2 opY3 opY4
          go_wp2_with (fail)
          generalize hwl : wc = wl at *
          clear hwl
          go_loopw [38, 332] (fun vs vi wz => ∃ i : Nat, i ≤ p ∧ vi = .int .i64 i ∧ vs = .float .f64 (sumW L i) ∧ wz = wl) (fun _ vi _ => p - (intOf vi).toNat)
          case atStart => exact ⟨0, by omega, rfl, rfl, rfl⟩
          case round =>
            obtain ⟨i, hi, rfl, rfl, rfl⟩ := hrel
            have hfm2 : FloatKind.f32.format = Ieee.single := rfl
            by_cases hli : i < p
            · have t0 := floats_cell HLl.out i hli
              have op1 := hop_conv (HA1.out.cv i hli)
              have op2 := hop_add (HA1.out.ad i hli)
              have hgt : Ieee.single.order (L.getD i 0) 0 = some .gt := vr_gt (HS.out.vr i hli) zero32 (HS.out.pos i hli)
              generalize cW (L.getD i 0) = cx at *
              generalize L.getD i 0 = x at *
              generalize sumW L i = u0 at *
              go_wp2_with (simp only [op1, op2])
              go_roundw
              case rel => exact ⟨i + 1, by omega, by go_num, rfl, trivial⟩
              case measure => simp [intOf]; omega
            · obtain rfl : p = i := by omega
              clear HLl HA1 HS
              generalize sumW L p = sL at *
              have hw6 : IntKind.i64.wrap (2 * (p : Int)) = 2 * (p : Int) := IntWalk.i64_in _ (by omega)
              have hw7 : IntKind.i64.wrap (2 * (p : Int) - 1) = 2 * (p : Int) - 1 := IntWalk.i64_in _ (by omega)
              go_wp2_with (fail)
              refine (CB.out 9 (2 * (p : Int) - 1) _ (HBz.out.trans (HDl.out.mono hs0)) (by omega) (by omega) (by omega) (by omega)).mono ?_
              rintro e w6 ⟨z, rfl, hzl, hzh, rfl⟩
              obtain ⟨y, rfl⟩ : ∃ y : Nat, z = y := ⟨z.toNat, by omega⟩
              obtain ⟨ho1, q, hq0, hq1, hq2⟩ := scW_ok (p := p) (y := y) hp6 (by omega)
              have hw8 : IntKind.i64.wrap (1 + (y : Int)) = 1 + (y : Int) := IntWalk.i64_in _ (by omega)
              have op1 := hop_quo ho1
              unfold fI at op1
              have KI := Lib.hid (fun W hW => HPI.out (scW y) q W hW hq0 hq1 hq2)
              have KS := Lib.hid (fun W hW => HPS.out (scW y) q W hW hq0 hq1 hq2)
              obtain ⟨hN, hEx, hEl, hSo, hcs, B3, hmu, hgp⟩ := law_exp HRv.out hp2 hp6 hq0 hq1 hq2
              have HN := Lib.hid hN
              have HEx := Lib.hid hEx
              have HEl := Lib.hid hEl
              have HSo := Lib.hid hSo
              have opS := Lib.hid (hop_conv hcs)
              have opB := Lib.hid (hop_mul hmu)
              have HGp := Lib.hid hgp
              clear hN hEx hEl hSo hcs hmu hgp HPI HPS ho1 hq0 hq1 hq2 HRv
              generalize midB R (scW y) 24 = M at *
              generalize scW y = sy at *
              go_wp2_with (simp only [op1])
              refine (KI.out _ HDl.out).mono ?_
              rintro e wn ⟨rfl, hbn⟩
              have HDn := Lib.hid (HDl.out.trans (hbn.mono HDl.out.size))
              clear hbn KI HDl
              go_wp2_with (fail)
              refine (KS.out _ HDn.out).mono ?_
              rintro e wo ⟨rfl, hbo⟩
              have HDo := Lib.hid (HDn.out.trans (hbo.mono HDn.out.size))
              clear hbo KS HDn
              have hfm : FloatKind.f64.format = Ieee.double := rfl
              have KN := Lib.hid (fun W => sameNumber_num HN.out W)
              obtain ⟨r1, hg1, hg2⟩ := HA3.out
              have Hg1 := Lib.hid hg1
              have op2 := hop_mul HA2.out
              clear hg1 HN
              go_wp2_with (fail)
              refine (KN.out _).mono ?_
              rintro e wp' ⟨rfl, rfl⟩
              go_wp2_with (fail)
              refine (Hg1.out _).mono ?_
              rintro e wp' ⟨rfl, rfl⟩
              go_wp2_with (simp only [op2])
              clear KN Hg1 hg2 op2 HA2 HA3
              go_loopw [45, 392] (fun vs vi wz => ∃ i : Nat, i ≤ p ∧ vi = .int .i64 i ∧ vs = .float .f64 (sumW (eL R M) i) ∧ Below wZ.heap.size wZ wz) (fun _ vi _ => p - (intOf vi).toNat)
              case atStart => exact ⟨0, by omega, rfl, rfl, HDo.out⟩
              case round =>
                clear HDo
                obtain ⟨i, hi, rfl, rfl, hb⟩ := hrel
                have HB := Lib.hid hb
                have hsz := hb.size
                by_cases hli : i < p
                · have t0 := cell_on hb (HXq.out i hli)
                  simp only [Nat.zero_add] at t0
                  have CE := Lib.hid (fun W => specExpectOf_ops (HEx.out i hli) W)
                  have h1 := HSo.out.cv i hli
                  have h2 := HSo.out.ad i hli
                  rw [HEl.out i hli] at h1 h2
                  have op1 := hop_conv h1
                  have op2 := hop_add h2
                  clear h1 h2 hb
                  generalize R.getD i 0 = x at *
                  generalize eW M x = E at *
                  generalize cW E = cx at *
                  generalize sumW (eL R M) i = u0 at *
                  go_wp2_with (fail)
                  refine (CE.out _).mono ?_
                  rintro e wq ⟨rfl, hbq⟩
                  have HBq := Lib.hid (HB.out.trans (hbq.mono HB.out.size))
                  clear hbq HB CE
                  go_wp2_with (simp only [op1, op2])
                  go_roundw
                  case rel => exact ⟨i + 1, by omega, by go_num, rfl, HBq.out⟩
                  case measure => simp [intOf]; omega
                · obtain rfl : p = i := by omega
                  have HBw := Lib.hid (HBz.out.trans (HB.out.mono hs0))
                  clear hb HB
                  have op1 := opS.out
                  have op2 := opB.out
                  obtain ⟨r2, hg1, hg2⟩ := HGp.out
                  have Hg1 := Lib.hid hg1
                  clear hg1
                  generalize sumW (eL R M) p = sE at *
                  go_wp2_with (simp only [op1, op2])
                  refine (Hg1.out _).mono ?_
                  rintro e wv ⟨rfl, rfl⟩
                  go_wp2_with (simp only [op1, op2])
                  go_ret
                  exact ⟨rfl, HBw.out⟩

end Go.Proofs.Ytcflgmjjomiejaa
