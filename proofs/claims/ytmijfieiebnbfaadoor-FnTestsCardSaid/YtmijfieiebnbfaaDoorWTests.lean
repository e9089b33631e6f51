/- The law FnTests returns true: its walk. -/
import Derived.Test.YtmijfieiebnbfaaDoorFtA
import Derived.Test.YtmijfieiebnbfaaDoorB10
import Derived.Test.YtmijfieiebnbfaaDoorCountPass
import Derived.Deep.RegionHeld3
namespace Go.Proofs.YtmijfieiebnbfaaDoor
open Go.RowKit
set_option linter.unusedVariables false
set_option linter.unusedSimpArgs false

theorem Trips.at0 {w : World} {g n c : Nat} {gs : List T3} (h : Trips w (some ⟨g, 0, none⟩) n c gs) (i : Nat) (hi : i < n) :
    w.cell? ⟨g, i * 3, none⟩ = some (.int .i64 (gs.getD i (0, 0, 0)).1) ∧ w.cell? ⟨g, i * 3 + 1, none⟩ = some (.int .i64 (gs.getD i (0, 0, 0)).2.1) ∧ w.cell? ⟨g, i * 3 + 2, none⟩ = some (.int .i64 (gs.getD i (0, 0, 0)).2.2) := by
  obtain ⟨_, _, hat⟩ := h.at
  obtain ⟨b, off, e, _, hx⟩ := hat i hi
  simp only [Option.some.injEq, Addr.mk.injEq] at e
  obtain ⟨rfl, rfl, _⟩ := e
  have := hx i hi
  rw [Nat.zero_add] at this
  exact this

set_option maxHeartbeats 12800000 in
set_option maxRecDepth 100000 in
theorem fnTests_walk (a0 : Option Addr) (n0 c0 : Nat) (x0 : List Int) (a1 : Option Addr) (n1 c1 : Nat) (x1 : List Int) (mx : Int) (w : World) (ok0 : okB x0) (v0 : Bytes w a0 n0 c0 x0) (ok1 : okB x1) (v1 : Bytes w a1 n1 c1 x1)
    (hmx : w.cell? ⟨0, 0, none⟩ = some (.int .i64 mx)) (htab : Lib.TabIs Tryd.prog w "internal/strconv.uint64pow10" .u64 Lib.pow10Tab) (es er : Value) (hE : ErrC w es er) :
    Calls Tryd.prog 5 #[.slice a0 n0 c0, .slice a1 n1 c1] w (Ret w (.bool true)) := by
  obtain ⟨hc0, hm0, _⟩ := v0.at 0
  obtain ⟨hc1, hm1, _⟩ := v1.at 0
  have C0 := b10Long_any a0 n0 c0 a1 n1 c1 w (by omega) (by omega)
  have CR := Lib.hid (b10Tests_any a0 n0 c0 x0 w v0 ok0)
  have CA := Lib.hid (fun (k m : Int) W (hW : Below w.heap.size w W) (h1 : 0 ≤ k) (h2 : k ≤ 1000) (h3 : 1 ≤ m) (h4 : m ≤ 1000) => b10At_any a1 n1 c1 x1 k m W (v1.mono hW) ok1 h1 h2 h3 h4)
  have HTab := Lib.hid (Lib.tabBelow_of_tabIs htab)
  have CRi : Hid (∀ (l : List UInt8), l.length ≤ 1048576 → ∀ W, Below w.heap.size w W → Calls Tryd.prog 12 #[.string (ofL l)] W (RtPost l W)) := fun l hl W hW => implReadTests_any l mx W hl (cell_on hW hmx) (hE.on hW) (HTab.out W hW)
  have CRs : Hid (∀ (l : List UInt8), l.length ≤ 1048576 → ∀ W, Calls Tryd.prog 11 #[.string (ofL l)] W (RtPost l W)) := fun l hl W => specReadTests_any l W hl
  clear v0 v1 ok0 ok1 hmx htab hE
  obtain ⟨i0, hii, hq0, hq1, hq2⟩ := info_parts infoI64
  rcases Bool.eq_false_or_eq_true (isLongB n0 n1) with e | e
  · rw [e] at C0
    have C0 := Lib.hid C0
    go_enter Tryd.func5, Tryd.ntmps5
    go_wp2_with (fail)
    refine C0.out.mono ?_
    rintro e w1 ⟨rfl, rfl⟩
    go_wp2
    go_ret
    exact ⟨rfl, Below.refl _ _⟩
  rw [e] at C0
  have C0 := Lib.hid C0
  clear e
  go_enter Tryd.func5, Tryd.ntmps5
  go_wp2_with (fail)
  refine C0.out.mono ?_
  rintro e w0 ⟨rfl, rfl⟩
  go_wp2_with (fail)
  refine CR.out.mono ?_
  rintro e w1 ⟨g, k, cc, gs, rfl, hb1, ho1, hk1, hk3, hok⟩
  have HT := Lib.hid (show Trips w1 (some ⟨g, 0, none⟩) k cc gs from Rd.own ho1)
  have HB := Lib.hid hb1
  have hlen := HT.out.len
  have hOk : okTests gs = true := ok_of_all (by omega) (by omega) hok
  have HOk := Lib.hid hOk
  have HOkA := Lib.hid hok
  have hcc := HT.out.2.1
  have hcm := HT.out.2.2.1
  have hsz1 := hb1.size
  have hRd : Hid (RdOk (txtL gs) gs) := ⟨hOk, rfl⟩
  have hzl := txtTo_len gs (fun q hq => by obtain ⟨_, _, h3, h4⟩ := okTest3_cases (hok q hq); omega) gs.length (Nat.le_refl _)
  have hla : (txtL gs).length ≤ 48 ∧ 6 ≤ (txtL gs).length := by
    refine ⟨by unfold txtL; omega, ?_⟩
    rw [txtL_join]
    cases gs with
    | nil => simp at hlen; omega
    | cons q r =>
      obtain ⟨x, y, z, rfl, _, _, _⟩ := test_nat (hok q (List.mem_cons_self ..))
      have := (tst_parts (x : Int) (y : Int) z).2.2.2
      rw [List.map_cons, Lib.join_cons, List.length_append]
      omega
  have CTi : Hid (∀ W, Below w1.heap.size w1 W → Calls Tryd.prog 9 #[.slice (some ⟨g, 0, none⟩) k cc] W (Ret W (.tuple #[.string (ofL (txtL gs)), .bool true]))) := fun W hW => by
    have := implTestText_any _ k cc gs W (Rd.mono HT.out hW) (HTab.out W (HB.out.trans (hW.mono hsz1)))
    rw [txtR_yes hOk] at this
    exact this
  have CTs : Hid (∀ W, Below w1.heap.size w1 W → Calls Tryd.prog 7 #[.slice (some ⟨g, 0, none⟩) k cc] W (Ret W (.tuple #[.string (ofL (txtL gs)), .bool true]))) := fun W hW => by
    have := specTestText_any _ k cc gs W (Rd.mono HT.out hW)
    rw [txtR_yes hOk] at this
    exact this
  have CPi : Hid (∀ (q : Nat), q ≤ 51 → ∀ W, Below w1.heap.size w1 W → Calls Tryd.prog 18 #[.slice (some ⟨g, 0, none⟩) k cc, .int .i64 (q : Int)] W (Ret W (.tuple #[.bool (gs.all (passT (q : Int))), .bool true]))) := fun q hq W hW => by
    have := implPassesTests_any _ k cc gs (q : Int) W (Rd.mono HT.out hW)
    rw [show passRes gs (q : Int) = (gs.all (passT (q : Int)), true) from if_pos (by rw [hOk, (inB_iff _ _ _).2 ⟨by omega, by omega⟩]; rfl)] at this
    exact this
  have CPs : Hid (∀ (q : Nat), q ≤ 51 → ∀ W, Below w1.heap.size w1 W → Calls Tryd.prog 19 #[.slice (some ⟨g, 0, none⟩) k cc, .int .i64 (q : Int)] W (Ret W (.tuple #[.bool (gs.all (passT (q : Int))), .bool true]))) := fun q hq W hW => by
    have := specPassesTests_any _ k cc gs (q : Int) W (Rd.mono HT.out hW)
    rw [show passRes gs (q : Int) = (gs.all (passT (q : Int)), true) from if_pos (by rw [hOk, (inB_iff _ _ _).2 ⟨by omega, by omega⟩]; rfl)] at this
    exact this
  have CCt : Hid (∀ (b d : Nat) W, Below w1.heap.size w1 W → Ints W (some ⟨b, 0, none⟩) 52 d (upto 52) → Calls Tryd.prog 20 #[.slice (some ⟨g, 0, none⟩) k cc, .slice (some ⟨b, 0, none⟩) 52 d] W (Ret W (.tuple #[.int .i64 (passCount gs (upto 52)), .bool true]))) := fun b d W hW hI => by
    have := implCountPassing_any _ k cc gs _ 52 d (upto 52) W (Rd.mono HT.out hW) hI
    rw [show countRes gs (upto 52) = (passCount gs (upto 52), true) from if_pos (by rw [hOk]; decide)] at this
    exact this
  clear ho1 hb1 hok hOk hzl C0 CR
  have hs := ofL_sz (txtL gs)
  generalize hla2 : txtL gs = la at *
  generalize hsa : ofL la = sa at *
  have HSa := Lib.hid hsa
  clear hsa hla2
  have hmm : (sa.toList == sa.toList) = true := by simp
  go_wp2_with (fail)
  refine (CTi.out _ (Below.refl _ _)).mono ?_
  rintro e w2 ⟨rfl, hb2⟩
  have HB2 := Lib.hid hb2
  clear hb2
  go_wp2_with (fail)
  refine (CTs.out _ HB2.out).mono ?_
  rintro e w3 ⟨rfl, hb3⟩
  have HB3 := Lib.hid (HB2.out.trans (hb3.mono HB2.out.size))
  clear hb3 HB2 CTi CTs
  have CR1 := CRi.out la (by omega) w3 (HB.out.trans (HB3.out.mono hsz1))
  rw [HSa.out] at CR1
  have CR1 := Lib.hid CR1
  go_wp2_with (fail)
  refine CR1.out.mono ?_
  rintro e w4 ⟨hb4, hcase⟩
  rcases hcase with ⟨gs2, g4, n4, c4, hr4, rfl, o4⟩ | ⟨hno, _⟩
  case inr => exact absurd hRd.out (hno gs)
  obtain rfl : gs = gs2 := rd_unique hRd.out hr4
  have HT4 := Lib.hid (show Trips w4 (some ⟨g4, 0, none⟩) n4 c4 gs from Rd.own o4)
  obtain rfl : k = n4 := by have := HT4.out.len; omega
  have hc4 := HT4.out.2.1
  have hc4m := HT4.out.2.2.1
  have HB4 := Lib.hid (HB3.out.trans (hb4.mono HB3.out.size))
  clear hb4 o4 hr4 CR1 HB3
  go_wp2
  go_loopw [72] (fun v wr => ∃ i : Nat, i ≤ k ∧ v = .int .i64 i ∧ Below w4.heap.size w4 wr) (fun v _ => k - (intOf v).toNat)
  case atStart => exact ⟨0, by omega, rfl, Below.refl _ _⟩
  case round =>
    obtain ⟨i, hi, rfl, hb⟩ := hrel
    have HBr := Lib.hid hb
    clear hb
    by_cases hlt : i < k
    · have hwi : IntKind.i64.wrap ((i : Int) + 1) = ((i + 1 : Nat) : Int) := by rw [IntWalk.i64_in _ (by omega)]; omega
      obtain ⟨y0, y1, y2⟩ := (show Trips wr (some ⟨g4, 0, none⟩) k c4 gs from Rd.mono HT4.out HBr.out).at0 i hlt
      obtain ⟨z0, z1, z2⟩ := (show Trips wr (some ⟨g, 0, none⟩) k cc gs from Rd.mono HT.out (HB4.out.trans (HBr.out.mono HB4.out.size))).at0 i hlt
      have hg := HOkA.out _ (getD_mem (d := (0, 0, 0)) (show i < gs.length by omega))
      rcases hq : gs.getD i (0, 0, 0) with ⟨x, y, z⟩
      rw [hq] at y0 y1 y2 z0 z1 z2 hg
      dsimp only at y0 y1 y2 z0 z1 z2
      have CV : Hid (∀ W, Calls Tryd.prog 17 #[.agg #[.int .i64 x, .int .i64 y, .int .i64 z]] W (Ret W (.bool true))) := fun W => by
        have := implValidTest_any x y z W
        rw [show okTest x y z = true from hg] at this
        exact this
      clear hq hg
      go_wp2
      go_region_held3 (fun W => W.cell? ⟨g4, i * 3, none⟩ = some (.int .i64 x) ∧ W.cell? ⟨g4, i * 3 + 1, none⟩ = some (.int .i64 y) ∧ W.cell? ⟨g4, i * 3 + 2, none⟩ = some (.int .i64 z) ∧ W.cell? ⟨g, i * 3, none⟩ = some (.int .i64 x) ∧ W.cell? ⟨g, i * 3 + 1, none⟩ = some (.int .i64 y) ∧ W.cell? ⟨g, i * 3 + 2, none⟩ = some (.int .i64 z))
        (first | exact ⟨y0, y1, y2, z0, z1, z2⟩ | go_keep)
        (first
          | (go_at_call 17; refine (CV.out _).mono ?_; rintro e w7 ⟨rfl, hb7⟩; have y0 := cell_on hb7 y0; have y1 := cell_on hb7 y1; have y2 := cell_on hb7 y2; have z0 := cell_on hb7 z0; have z1 := cell_on hb7 z1; have z2 := cell_on hb7 z2))
      have HBn := Lib.hid (HBr.out.trans (((Below.refl _ _).drew.trans hb7).mono HBr.out.size))
      clear hb7 y0 y1 y2 z0 z1 z2
      go_wp2
      go_roundw
      case rel => exact ⟨i + 1, by omega, by first | rfl | go_num, HBn.out⟩
      case measure => simp [intOf]; omega
    · obtain rfl : i = k := by omega
      generalize wr = wo at *
      have HBo := Lib.hid (HB4.out.trans (HBr.out.mono HB4.out.size))
      have hszo := HBo.out.size
      have HOc : Hid ((wo.alloc (.cells #[] 2)).ownsRow wo.heap.size 2 1 (.slice (some ⟨wo.heap.size, 0, none⟩) 0 0) 0 (intCells (upto 0))) := World.ownsRow_made wo #[] 0 (Nat.le_refl _) (by unfold maxLen; omega) rfl
      have HBc : Hid (Below wo.heap.size wo (wo.alloc (.cells #[] 2))) := (Below.refl _ _).alloc (Nat.le_refl _) _
      clear HBr HB4 HT4 HOkA
      go_wp2
      go_loopw [13, 14, 15] (fun vc vp vq wr => ∃ (q gd cd : Nat), q ≤ 52 ∧ vq = .int .i64 q ∧ vp = .int .i64 (passCount gs (upto q)) ∧ vc = .slice (some ⟨gd, 0, none⟩) q cd ∧ Below wo.heap.size wo wr ∧ wr.ownsRow wo.heap.size 2 1 (.slice (some ⟨gd, 0, none⟩) q cd) q (intCells (upto q))) (fun _ _ vq _ => 52 - (intOf vq).toNat)
      case atStart => exact ⟨0, wo.heap.size, 0, by omega, rfl, rfl, rfl, HBc.out, HOc.out⟩
      case round =>
        obtain ⟨q, gd, cd, hq52, rfl, rfl, rfl, hb, ho⟩ := hrel
        have HB5 := Lib.hid hb
        have HO5 := Lib.hid ho
        have hsz5 := hb.size
        clear hb ho HBc HOc
        by_cases hq : q < 52
        · have hqi : (q : Int) < 52 := by omega
          have hwq : IntKind.i64.wrap ((q : Int) + 1) = ((q + 1 : Nat) : Int) := by rw [IntWalk.i64_in _ (by omega)]; omega
          have hpb := passCount_bd gs (upto q)
          have hul : (upto q).length = q := upto_len q
          have HPc : Hid (passCount gs (upto (q + 1)) = passCount gs (upto q) + (if gs.all (passT (q : Int)) then 1 else 0)) := by show _ = _; rw [upto_succ, passCount_snoc]
          have HUs : Hid (intCells (upto (q + 1)) = intCells (upto q) ++ [.int .i64 (q : Int)]) := by show _ = _; rw [upto_succ, intCells_snoc]
          have C1 := Lib.hid (CPi.out q (by omega))
          have C2 := Lib.hid (CPs.out q (by omega))
          generalize hP : gs.all (passT (q : Int)) = P at *
          generalize passCount gs (upto q) = pb at *
          have hbb : (P != P) = false := by simp
          have hwp : IntKind.i64.wrap (pb + 1) = pb + 1 := IntWalk.i64_in _ (by omega)
          clear hP
          go_wp2_with (first | (at_builtin; go_must (refine wpList_append_lies _ rfl _ _ 40 rfl wo.heap.size 2 i0 _ 1 8 Tryd.underlying40 hii hq0 hq1 hq2 rfl (by omega) (.slice (some ⟨gd, 0, none⟩) q cd) q (intCells (upto q)) rfl (HO5.out.alloc _) ⟨wr.heap.size, 0, none⟩ 1 1 [.int .i64 (q : Int)] rfl rfl (new1 _ _ _) (one1 rfl) (by omega) (by unfold maxLen; omega) (by omega) (by simp; omega) (wr.heap.size + 1) (by simp) ?_); intro gg cap w10 hown1 hg1 hat hlt10; have HBn := Lib.hid (below_app HB5.out hsz5 hg1 HO5.out); have HOn : Hid (w10.ownsRow wo.heap.size 2 1 (.slice (some ⟨gg, 0, none⟩) (q + 1) cap) (q + 1) (intCells (upto (q + 1)))) := (by show w10.ownsRow _ _ _ _ _ _; rw [HUs.out]; exact hown1); clear hown1 hg1 hat))
          refine (C1.out _ (HBo.out.trans (HBn.out.mono hszo))).mono ?_
          rintro e w11 ⟨rfl, hb11⟩
          have HB11 := Lib.hid (HBn.out.trans (hb11.mono HBn.out.size))
          have HO11 := Lib.hid (ownsRow_below HOn.out hb11)
          clear hb11 HBn HOn
          go_wp2_with (fail)
          refine (C2.out _ (HBo.out.trans (HB11.out.mono hszo))).mono ?_
          rintro e w12 ⟨rfl, hb12⟩
          have HB12 := Lib.hid (HB11.out.trans (hb12.mono HB11.out.size))
          have HO12 := Lib.hid (ownsRow_below HO11.out hb12)
          clear hb12 HB11 HO11
          cases P with
          | true =>
            go_wp2
            go_roundw
            case rel => exact ⟨q + 1, gg, cap, by omega, by first | rfl | go_num, by rw [HPc.out]; rfl, by first | rfl | go_num, HB12.out, HO12.out⟩
            case measure => simp [intOf]; omega
          | false =>
            go_wp2
            go_roundw
            case rel => exact ⟨q + 1, gg, cap, by omega, by first | rfl | go_num, by rw [HPc.out]; simp, by first | rfl | go_num, HB12.out, HO12.out⟩
            case measure => simp [intOf]; omega
        · obtain rfl : q = 52 := by omega
          have CC := Lib.hid (CCt.out gd cd wr (HBo.out.trans (HB5.out.mono hszo)) (Rd.own HO5.out))
          have HBq := Lib.hid (HBo.out.trans (HB5.out.mono hszo))
          have hszq := HBq.out.size
          generalize passCount gs (upto 52) = pc at *
          clear HB5 HO5 hsz5 CPi CPs CCt
          go_wp2_with (fail)
          refine CC.out.mono ?_
          rintro e w13 ⟨rfl, hb13⟩
          have HB13 := Lib.hid (HBq.out.trans (hb13.mono hszq))
          have hsz13 := HB13.out.size
          clear hb13 CC HBq HBo
          obtain ⟨cp, o4, hcv, hcp, hcm2, hcell, hfr⟩ := bytes_ex2 w13 la (by omega)
          rw [HSa.out] at hcv
          have HCell := Lib.hid hcell
          have HFr := Lib.hid hfr
          have hb14 : Below w13.heap.size w13 (w13.alloc o4).drew := ((Below.refl _ _).alloc (Nat.le_refl _) _).drew
          have HB14 := Lib.hid hb14
          have hz14 : w13.heap.size < (w13.alloc o4).drew.heap.size := by simp
          clear hcell hfr hb14
          go_wp2
          generalize (w13.alloc o4).drew = wx at *
          have HBx := Lib.hid (HB.out.trans ((HB13.out.trans (HB14.out.mono hsz13)).mono hsz1))
          have hl0 : ¬ ((la.length : Nat) : Int) = 0 := by omega
          refine wp_region_held_drew (S := fun _ => True) (by kernel_rfl) trivial (fun _ => ?_)
          refine wpAnyH_take (i := 0) (v := ?_) rfl (by kernel_rfl) (by kernel_rfl) (by kernel_rfl) (fun _ _ _ h => h) (Or.inl ⟨by rfl, ?_⟩) trivial ?_
          rotate_left 1
          · intro w hSw; go_simp; try with_reducible rfl
          try simp only [Act.put, List.setIfInBounds_toArray, List.set_cons_zero, List.set_cons_succ]
          refine wpAnyH_take (i := 1) (v := ?_) rfl (by kernel_rfl) (by kernel_rfl) (by kernel_rfl) (fun _ _ _ h => h) (Or.inl ⟨by rfl, ?_⟩) trivial ?_
          rotate_left 1
          · intro w hSw; go_simp; try with_reducible rfl
          try simp only [Act.put, List.setIfInBounds_toArray, List.set_cons_zero, List.set_cons_succ]
          refine wpAnyH_take (i := 3) (v := ?_) rfl (by kernel_rfl) (by kernel_rfl) (by kernel_rfl) (fun _ _ _ h => h) (Or.inl ⟨by rfl, ?_⟩) trivial ?_
          rotate_left 1
          · intro w hSw; go_simp; try with_reducible rfl
          try simp only [Act.put, List.setIfInBounds_toArray, List.set_cons_zero, List.set_cons_succ]
          refine wpAnyH_take (i := 4) (v := ?_) rfl (by kernel_rfl) (by kernel_rfl) (by kernel_rfl) (fun _ _ _ h => h) (Or.inl ⟨by rfl, ?_⟩) trivial ?_
          rotate_left 1
          · intro w hSw; go_simp; try with_reducible rfl
          try simp only [Act.put, List.setIfInBounds_toArray, List.set_cons_zero, List.set_cons_succ]
          refine wpAnyH_take (i := 6) (v := ?_) rfl (by kernel_rfl) (by kernel_rfl) (by kernel_rfl) (fun _ _ _ h => h) (Or.inl ⟨by rfl, ?_⟩) trivial ?_
          rotate_left 1
          · intro w hSw; go_simp; try with_reducible rfl
          try simp only [Act.put, List.setIfInBounds_toArray, List.set_cons_zero, List.set_cons_succ]
          refine wpAnyH_ready (rs := [2]) (by kernel_rfl) (by simp) ?_
          refine AllReadyH.cons rfl (fun K hK => ?_) ?_
          · skip
            go_simp
            go_at_call 21
            refine (CA.out 0 256 _ HBx.out.drew (by omega) (by omega) (by omega) (by omega)).mono ?_
            rintro e wy ⟨x, rfl, hx0, hx1, rfl⟩
            obtain ⟨cut, hcut⟩ : ∃ cut : Nat, x % ((la.length : Nat) : Int) = cut := ⟨(x % ((la.length : Nat) : Int)).toNat, by have := Int.emod_nonneg x hl0; omega⟩
            have hlne : ¬ la = [] := by intro h; simp [h] at hl0
            have hcl : cut < la.length := by have := Int.emod_lt_of_pos x (show (0 : Int) < ((la.length : Nat) : Int) by omega); omega
            have hcut2 : x.tmod ((la.length : Nat) : Int) = cut := by rw [Int.tmod_eq_emod_of_nonneg hx0]; exact hcut
            have hci0 : (0 : Int) ≤ (cut : Int) := by omega
            have hci1 : (cut : Int) < ((la.length : Nat) : Int) := by omega
            have z0 := HCell.out cut hcl
            have f0 := HFr.out cut hcl
            refine hK.out _ _ trivial (fun _ => ?_)
            clear hK K
            try simp only [Act.put, List.setIfInBounds_toArray, List.set_cons_zero, List.set_cons_succ]
            refine wpAnyH_take (i := 5) (v := ?_) rfl (by kernel_rfl) (by kernel_rfl) (by kernel_rfl) (fun _ _ _ h => h) (Or.inl ⟨by rfl, ?_⟩) trivial ?_
            rotate_left 1
            · intro w hSw; go_simp; try with_reducible rfl
            try simp only [Act.put, List.setIfInBounds_toArray, List.set_cons_zero, List.set_cons_succ]
            refine wpAnyH_ready (rs := [7]) (by kernel_rfl) (by simp) ?_
            refine AllReadyH.cons rfl (fun K hK => ?_) ?_
            · skip
              go_simp
              try simp only [hcut, hcut2]
              go_at_call 21
              refine (CA.out 1 128 _ HBx.out.drew (by omega) (by omega) (by omega) (by omega)).mono ?_
              rintro e wy ⟨y, rfl, hy0, hy1, rfl⟩
              obtain ⟨nb, hnb⟩ : ∃ nb : UInt8, IntKind.u8.wrap y = ((nb.toNat : Nat) : Int) := ⟨UInt8.ofNat y.toNat, by rw [IntKind.wrap_u8, UInt8.toNat_ofNat']; omega⟩
              refine hK.out _ _ trivial (fun _ => ?_)
              clear hK K
              try simp only [Act.put, List.setIfInBounds_toArray, List.set_cons_zero, List.set_cons_succ]
              refine wpAnyH_take (i := 8) (v := ?_) rfl (by kernel_rfl) (by kernel_rfl) (by kernel_rfl) (fun _ _ _ h => h) (Or.inl ⟨by rfl, ?_⟩) trivial ?_
              rotate_left 1
              · intro w hSw; go_simp; try with_reducible rfl
              try simp only [Act.put, List.setIfInBounds_toArray, List.set_cons_zero, List.set_cons_succ]
              refine wpAnyH_take (i := 9) (v := ?_) rfl (by kernel_rfl) (by kernel_rfl) (by kernel_rfl) (fun _ _ _ h => h) (Or.inl ⟨by rfl, ?_⟩) trivial ?_
              rotate_left 1
              · intro w hSw; go_simp; try with_reducible rfl
              try simp only [Act.put, List.setIfInBounds_toArray, List.set_cons_zero, List.set_cons_succ]
              refine wpAnyH_ready (rs := [10]) (by kernel_rfl) (by simp) ?_
              refine AllReadyH.cons rfl (fun K hK => ?_) ?_
              · skip
                try simp only [hcut, hcut2]
                go_simp
                refine hK.out _ _ trivial (fun _ => ?_)
                clear hK K
                try simp only [Act.put, List.setIfInBounds_toArray, List.set_cons_zero, List.set_cons_succ]
                refine wpAnyH_done (by kernel_rfl) ?_ _
                have HC2 : Hid (∀ j, j < la.length → ((wx.setCell ⟨w13.heap.size, cut, none⟩ (.int .u8 ((nb.toNat : Nat) : Int))).drew).cell? ⟨w13.heap.size, j, none⟩ = some (.int .u8 (((la.set cut nb).getD j 0).toNat : Int))) := set_cells (n := 0) (cut := cut) (nb := nb) (v := .int .u8 ((nb.toNat : Nat) : Int)) (w := wx) HCell.out hcl rfl
                have HB15 : Hid (Below w13.heap.size w13 ((wx.setCell ⟨w13.heap.size, cut, none⟩ (.int .u8 ((nb.toNat : Nat) : Int))).drew)) := (HB14.out.setCell (Nat.le_refl _) _).drew
                clear z0 f0 hnb hcut hcut2 HCell HFr
                generalize (wx.setCell ⟨w13.heap.size, cut, none⟩ (.int .u8 ((nb.toNat : Nat) : Int))).drew = ws at *
                have hll : (la.set cut nb).length = la.length := by simp
                generalize la.set cut nb = lb at *
                have HBs := Lib.hid (HB.out.trans ((HB13.out.trans (HB15.out.mono hsz13)).mono hsz1))
                have qc := str_of ws w13.heap.size la.length cp lb (by omega) HC2.out
                rw [List.take_of_length_le (by omega)] at qc
                have D1 := Lib.hid (CRi.out lb (by omega) ws HBs.out)
                have D2 := Lib.hid (fun W => CRs.out lb (by omega) W)
                have hfin := HBs.out.size
                clear CRi CRs HBx HB14 hRd
                generalize hsb : ofL lb = sb at *
                go_wp2_with (fail)
                refine D1.out.mono ?_
                rintro e w20 ⟨hb20, hc20⟩
                have HC3 : Hid (∀ j, j < la.length → w20.cell? ⟨w13.heap.size, j, none⟩ = some (.int .u8 ((lb.getD j 0).toNat : Int))) := fun j hj => cell_on hb20 (HC2.out j hj)
                have HB20 := Lib.hid (HBs.out.trans (hb20.mono hfin))
                have qc2 := str_of w20 w13.heap.size la.length cp lb (by omega) HC3.out
                rw [List.take_of_length_le (by omega), hsb] at qc2
                have D3 := Lib.hid (D2.out w20)
                have hf20 := HB20.out.size
                clear D1 D2 HBs hb20 hfin qc HC2 HC3
                rcases hc20 with ⟨gs5, g5, n5, c5, hr5, rfl, o5⟩ | ⟨hno5, rfl⟩
                · have HT5 := Lib.hid (show Trips w20 (some ⟨g5, 0, none⟩) n5 c5 gs5 from Rd.own o5)
                  clear o5
                  go_wp2_with (fail)
                  refine D3.out.mono ?_
                  rintro e w21 ⟨hb21, hc21⟩
                  rcases hc21 with ⟨gs6, g6, n6, c6, hr6, rfl, o6⟩ | ⟨hno6, rfl⟩
                  case inr => exact absurd hr5 (hno6 gs5)
                  obtain rfl : gs5 = gs6 := rd_unique hr5 hr6
                  have HT6 := Lib.hid (show Trips w21 (some ⟨g6, 0, none⟩) n6 c6 gs5 from Rd.own o6)
                  obtain rfl : n5 = n6 := by have := HT5.out.len; have := HT6.out.len; omega
                  have HT5b := Lib.hid (show Trips w21 (some ⟨g5, 0, none⟩) n5 c5 gs5 from Rd.mono HT5.out hb21)
                  have HB21 := Lib.hid (HB20.out.trans (hb21.mono hf20))
                  have hc5 := HT5.out.2.1
                  have hc5m := HT5.out.2.2.1
                  clear hb21 o6 hr6 hr5 D3 HT5 HB20 qc2
                  go_wp2
                  go_loopw [179] (fun v wr => ∃ i : Nat, i ≤ n5 ∧ v = .int .i64 i ∧ Below w21.heap.size w21 wr) (fun v _ => n5 - (intOf v).toNat)
                  case atStart => exact ⟨0, by omega, rfl, Below.refl _ _⟩
                  case round =>
                    obtain ⟨i, hi, rfl, hb⟩ := hrel
                    have HBr := Lib.hid hb
                    clear hb
                    by_cases hlt : i < n5
                    · have hwi : IntKind.i64.wrap ((i : Int) + 1) = ((i + 1 : Nat) : Int) := by rw [IntWalk.i64_in _ (by omega)]; omega
                      obtain ⟨y0, y1, y2⟩ := (show Trips wr (some ⟨g5, 0, none⟩) n5 c5 gs5 from Rd.mono HT5b.out HBr.out).at0 i hlt
                      obtain ⟨z0, z1, z2⟩ := (show Trips wr (some ⟨g6, 0, none⟩) n5 c6 gs5 from Rd.mono HT6.out HBr.out).at0 i hlt
                      rcases hq : gs5.getD i (0, 0, 0) with ⟨x, y, z⟩
                      rw [hq] at y0 y1 y2 z0 z1 z2
                      dsimp only at y0 y1 y2 z0 z1 z2
                      clear hq
                      go_wp2
                      go_region_held3 (fun W => W.cell? ⟨g5, i * 3, none⟩ = some (.int .i64 x) ∧ W.cell? ⟨g5, i * 3 + 1, none⟩ = some (.int .i64 y) ∧ W.cell? ⟨g5, i * 3 + 2, none⟩ = some (.int .i64 z) ∧ W.cell? ⟨g6, i * 3, none⟩ = some (.int .i64 x) ∧ W.cell? ⟨g6, i * 3 + 1, none⟩ = some (.int .i64 y) ∧ W.cell? ⟨g6, i * 3 + 2, none⟩ = some (.int .i64 z))
                        (first | exact ⟨y0, y1, y2, z0, z1, z2⟩ | go_keep)
                        (fail)
                      have HBn := Lib.hid (HBr.out.trans ((Below.refl _ _).drew.mono HBr.out.size))
                      clear y0 y1 y2 z0 z1 z2
                      go_wp2
                      go_roundw
                      case rel => exact ⟨i + 1, by omega, by first | rfl | go_num, HBn.out⟩
                      case measure => simp [intOf]; omega
                    · obtain rfl : i = n5 := by omega
                      go_wp2
                      go_ret
                      exact ⟨rfl, HB21.out.trans (HBr.out.mono HB21.out.size)⟩
                · go_wp2_with (fail)
                  refine D3.out.mono ?_
                  rintro e w21 ⟨hb21, hc21⟩
                  rcases hc21 with ⟨gs6, g6, n6, c6, hr6, rfl, o6⟩ | ⟨hno6, rfl⟩
                  case inl => exact absurd hr6 (hno5 gs6)
                  have HB21 := Lib.hid (HB20.out.trans (hb21.mono hf20))
                  clear hb21 D3 HB20 qc2
                  go_wp2
                  go_loopw [179] (fun v wr => v = .int .i64 0 ∧ Below w21.heap.size w21 wr) (fun _ _ => 0)
                  case atStart => exact ⟨rfl, Below.refl _ _⟩
                  case round =>
                    obtain ⟨rfl, hb⟩ := hrel
                    have HBr := Lib.hid hb
                    clear hb
                    go_wp2
                    go_ret
                    exact ⟨rfl, HB21.out.trans (HBr.out.mono HB21.out.size)⟩
              exact AllReadyH.nil
            exact AllReadyH.nil
          exact AllReadyH.nil

end Go.Proofs.YtmijfieiebnbfaaDoor
