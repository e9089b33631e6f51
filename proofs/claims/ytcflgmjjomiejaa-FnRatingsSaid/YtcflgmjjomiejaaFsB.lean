/- Strengths fitted: the program's FitStrengths. -/
import Derived.Test.YtcflgmjjomiejaaFsA
import Derived.Test.YtcflgmjjomiejaaBasic
import Derived.Deep.RegionHeld
namespace Go.Proofs.Ytcflgmjjomiejaa
open Go.RowKit
set_option linter.unusedVariables false
set_option linter.unusedSimpArgs false

theorem own_heap {w w' : World} {B : Nat} {e : TypeId} {sz : Nat} {v : Value} {n : Nat} {cs : List Value} (h : w.ownsRow B e sz v n cs) (e1 : w'.heap = w.heap) : w'.ownsRow B e sz v n cs := by
  obtain ⟨h1, h2⟩ := h
  refine ⟨h1, ?_⟩
  rcases h2 with h2 | ⟨g, cap, cur, q, h3, h4, h5⟩
  · exact .inl h2
  · exact .inr ⟨g, cap, cur, q, h3, by rw [e1]; exact h4, h5⟩
theorem below_same {B : Nat} {a w w' : World} (h : Below B a w) (e1 : w'.heap = w.heap) (e2 : w'.tape = w.tape) (e3 : w'.os = w.os) (e4 : w'.output = w.output) : Below B a w' :=
  ⟨e3.trans h.os, e2.trans h.tape, e4.trans h.output, by rw [e1]; exact h.size, fun k hk => by rw [e1]; exact h.block k hk⟩
theorem quiet_dr {a w : World} (h : Quiet a w) (n : Nat) : Quiet a (w.drewN n) := h.trans ⟨n, rfl⟩
theorem quiet_d1 {a w : World} (h : Quiet a w) : Quiet a w.drew := h.trans ⟨1, rfl⟩
theorem ints_at0 {w : World} {g n c : Nat} {xs : List Int} (h : Ints w (some ⟨g, 0, none⟩) n c xs) {i : Nat} (hi : i < n) : w.cell? ⟨g, i, none⟩ = some (.int .i64 (xs.getD i 0)) := by
  obtain ⟨_, _, hx⟩ := h.at
  obtain ⟨b, off, e, _, hy⟩ := hx i hi
  simp only [Option.some.injEq, Addr.mk.injEq] at e
  obtain ⟨rfl, rfl, _⟩ := e
  have := hy i hi
  rw [Nat.zero_add] at this
  exact this
theorem own_mulset {w : World} {B g n c : Nat} {xs : List Nat} (h : w.ownsRow B 29 1 (.slice (some ⟨g, 0, none⟩) n c) n (xs.map (Value.float .f32))) (q k v : Nat) :
    ((w.drewN q).setCell ⟨g, k, none⟩ (.float .f32 v)).ownsRow B 29 1 (.slice (some ⟨g, 0, none⟩) n c) n ((xs.set k v).map (Value.float .f32)) := by
  have h1 : (w.drewN q).ownsRow B 29 1 (.slice (some ⟨g, 0, none⟩) n c) n (xs.map (Value.float .f32)) := own_heap h rfl
  have := (h1.stored k (.float .f32 v)).1
  rw [mapF_set] at this
  exact this
theorem below_mulset {B g k : Nat} {a w : World} (h : Below B a w) (hB : B ≤ g) (q : Nat) (v : Value) : Below B a ((w.drewN q).setCell ⟨g, k, none⟩ v) :=
  (show Below B a (w.drewN q) from below_same h rfl rfl rfl rfl).setCell (p := ⟨g, k, none⟩) hB v
theorem isRep (p : Nat) : IsL (List.replicate p (some fOne)) (List.replicate p fOne) := by
  refine ⟨by simp, fun i hi => ?_⟩
  rw [List.length_replicate] at hi
  have e1 : (List.replicate p (some fOne)).getD i none = some fOne := by simp [hi]
  have e2 : (List.replicate p fOne).getD i 0 = fOne := by simp [hi]
  rw [e1, e2]
  rfl

set_option maxHeartbeats 3200000 in
set_option maxRecDepth 100000 in
theorem implFitStrengths_any (x0 : Int) (a : Option Addr) (n c : Nat) (gs : List (Int × Int × Int)) (x2 : Int) (w : World) (h : Trips w a n c gs) :
    Calls Try.prog 18 #[.int .i64 x0, .slice a n c, .int .i64 x2] w fun e w' => ∃ ra rn rc, e = .returned (.tuple #[.slice ra rn rc, .bool (fitRes x0 gs x2).2]) ∧ Below w.heap.size w w' ∧ w'.ownsRow w.heap.size 29 1 (.slice ra rn rc) rn ((fitRes x0 gs x2).1.map (Value.float .f32)) := by
  have CG := Lib.hid (implAreGames_any x0 a n c gs w h)
  have hl := h.len
  have HT := Lib.hid h
  have HRes : Hid (fitRes x0 gs x2 = if (okGames x0 gs && inB x2 1 64) = true then
    if (fitO (tally (metPs x0.toNat) (x0.toNat * x0.toNat) gs) (tally scorePs x0.toNat gs) x0.toNat x2.toNat).all finO = true then ((fitO (tally (metPs x0.toNat) (x0.toNat * x0.toNat) gs) (tally scorePs x0.toNat gs) x0.toNat x2.toNat).map (·.getD 0), true) else ([], false)
    else ([], false)) := rfl
  generalize fitRes x0 gs x2 = R at *
  have HGA := Lib.hid (fun e => okGames_all (p := x0) (gs := gs) e)
  have hst := st_f32 Try.prog
  obtain ⟨i0, hi, hz0, hz1, hz2⟩ := info_parts infoF32
  clear h
  rcases Bool.eq_false_or_eq_true (okGames x0 gs) with eg | eg
  case inr =>
    have hR := Lib.hid (HRes.out.trans (if_neg (by rw [eg]; simp)))
    rw [eg] at CG
    clear HRes HGA
    go_enter Try.func18, Try.ntmps18
    go_wp2_with (fail)
    refine CG.out.mono ?_
    rintro e w1 ⟨rfl, hb1⟩
    have HB1 := Lib.hid hb1
    clear hb1
    go_wp2
    go_ret2
    exact ⟨none, 0, 0, by rw [hR.out]; rfl, HB1.out, by rw [hR.out]; exact World.ownsRow_nil _ _ _ _⟩
  obtain ⟨⟨hp2, hp16⟩, hg128, hgo⟩ := HGA.out eg
  obtain ⟨p, rfl⟩ : ∃ p : Nat, x0 = (p : Int) := ⟨x0.toNat, by omega⟩
  rw [Int.toNat_natCast] at HRes
  rw [eg] at CG
  have HGo := Lib.hid hgo
  have CI := Lib.hid (fun W => within_any x2 1 64 W)
  clear HGA hgo
  rcases Bool.eq_false_or_eq_true (inB x2 1 64) with ei | ei
  case inr =>
    have hR := Lib.hid (HRes.out.trans (if_neg (by rw [eg, ei]; simp)))
    rw [ei] at CI
    clear HRes eg
    go_enter Try.func18, Try.ntmps18
    go_wp2_with (fail)
    refine CG.out.mono ?_
    rintro e w1 ⟨rfl, hb1⟩
    have HB1 := Lib.hid hb1
    clear hb1
    go_wp2_with (fail)
    refine (CI.out _).mono ?_
    rintro e w2 ⟨rfl, rfl⟩
    go_wp2
    go_ret2
    exact ⟨none, 0, 0, by rw [hR.out]; rfl, HB1.out, by rw [hR.out]; exact World.ownsRow_nil _ _ _ _⟩
  obtain ⟨r, rfl⟩ : ∃ r : Nat, x2 = (r : Int) := ⟨x2.toNat, by have := (inB_iff _ _ _).1 ei; omega⟩
  have hr64 : 1 ≤ r ∧ r ≤ 64 := by have := (inB_iff _ _ _).1 ei; omega
  rw [Int.toNat_natCast] at HRes
  have hR := Lib.hid (HRes.out.trans (if_pos (by rw [eg, ei]; rfl)))
  rw [ei] at CI
  clear HRes eg
  have hml : (tally (metPs p) (p * p) gs).length = p * p := tally_len _ _ _
  have hsl : (tally scorePs p gs).length = p := tally_len _ _ _
  have CS := Lib.hid (fun W (hW : Below w.heap.size w W) => scoresOf_any p a n c gs W (HT.out.mono hW) (by omega) (by omega) HGo.out)
  have CM := Lib.hid (fun W (hW : Below w.heap.size w W) => metOf_any p a n c gs W (HT.out.mono hW) (by omega) (by omega) HGo.out)
  generalize tally (metPs p) (p * p) gs = mt at *
  generalize tally scorePs p gs = sc at *
  clear HGo
  have hopA : ∀ t a b W, (binOp .add t (.float .f32 a) (.float .f32 b)).run Try.prog W = .ok (.float .f32 (fo .add a b W)) (W.drewN (fd .add a b)) := fun t a b W => run_fop (by unfold isArith; simp) t a b W
  have hopM : ∀ t a b W, (binOp .mul t (.float .f32 a) (.float .f32 b)).run Try.prog W = .ok (.float .f32 (fo .mul a b W)) (W.drewN (fd .mul a b)) := fun t a b W => run_fop (by unfold isArith; simp) t a b W
  have hopQ : ∀ t a b W, (binOp .quo t (.float .f32 a) (.float .f32 b)).run Try.prog W = .ok (.float .f32 (fo .quo a b W)) (W.drewN (fd .quo a b)) := fun t a b W => run_fop (by unfold isArith; simp) t a b W
  have hcd : ∀ (W : World) (q : Nat) (ad : Addr), (W.drewN q).cell? ad = W.cell? ad := fun _ _ _ => rfl
  have hfd : ∀ (W : World) (q : Nat) (ad : Addr), (W.drewN q).frozen? ad = W.frozen? ad := fun _ _ _ => rfl
  go_enter Try.func18, Try.ntmps18
  go_wp2_with (fail)
  refine CG.out.mono ?_
  rintro e w1 ⟨rfl, hb1⟩
  have HB1 := Lib.hid hb1
  clear hb1
  go_wp2_with (fail)
  refine (CI.out _).mono ?_
  rintro e w2 ⟨rfl, rfl⟩
  go_wp2_with (fail)
  refine (CS.out _ HB1.out).mono ?_
  rintro e w2 ⟨g1, rfl, hb2, ho2⟩
  have HB2 := Lib.hid (HB1.out.trans (hb2.mono HB1.out.size))
  have HS2 := Lib.hid (show Ints w2 (some ⟨g1, 0, none⟩) p p sc from Rd.own ho2)
  clear hb2 ho2 CS
  go_wp2_with (fail)
  refine (CM.out _ HB2.out).mono ?_
  rintro e w3 ⟨g2, rfl, hb3, ho3⟩
  have HB3 := Lib.hid (HB2.out.trans (hb3.mono HB2.out.size))
  have HS3 := Lib.hid (Ints.mono HS2.out hb3)
  have HM3 := Lib.hid (show Ints w3 (some ⟨g2, 0, none⟩) (p * p) (p * p) mt from Rd.own ho3)
  have hs3 := HB3.out.size
  clear hb3 ho3 CM HB2 HS2 HB1 CG CI
  have HO3 : Hid ((w3.alloc (.cells #[] 29)).ownsRow w3.heap.size 29 1 (.slice (some ⟨w3.heap.size, 0, none⟩) 0 0) 0 ((List.replicate 0 fOne).map (Value.float .f32))) := World.ownsRow_made (e := 29) (size := 1) (base := w3.heap.size) w3 #[] 0 (Nat.le_refl _) (Nat.zero_le _) (by simp)
  go_wp2
  go_loopw [10, 34] (fun v i wr => ∃ (k g cc : Nat), k ≤ p ∧ i = .int .i64 k ∧ v = .slice (some ⟨g, 0, none⟩) k cc ∧ wr.ownsRow w3.heap.size 29 1 (.slice (some ⟨g, 0, none⟩) k cc) k ((List.replicate k fOne).map (Value.float .f32)) ∧ Below w3.heap.size w3 wr) (fun _ i _ => p - (intOf i).toNat)
  case atStart => exact ⟨0, w3.heap.size, 0, by omega, rfl, rfl, HO3.out, (Below.refl _ _).alloc (Nat.le_refl _) _⟩
  case round =>
    obtain ⟨k, g, cc, hk, rfl, rfl, ho, hb⟩ := hrel
    have HO := Lib.hid ho
    have HB := Lib.hid hb
    have hsz := hb.size
    clear ho hb HO3
    by_cases hlt : k < p
    · go_wp2_with (first | (at_builtin; go_must (refine wpList_append_lies _ rfl _ _ 27 rfl w3.heap.size 29 i0 _ 1 4 Try.underlying27 hi hz0 hz1 hz2 rfl (by omega) (.slice (some ⟨g, 0, none⟩) k cc) k ((List.replicate k fOne).map (Value.float .f32)) rfl (HO.out.alloc _) ⟨_, 0, none⟩ 1 1 [.float .f32 1065353216] rfl rfl (new1 _ _ _) (one1 rfl) (by omega) (by unfold maxLen; omega) (by omega) (by simp; omega) _ rfl ?_); intro gg cap w5 hown1 hg1 hat hlt5; have HBn := Lib.hid (below_app HB.out hsz hg1 HO.out); have HOn : Hid (w5.ownsRow w3.heap.size 29 1 (.slice (some ⟨gg, 0, none⟩) (k + 1) cap) (k + 1) ((List.replicate (k + 1) fOne).map (Value.float .f32))) := (by show World.ownsRow _ _ _ _ _ _ _; rw [List.replicate_succ', mapF_snoc]; exact hown1); clear hown1 hg1 hat))
      go_roundw
      case rel => exact ⟨k + 1, gg, cap, by omega, by go_num, rfl, HOn.out, HBn.out⟩
      case measure => simp [intOf]; omega
    · obtain rfl : p = k := by omega
      go_wp2
      go_loopw [10, 41] (fun v i wr => ∃ (j g cc : Nat) (B : List Nat), j ≤ r ∧ i = .int .i64 j ∧ v = .slice (some ⟨g, 0, none⟩) p cc ∧ Hid (IsL (fitO mt sc p j) B) ∧ wr.ownsRow w3.heap.size 29 1 (.slice (some ⟨g, 0, none⟩) p cc) p (B.map (Value.float .f32)) ∧ Below w3.heap.size w3 wr) (fun _ i _ => r - (intOf i).toNat)
      case atStart => exact ⟨0, g, cc, _, by omega, rfl, rfl, isRep p, HO.out, HB.out⟩
      case round =>
        obtain ⟨j, g, cc, B, hj, rfl, rfl, HIS, ho, hb⟩ := hrel
        obtain ⟨wS, hwS⟩ : ∃ x : World, x = wr := ⟨_, rfl⟩
        subst hwS
        have HO := Lib.hid ho
        have HBS := Lib.hid hb
        have hszS := hb.size
        clear HB
        by_cases hjr : j < r
        · have HSR := Lib.hid (show Floats wS (some ⟨g, 0, none⟩) p cc B from Rd.own ho)
          have HSL : Hid (B.length = p) := by show _ = _; have := HIS.out.1; rw [fitO_len] at this; exact this.symm
          have HNx : Hid (fitO mt sc p (j + 1) = stepO mt sc p (fitO mt sc p j)) := rfl
          have HSLen : Hid ((fitO mt sc p j).length = p) := fitO_len _ _ _ _
          generalize fitO mt sc p j = S at *
          have HO4a : Hid ((wS.alloc (.cells #[] 29)).ownsRow wS.heap.size 29 1 (.slice (some ⟨wS.heap.size, 0, none⟩) 0 0) 0 ([].map (Value.float .f32))) := World.ownsRow_made (e := 29) (size := 1) (base := wS.heap.size) wS #[] 0 (Nat.le_refl _) (Nat.zero_le _) (by simp)
          have HI0 : Hid (IsL ((nxL mt sc p S).take 0) []) := IsL.nil
          have HBS3 := Lib.hid (hb.mono (Nat.le_refl _))
          clear ho hb HO
          go_wp2
          go_loopw [11, 45] (fun v i wr => ∃ (i' g3 c3 : Nat) (Bn : List Nat), i' ≤ p ∧ i = .int .i64 i' ∧ v = .slice (some ⟨g3, 0, none⟩) i' c3 ∧ Hid (IsL ((nxL mt sc p S).take i') Bn) ∧ wr.ownsRow wS.heap.size 29 1 (.slice (some ⟨g3, 0, none⟩) i' c3) i' (Bn.map (Value.float .f32)) ∧ Below wS.heap.size wS wr) (fun _ i _ => p - (intOf i).toNat)
          case atStart => exact ⟨0, wS.heap.size, 0, [], by omega, rfl, rfl, HI0.out, HO4a.out, (Below.refl _ _).alloc (Nat.le_refl _) _⟩
          case round =>
            obtain ⟨i, g3, c3, Bn, hip, rfl, rfl, HIn, ho4, hb4⟩ := hrel
            obtain ⟨w4, hw4⟩ : ∃ x : World, x = wr := ⟨_, rfl⟩
            subst hw4
            have HO4 := Lib.hid ho4
            have HB4 := Lib.hid hb4
            have hsz4 := hb4.size
            clear HO4a HI0
            by_cases hil : i < p
            · have HZ := Lib.hid (fun q (hq : q < p) => floats_at0 (Row.mono HSR.out hb4) hq)
              have HZM := Lib.hid (fun q (hq : q < p * p) => ints_at0 (Ints.mono (Ints.mono HM3.out HBS3.out) hb4) hq)
              have zc := ints_at0 (Ints.mono (Ints.mono HS3.out HBS3.out) hb4) hil
              have zi := HZ.out i hil
              have HIi := Lib.hid (HIS.out.2 i (by rw [HSL.out]; exact hil))
              have HIq := Lib.hid (fun q (hq : q < p) => HIS.out.2 q (by rw [HSL.out]; exact hq))
              have HTk := Lib.hid (nxL_take (mt := mt) (sc := sc) (p := p) (S := S) hil)
              have HNi : Hid (nxO mt sc p S i = opO .quo (opO .add (opO .mul (some fHalf) (some (fI (sc.getD i 0)))) (some fHalf)) (opO .add (belO mt p S i p) (opO .quo (some fOne) (opO .add (S.getD i none) (some fOne))))) := rfl
              have hA0 : (i : Int) * (p : Int) = ((i * p : Nat) : Int) := (Int.natCast_mul _ _).symm
              have hA256 : i * p ≤ 256 := Nat.mul_le_mul (show i ≤ 16 by omega) (show p ≤ 16 by omega)
              have hJ : i * p + p ≤ p * p := by
                have h1 : (i + 1) * p ≤ p * p := Nat.mul_le_mul_right p (by omega)
                rw [Nat.succ_mul] at h1
                exact h1
              have HBel := Lib.hid (fun q (hq : q ≠ i) => belO_step mt p S i q hq)
              have HBel0 : Hid (belO mt p S i 0 = some 0) := rfl
              have HBsm := Lib.hid (belO_same mt p S i)
              generalize i * p = A at *
              generalize hPP : p * p = PP at *
              have hwA : IntKind.i64.wrap ((i : Int) * (p : Int)) = (A : Int) := by rw [hA0]; exact IntWalk.i64_in _ (by omega)
              generalize B.getD i 0 = bi at *
              generalize S.getD i none = si at *
              generalize sc.getD i 0 = sci at *
              clear hA0 hPP ho4 hb4
              go_wp2
              go_loopw [13, 49] (fun v q wr => ∃ (k b : Nat), k ≤ p ∧ q = .int .i64 k ∧ v = .float .f32 b ∧ Hid (Is (belO mt p S i k) b) ∧ Quiet w4 wr) (fun _ q _ => p - (intOf q).toNat)
              case atStart => exact ⟨0, 0, by omega, rfl, rfl, by show Is _ _; rw [HBel0.out]; rfl, Quiet.refl _⟩
              case round =>
                obtain ⟨k, b, hk2, rfl, rfl, HIs, hqu⟩ := hrel
                have HQ := Lib.hid hqu
                by_cases hkl : k < p
                · by_cases hki : k = i
                  · subst hki
                    clear hqu
                    go_wp2
                    go_roundw
                    case rel => exact ⟨k + 1, b, by omega, by go_num, rfl, by show Is _ _; rw [HBsm.out]; exact HIs.out, HQ.out⟩
                    case measure => simp [intOf]; omega
                  · have zk := cell_on (HQ.out.below w4.heap.size) (HZ.out k hkl)
                    have zi2 := cell_on (HQ.out.below w4.heap.size) zi
                    have zm := cell_on (HQ.out.below w4.heap.size) (HZM.out (A + k) (by omega))
                    have HIk := Lib.hid (HIq.out k hkl)
                    have hbs := Lib.hid (HBel.out k hki)
                    have hwJ : IntKind.i64.wrap ((A : Int) + (k : Int)) = ((A + k : Nat) : Int) := by rw [IntWalk.i64_in _ (by omega)]; omega
                    have hJk : A + k < PP := by omega
                    have hne : ((k : Int) != (i : Int)) = true := by simp; omega
                    generalize B.getD k 0 = bk at *
                    generalize S.getD k none = sk at *
                    generalize mt.getD (A + k) 0 = mk at *
                    clear hqu
                    go_wp2
                    go_region_held (fun W => W.cell? ⟨g2, A + k, none⟩ = some (.int .i64 mk) ∧ W.cell? ⟨g, i, none⟩ = some (.float .f32 bi) ∧ W.cell? ⟨g, k, none⟩ = some (.float .f32 bk)) (first | exact ⟨zm, zi2, zk⟩ | go_keep) (fail)
                    all_goals
                      go_wp2
                      go_roundw
                      case rel => exact ⟨k + 1, _, by omega, by go_num, rfl, by show Is _ _; rw [hbs.out]; exact fo_is HIs.out (fo_is (r := some _) rfl (fo_is HIi.out HIk.out _) _) _, by repeat (first | exact HQ.out | refine quiet_dr ?_ _ | refine quiet_d1 ?_)⟩
                      case measure => simp [intOf]; omega
                · obtain rfl : p = k := by omega
                  have zi3 := cell_on (hqu.below w4.heap.size) zi
                  have zc3 := cell_on (hqu.below w4.heap.size) zc
                  have HO5 := Lib.hid (ownsRow_below HO4.out hqu.b)
                  have HB5 := Lib.hid (HB4.out.trans (hqu.b.mono hsz4))
                  have hsz5 := HB5.out.size
                  clear hqu HQ HO4 HB4 HZ HZM HIq HBel HBsm HBel0 zi zc
                  go_wp2_with (first | (simp only [hopA, hopM, hopQ]) | (at_builtin; go_must (refine wpList_append_lies _ rfl _ _ 27 rfl wS.heap.size 29 i0 _ 1 4 Try.underlying27 hi hz0 hz1 hz2 rfl (by omega) (.slice (some ⟨g3, 0, none⟩) i c3) i (Bn.map (Value.float .f32)) rfl ((own_heap HO5.out (by rfl)).alloc _) ⟨_, 0, none⟩ 1 1 [.float .f32 _] rfl rfl (new1 _ _ _) (one1 rfl) (by omega) (by unfold maxLen; omega) (by omega) (by simp; omega) _ rfl ?_); intro gg cap w5 hown1 hg1 hat hlt5; rw [← mapF_snoc] at hown1; have HBn := Lib.hid (below_app (below_same HB5.out (by rfl) (by rfl) (by rfl) (by rfl)) (by exact hsz5) hg1 (own_heap HO5.out (by rfl))); have HOn := Lib.hid hown1; clear hown1 hg1 hat))
                  go_roundw
                  case rel => exact ⟨i + 1, gg, cap, Bn ++ [_], by omega, by go_num, rfl, by show IsL _ _; rw [HTk.out, HNi.out]; exact IsL.snoc HIn.out (fo_is (fo_is (fo_is (r := some fHalf) (q := some _) rfl rfl _) (q := some fHalf) rfl _) (fo_is HIs.out (fo_is (r := some fOne) rfl (fo_is HIi.out (q := some fOne) rfl _) _) _) _), HOn.out, HBn.out⟩
                  case measure => simp [intOf]; omega
            · obtain rfl : p = i := by omega
              have HNl : Hid ((nxL mt sc p S).length = p) := nxL_len _ _ _ _
              have HIN : Hid (IsL (nxL mt sc p S) Bn) := by
                show IsL _ _
                have := HIn.out
                rw [List.take_of_length_le (by rw [HNl.out]; exact Nat.le_refl _)] at this
                exact this
              have HNx2 : Hid (fitO mt sc p (j + 1) = (nxL mt sc p S).map fun x => opO .mul x (byO (nxL mt sc p S) p)) := HNx.out
              have HBy0 : Hid (byO (nxL mt sc p S) p = opO .quo (some (fI (p : Int))) (sumO (nxL mt sc p S) p)) := rfl
              have C := Lib.hid (sum_any (some ⟨g3, 0, none⟩) p c3 (nxL mt sc p S) Bn w4 (Rd.own ho4) HIN.out)
              have hg3 := (ho4.lt g3 (by rfl)).1
              generalize nxL mt sc p S = NX at *
              clear ho4 hb4 HIn HNx HSR
              go_wp2_with (fail)
              refine C.out.mono ?_
              rintro e w6 ⟨bs, rfl, hb6, hIs6⟩
              have HB6 := Lib.hid (HB4.out.trans (hb6.mono hsz4))
              have HO6 := Lib.hid (ownsRow_below HO4.out hb6)
              clear hb6 C HB4 HO4
              go_upto_region 26 with (simp only [hopA, hopM, hopQ])
              have HO7 : Hid ((w6.drewN (fd .quo (floatOfInt .f32 (p : Int)) bs)).ownsRow wS.heap.size 29 1 (.slice (some ⟨g3, 0, none⟩) p c3) p (Bn.map (Value.float .f32))) := own_heap HO6.out rfl
              have HB7 : Hid (Below wS.heap.size wS (w6.drewN (fd .quo (floatOfInt .f32 (p : Int)) bs))) := below_same HB6.out rfl rfl rfl rfl
              have HBy : Hid (Is (byO NX p) (fo .quo (floatOfInt .f32 (p : Int)) bs w6)) := by
                show Is _ _
                rw [HBy0.out]
                exact fo_is (r := some _) rfl hIs6 _
              clear hIs6 HBy0
              generalize byO NX p = BY at *
              generalize fo .quo (floatOfInt .f32 (p : Int)) bs w6 = bb at *
              generalize w6.drewN (fd .quo (floatOfInt .f32 (p : Int)) bs) = w7 at *
              go_wp2
              go_loopw [105] (fun q wr => ∃ (k : Nat) (Bm : List Nat), k ≤ p ∧ q = .int .i64 k ∧ Hid (IsL (mulTo NX BY k) Bm) ∧ wr.ownsRow wS.heap.size 29 1 (.slice (some ⟨g3, 0, none⟩) p c3) p (Bm.map (Value.float .f32)) ∧ Below wS.heap.size wS wr) (fun q _ => p - (intOf q).toNat)
              case atStart => exact ⟨0, Bn, by omega, rfl, by show IsL _ _; rw [mulTo_zero]; exact HIN.out, HO7.out, HB7.out⟩
              case round =>
                obtain ⟨k, Bm, hkp, rfl, HIm, ho8, hb8⟩ := hrel
                have HO8 := Lib.hid ho8
                have HB8 := Lib.hid hb8
                have hcc := (Rd.own ho8).2
                clear HO7 HB7
                by_cases hkl : k < p
                · have zk := floats_at0 (show Floats _ (some ⟨g3, 0, none⟩) p c3 Bm from Rd.own ho8) hkl
                  have fk := ho8.frozenAt k
                  have hBm : Bm.length = p := by have := HIm.out.1; rw [mulTo_len, HNl.out] at this; exact this.symm
                  have HIk : Hid (Is (NX.getD k none) (Bm.getD k 0)) := by
                    show Is _ _
                    have := HIm.out.2 k (by rw [hBm]; exact hkl)
                    rw [mulTo_get _ _ (by rw [HNl.out]; exact hkl)] at this
                    exact this
                  have HMs := Lib.hid (mulTo_set NX BY (k := k) (by rw [HNl.out]; exact hkl))
                  generalize Bm.getD k 0 = bk at *
                  generalize NX.getD k none = nk at *
                  clear ho8 hb8 hBm
                  go_wp2_with (simp only [hopM])
                  go_roundw
                  case rel => exact ⟨k + 1, Bm.set k _, by omega, by go_num, by show IsL _ _; rw [← HMs.out]; exact IsL.set HIm.out k (fo_is HIk.out HBy.out _), own_mulset HO8.out _ _ _, below_mulset HB8.out hg3 _ _⟩
                  case measure => simp [intOf]; omega
                · obtain rfl : p = k := by omega
                  have HIf : Hid (IsL (fitO mt sc p (j + 1)) Bm) := by
                    show IsL _ _
                    rw [HNx2.out]
                    have := HIm.out
                    rw [show mulTo NX BY p = mulTo NX BY NX.length by rw [HNl.out], mulTo_full] at this
                    exact this
                  have HOf := Lib.hid (ownsRow_low HO8.out hszS)
                  have HBf := Lib.hid (HBS.out.trans (HB8.out.mono hszS))
                  clear ho8 hb8 HO8 HB8 HIm
                  go_wp2
                  go_roundw
                  case rel => exact ⟨j + 1, g3, c3, Bm, by omega, by go_num, rfl, HIf.out, HOf.out, HBf.out⟩
                  case measure => simp [intOf]; omega
        · obtain rfl : r = j := by omega
          have C9 := checkedNumbers_any (some ⟨g, 0, none⟩) p cc B wS (Rd.own ho)
          rw [all_fin HIS.out] at C9
          have HKn := Lib.hid (fun e => IsL.known HIS.out e)
          clear ho hb HIS
          generalize fitO mt sc p r = F at *
          rcases Bool.eq_false_or_eq_true (F.all finO) with e | e
          · have hR2 := Lib.hid (hR.out.trans (if_pos e))
            have hKn := HKn.out e
            rw [e] at C9
            have C9 := Lib.hid C9
            subst hKn
            clear hR HKn
            go_wp2_with (fail)
            refine C9.out.mono ?_
            rintro e9 w9 ⟨rfl, hb9⟩
            have HB9 := Lib.hid (HB3.out.trans ((HBS.out.trans (hb9.mono hszS)).mono hs3))
            have HO9 := Lib.hid (ownsRow_low (ownsRow_below HO.out hb9) hs3)
            clear hb9 C9
            go_wp2
            go_ret2
            exact ⟨_, _, _, by rw [hR2.out]; rfl, HB9.out, by rw [hR2.out]; exact HO9.out⟩
          · have hR2 := Lib.hid (hR.out.trans (if_neg (by rw [e]; simp)))
            rw [e] at C9
            have C9 := Lib.hid C9
            clear hR HKn
            go_wp2_with (fail)
            refine C9.out.mono ?_
            rintro e9 w9 ⟨rfl, hb9⟩
            have HB9 := Lib.hid (HB3.out.trans ((HBS.out.trans (hb9.mono hszS)).mono hs3))
            clear hb9 C9
            go_wp2
            go_ret2
            exact ⟨none, 0, 0, by rw [hR2.out]; rfl, HB9.out, by rw [hR2.out]; exact World.ownsRow_nil _ _ _ _⟩

end Go.Proofs.Ytcflgmjjomiejaa
