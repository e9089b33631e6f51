/- The law FnSavedDecks returns true: its walk. -/
import Derived.Test.YtnoageckldilnaaDoorSvD
namespace Go.Proofs.YtnoageckldilnaaDoor
open Go.RowKit
set_option linter.unusedVariables false

set_option maxHeartbeats 12800000 in
set_option maxRecDepth 100000 in
theorem fnSavedDecks_walk (a0 : Option Addr) (n0 c0 : Nat) (x0 : List Int) (a1 : Option Addr) (n1 c1 : Nat) (x1 : List Int) (w : World) (ok0 : okB x0) (v0 : Bytes w a0 n0 c0 x0) (ok1 : okB x1) (v1 : Bytes w a1 n1 c1 x1) :
    Calls Tryd.prog 6 #[.slice a0 n0 c0, .slice a1 n1 c1] w (Ret w (.bool true)) := by
  obtain ⟨hc0, hm0, _⟩ := v0.at 0
  obtain ⟨hc1, hm1, _⟩ := v1.at 0
  have C0 := b10Long_any a0 n0 c0 a1 n1 c1 w (by omega) (by omega)
  have CR := Lib.hid (b10Saved_any a0 n0 c0 x0 w v0 ok0)
  have CA := Lib.hid (fun (k m : Int) W (hW : Below w.heap.size w W) (h1 : 0 ≤ k) (h2 : k ≤ 1000) (h3 : 1 ≤ m) (h4 : m ≤ 1000) => b10At_any a1 n1 c1 x1 k m W (v1.mono hW) ok1 h1 h2 h3 h4)
  clear v0 v1 ok0 ok1
  obtain ⟨i0, hii, hq0, hq1, hq2⟩ := info_parts infoInt
  rcases Bool.eq_false_or_eq_true (isLongB n0 n1) with e | e
  · rw [e] at C0
    have C0 := Lib.hid C0
    go_enter Tryd.func6, Tryd.ntmps6
    go_wp2_with (fail)
    refine C0.out.mono ?_
    rintro e w1 ⟨rfl, rfl⟩
    go_wp2
    go_ret
    exact ⟨rfl, Below.refl _ _⟩
  rw [e] at C0
  have C0 := Lib.hid C0
  clear e
  go_enter Tryd.func6, Tryd.ntmps6
  go_wp2_with (fail)
  refine C0.out.mono ?_
  rintro e w0 ⟨rfl, rfl⟩
  go_wp2_with (fail)
  refine CR.out.mono ?_
  rintro e w1 ⟨g, k, cc, L, ms, xs, rfl, hb1, ho1, hk4, hok⟩
  have HO := Lib.hid ho1
  have HB := Lib.hid hb1
  have HOk := Lib.hid hok
  have hxl := ho1.len
  have hml := ho1.ml
  have hkc := ho1.sv.rd.2.1
  have hcm := ho1.sv.rd.2.2.1
  have hsz1 := hb1.size
  clear ho1 hb1 hok C0 CR
  have hbE : Below w1.heap.size w1 (w1.alloc (.cells #[.int .i64 0] 3)) := (Below.refl _ _).alloc (Nat.le_refl _) _
  have HBE := Lib.hid hbE
  have HE0 : Hid ((w1.alloc (.cells #[.int .i64 0] 3)).ownsRow w1.heap.size 3 1 (.slice (some ⟨w1.heap.size, 0, none⟩) 1 1) 1 (intCells (endsTo xs 0))) := by
    have := own_lit w1 w1.heap.size 3 [.int .i64 0] 1 rfl (by omega) (Nat.le_refl _)
    exact this
  clear hbE
  go_wp2
  generalize w1.alloc (.cells #[.int .i64 0] 3) = w2 at *
  go_loopw [6, 36] (fun ve vi wr => ∃ (i ge ce : Nat), i ≤ k ∧ vi = .int .i64 i ∧ ve = .slice (some ⟨ge, 0, none⟩) (i + 1) ce ∧ Below w1.heap.size w1 wr ∧ wr.ownsRow w1.heap.size 3 1 (.slice (some ⟨ge, 0, none⟩) (i + 1) ce) (i + 1) (intCells (endsTo xs i))) (fun _ vi _ => k - (intOf vi).toNat)
  case atStart => exact ⟨0, w1.heap.size, 1, by omega, rfl, rfl, HBE.out, HE0.out⟩
  case round =>
    obtain ⟨i, ge, ce, hik, rfl, rfl, hb, he⟩ := hrel
    have HBr := Lib.hid hb
    have HE := Lib.hid he
    have hszr := hb.size
    clear hb he HBE HE0
    by_cases hlt : i < k
    · have hr := HO.out.below HBr.out
      obtain ⟨p0, p1, p2⟩ := svCells_get ms i (by omega)
      have z0 : wr.cell? ⟨g, i * 3, none⟩ = some (.string (ms.getD i ms0).1) := (hr.row.cellAt (i * 3) (by omega)).trans p0
      have z1 : wr.cell? ⟨g, i * 3 + 1, none⟩ = some (spotV (ms.getD i ms0).2.1) := (hr.row.cellAt (i * 3 + 1) (by omega)).trans p1
      have z2 : wr.cell? ⟨g, i * 3 + 2, none⟩ = some (spotV (ms.getD i ms0).2.2) := (hr.row.cellAt (i * 3 + 2) (by omega)).trans p2
      have hv := (hr.el i hlt).v
      have hx := HOk.out _ (getD_mem (d := as0) (show i < xs.length by omega))
      have HEn := endN_succ xs i (by omega)
      rcases hM : ms.getD i ms0 with ⟨nm, ⟨A0, N0, C0⟩, ⟨A1, N1, C1⟩⟩
      rcases hX : xs.getD i as0 with ⟨nm', y0, yss⟩
      rw [hM] at z0 z1 z2 hv
      rw [hX] at hv hx HEn
      obtain ⟨q0, q1, ss, q2⟩ := hv
      obtain rfl : nm = nm' := q0
      dsimp only [spotV] at z0 z1 z2 q1 q2
      replace HEn := Lib.hid HEn
      have hnm := (okS_bd hx).1
      have hln := (okS_bd hx).2.2
      have hSt := storeR_ok (show okSaved nm y0 yss = true from hx)
      have hLd := lsY_store (show okSaved nm y0 yss = true from hx)
      have CS := implStoreSaved_any nm A0 N0 C0 y0 A1 N1 C1 ss yss wr q1 q2 (by dsimp only at hnm; omega)
      rw [hSt] at CS
      have CV := Lib.hid (fun W (hW : Below wr.heap.size wr W) => implValidSaved_any nm A0 N0 C0 y0 A1 N1 C1 ss yss W (q1.mono hW) (q2.mono hW) (by dsimp only at hnm; omega))
      rw [show okSaved nm y0 yss = true from hx] at CV
      obtain ⟨l, hl⟩ : ∃ l, l = storeL nm y0 yss := ⟨_, rfl⟩
      have hl2 : stL (nm, y0, yss) = l := hl.symm
      rw [hl2] at HEn hln
      rw [← hl] at CS hLd
      have CI := Lib.hid (fun W => implLoadSaved_any l (nm, y0, yss) hLd.1.symm true hLd.2.symm W (by omega))
      have hs := ofL_sz l
      have HQ1 := Lib.hid q1
      have HQ2 := Lib.hid q2
      have CS := Lib.hid CS
      have HM := Lib.hid hM
      clear hSt hLd hl hl2 hx p0 p1 p2 hr q1 q2 hM hX
      generalize ofL l = sl at *
      go_wp2_with (fail)
      refine CS.out.mono ?_
      rintro e w4 ⟨rfl, hb4⟩
      have HB4 := Lib.hid hb4
      have hz4 := hb4.size
      clear hb4 CS
      go_wp2_with (fail)
      refine (CI.out _).mono ?_
      rintro e w5 ⟨hb5, A2, N2, C2, A3, N3, C3, ts, l1, rfl, k1, k2, ho5, hi5, hd5⟩
      have HB5 := Lib.hid (HB4.out.trans (hb5.mono hz4))
      have hz5 := hb5.size
      dsimp only at ho5 hd5
      have HR1 := Lib.hid (ints_own ho5)
      have HR2 := Lib.hid hd5.rd
      clear hb5 ho5 hd5 hi5 k1 k2 HB4 CI
      have hbX : Below w5.heap.size w5 (w5.alloc (.cells #[.string nm, .slice A2 N2 C2, .slice A3 N3 C3] 30)) := (Below.refl _ _).alloc (Nat.le_refl _) _
      have HX := Lib.hid hbX
      have b0 : (w5.alloc (.cells #[.string nm, .slice A2 N2 C2, .slice A3 N3 C3] 30)).cell? ⟨w5.heap.size, 0, none⟩ = some (.string nm) := by go_simp
      have b1 : (w5.alloc (.cells #[.string nm, .slice A2 N2 C2, .slice A3 N3 C3] 30)).cell? ⟨w5.heap.size, 1, none⟩ = some (.slice A2 N2 C2) := by go_simp
      have b2 : (w5.alloc (.cells #[.string nm, .slice A2 N2 C2, .slice A3 N3 C3] 30)).cell? ⟨w5.heap.size, 2, none⟩ = some (.slice A3 N3 C3) := by go_simp
      have hzX : (w5.alloc (.cells #[.string nm, .slice A2 N2 C2, .slice A3 N3 C3] 30)).heap.size = w5.heap.size + 1 := by simp
      replace z0 := cell_on HX.out (cell_on HB5.out z0)
      replace z1 := cell_on HX.out (cell_on HB5.out z1)
      replace z2 := cell_on HX.out (cell_on HB5.out z2)
      have HB6 := Lib.hid (HB5.out.trans (HX.out.mono (by omega)))
      have HR1 := Lib.hid (HR1.out.mono HX.out)
      have HR2 := Lib.hid (HR2.out.mono HX.out)
      clear hbX HX HB5
      go_wp2
      generalize w5.alloc (.cells #[.string nm, .slice A2 N2 C2, .slice A3 N3 C3] 30) = w6 at *
      have CM : Hid (∀ W, Below w6.heap.size w6 W → ∀ p q, W.cell? ⟨p, 0, none⟩ = some (.string nm) → W.cell? ⟨p, 1, none⟩ = some (.slice A2 N2 C2) → W.cell? ⟨p, 2, none⟩ = some (.slice A3 N3 C3) → W.cell? ⟨q, 0, none⟩ = some (.string nm) → W.cell? ⟨q, 1, none⟩ = some (.slice A0 N0 C0) → W.cell? ⟨q, 2, none⟩ = some (.slice A1 N1 C1) →
          Calls Tryd.prog 24 #[.slice (some ⟨p, 0, none⟩) 1 1, .slice (some ⟨q, 0, none⟩) 1 1] W (Ret W (.bool true))) := fun W hW p q h0 h1 h2 k0 k1 k2 => by
        have := implSame_any (some ⟨p, 0, none⟩) 1 1 [(nm, (A2, N2, C2), (A3, N3, C3))] [(nm, y0, yss)] (some ⟨q, 0, none⟩) 1 1 [(nm, (A0, N0, C0), (A1, N1, C1))] [(nm, y0, yss)] W
          (savS1 ⟨rfl, HR1.out.mono hW, ts, HR2.out.mono hW⟩ h0 h1 h2) (savS1 ⟨rfl, HQ1.out.mono (HB6.out.trans (hW.mono HB6.out.size)), ss, HQ2.out.mono (HB6.out.trans (hW.mono HB6.out.size))⟩ k0 k1 k2)
        rw [decide_eq_true rfl] at this
        exact this
      go_region_held3 (fun W => W.cell? ⟨g, i * 3, none⟩ = some (.string nm) ∧ W.cell? ⟨g, i * 3 + 1, none⟩ = some (.slice A0 N0 C0) ∧ W.cell? ⟨g, i * 3 + 2, none⟩ = some (.slice A1 N1 C1) ∧ W.cell? ⟨w5.heap.size, 0, none⟩ = some (.string nm) ∧ W.cell? ⟨w5.heap.size, 1, none⟩ = some (.slice A2 N2 C2) ∧ W.cell? ⟨w5.heap.size, 2, none⟩ = some (.slice A3 N3 C3))
        (first | exact ⟨z0, z1, z2, b0, b1, b2⟩ | go_keep)
        (first
          | (go_at_call 12; refine (CV.out _ (HB6.out.drew)).mono ?_; rintro e w7 ⟨rfl, hb7⟩; have hb7 : Below w6.heap.size w6 w7 := (Below.refl _ _).drew.trans hb7; have z0 := cell_on hb7 z0; have z1 := cell_on hb7 z1; have z2 := cell_on hb7 z2; have b0 := cell_on hb7 b0; have b1 := cell_on hb7 b1; have b2 := cell_on hb7 b2; have hz7 := hb7.size)
          | (go_at_call 24; refine (CM.out _ ((hb7.alloc hz7 _).alloc (by simp; omega) _) _ _ (by go_simp) (by go_simp) (by go_simp) (by go_simp) (by go_simp) (by go_simp)).mono ?_; rintro e w8 ⟨rfl, hb8⟩; have hb9 : Below w7.heap.size w7 w8 := Below.trans (((Below.refl w7.heap.size w7).alloc (Nat.le_refl _) _).alloc (by simp) _) (Below.mono hb8 (by simp; omega)); have z0 := cell_on hb9 z0; have z1 := cell_on hb9 z1; have z2 := cell_on hb9 z2; have b0 := cell_on hb9 b0; have b1 := cell_on hb9 b1; have b2 := cell_on hb9 b2))
      all_goals
        have he8 := ownsRow_below (ownsRow_below (ownsRow_below HE.out HB6.out) hb7) hb9
        have HE8 := Lib.hid he8
        obtain ⟨ez, ef⟩ := getJ he8 i (by omega)
        rw [endsTo_get xs i i (Nat.le_refl _)] at ez
        have hz6 := HB6.out.size
        have HB9 := Lib.hid (((HBr.out.trans (HB6.out.mono hszr)).trans (hb7.mono (by omega))).trans (hb9.mono (by omega)))
        have hz9 := hb9.size
        have hAl := allL_bd HOk.out
        have hEl := endN_le xs (i + 1)
        have hEq := HEn.out
        have hwi : IntKind.i64.wrap (((i + 1 : Nat) : Int) - 1) = (i : Int) := by rw [IntWalk.i64_in _ (by omega)]; omega
        have hws : IntKind.i64.wrap (((endN xs i : Nat) : Int) + ((l.length : Nat) : Int)) = ((endN xs (i + 1) : Nat) : Int) := by rw [IntWalk.i64_in _ (by omega)]; omega
        have HEs := Lib.hid (endsTo_succ xs i)
        clear he8 hb7 hb9 z0 z1 z2 b0 b1 b2 hAl hEl hEq CM CV HR1 HR2 HQ1 HQ2
        generalize endN xs i = E0 at *
        generalize hE1 : endN xs (i + 1) = E1 at *
        go_wp2_with (at_builtin; go_must (refine wpList_append_lies _ rfl _ _ 46 rfl w1.heap.size 3 i0 _ 1 8 Tryd.underlying46 hii hq0 hq1 hq2 rfl (by omega) (.slice (some ⟨ge, 0, none⟩) (i + 1) ce) (i + 1) (intCells (endsTo xs i)) rfl (HE8.out.alloc _) ⟨w8.heap.size, 0, none⟩ 1 1 [.int .i64 (E1 : Nat)] rfl rfl (new1 _ _ _) (one1 rfl) (by omega) (by unfold maxLen; omega) (by omega) (by simp; omega) (w8.heap.size + 1) (by simp) ?_); intro gg cap wn hown1 hg1 hat hlt10; have HBn := Lib.hid (below_app HB9.out (by omega) hg1 HE8.out); have HOn : Hid (wn.ownsRow w1.heap.size 3 1 (.slice (some ⟨gg, 0, none⟩) (i + 1 + 1) cap) (i + 1 + 1) (intCells (endsTo xs (i + 1)))) := (by show wn.ownsRow _ _ _ _ _ _; rw [HEs.out, intCells_snoc]; exact hown1); clear hown1 hg1 hat ez ef)
        go_roundw
        case rel => exact ⟨i + 1, gg, cap, by omega, by first | rfl | go_num, by first | rfl | go_num, HBn.out, HOn.out⟩
        case measure => simp [intOf]; omega
    · obtain rfl : i = k := by omega
      have hr := HO.out.below HBr.out
      have hA := allL_bd HOk.out
      have CA2 := implStoreAll_any _ i cc ms xs wr hr.sv (fun j hj => (okS_bd (HOk.out _ (getD_mem (by omega)))).2.1)
      rw [allR_ok HOk.out (by omega)] at CA2
      have CA2 := Lib.hid CA2
      have CR1 : Hid (∀ W, Calls Tryd.prog 25 #[.string (ofL (allL xs))] W (RcPost (xs, (allL xs).length) W)) := fun W => implRecoverAll_any (allL xs) _ (rcv_whole xs HOk.out (by omega)).symm W (by omega)
      have CRx : Hid (∀ (l : List UInt8) (Y : List AS × Nat), Y = rcv 8 l → l.length ≤ 1048576 → ∀ W, Calls Tryd.prog 25 #[.string (ofL l)] W (RcPost Y W)) := fun l Y hY hl W => implRecoverAll_any l Y hY W hl
      have HCut := Lib.hid (fun (j cut : Nat) (hj : j < xs.length) (h1 : endN xs j ≤ cut) (h2 : cut < endN xs (j + 1)) => rcv_cut xs HOk.out (by omega) j cut hj h1 h2)
      have HBent := Lib.hid (fun (j : Nat) (hj : j ≤ xs.length) (l : List UInt8) (e : l.take (endN xs j) = (allL xs).take (endN xs j)) => rcv_bent xs HOk.out j hj (by omega) l e)
      have HEa := Lib.hid (endN_all xs)
      have hs := ofL_sz (allL xs)
      generalize allL xs = la at *
      generalize hsa : ofL la = sa at *
      have HSa := Lib.hid hsa
      clear hsa hr
      go_wp2_with (fail)
      refine CA2.out.mono ?_
      rintro e w4 ⟨rfl, hb4⟩
      have HB4 := Lib.hid (HBr.out.trans (hb4.mono hszr))
      have HE4 := Lib.hid (ownsRow_below HE.out hb4)
      have hz4 := hb4.size
      clear hb4 CA2 HBr HE
      go_wp2_with (fail)
      refine (CR1.out _).mono ?_
      rintro e w5 ⟨hb5, g2, n2, c2, L2, m2, rfl, o2⟩
      dsimp only at o2
      obtain rfl : i = n2 := by have := o2.len; omega
      have HO2 := Lib.hid o2.sv
      have HB5 := Lib.hid (HB4.out.trans (hb5.mono (by omega)))
      have HE5 := Lib.hid (ownsRow_below HE4.out hb5)
      have hz5 := hb5.size
      clear hb5 o2 CR1 HB4 HE4
      have CSm := implSame_any _ _ _ _ xs _ _ _ _ xs w5 HO2.out (HO.out.below HB5.out).sv
      rw [decide_eq_true rfl] at CSm
      have CSm := Lib.hid CSm
      obtain ⟨ez, ef⟩ := getJ HE5.out i (by omega)
      have hEi : endN xs i = la.length := by rw [← hxl]; exact HEa.out
      rw [endsTo_get xs i i (Nat.le_refl _), hEi] at ez
      go_wp2_with (fail)
      refine CSm.out.mono ?_
      rintro e w6 ⟨rfl, hb6⟩
      have HB6 := Lib.hid (HB5.out.trans (hb6.mono (by omega)))
      have HE6 := Lib.hid (ownsRow_below HE5.out hb6)
      have HBw := Lib.hid (HB.out.trans (HB6.out.mono hsz1))
      have hz6 := hb6.size
      clear hb6 ez ef CSm HO2 HB5 HE5
      by_cases hA0 : la.length = 0
      · go_wp2
        go_ret
        exact ⟨rfl, HBw.out⟩
      go_wp2_with (fail)
      refine (CA.out 0 256 _ HBw.out (by omega) (by omega) (by omega) (by omega)).mono ?_
      rintro e w7 ⟨x, rfl, hx0, hx1, rfl⟩
      go_wp2_with (fail)
      refine (CA.out 1 256 _ HBw.out (by omega) (by omega) (by omega) (by omega)).mono ?_
      rintro e w7 ⟨y, rfl, hy0, hy1, rfl⟩
      have hw1 : IntKind.i64.wrap (256 * x) = 256 * x := IntWalk.i64_in _ (by omega)
      have hw2 : IntKind.i64.wrap (256 * x + y) = 256 * x + y := IntWalk.i64_in _ (by omega)
      have hw3 : 0 ≤ 256 * x + y := by omega
      have hrb : 0 ≤ (256 * x + y) % ((la.length : Nat) : Int) ∧ (256 * x + y) % ((la.length : Nat) : Int) < ((la.length : Nat) : Int) := ⟨Int.emod_nonneg _ (by omega), Int.emod_lt_of_pos _ (by omega)⟩
      go_wp2
      generalize (256 * x + y) % ((la.length : Nat) : Int) = q at *
      obtain ⟨cut, rfl⟩ : ∃ c : Nat, q = c := ⟨q.toNat, by omega⟩
      clear hw1 hw2 hw3
      go_loop [18] (fun v => ∃ j : Nat, v = .int .i64 j ∧ j ≤ i ∧ endN xs j ≤ cut) (fun v => i - (intOf v).toNat)
      case atStart => exact ⟨0, rfl, by omega, by rw [endN_zero]; omega⟩
      case round =>
        obtain ⟨j, rfl, hji, hjc⟩ := hrel
        have hj : j < i := by
          by_cases q : j = i
          · subst q; omega
          · omega
        obtain ⟨ez, ef⟩ := getJ HE6.out (j + 1) (by omega)
        rw [endsTo_get xs i (j + 1) (by omega)] at ez
        have hwj : IntKind.i64.wrap ((j : Int) + 1) = ((j + 1 : Nat) : Int) := by rw [IntWalk.i64_in _ (by omega)]; omega
        by_cases hle : endN xs (j + 1) ≤ cut
        · have hle' : ((endN xs (j + 1) : Nat) : Int) ≤ (cut : Int) := by omega
          go_wp2
          go_round
          case rel => exact ⟨j + 1, by go_num, by omega, hle⟩
          case measure => simp [intOf]; omega
        · have hle' : ¬ ((endN xs (j + 1) : Nat) : Int) ≤ (cut : Int) := by omega
          have CC : Hid (∀ W, Calls Tryd.prog 25 #[.string (sa.extract 0 cut)] W (RcPost (xs.take j, endN xs j) W)) := fun W => by
            have e1 : sa.extract 0 cut = ofL (la.take cut) := by rw [← HSa.out, ofL_ext]; rfl
            rw [e1]
            exact CRx.out _ _ (HCut.out j cut (by omega) hjc (by omega)).symm (by rw [List.length_take]; omega) W
          have HJc := Lib.hid hjc
          have HTl : Hid ((xs.take j).length = j) := by show _ = _; rw [List.length_take]; omega
          clear hle hjc HCut
          generalize hEj : endN xs j = Ej at *
          generalize endN xs (j + 1) = Ej1 at *
          go_wp2_with (fail)
          refine (CC.out _).mono ?_
          rintro e w9 ⟨hb9, g3, n3, c3, L3, m3, rfl, o3⟩
          dsimp only at o3
          obtain rfl : j = n3 := by have := o3.len; have := HTl.out; omega
          have HE9 := Lib.hid (ownsRow_below HE6.out hb9)
          have HB9 := Lib.hid (HB6.out.trans (hb9.mono (by omega)))
          have HB69 := Lib.hid hb9
          have hz9 := hb9.size
          clear hb9 o3 CC ez ef
          obtain ⟨ez, ef⟩ := getJ HE9.out j (by omega)
          rw [endsTo_get xs i j (by omega), hEj] at ez
          have HEj := Lib.hid hEj
          clear hEj
          obtain ⟨cp, o4, hcv, hcp, hcm, hcell, hfr⟩ := bytes_ex2 w9 la (by omega)
          rw [HSa.out] at hcv
          have HCell := Lib.hid hcell
          have HFr := Lib.hid hfr
          clear hcell hfr
          have hb10 : Below w9.heap.size w9 (w9.alloc o4).drew := ((Below.refl _ _).alloc (Nat.le_refl _) _).drew
          have HB10 := Lib.hid hb10
          have hz10 : w9.heap.size < (w9.alloc o4).drew.heap.size := by simp
          clear hb10
          go_wp2
          generalize (w9.alloc o4).drew = wx at *
          have z0 := HCell.out cut (by omega)
          have f0 := HFr.out cut (by omega)
          have HBx := Lib.hid (HBw.out.trans ((((Below.refl w6.heap.size w6).trans (HB69.out)).trans (HB10.out.mono hz9)).mono (by have := HBw.out.size; omega)))
          generalize la.getD cut 0 = bc at *
          refine wp_region_held_drew (S := fun _ => True) (by kernel_rfl) trivial (fun _ => ?_)
          refine wpAnyH_take (i := 0) (v := ?_) rfl (by kernel_rfl) (by kernel_rfl) (by kernel_rfl) (fun _ _ _ h => h) (Or.inl ⟨by rfl, ?_⟩) trivial ?_
          rotate_left 1
          · intro w hSw; go_simp; try with_reducible rfl
          try simp only [Act.put, List.setIfInBounds_toArray, List.set_cons_zero, List.set_cons_succ]
          refine wpAnyH_take (i := 1) (v := ?_) rfl (by kernel_rfl) (by kernel_rfl) (by kernel_rfl) (fun _ _ _ h => h) (Or.inl ⟨by rfl, ?_⟩) trivial ?_
          rotate_left 1
          · intro w hSw; go_simp; try with_reducible rfl
          try simp only [Act.put, List.setIfInBounds_toArray, List.set_cons_zero, List.set_cons_succ]
          refine wpAnyH_take (i := 2) (v := ?_) rfl (by kernel_rfl) (by kernel_rfl) (by kernel_rfl) (fun _ _ _ h => h) (Or.inl ⟨by rfl, ?_⟩) trivial ?_
          rotate_left 1
          · intro w hSw; go_simp; try with_reducible rfl
          try simp only [Act.put, List.setIfInBounds_toArray, List.set_cons_zero, List.set_cons_succ]
          refine wpAnyH_take (i := 4) (v := ?_) rfl (by kernel_rfl) (by kernel_rfl) (by kernel_rfl) (fun _ _ _ h => h) (Or.inl ⟨by rfl, ?_⟩) trivial ?_
          rotate_left 1
          · intro w hSw; go_simp; try with_reducible rfl
          try simp only [Act.put, List.setIfInBounds_toArray, List.set_cons_zero, List.set_cons_succ]
          refine wpAnyH_ready (rs := [3, 5]) (by kernel_rfl) (by simp) ?_
          refine AllReadyH.cons rfl (fun K hK => ?_) ?_
          · skip
            go_simp
            refine hK.out _ _ trivial (fun _ => ?_)
            clear hK K
            try simp only [Act.put, List.setIfInBounds_toArray, List.set_cons_zero, List.set_cons_succ]
            refine wpAnyH_ready (rs := [5]) (by kernel_rfl) (by simp) ?_
            refine AllReadyH.cons rfl (fun K hK => ?_) ?_
            · skip
              go_simp
              go_at_call 26
              refine (CA.out 2 255 _ HBx.out.drew (by omega) (by omega) (by omega) (by omega)).mono ?_
              rintro e wy ⟨z, rfl, hz0, hz1, rfl⟩
              have hwz : IntKind.i64.wrap (1 + z) = 1 + z := IntWalk.i64_in _ (by omega)
              have hwu : IntKind.u8.wrap (1 + z) = 1 + z := by rw [IntKind.wrap_u8]; omega
              obtain ⟨nb, hnb⟩ : ∃ nb : UInt8, IntKind.u8.wrap ((bc.toNat : Int) + (1 + z)) = ((nb.toNat : Nat) : Int) := ⟨byteOf ((bc.toNat : Int) + (1 + z)), byteOf_wrap _⟩
              refine hK.out _ _ trivial (fun _ => ?_)
              clear hK K
              try simp only [Act.put, List.setIfInBounds_toArray, List.set_cons_zero, List.set_cons_succ]
              refine wpAnyH_take (i := 6) (v := ?_) rfl (by kernel_rfl) (by kernel_rfl) (by kernel_rfl) (fun _ _ _ h => h) (Or.inl ⟨by rfl, ?_⟩) trivial ?_
              rotate_left 1
              · intro w hSw; go_simp; try with_reducible rfl
              try simp only [Act.put, List.setIfInBounds_toArray, List.set_cons_zero, List.set_cons_succ]
              refine wpAnyH_take (i := 7) (v := ?_) rfl (by kernel_rfl) (by kernel_rfl) (by kernel_rfl) (fun _ _ _ h => h) (Or.inl ⟨by rfl, ?_⟩) trivial ?_
              rotate_left 1
              · intro w hSw; go_simp; try with_reducible rfl
              try simp only [Act.put, List.setIfInBounds_toArray, List.set_cons_zero, List.set_cons_succ]
              refine wpAnyH_take (i := 8) (v := ?_) rfl (by kernel_rfl) (by kernel_rfl) (by kernel_rfl) (fun _ _ _ h => h) (Or.inl ⟨by rfl, ?_⟩) trivial ?_
              rotate_left 1
              · intro w hSw; go_simp; try with_reducible rfl
              try simp only [Act.put, List.setIfInBounds_toArray, List.set_cons_zero, List.set_cons_succ]
              refine wpAnyH_take (i := 9) (v := ?_) rfl (by kernel_rfl) (by kernel_rfl) (by kernel_rfl) (fun _ _ _ h => h) (Or.inl ⟨by rfl, ?_⟩) trivial ?_
              rotate_left 1
              · intro w hSw; go_simp; try with_reducible rfl
              try simp only [Act.put, List.setIfInBounds_toArray, List.set_cons_zero, List.set_cons_succ]
              refine wpAnyH_ready (rs := [10]) (by kernel_rfl) (by simp) ?_
              refine AllReadyH.cons rfl (fun K hK => ?_) ?_
              · skip
                go_simp
                refine hK.out _ _ trivial (fun _ => ?_)
                clear hK K
                try simp only [Act.put, List.setIfInBounds_toArray, List.set_cons_zero, List.set_cons_succ]
                refine wpAnyH_done (by kernel_rfl) ?_ _
                have HC2 : Hid (∀ k, k < la.length → ((wx.setCell ⟨w9.heap.size, cut, none⟩ (.int .u8 ((nb.toNat : Nat) : Int))).drew).cell? ⟨w9.heap.size, k, none⟩ = some (.int .u8 (((la.set cut nb).getD k 0).toNat : Int))) := set_cells (n := 0) (cut := cut) (nb := nb) (v := .int .u8 ((nb.toNat : Nat) : Int)) (w := wx) HCell.out (by omega) rfl
                have HB11 : Hid (Below w9.heap.size w9 ((wx.setCell ⟨w9.heap.size, cut, none⟩ (.int .u8 ((nb.toNat : Nat) : Int))).drew)) := (HB10.out.setCell (Nat.le_refl _) _).drew
                have hz11 : ((wx.setCell ⟨w9.heap.size, cut, none⟩ (.int .u8 ((nb.toNat : Nat) : Int))).drew).heap.size = wx.heap.size := by simp
                clear z0 f0 hwz hwu hnb HCell HFr
                generalize (wx.setCell ⟨w9.heap.size, cut, none⟩ (.int .u8 ((nb.toNat : Nat) : Int))).drew = ws at *
                have hll : (la.set cut nb).length = la.length := by simp
                have HTk : Hid ((la.set cut nb).take (endN xs j) = la.take (endN xs j)) := set_take _ _ _ _ (by rw [HEj.out]; exact HJc.out)
                have HJy := Lib.hid (HBent.out j (by omega) _ HTk.out)
                have HSt := Lib.hid (rcv_store 8 (la.set cut nb))
                have HSm := Lib.hid (rcv_small 8 (la.set cut nb))
                have CRb := CRx.out (la.set cut nb) _ rfl (by rw [hll]; omega) ws
                have qc := str_of ws w9.heap.size la.length cp (la.set cut nb) (by omega) HC2.out
                rw [List.take_of_length_le (by omega)] at qc
                generalize la.set cut nb = lb at *
                generalize hY : rcv 8 lb = Y at *
                obtain ⟨ys, o⟩ := Y
                dsimp only at HSt HSm HJy
                obtain ⟨hs1, hs2, hs3⟩ := HSt.out
                obtain ⟨hm1, _⟩ := HSm.out
                have hjy := HJy.out
                have HAll := Lib.hid hs1
                have HAl := Lib.hid hs3
                have HCRb := Lib.hid CRb
                clear hY hs1 hs3 HSt HSm HJy CRb HTk HBent CRx
                generalize hlb : ofL lb = sb at *
                have HLb := Lib.hid hlb
                clear hlb
                go_wp2_with (fail)
                refine HCRb.out.mono ?_
                rintro e w12 ⟨hb12, g5, n5, c5, L5, m5, rfl, o5⟩
                dsimp only at o5
                have hn5 : ys.length = n5 := o5.len
                have CAb := implStoreAll_any _ n5 c5 m5 ys w12 o5.sv (fun k hk => (okS_bd (HAll.out _ (getD_mem (by omega)))).2.1)
                rw [allR_ok HAll.out hm1, HAl.out] at CAb
                have HCAb := Lib.hid CAb
                have HC3 : Hid (∀ k, k < la.length → w12.cell? ⟨w9.heap.size, k, none⟩ = some (.int .u8 ((lb.getD k 0).toNat : Int))) := fun k hk => cell_on hb12 (HC2.out k hk)
                have hz12 := hb12.size
                have HB12 := Lib.hid (HB11.out.trans (hb12.mono (by omega)))
                clear qc CAb o5 hb12 HC2 HB11 HCRb
                go_wp2_with (fail)
                refine HCAb.out.mono ?_
                rintro e w13 ⟨rfl, hb13⟩
                have hz13 := hb13.size
                have qc := str_of w13 w9.heap.size o cp lb (by omega) (fun k hk => cell_on hb13 (HC3.out k (by omega)))
                have HB13 := Lib.hid ((HB9.out.trans (HB12.out.mono (by omega))).trans (hb13.mono (by omega)))
                have g1 : ((j : Nat) : Int) ≤ ((n5 : Nat) : Int) := by omega
                have g2 : (0 : Int) ≤ ((o : Nat) : Int) := by omega
                have g3 : ((o : Nat) : Int) ≤ ((la.length : Nat) : Int) := by omega
                have hocp : o ≤ cp := by omega
                clear hb13 HC3 HB12 HCAb
                generalize ofL (lb.take o) = so at *
                go_wp2
                go_ret
                exact ⟨by simp, HB.out.trans (HB13.out.mono hsz1)⟩
              exact AllReadyH.nil
            exact AllReadyH.nil
          refine AllReadyH.cons rfl (fun K hK => ?_) ?_
          · skip
            go_simp
            go_at_call 26
            refine (CA.out 2 255 _ HBx.out.drew (by omega) (by omega) (by omega) (by omega)).mono ?_
            rintro e wy ⟨z, rfl, hz0, hz1, rfl⟩
            have hwz : IntKind.i64.wrap (1 + z) = 1 + z := IntWalk.i64_in _ (by omega)
            have hwu : IntKind.u8.wrap (1 + z) = 1 + z := by rw [IntKind.wrap_u8]; omega
            obtain ⟨nb, hnb⟩ : ∃ nb : UInt8, IntKind.u8.wrap ((bc.toNat : Int) + (1 + z)) = ((nb.toNat : Nat) : Int) := ⟨byteOf ((bc.toNat : Int) + (1 + z)), byteOf_wrap _⟩
            refine hK.out _ _ trivial (fun _ => ?_)
            clear hK K
            try simp only [Act.put, List.setIfInBounds_toArray, List.set_cons_zero, List.set_cons_succ]
            refine wpAnyH_take (i := 6) (v := ?_) rfl (by kernel_rfl) (by kernel_rfl) (by kernel_rfl) (fun _ _ _ h => h) (Or.inl ⟨by rfl, ?_⟩) trivial ?_
            rotate_left 1
            · intro w hSw; go_simp; try with_reducible rfl
            try simp only [Act.put, List.setIfInBounds_toArray, List.set_cons_zero, List.set_cons_succ]
            refine wpAnyH_take (i := 7) (v := ?_) rfl (by kernel_rfl) (by kernel_rfl) (by kernel_rfl) (fun _ _ _ h => h) (Or.inl ⟨by rfl, ?_⟩) trivial ?_
            rotate_left 1
            · intro w hSw; go_simp; try with_reducible rfl
            try simp only [Act.put, List.setIfInBounds_toArray, List.set_cons_zero, List.set_cons_succ]
            refine wpAnyH_ready (rs := [3]) (by kernel_rfl) (by simp) ?_
            refine AllReadyH.cons rfl (fun K hK => ?_) ?_
            · skip
              go_simp
              refine hK.out _ _ trivial (fun _ => ?_)
              clear hK K
              try simp only [Act.put, List.setIfInBounds_toArray, List.set_cons_zero, List.set_cons_succ]
              refine wpAnyH_take (i := 8) (v := ?_) rfl (by kernel_rfl) (by kernel_rfl) (by kernel_rfl) (fun _ _ _ h => h) (Or.inl ⟨by rfl, ?_⟩) trivial ?_
              rotate_left 1
              · intro w hSw; go_simp; try with_reducible rfl
              try simp only [Act.put, List.setIfInBounds_toArray, List.set_cons_zero, List.set_cons_succ]
              refine wpAnyH_take (i := 9) (v := ?_) rfl (by kernel_rfl) (by kernel_rfl) (by kernel_rfl) (fun _ _ _ h => h) (Or.inl ⟨by rfl, ?_⟩) trivial ?_
              rotate_left 1
              · intro w hSw; go_simp; try with_reducible rfl
              try simp only [Act.put, List.setIfInBounds_toArray, List.set_cons_zero, List.set_cons_succ]
              refine wpAnyH_ready (rs := [10]) (by kernel_rfl) (by simp) ?_
              refine AllReadyH.cons rfl (fun K hK => ?_) ?_
              · skip
                go_simp
                refine hK.out _ _ trivial (fun _ => ?_)
                clear hK K
                try simp only [Act.put, List.setIfInBounds_toArray, List.set_cons_zero, List.set_cons_succ]
                refine wpAnyH_done (by kernel_rfl) ?_ _
                have HC2 : Hid (∀ k, k < la.length → ((wx.setCell ⟨w9.heap.size, cut, none⟩ (.int .u8 ((nb.toNat : Nat) : Int))).drew).cell? ⟨w9.heap.size, k, none⟩ = some (.int .u8 (((la.set cut nb).getD k 0).toNat : Int))) := set_cells (n := 0) (cut := cut) (nb := nb) (v := .int .u8 ((nb.toNat : Nat) : Int)) (w := wx) HCell.out (by omega) rfl
                have HB11 : Hid (Below w9.heap.size w9 ((wx.setCell ⟨w9.heap.size, cut, none⟩ (.int .u8 ((nb.toNat : Nat) : Int))).drew)) := (HB10.out.setCell (Nat.le_refl _) _).drew
                have hz11 : ((wx.setCell ⟨w9.heap.size, cut, none⟩ (.int .u8 ((nb.toNat : Nat) : Int))).drew).heap.size = wx.heap.size := by simp
                clear z0 f0 hwz hwu hnb HCell HFr
                generalize (wx.setCell ⟨w9.heap.size, cut, none⟩ (.int .u8 ((nb.toNat : Nat) : Int))).drew = ws at *
                have hll : (la.set cut nb).length = la.length := by simp
                have HTk : Hid ((la.set cut nb).take (endN xs j) = la.take (endN xs j)) := set_take _ _ _ _ (by rw [HEj.out]; exact HJc.out)
                have HJy := Lib.hid (HBent.out j (by omega) _ HTk.out)
                have HSt := Lib.hid (rcv_store 8 (la.set cut nb))
                have HSm := Lib.hid (rcv_small 8 (la.set cut nb))
                have CRb := CRx.out (la.set cut nb) _ rfl (by rw [hll]; omega) ws
                have qc := str_of ws w9.heap.size la.length cp (la.set cut nb) (by omega) HC2.out
                rw [List.take_of_length_le (by omega)] at qc
                generalize la.set cut nb = lb at *
                generalize hY : rcv 8 lb = Y at *
                obtain ⟨ys, o⟩ := Y
                dsimp only at HSt HSm HJy
                obtain ⟨hs1, hs2, hs3⟩ := HSt.out
                obtain ⟨hm1, _⟩ := HSm.out
                have hjy := HJy.out
                have HAll := Lib.hid hs1
                have HAl := Lib.hid hs3
                have HCRb := Lib.hid CRb
                clear hY hs1 hs3 HSt HSm HJy CRb HTk HBent CRx
                generalize hlb : ofL lb = sb at *
                have HLb := Lib.hid hlb
                clear hlb
                go_wp2_with (fail)
                refine HCRb.out.mono ?_
                rintro e w12 ⟨hb12, g5, n5, c5, L5, m5, rfl, o5⟩
                dsimp only at o5
                have hn5 : ys.length = n5 := o5.len
                have CAb := implStoreAll_any _ n5 c5 m5 ys w12 o5.sv (fun k hk => (okS_bd (HAll.out _ (getD_mem (by omega)))).2.1)
                rw [allR_ok HAll.out hm1, HAl.out] at CAb
                have HCAb := Lib.hid CAb
                have HC3 : Hid (∀ k, k < la.length → w12.cell? ⟨w9.heap.size, k, none⟩ = some (.int .u8 ((lb.getD k 0).toNat : Int))) := fun k hk => cell_on hb12 (HC2.out k hk)
                have hz12 := hb12.size
                have HB12 := Lib.hid (HB11.out.trans (hb12.mono (by omega)))
                clear qc CAb o5 hb12 HC2 HB11 HCRb
                go_wp2_with (fail)
                refine HCAb.out.mono ?_
                rintro e w13 ⟨rfl, hb13⟩
                have hz13 := hb13.size
                have qc := str_of w13 w9.heap.size o cp lb (by omega) (fun k hk => cell_on hb13 (HC3.out k (by omega)))
                have HB13 := Lib.hid ((HB9.out.trans (HB12.out.mono (by omega))).trans (hb13.mono (by omega)))
                have g1 : ((j : Nat) : Int) ≤ ((n5 : Nat) : Int) := by omega
                have g2 : (0 : Int) ≤ ((o : Nat) : Int) := by omega
                have g3 : ((o : Nat) : Int) ≤ ((la.length : Nat) : Int) := by omega
                have hocp : o ≤ cp := by omega
                clear hb13 HC3 HB12 HCAb
                generalize ofL (lb.take o) = so at *
                go_wp2
                go_ret
                exact ⟨by simp, HB.out.trans (HB13.out.mono hsz1)⟩
              exact AllReadyH.nil
            exact AllReadyH.nil
          exact AllReadyH.nil

end Go.Proofs.YtnoageckldilnaaDoor
