/- Marks on a row of saved games. -/
import Derived.Test.YtnoageckldilnaaDoorRcA
import Derived.Deep.RegionHeld3
namespace Go.Proofs.YtnoageckldilnaaDoor
open Go.RowKit
set_option linter.unusedVariables false

/-- how much a mark counts on -/
def mkW (x : AS) : Nat := 1 + x.2.1.length + tot x.2.2
def mkN (xs : List AS) (x : Nat) : Nat → Nat
  | 0 => x
  | i + 1 => mkN xs x i + mkW (xs.getD i as0)
/-- one, marked from y on -/
def mk1 (y : Nat) (x : AS) : AS := (mt y, marks ((y : Int) + 1) x.2.1.length, mkTo x.2.2 ((y : Int) + 1 + x.2.1.length) x.2.2.length)
theorem mkN_ge (xs : List AS) (x : Nat) : ∀ i, x ≤ mkN xs x i
  | 0 => Nat.le_refl _
  | i + 1 => by have := mkN_ge xs x i; unfold mkN; omega
theorem mkN_le (xs : List AS) (x : Nat) (hw : ∀ i, i < xs.length → mkW (xs.getD i as0) ≤ 1000) : ∀ i, i ≤ xs.length → mkN xs x i ≤ x + i * 1000
  | 0, _ => by unfold mkN; omega
  | i + 1, h => by have := mkN_le xs x hw i (by omega); have := hw i (by omega); unfold mkN; omega

set_option maxHeartbeats 1600000 in
theorem markSavedS_any (lo hi : Nat) (g n c : Nat) (L : Nat → Nat × Nat × Nat) (ms : List MS) (xs : List AS) (x : Nat) (w : World) (h : OwnSv lo hi w (some ⟨g, 0, none⟩) n c L ms xs) (hh : hi ≤ w.heap.size) (hx : 1 ≤ x) (hx' : x + n * 1000 ≤ 4194304) (hw : ∀ i, i < xs.length → mkW (xs.getD i as0) ≤ 1000) :
    Calls Tryd.prog 31 #[.slice (some ⟨g, 0, none⟩) n c, .int .i64 x] w fun e w' => e = .returned (.int .i64 (mkN xs x n : Nat)) ∧ Chg lo hi w w' ∧ ∃ ms' xs', OwnSv lo hi w' (some ⟨g, 0, none⟩) n c L ms' xs' ∧ ∀ i, i < n → xs'.getD i as0 = mk1 (mkN xs x i) (xs.getD i as0) := by
  have hlen := h.len
  have hnc := h.sv.rd.2.1
  have hcm := h.sv.rd.2.2.1
  have CM := Lib.hid (fun (k : Nat) W (h1 : 1 ≤ k) (h2 : k ≤ 4194304) => markText_any k W h1 h2)
  have HNg := Lib.hid (mkN_ge xs x)
  have HNl := Lib.hid (mkN_le xs x hw)
  have HW := Lib.hid hw
  have HO := Lib.hid h
  clear h hw
  go_enter Tryd.func31, Tryd.ntmps31
  go_wp2
  go_loopw [1, 5] (fun m i wr => ∃ (k : Nat) (ms' : List MS) (xs' : List AS), k ≤ n ∧ i = .int .i64 k ∧ m = .int .i64 ((mkN xs x k : Nat) : Int) ∧ OwnSv lo hi wr (some ⟨g, 0, none⟩) n c L ms' xs' ∧ Hid (∀ i, i < k → xs'.getD i as0 = mk1 (mkN xs x i) (xs.getD i as0)) ∧ Hid (∀ i, k ≤ i → xs'.getD i as0 = xs.getD i as0) ∧ Chg lo hi w wr) (fun _ i _ => n - (intOf i).toNat)
  case atStart => exact ⟨0, ms, xs, by omega, rfl, rfl, HO.out, fun i hi => absurd hi (Nat.not_lt_zero _), fun i _ => rfl, Chg.refl _ _ _⟩
  case round =>
    obtain ⟨k, ms', xs', hk, rfl, rfl, ho, HDone, HRest, hc⟩ := hrel
    have HR := Lib.hid ho
    have HC := Lib.hid hc
    clear ho hc
    by_cases hlt : k < n
    · have hy1 := HNg.out k
      have hy2 := HNl.out k (by omega)
      have hyw := HW.out k (by omega)
      have HY : Hid (mkN xs x (k + 1) = mkN xs x k + mkW (xs.getD k as0)) := rfl
      have HXk := Lib.hid (HRest.out k (Nat.le_refl _))
      generalize hyy : mkN xs x k = y at *
      have HYy := Lib.hid hyy
      have C1 := Lib.hid (CM.out y wr (by omega) (by have : k * 1000 ≤ n * 1000 := Nat.mul_le_mul_right _ hk; omega))
      have hw1 : IntKind.i64.wrap ((y : Int) + 1) = ((y + 1 : Nat) : Int) := by rw [IntWalk.i64_in _ (by have : k * 1000 ≤ n * 1000 := Nat.mul_le_mul_right _ hk; omega)]; omega
      clear hyy
      go_wp2_with (fail)
      refine C1.out.mono ?_
      rintro e w2 ⟨rfl, hb2⟩
      have hr2 := HR.out.below hb2
      have hml := hr2.ml
      obtain ⟨p0, p1, p2⟩ := svCells_get ms' k (by omega)
      have c0 : w2.cell? ⟨g, k * 3, none⟩ = some (.string (ms'.getD k ms0).1) := (hr2.row.cellAt (k * 3) (by omega)).trans p0
      have c1 : w2.cell? ⟨g, k * 3 + 1, none⟩ = some (spotV (ms'.getD k ms0).2.1) := (hr2.row.cellAt (k * 3 + 1) (by omega)).trans p1
      have c2 : w2.cell? ⟨g, k * 3 + 2, none⟩ = some (spotV (ms'.getD k ms0).2.2) := (hr2.row.cellAt (k * 3 + 2) (by omega)).trans p2
      have f := fun j => hr2.row.frozenAt j
      have HC2 : Hid (Chg lo hi w w2) := HC.out.trans (Chg.of_below hb2 (Nat.le_refl _))
      have HR2 := Lib.hid hr2
      have HR3 := Lib.hid (hr2.rename (k := k) (s := mt y) hlt)
      have HE := Lib.hid (hr2.el k hlt)
      have hgi := hr2.rin _ rfl
      have hrg := hr2.rng k hlt
      have hap := hr2.apo k hlt _ rfl
      dsimp only at hgi hap
      have hsz2 := hb2.size
      have hszw := HC.out.size
      clear p0 p1 p2 hr2 hb2 C1
      rcases hL : L k with ⟨l0, l1, l2⟩
      rcases hM : ms'.getD k ms0 with ⟨nm, ⟨A0, L0, C0⟩, ⟨A1, L1, C1⟩⟩
      rcases hX : xs'.getD k as0 with ⟨nm', x0, xss⟩
      rw [hM] at c0 c1 c2
      rw [hX] at HXk
      rw [hM, hX, hL] at HE
      rw [hL] at hrg hap
      dsimp only [spotV] at c0 c1 c2 hrg hap
      replace HE : Hid (SavR l0 l1 l2 w2 (nm, (A0, L0, C0), A1, L1, C1) (nm', x0, xss)) := HE
      have HM := Lib.hid hM
      have HX := Lib.hid hX
      have HL := Lib.hid hL
      clear hM hX hL
      have hle := HE.out.le
      have hx0 : x0.length = L0 := (ints_own HE.out.deck).len
      have hwk : 1 + L0 + tot xss ≤ 1000 := by rw [← HXk.out] at hyw; unfold mkW at hyw; dsimp only at hyw; omega
      have hyb : y + 1000 ≤ 4194304 := by have : (k + 1) * 1000 ≤ n * 1000 := Nat.mul_le_mul_right _ hlt; omega
      have d2 : (w2.setCell ⟨g, k * 3, none⟩ (.string (mt y))).cell? ⟨g, k * 3 + 2, none⟩ = some (.slice A1 L1 C1) := by go_simp
      have HE3 : Hid (SavR l0 l1 l2 (w2.setCell ⟨g, k * 3, none⟩ (.string (mt y))) (nm, (A0, L0, C0), A1, L1, C1) (nm', x0, xss)) := HE.out.chg (Chg.of_set _) (by omega)
      have HC3 : Hid (Chg lo hi w (w2.setCell ⟨g, k * 3, none⟩ (.string (mt y)))) := HC2.out.trans ((Chg.of_set (b := g) (.string (mt y))).wide hgi.1 (by omega))
      go_wp2_with (fail)
      clear c0 c1 c2 f
      generalize w2.setCell ⟨g, k * 3, none⟩ (.string (mt y)) = w3 at *
      refine (markInt64S_any l0 _ L0 x0 ((y : Int) + 1) w3 HE3.out.deck (by omega) (by omega)).mono ?_
      rintro e w4 ⟨rfl, ho4, hg4⟩
      have hc4 : Chg l0 l1 w3 w4 := Chg.of_grown HE3.out.din hg4
      have d2 := hc4.cell d2 (by dsimp only; omega)
      have HO4 := Lib.hid ho4
      have HC4 := Lib.hid hc4
      clear ho4 hg4 hc4
      have hw2 : IntKind.i64.wrap ((k : Int) + 1) = ((k + 1 : Nat) : Int) := by rw [IntWalk.i64_in _ (by omega)]; omega
      go_wp2_with (fail)
      obtain ⟨ss, hd⟩ := HE3.out.dice
      refine (markDieS_any l1 l2 _ _ _ ss xss ((y : Int) + 1 + L0) w4 (hd.chg HC4.out (.inr (Nat.le_refl _))) (by omega) (by omega)).mono ?_
      rintro e w5 ⟨rfl, hc5, ho5⟩
      have hl1 := hd.len
      have HC5 : Hid (Chg l0 l2 w3 w5) := (HC4.out.wide (Nat.le_refl _) hle.2).trans (hc5.wide hle.1 (Nat.le_refl _))
      have HS : Hid (SavR l0 l1 l2 w5 (mt y, (A0, L0, C0), A1, L1, C1) (mk1 y (nm', x0, xss))) := ⟨rfl, by
        have := own_chg HO4.out hc5 HE3.out.din (.inl (Nat.le_refl _))
        unfold mk1
        dsimp only
        rw [hx0]
        exact this, HE3.out.din, ⟨ss, by
        unfold mk1
        dsimp only
        rw [hx0, hl1]
        exact ho5⟩, hle⟩
      have HN : Hid (OwnSv lo hi w5 (some ⟨g, 0, none⟩) n c L (ms'.set k (mt y, (ms'.getD k ms0).2)) ((xs'.set k (mt y, (xs'.getD k as0).2)).set k (mk1 y (nm', x0, xss)))) := by
        refine HR3.out.upd hlt ?_ ?_
        · rw [HL.out]; exact HC5.out
        · rw [HL.out, getD_set_self _ _ _ _ (by omega), HM.out]; exact HS.out
      have hxl : xs'.length = n := HR3.out.len ▸ by rw [List.length_set]
      have HCw : Hid (Chg lo hi w w5) := HC3.out.trans (HC5.out.wide hrg.1 hrg.2)
      have HNn : Hid (mkN xs x (k + 1) = y + (1 + L0 + tot xss)) := by
        show _ = _
        rw [HY.out, ← HXk.out]
        unfold mkW
        dsimp only
        rw [hx0]
      clear hc5 ho5 hd
      generalize htt : tot xss = tt at *
      go_wp2
      go_roundw
      case rel =>
        refine ⟨k + 1, _, _, by omega, by first | rfl | go_num, ?_, HN.out, ?_, ?_, HCw.out⟩
        · rw [HNn.out]; go_num
        · intro i hi
          by_cases q : i = k
          · subst q
            rw [getD_set_self _ _ _ _ (by rw [List.length_set]; omega), HYy.out, ← HXk.out]
          · rw [getD_set_ne _ _ _ _ _ (Ne.symm q), getD_set_ne _ _ _ _ _ (Ne.symm q)]
            exact HDone.out i (by omega)
        · intro i hi
          rw [getD_set_ne _ _ _ _ _ (by omega), getD_set_ne _ _ _ _ _ (by omega)]
          exact HRest.out i (by omega)
      case measure => simp [intOf]; omega
    · obtain rfl : k = n := by omega
      go_wp2
      go_ret
      exact ⟨rfl, HC.out, ms', xs', HR.out, HDone.out⟩

set_option maxHeartbeats 1600000 in
theorem heldSavedS_any (a : Option Addr) (n c : Nat) (ms : List MS) (xs xs' : List AS) (x : Nat) (w : World) (h : SavS w a n c ms xs') (hm : ∀ i, i < n → xs'.getD i as0 = mk1 (mkN xs x i) (xs.getD i as0)) (hlen : xs.length = n) (hx : 1 ≤ x) (hx' : x + n * 1000 ≤ 4194304) (hw : ∀ i, i < xs.length → mkW (xs.getD i as0) ≤ 1000) :
    Calls Tryd.prog 32 #[.slice a n c, .int .i64 x] w (Ret w (.int .i64 (mkN xs x n : Nat))) := by
  obtain ⟨hc, hb, hcell⟩ := h.at
  have CM := Lib.hid (fun (k : Nat) W (h1 : 1 ≤ k) (h2 : k ≤ 4194304) => markText_any k W h1 h2)
  have HNg := Lib.hid (mkN_ge xs x)
  have HNl := Lib.hid (mkN_le xs x hw)
  have HW := Lib.hid hw
  have HCe := Lib.hid hcell
  have HEl := Lib.hid h.el
  have HM := Lib.hid hm
  clear h hw hcell hm
  go_enter Tryd.func32, Tryd.ntmps32
  go_wp2
  go_loopw [1, 5] (fun m i wr => ∃ k : Nat, k ≤ n ∧ i = .int .i64 k ∧ m = .int .i64 ((mkN xs x k : Nat) : Int) ∧ Below w.heap.size w wr) (fun _ i _ => n - (intOf i).toNat)
  case atStart => exact ⟨0, by omega, rfl, rfl, Below.refl _ _⟩
  case round =>
    obtain ⟨k, hk, rfl, rfl, hbr⟩ := hrel
    have HB := Lib.hid hbr
    by_cases hlt : k < n
    · obtain ⟨b, off, rfl, hlb, hx2⟩ := HCe.out k hlt
      obtain ⟨y0, y1, y2⟩ := hx2 k hlt
      have z0 := cell_on hbr y0
      have z1 := cell_on hbr y1
      have z2 := cell_on hbr y2
      have he := (HEl.out k hlt).mono hbr
      rw [HM.out k hlt] at z0 he
      have hy1 := HNg.out k
      have hy2 := HNl.out k (by omega)
      have hyw := HW.out k (by omega)
      have HY : Hid (mkN xs x (k + 1) = mkN xs x k + mkW (xs.getD k as0)) := rfl
      generalize hyy : mkN xs x k = y at *
      have HYy := Lib.hid hyy
      have hyb : y + 1000 ≤ 4194304 := by have : (k + 1) * 1000 ≤ n * 1000 := Nat.mul_le_mul_right _ hlt; omega
      have C1 := Lib.hid (fun W => CM.out y W (by omega) (by omega))
      rcases hMM : ms.getD k ms0 with ⟨nm, ⟨A0, L0, C0⟩, ⟨A1, L1, C1'⟩⟩
      rcases hX : xs.getD k as0 with ⟨nm', x0, xss⟩
      rw [hMM] at z1 z2 he
      rw [hX] at he z0 hyw HY
      obtain ⟨he0, he1, ss, he2⟩ := he
      unfold mk1 at z0 he1 he2
      unfold mkW at hyw HY
      dsimp only at z0 z1 z2 he1 he2 hyw HY
      have hx0 : x0.length = L0 := by have := he1.len; rw [marks_len] at this; exact this
      have hl1 : xss.length = L1 := by have := he2.len; rw [mkTo_len] at this; exact this
      rw [hx0] at he1 he2 hyw HY
      rw [hl1] at he2
      have HE1 := Lib.hid he1
      have HE2 := Lib.hid he2
      have hmm : ((mt y).toList == (mt y).toList) = true := by simp
      have hw1 : IntKind.i64.wrap ((y : Int) + 1) = (y : Int) + 1 := IntWalk.i64_in _ (by omega)
      have hw2 : IntKind.i64.wrap ((k : Int) + 1) = ((k + 1 : Nat) : Int) := by rw [IntWalk.i64_in _ (by omega)]; omega
      clear hyy hMM hX hx2 y0 y1 y2 he0 he1 he2 hbr
      go_wp2
      go_region_held3 (fun W => W.cell? ⟨b, off + k * 3, none⟩ = some (.string (mt y))) (first | exact z0)
        (first
          | (go_at_call 63; refine (C1.out _).mono ?_; rintro e w2 ⟨rfl, hb2⟩; have z0 := cell_on hb2 z0))
      have hB2 : Below wr.heap.size wr w2 := (Below.refl _ _).drew.trans hb2
      replace z1 := cell_on hB2 z1
      replace z2 := cell_on hB2 z2
      have HB2 := Lib.hid (HB.out.trans (hB2.mono HB.out.size))
      have E1 := Lib.hid (HE1.out.mono hB2)
      have E2 := Lib.hid (HE2.out.mono hB2)
      have hw3 : ¬ ((y : Int) + 1 + L0) < 0 := by omega
      have hw4 : ¬ ((y : Int) + 1 + L0 + (tot xss : Nat)) < 0 := by omega
      have HNn : Hid (((mkN xs x (k + 1) : Nat) : Int) = (y : Int) + 1 + L0 + (tot xss : Nat)) := by
        show _ = _
        rw [HY.out]
        omega
      have C2 := Lib.hid (heldInt64S_any A0 L0 C0 ((y : Int) + 1) w2 E1.out (by omega) (by omega))
      have C3 := Lib.hid (heldDieS_any A1 L1 C1' ss xss ((y : Int) + 1 + L0) w2 E2.out (by omega) (by omega))
      clear hb2 hB2 z0 HE1 HE2 HB E1 E2 HY
      generalize tot xss = tt at *
      go_wp2_with (fail)
      refine C2.out.mono ?_
      rintro e w3 ⟨rfl, rfl⟩
      go_wp2_with (fail)
      refine C3.out.mono ?_
      rintro e w3 ⟨rfl, rfl⟩
      go_wp2
      go_roundw
      case rel => exact ⟨k + 1, by omega, by first | rfl | go_num, by rw [HNn.out], HB2.out⟩
      case measure => simp [intOf]; omega
    · obtain rfl : k = n := by omega
      clear hbr
      go_wp2
      go_ret
      exact ⟨rfl, HB.out⟩

end Go.Proofs.YtnoageckldilnaaDoor
