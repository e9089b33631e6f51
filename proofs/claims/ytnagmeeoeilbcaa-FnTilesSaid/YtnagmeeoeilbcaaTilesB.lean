/- Tiles: in how many ways they are groups, groupWays. -/
import Derived.Test.YtnagmeeoeilbcaaTilesA
import Derived.Test.YtnagmeeoeilbcaaClone
import Derived.Test.YtnagmeeoeilbcaaTally
namespace Go.Proofs.Ytnagmeeoeilbcaa
open Go.RowKit
set_option linter.unusedVariables false

set_option maxHeartbeats 4000000 in
set_option maxRecDepth 100000 in
theorem groupWays_any (f : Nat) : ∀ (k : Nat), k + f = 9 → ∀ (xs : List Int), Counts xs → ∀ (a : Option Addr) (c : Nat) (w : World), Ints w a 9 c xs →
    Calls Try.prog 38 #[.slice a 9 c, .int .i64 k] w (Ret w (.int .i64 (gwA f xs k))) := by
  induction f with
  | zero =>
    intro k hk xs hx a c w h
    obtain rfl : k = 9 := by omega
    clear h
    go_enter Try.func38, Try.ntmps38
    go_wp2_with fail
    go_ret
    exact ⟨rfl, Below.refl _ _⟩
  | succ f ih =>
    intro k hkf xs hx a c w h
    obtain ⟨hc, hb, hcell⟩ := h.at
    obtain ⟨bb, off, rfl, hlb, hxx⟩ := hcell k (by omega)
    have hl : Hid (xs.length = 9) := hx.1
    have HX := Lib.hid hx
    have HH := Lib.hid h
    have g0 := hx.2 k
    have g1 := hx.2 (k + 1)
    have g2 := hx.2 (k + 2)
    have r0' := hxx k (by omega)
    have r1' := fun hh : k + 1 < 9 => hxx (k + 1) hh
    have r2' := fun hh : k + 2 < 9 => hxx (k + 2) hh
    have P2 := pow2_le f (by omega)
    have S0 := gwStep_bd f xs k (xs.getD k 0)
    have S1 := gwStep_bd f xs k (xs.getD k 0 - 3)
    have HST : Hid (∀ r, gwStep f xs k r = if r = 0 then gwA f xs (k + 1) else if k + 2 < xs.length ∧ r ≤ xs.getD (k + 1) 0 ∧ r ≤ xs.getD (k + 2) 0 then gwA f (sub2 xs k r) (k + 1) else 0) := fun r => rfl
    clear hcell hxx hx h
    have IH := Lib.hid ih
    clear ih
    have hk9 : ((k : Int) == 9) = false := by simp; omega
    go_enter Try.func38, Try.ntmps38
    go_wp2_with fail
    go_loopw [5, 6] (fun all i wr => ∃ t : Nat, t ≤ 2 ∧ 3 * (t : Int) ≤ xs.getD k 0 + 3 ∧ i = .int .i64 t ∧ all = .int .i64 (gwPart f xs k t) ∧ Below w.heap.size w wr) (fun _ i _ => 3 - (intOf i).toNat)
    case atStart => exact ⟨0, by omega, by omega, rfl, rfl, Below.refl _ _⟩
    case round =>
      obtain ⟨t, ht, h3, rfl, rfl, hbel⟩ := hrel
      have HB := Lib.hid hbel
      have r0 := cell_on hbel r0'
      have r1 := fun hh : k + 1 < 9 => cell_on HB.out (r1' hh)
      have r2 := fun hh : k + 2 < 9 => cell_on HB.out (r2' hh)
      have HHw : Hid (Ints wr (some ⟨bb, off, none⟩) 9 c xs) := HH.out.mono hbel
      clear r0' r1' r2' hbel
      by_cases hle : 3 * (t : Int) ≤ xs.getD k 0
      · have HP : Hid (gwPart f xs k (t + 1) = gwPart f xs k t + gwStep f xs k (xs.getD k 0 - 3 * t)) := gwPart_succ f xs k t (by omega)
        have HPb : 0 ≤ gwPart f xs k t ∧ gwPart f xs k t ≤ 512 := by
          rcases (show t = 0 ∨ t = 1 by omega) with rfl | rfl
          · simp [gwPart]
          · simp only [gwPart]; omega
        generalize gwPart f xs k t = PT at *
        generalize hy0 : xs.getD k 0 = y0 at *
        have HY0 := Lib.hid hy0
        clear hy0
        by_cases hr : y0 = 3 * t
        · skip
          go_wp2_with fail
          refine (cloneI64_any _ _ _ _ _ HHw.out (by omega)).mono ?_
          rintro e w1 ⟨a1, c1, rfl, hb1, ho1⟩
          obtain ⟨g, rfl⟩ := own_some ho1 (by omega)
          have hgb := (own_block ho1).1
          have HB1 := Lib.hid (HB.out.trans (hb1.mono HB.out.size))
          have HZ := Lib.hid HB.out.size
          have c0 := own_get ho1 k (by omega)
          have ff := fun j => World.ownsRow.frozenAt ho1 j
          have HO := Lib.hid ho1
          have rr0 := cell_on hb1 r0
          clear ho1 hb1 r1 r2 r0
          generalize List.getD xs k 0 = z0 at c0
          go_wp2_with fail
          refine (IH.out (k + 1) (by omega) (xs.set k 0) (HX.out.set k 0 (by omega) (by omega)) _ _ _ (Rd.own (own_put HO.out k 0))).mono ?_
          rintro e w2 ⟨rfl, hb2⟩
          rw [gwA_set]
          have G1 := gwA_bd f xs (k + 1)
          have HB2 := Lib.hid ((HB1.out.setCell (p := ⟨g, k, none⟩) (by have := HZ.out; simp only; omega) (.int .i64 0)).trans (hb2.mono (by have := HB1.out.size; simpa using this)))
          have HQ : Hid (gwStep f xs k (y0 - 3 * t) = gwA f xs (k + 1)) := by
            have := HST.out (y0 - 3 * t); rw [if_pos (by omega)] at this; exact this
          clear hb2 c0 ff
          generalize gwA f xs (k + 1) = GW at *
          go_wp2_with fail
          go_roundw
          case rel => exact ⟨t + 1, by omega, by omega, by go_num, by rw [HP.out, HQ.out], HB2.out⟩
          case measure => simp [intOf]; omega
        · by_cases hk2 : k + 2 < 9
          · have q1 := r1 (by omega)
            have q2 := r2 hk2
            clear r1 r2
            generalize hy1 : xs.getD (k + 1) 0 = y1 at *
            generalize hy2 : xs.getD (k + 2) 0 = y2 at *
            have HY1 := Lib.hid hy1
            have HY2 := Lib.hid hy2
            clear hy1 hy2
            by_cases hok1 : y1 < y0 - 3 * t
            · skip
              have HQ : Hid (gwStep f xs k (y0 - 3 * t) = 0) := by
                have := HST.out (y0 - 3 * t); rw [if_neg (by omega), if_neg (by rw [hl.out]; omega)] at this; exact this
              go_wp2_with fail
              go_roundw
              case rel => exact ⟨t + 1, by omega, by omega, by go_num, by rw [HP.out, HQ.out]; simp, HB.out⟩
              case measure => simp [intOf]; omega
            · by_cases hok2 : y2 < y0 - 3 * t
              · skip
                have HQ : Hid (gwStep f xs k (y0 - 3 * t) = 0) := by
                  have := HST.out (y0 - 3 * t); rw [if_neg (by omega), if_neg (by rw [hl.out]; omega)] at this; exact this
                go_wp2_with fail
                go_roundw
                case rel => exact ⟨t + 1, by omega, by omega, by go_num, by rw [HP.out, HQ.out]; simp, HB.out⟩
                case measure => simp [intOf]; omega
              · skip
                go_wp2_with fail
                refine (cloneI64_any _ _ _ _ _ HHw.out (by omega)).mono ?_
                rintro e w1 ⟨a1, c1, rfl, hb1, ho1⟩
                obtain ⟨g, rfl⟩ := own_some ho1 (by omega)
                have hgb := (own_block ho1).1
                have HB1 := Lib.hid (HB.out.trans (hb1.mono HB.out.size))
                have HZ := Lib.hid HB.out.size
                have c0 := own_get ho1 k (by omega)
                have ff := fun j => World.ownsRow.frozenAt ho1 j
                have c1 := own_get ho1 (k + 1) (by omega)
                have c2 := own_get ho1 (k + 2) (by omega)
                rw [HY1.out] at c1
                rw [HY2.out] at c2
                have HO := Lib.hid ho1
                have rr0 := cell_on hb1 r0
                clear ho1 hb1 r0 q1 q2
                generalize List.getD xs k 0 = z0 at c0
                go_wp2_with fail
                refine (IH.out (k + 1) (by omega) (((xs.set k 0).set (k + 1) (y1 - (y0 - 3 * t))).set (k + 2) (y2 - (y0 - 3 * t))) (((HX.out.set k 0 (by omega) (by omega)).set _ _ (by omega) (by omega)).set _ _ (by omega) (by omega)) _ _ _ (Rd.own (own_put (own_put (own_put HO.out k 0) _ _) _ _))).mono ?_
                rintro e w2 ⟨rfl, hb2⟩
                rw [gwA_sub f xs k _ _ _ HY1.out HY2.out]
                have G1 := gwA_bd f (sub2 xs k (y0 - 3 * t)) (k + 1)
                have HB2 := Lib.hid ((((HB1.out.setCell (p := ⟨g, k, none⟩) (by have := HZ.out; simp only; omega) (.int .i64 0)).setCell (p := ⟨g, k + 1, none⟩) (by have := HZ.out; simp only; omega) (.int .i64 (y1 - (y0 - 3 * t)))).setCell (p := ⟨g, k + 2, none⟩) (by have := HZ.out; simp only; omega) (.int .i64 (y2 - (y0 - 3 * t)))).trans (hb2.mono (by have := HB1.out.size; simpa using this)))
                have HQ : Hid (gwStep f xs k (y0 - 3 * t) = gwA f (sub2 xs k (y0 - 3 * t)) (k + 1)) := by
                  have := HST.out (y0 - 3 * t); rw [if_neg (by omega), if_pos (by rw [hl.out]; omega)] at this; exact this
                clear hb2 c0 c1 c2 ff
                generalize gwA f (sub2 xs k (y0 - 3 * t)) (k + 1) = GW at *
                go_wp2_with fail
                go_roundw
                case rel => exact ⟨t + 1, by omega, by omega, by go_num, by rw [HP.out, HQ.out], HB2.out⟩
                case measure => simp [intOf]; omega
          · clear r1 r2
            have HQ : Hid (gwStep f xs k (y0 - 3 * t) = 0) := by
              have := HST.out (y0 - 3 * t); rw [if_neg (by omega), if_neg (by rw [hl.out]; omega)] at this; exact this
            go_wp2_with fail
            go_roundw
            case rel => exact ⟨t + 1, by omega, by omega, by go_num, by rw [HP.out, HQ.out]; simp, HB.out⟩
            case measure => simp [intOf]; omega
      · have HE : Hid (gwPart f xs k t = gwA (f + 1) xs k) := gwPart_end f xs k t ht h3 (by omega) (by omega)
        clear r1 r2
        generalize gwPart f xs k t = PT at *
        go_wp2_with fail
        go_ret
        exact ⟨ret_int HE.out, HB.out⟩

end Go.Proofs.Ytnagmeeoeilbcaa
