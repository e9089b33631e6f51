/- Lines of play, impl: countLines. -/
import Derived.Test.YtgldfmkjnggedaaLinesD
namespace Go.Proofs.Ytgldfmkjnggedaa
open Go.RowKit
set_option linter.unusedVariables false

set_option maxHeartbeats 3200000 in
set_option maxRecDepth 100000 in
theorem countLines_any : ∀ (f : Nat), f ≤ 4 → ∀ (a : Option Addr) (c : Nat) (xs : List Int) (a' : Option Addr) (c' : Nat) (ys : List Int) (w : World), Ints w a f c xs → Ints w a' f c' ys → Hand f xs → Hand f ys →
    Calls Try.prog 34 #[.slice a f c, .slice a' f c'] w (Ret w (.int .i64 (waysF f xs ys))) := by
  intro f
  induction f with
  | zero =>
    intro hf a c xs a' c' ys w h h' hx hy
    obtain ⟨hc, hb, _⟩ := h.at
    obtain ⟨hc', hb', _⟩ := h'.at
    clear h h'
    go_enter Try.func34, Try.ntmps34
    go_wp2
    go_ret
    exact ⟨rfl, Below.refl _ _⟩
  | succ f ih =>
    intro hf a c xs a' c' ys w h h' hx hy
    have IH := Lib.hid (ih (by omega))
    have HX := Lib.hid hx
    have HY := Lib.hid hy
    have H1 := Lib.hid h
    have H2 := Lib.hid h'
    have HWs := Lib.hid (waysF_succ f xs ys)
    have hwb := wb_le (show f ≤ 5 by omega)
    have hl := Lib.hid hx.len
    obtain ⟨hc, hb, hcell⟩ := h.at
    obtain ⟨hc', hb', _⟩ := h'.at
    have hwf : waysF (f + 1) xs ys = waysF (f + 1) xs ys := rfl
    clear h h' ih hx hy hwf
    generalize waysF (f + 1) xs ys = WW at *
    generalize hn : f + 1 = n at *
    have HN := Lib.hid hn
    have hn1 : 1 ≤ n := by omega
    have hn0 : ((n : Int) == 0) = false := by simp only [beq_eq_false_iff_ne]; omega
    clear hn
    go_enter Try.func34, Try.ntmps34
    go_wp2
    go_loopw [5, 17] (fun vs vi wr => ∃ i : Nat, i ≤ n ∧ vi = .int .i64 i ∧ vs = .int .i64 (lsum ((xs.take i).map (waysC f xs ys))) ∧ Below w.heap.size w wr) (fun _ vi _ => n - (intOf vi).toNat)
    case atStart => exact ⟨0, by omega, rfl, rfl, Below.refl _ _⟩
    case round =>
      obtain ⟨i, hin, rfl, rfl, hbel⟩ := hrel
      have HB := Lib.hid hbel
      clear hbel
      by_cases hlt : i < n
      · obtain ⟨b, off, rfl, hlb, hxc⟩ := hcell i hlt
        have c0 := cell_on HB.out (hxc i hlt)
        have HYm : Hid (xs.getD i 0 ∈ xs) := getD_mem (by rw [hl.out]; exact hlt)
        have hyr := HX.out.rng _ HYm.out
        have HSc := Lib.hid (lsum_take_succ (waysC f xs ys) (0 : Int) xs i (by rw [hl.out]; exact hlt))
        have hX := HX.out
        have hY := HY.out
        rw [← HN.out] at hX hY
        have HX' := Lib.hid hX
        have HY' := Lib.hid hY
        have HC1 : Hid (∀ x ∈ xs, 0 ≤ waysC f xs ys x ∧ waysC f xs ys x ≤ (80000 : Nat)) := fun x hx => by
          have b := lsum_bd (waysA f xs ys x) (wb f) (legalL ys x) (fun z hz => waysA_bd HX'.out HY'.out hx hz)
          have l1 := legalL_len ys x
          have l2 : (legalL ys x).length * wb f ≤ 5 * 14400 := Nat.mul_le_mul (by rw [HY'.out.len] at l1; have := HN.out; omega) hwb
          unfold waysC
          omega
        have hS0 : 0 ≤ lsum ((xs.take i).map (waysC f xs ys)) ∧ lsum ((xs.take i).map (waysC f xs ys)) ≤ 400000 := by
          have b := lsum_bd (waysC f xs ys) 80000 (xs.take i) (fun x hx => HC1.out x (List.mem_of_mem_take hx))
          have l2 : (xs.take i).length ≤ i := List.length_take_le _ _
          omega
        have HWC : Hid (waysC f xs ys (xs.getD i 0) = lsum ((legalL ys (xs.getD i 0)).map (waysA f xs ys (xs.getD i 0)))) := rfl
        have HS2 : Hid (lsum ((xs.take (i + 1)).map (waysC f xs ys)) = lsum ((xs.take i).map (waysC f xs ys)) + lsum ((legalL ys (xs.getD i 0)).map (waysA f xs ys (xs.getD i 0)))) := by
          show _ = _
          rw [HSc.out, HWC.out]
        clear HSc HWC hX hY hcell hxc
        generalize lsum ((xs.take i).map (waysC f xs ys)) = S0 at *
        generalize xs.getD i 0 = y at *
        have CL := Lib.hid (legal_any a' n c' ys y wr (H2.out.mono HB.out) hn1 (by omega) HY.out.rng hyr.1 hyr.2)
        have HAm : Hid (∀ z ∈ legalL ys y, z ∈ ys) := fun z hz => legalL_mem hz
        have HAl := Lib.hid (legalL_len ys y)
        have HAb : Hid (∀ z ∈ legalL ys y, 0 ≤ waysA f xs ys y z ∧ waysA f xs ys y z ≤ (wb f : Nat)) := fun z hz => waysA_bd HX'.out HY'.out HYm.out hz
        generalize legalL ys y = A at *
        go_wp2_with (fail)
        refine CL.out.mono ?_
        rintro e w1 ⟨la, ln, lc, rfl, hb1, ho1⟩
        have hln : A.length = ln := by have := ho1.1; rw [intCells_len] at this; omega
        have hln2 : ln ≤ n := by have h1 := HAl.out; have h2 := HY.out.len; omega
        have HB1 := Lib.hid (HB.out.trans (hb1.mono HB.out.size))
        have HO1 := Lib.hid ho1
        have d0 := cell_on hb1 c0
        have HLn := Lib.hid hln
        have hcap : ln ≤ lc ∧ lc ≤ 9223372036854775807 := by have := Rd.own ho1; exact ⟨this.2.1, this.2.2.1⟩
        obtain ⟨wo, rfl⟩ : ∃ wo : World, wo = wr := ⟨_, rfl⟩
        clear hb1 ho1 hln c0 CL HB HAl
        go_wp2
        go_loopw [5, 25] (fun vs vk w2 => ∃ k : Nat, k ≤ ln ∧ vk = .int .i64 k ∧ vs = .int .i64 (S0 + lsum ((A.take k).map (waysA f xs ys y))) ∧ Below w1.heap.size w1 w2) (fun _ vk _ => ln - (intOf vk).toNat)
        case atStart => exact ⟨0, by omega, rfl, by simp [lsum], Below.refl _ _⟩
        case round =>
          obtain ⟨k, hk, rfl, rfl, hbel⟩ := hrel
          have HB := Lib.hid hbel
          clear hbel
          have hS1 : 0 ≤ lsum ((A.take k).map (waysA f xs ys y)) ∧ lsum ((A.take k).map (waysA f xs ys y)) ≤ 80000 := by
            have b := lsum_bd (waysA f xs ys y) (wb f) (A.take k) (fun x hx => HAb.out x (List.mem_of_mem_take hx))
            have l2 : (A.take k).length ≤ k := List.length_take_le _ _
            have l3 : (A.take k).length * wb f ≤ 5 * 14400 := Nat.mul_le_mul (by omega) hwb
            omega
          by_cases hkn : k < ln
          · have HZm : Hid (A.getD k 0 ∈ A) := getD_mem (by rw [HLn.out]; exact hkn)
            have hzr := HY.out.rng _ (HAm.out _ HZm.out)
            have HSk := Lib.hid (lsum_take_succ (waysA f xs ys y) (0 : Int) A k (by rw [HLn.out]; exact hkn))
            have hzb := HAb.out _ HZm.out
            obtain ⟨g, rfl⟩ := own_some HO1.out (by omega)
            have z0 := own_get (ownsRow_below HO1.out HB.out) k hkn
            have d1 := cell_on HB.out d0
            have HZy := Lib.hid (HAm.out _ HZm.out)
            have HWA : Hid (waysA f xs ys y (A.getD k 0) = if winsL y (A.getD k 0) (-1) = true then waysF f (lessL xs y) (lessL ys (A.getD k 0)) else waysF f (lessL ys (A.getD k 0)) (lessL xs y)) := rfl
            generalize lsum ((A.take k).map (waysA f xs ys y)) = S1 at *
            generalize A.getD k 0 = z at *
            generalize hV : waysA f xs ys y z = V at *
            have h1 := HX'.out.less HYm.out
            have h2 := HY'.out.less HZy.out
            have HH1 := Lib.hid h1
            have HH2 := Lib.hid h2
            have CA := Lib.hid (without_any _ _ _ xs y wr (H1.out.mono (HB1.out.trans (HB.out.mono HB1.out.size))) hn1 (by omega))
            have CB := Lib.hid (fun W (hW : Below w.heap.size w W) => without_any _ _ _ ys z W (H2.out.mono hW) hn1 (by omega))
            have HBw := Lib.hid (HB1.out.trans (HB.out.mono HB1.out.size))
            clear h1 h2 hV
            generalize lessL xs y = XS at *
            generalize lessL ys z = YS at *
            go_wp2_with (fail)
            refine CA.out.mono ?_
            rintro e w3 ⟨ma, mn, mc, rfl, hb3, ho3⟩
            have hmn : mn = f := by have := ho3.1; rw [intCells_len] at this; have := HH1.out.len; omega
            subst hmn
            have d2 := cell_on hb3 d1
            have z1 := cell_on hb3 z0
            have HB3 := Lib.hid (HBw.out.trans (hb3.mono HBw.out.size))
            have HO3 := Lib.hid ho3
            have HB34 := Lib.hid hb3
            clear hb3 ho3 d1 z0 CA
            go_wp2_with (fail)
            refine (CB.out _ HB3.out).mono ?_
            rintro e w4 ⟨ta, tn, tc, rfl, hb4, ho4⟩
            have htn : tn = mn := by have := ho4.1; rw [intCells_len] at this; have := HH2.out.len; omega
            subst htn
            have d3 := cell_on hb4 d2
            have z2 := cell_on hb4 z1
            have HB4 := Lib.hid (HB3.out.trans (hb4.mono HB3.out.size))
            have I3 := Lib.hid (Rd.own (ownsRow_below HO3.out hb4))
            have I4 := Lib.hid (Rd.own ho4)
            have hs4 := Lib.hid (HB4.out.size)
            have HB14 : Hid (Below w1.heap.size w1 w4) := HB.out.trans ((HB34.out.trans (hb4.mono HB34.out.size)).mono HB.out.size)
            clear hb4 ho4 d2 z1 CB HO3
            have hvb : 0 ≤ V ∧ V ≤ 14400 := by omega
            have hV := HWA.out
            rcases Bool.eq_false_or_eq_true (winsL y z (-1)) with ew | ew
            · have CW : Hid (∀ W, Calls Try.prog 29 #[.int .i64 y, .int .i64 z, .int .i64 (-1)] W (RetS W (.bool true))) := fun W => by rw [← ew]; exact winsTrick_any y z (-1) W hyr hzr
              rw [if_pos ew] at hV
              have HVv := Lib.hid hV
              have HSn : Hid (lsum ((A.take (k + 1)).map (waysA tn xs ys y)) = S1 + V) := HSk.out
              clear hV hzb HSk HWA ew
              go_wp2_with (fail)
              refine (CW.out _).mono ?_
              rintro e w4' ⟨rfl, rfl⟩
              go_wp2_with (fail)
              refine (IH.out _ _ _ _ _ _ _ I3.out I4.out HH1.out HH2.out).mono ?_
              rintro e w5 ⟨rfl, hb5⟩
              rw [← HVv.out]
              have HB5 : Hid (Below w1.heap.size w1 w5) := HB14.out.trans (hb5.mono HB14.out.size)
              clear hb5
              go_wp2
              go_roundw
              case rel => exact ⟨k + 1, by omega, by go_num, by rw [HSn.out, Int.add_assoc], HB5.out⟩
              case measure => simp [intOf]; omega
            · have CW : Hid (∀ W, Calls Try.prog 29 #[.int .i64 y, .int .i64 z, .int .i64 (-1)] W (RetS W (.bool false))) := fun W => by rw [← ew]; exact winsTrick_any y z (-1) W hyr hzr
              rw [if_neg (by rw [ew]; exact Bool.false_ne_true)] at hV
              have HVv := Lib.hid hV
              have HSn : Hid (lsum ((A.take (k + 1)).map (waysA tn xs ys y)) = S1 + V) := HSk.out
              clear hV hzb HSk HWA ew
              go_wp2_with (fail)
              refine (CW.out _).mono ?_
              rintro e w4' ⟨rfl, rfl⟩
              go_wp2_with (fail)
              refine (IH.out _ _ _ _ _ _ _ I4.out I3.out HH2.out HH1.out).mono ?_
              rintro e w5 ⟨rfl, hb5⟩
              rw [← HVv.out]
              have HB5 : Hid (Below w1.heap.size w1 w5) := HB14.out.trans (hb5.mono HB14.out.size)
              clear hb5
              go_wp2
              go_roundw
              case rel => exact ⟨k + 1, by omega, by go_num, by rw [HSn.out, Int.add_assoc], HB5.out⟩
              case measure => simp [intOf]; omega
          · obtain rfl : k = ln := by omega
            have e0 : A.take k = A := List.take_of_length_le (by rw [HLn.out]; exact Nat.le_refl _)
            have HBw := Lib.hid (HB1.out.trans (HB.out.mono HB1.out.size))
            rw [e0] at hS1 ⊢
            have e2 := HS2.out
            rw [← e2]
            clear e2 d0 hS1 e0
            go_wp2
            go_roundw
            case rel => exact ⟨i + 1, by omega, by go_num, rfl, HBw.out⟩
            case measure => simp [intOf]; omega
      · obtain rfl : i = n := by omega
        have e0 : xs.take i = xs := List.take_of_length_le (by rw [hl.out]; exact Nat.le_refl _)
        rw [e0]
        clear hcell
        have HE := HWs.out
        rw [← HE]
        clear HE
        go_wp2
        go_ret
        exact ⟨rfl, HB.out⟩

end Go.Proofs.Ytgldfmkjnggedaa
