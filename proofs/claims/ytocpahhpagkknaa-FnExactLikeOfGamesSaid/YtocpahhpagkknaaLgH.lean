/- Logarithms: the reference's logarithm: its walk. -/
import Derived.Test.YtocpahhpagkknaaLgG
namespace Go.Proofs.Ytocpahhpagkknaa
open Go.RowKit
set_option linter.unusedVariables false
set_option linter.unusedSimpArgs false

theorem order_pos {q : Nat} {I : Int} {y : Nat} (h : Nrm false q I y) : Ieee.double.order y 0 = some .gt := by
  have e0 : Ieee.double.read 0 = .number false 0 (-1074) := by decide
  unfold Ieee.Format.order
  rw [h.rd, e0]
  show some (compare (Ieee.signed false q (I - min I (-1074)).toNat) (Ieee.signed false 0 (-1074 - min I (-1074)).toNat)) = _
  have h0 := h.log.1
  have e1 : Ieee.signed false q (I - min I (-1074)).toNat = ((q <<< (I - min I (-1074)).toNat : Nat) : Int) := rfl
  have e2 : Ieee.signed false 0 (-1074 - min I (-1074)).toNat = 0 := by simp [Ieee.signed]
  rw [e1, e2, Nat.shiftLeft_eq]
  have : 0 < q * 2 ^ (I - min I (-1074)).toNat := Nat.mul_pos (Nat.pos_of_ne_zero h0) (Nat.two_pow_pos _)
  rw [cmpI_gt.2 (by omega)]
theorem order_max {q : Nat} {I : Int} {y : Nat} (h : Nrm false q I y) (hI : I ≤ 900) : Ieee.double.order y 9218868437227405311 = some .lt := by
  have e0 : Ieee.double.read 9218868437227405311 = .number false (2 ^ 53 - 1) 971 := by decide
  unfold Ieee.Format.order
  rw [h.rd, e0]
  show some (compare (Ieee.signed false q (I - min I 971).toNat) (Ieee.signed false (2 ^ 53 - 1) (971 - min I 971).toNat)) = _
  have e1 : Ieee.signed false q (I - min I 971).toNat = ((q * 2 ^ (I - min I 971).toNat : Nat) : Int) := by
    show ((q <<< _ : Nat) : Int) = _
    rw [Nat.shiftLeft_eq]
  have e2 : Ieee.signed false (2 ^ 53 - 1) (971 - min I 971).toNat = (((2 ^ 53 - 1) * 2 ^ (971 - min I 971).toNat : Nat) : Int) := by
    show (((2 ^ 53 - 1) <<< _ : Nat) : Int) = _
    rw [Nat.shiftLeft_eq]
  obtain ⟨k, hk⟩ : ∃ k : Nat, (971 - min I 971).toNat = k + 1 := ⟨(971 - min I 971).toNat - 1, by omega⟩
  have h0 : (I - min I 971).toNat = 0 := by omega
  rw [e1, e2, h0, hk, Nat.pow_zero, Nat.mul_one]
  have h1 := h.hi
  have h3 : (2 ^ 53 - 1) * 2 ≤ (2 ^ 53 - 1) * 2 ^ (k + 1) := Nat.mul_le_mul_left _ (by rw [Nat.pow_succ]; have := Nat.two_pow_pos k; omega)
  rw [cmpI_lt.2 (by omega)]

theorem kh_lo {q : Nat} {I : Int} (h1 : -201 ≤ I) : -201 ≤ I - (dn15 q I : Int) := by
  unfold dn15
  by_cases h : q < 3 * 2 ^ 51
  · simp only [if_pos h]
    omega
  · simp only [if_neg h]
    omega
theorem isInf_nrm {y : Nat} (w : World) (h : Ieee.double.order y 9218868437227405311 = some .lt) : Calls Try.prog 57 #[.float .f64 y, .int .i64 1] w (RetS w (.bool false)) := by
  have hf : FloatKind.f64.format = Ieee.double := rfl
  go_enter Try.func57, Try.ntmps57
  go_wp2
  go_ret
  exact ⟨rfl, rfl⟩
theorem ordI_k : ∀ j : Nat, j < 14 → decide ((1 : Int) ≤ 25 - 2 * (j : Int)) = decide (j < 13) := by decide

set_option maxHeartbeats 1600000 in
theorem logWide_any {y q : Nat} {I : Int} (h : Nrm false q I y) (h1 : -201 ≤ I) (h2 : I ≤ 75) (w : World) :
    Calls Try.prog 48 #[.float .f64 y] w (RetS w (.float .f64 (logE (yE q I y) ((dn15 q I : Int) - (up75 q I : Int))))) := by
  have hf : FloatKind.f64.format = Ieee.double := rfl
  obtain ⟨hkh, hkb, hkc⟩ := kh (q := q) (I := I)
  obtain ⟨hb1, hb2⟩ := kh_bd (q := q) h1 h2
  have hlo := kh_lo (q := q) h1
  obtain ⟨hm1, hm2⟩ := kh_mid (I := I) h.lo
  have HN2 := Lib.hid (fun k (hk : k ≤ dn15 q I) => hlvN_nrm h (by omega) k (by omega))
  have HS2 := Lib.hid (fun k (hk : k ≤ dn15 q I) => hlvN_step h (by omega) k (by omega))
  have HO2 := Lib.hid (fun k (hk : k ≤ dn15 q I) => (order15 (hlvN_nrm h (by omega) k (by omega))).trans (congrArg (!·) (lt15_dn q I k hk)))
  have hH := hlvN_nrm h (by omega) (dn15 q I) (by omega)
  have HN := Lib.hid (fun k (hk : k ≤ up75 q I) => dblN_nrm hH (by omega) k (by omega))
  have HS := Lib.hid (fun k (hk : k ≤ up75 q I) => dblN_step hH (by omega) k (by omega))
  have HO := Lib.hid (fun k (hk : k ≤ up75 q I) => (order75 (dblN_nrm hH (by omega) k (by omega))).trans (lt75_up q (I - dn15 q I) k (by rw [hkc]; exact hk)))
  rw [hkc] at HO
  have hK := dblN_nrm h h1 (up75 q I) (by omega)
  have hE := hlvN_nrm hK (by omega) (dn15 q I) (by omega)
  have HSW : Hid (dblN (hlvN y (dn15 q I)) (up75 q I) = hlvN (dblN y (up75 q I)) (dn15 q I)) := by
    show _ = _
    rcases hkh with e | e
    · rw [e]; rfl
    · rw [e]; rfl
  have hop0 := order_selfN (f := Ieee.double) (e := 1000) (x := y) ⟨false, q, I, h.rd, by show (-1074 : Int) ≤ I; omega, .inr (by rw [h.log.2]; omega)⟩
  have hopos := order_pos h
  have homax := order_max h (by omega)
  have HL := Lib.hid (sE_ok hE hm1 hm2)
  have HYE : Hid (yE q I y = hlvN (dblN y (up75 q I)) (dn15 q I)) := rfl
  generalize yE q I y = YE at *
  generalize hKK : up75 q I = K at *
  generalize hHH : dn15 q I = H at *
  have H0 : Hid (hlvN y 0 = y) := rfl
  clear hE hK hH hkb hkc hm1 hm2 h hKK hHH
  have CI := Lib.hid (fun W => isInf_nrm W homax)
  clear homax
  go_enter Try.func48, Try.ntmps48
  go_wp2_with (fail)
  refine (CI.out _).mono ?_
  rintro e w1 ⟨rfl, rfl⟩
  go_wp2
  go_loop [0, 3] (fun vx ve => ∃ k : Nat, k ≤ H ∧ vx = .float .f64 (hlvN y k) ∧ ve = .int .i64 (k : Int)) (fun vx _ => mesD vx)
  case atStart => exact ⟨0, by omega, by rw [H0.out], rfl⟩
  case round =>
    obtain ⟨k, hk2, rfl, rfl⟩ := hrel
    have hn1 := HN2.out k hk2
    have ho2 := HO2.out k hk2
    have hs2 := HS2.out k hk2
    by_cases hlt2 : k < H
    · have hee : ((Ieee.double.order (hlvN y k) c15 == some .gt) || (Ieee.double.order (hlvN y k) c15 == some .eq)) = true := by rw [ho2, decide_eq_true hlt2]; rfl
      have hn2 := HN2.out (k + 1) (by omega)
      have HMe : Hid (mesD (.float .f64 (hlvN y (k + 1))) < mesD (.float .f64 (hlvN y k))) := by show _ < _; rw [mesD_nrm hn1, mesD_nrm hn2]; omega
      unfold c15 at hee
      clear hn1 hn2 ho2
      generalize hlvN y k = y0 at *
      generalize hy1 : hlvN y (k + 1) = y1 at *
      have HY1 := Lib.hid hy1
      have hopQ : ∀ t W, (binOp .quo t (.float .f64 y0) (.float .f64 4611686018427387904)).run Try.prog W = .ok (.float .f64 y1) W := fun t W => run_float_arith W .quo t .f64 _ _ y1 hs2
      clear hs2 hy1
      go_wp2_with (simp only [hopQ])
      go_round
      case rel => exact ⟨k + 1, by omega, by rw [HY1.out], by go_num⟩
      case measure => exact HMe.out
    · obtain rfl : H = k := by omega
      have hee : ((Ieee.double.order (hlvN y H) c15 == some .gt) || (Ieee.double.order (hlvN y H) c15 == some .eq)) = false := by rw [ho2, decide_eq_false (Nat.lt_irrefl _)]; rfl
      unfold c15 at hee
      clear ho2 hs2 hn1
      have HX0 : Hid (dblN (hlvN y H) 0 = hlvN y H) := rfl
      go_wp2
      go_loop [0, 3] (fun vx ve => ∃ k : Nat, k ≤ K ∧ vx = .float .f64 (dblN (hlvN y H) k) ∧ ve = .int .i64 ((H : Int) - (k : Int))) (fun vx _ => mesU vx)
      case atStart => exact ⟨0, by omega, by rw [HX0.out], by first | rfl | (congr 1; omega)⟩
      case round =>
        obtain ⟨k, hk, rfl, rfl⟩ := hrel
        have hn1 := HN.out k hk
        have ho := HO.out k hk
        have hs := HS.out k hk
        by_cases hlt : k < K
        · rw [decide_eq_true hlt] at ho
          have hn2 := HN.out (k + 1) (by omega)
          have HMe : Hid (mesU (.float .f64 (dblN (hlvN y H) (k + 1))) < mesU (.float .f64 (dblN (hlvN y H) k))) := by show _ < _; rw [mesU_nrm hn1, mesU_nrm hn2]; omega
          clear hn1 hn2
          generalize dblN (hlvN y H) k = y0 at *
          generalize hy1 : dblN (hlvN y H) (k + 1) = y1 at *
          have HY1 := Lib.hid hy1
          have hopM : ∀ t W, (binOp .mul t (.float .f64 y0) (.float .f64 4611686018427387904)).run Try.prog W = .ok (.float .f64 y1) W := fun t W => run_float_arith W .mul t .f64 _ _ y1 hs
          have hwk : IntKind.i64.wrap ((H : Int) - (k : Int) - 1) = (H : Int) - ((k + 1 : Nat) : Int) := by rw [IntWalk.i64_in _ (by omega)]; omega
          unfold c75 at ho
          clear hs hy1
          go_wp2_with (simp only [hopM])
          go_round
          case rel => exact ⟨k + 1, by omega, by rw [HY1.out], by first | rfl | rw [hwk] | (congr 1; omega) | go_num⟩
          case measure => exact HMe.out
        · obtain rfl : K = k := by omega
          rw [decide_eq_false (Nat.lt_irrefl _)] at ho
          unfold c75 at ho
          clear hs hn1
          have hyw := HSW.out.trans HYE.out.symm
          have hye := HYE.out
          rw [hyw] at ho ⊢
          obtain ⟨sa, sb, r1, r2, r3, r4⟩ := HL.out
          rw [← hye] at r1 r2 r3 r4
          obtain ⟨r5, r6, r7, r8, r9, r10, _⟩ := logE_ok (x := YE) (e := (H : Int) - (K : Int)) r4 (by omega)
          have HSer := Lib.hid (fun j (hj : j < 13) => serQ_step r6 hj)
          have HSer0 : Hid (serQ (mulD (sE YE) (sE YE)) 0 = 0) := rfl
          have hFE : floatOfInt .f64 ((H : Int) - (K : Int)) = fD ((H : Int) - (K : Int)) := rfl
          clear r4 r6 hye hyw HL HYE HSW
          generalize hLOG : logE YE ((H : Int) - (K : Int)) = LOG at *
          generalize mulD (sE YE) (sE YE) = U at *
          generalize mulD d2 (mulD (sE YE) (serQ U 13)) = M2 at *
          generalize mulD (sE YE) (serQ U 13) = M1 at *
          generalize sE YE = SE at *
          generalize mulD (fD ((H : Int) - (K : Int))) lnC = M3 at *
          generalize fD ((H : Int) - (K : Int)) = FE at *
          have hop1 : ∀ t W, (binOp .sub t (.float .f64 YE) (.float .f64 4607182418800017408)).run Try.prog W = .ok (.float .f64 sa) W := fun t W => run_float_arith W .sub t .f64 _ _ sa r1
          have hop2 : ∀ t W, (binOp .add t (.float .f64 YE) (.float .f64 4607182418800017408)).run Try.prog W = .ok (.float .f64 sb) W := fun t W => run_float_arith W .add t .f64 _ _ sb r2
          have hop3 : ∀ t W, (binOp .quo t (.float .f64 sa) (.float .f64 sb)).run Try.prog W = .ok (.float .f64 SE) W := fun t W => run_float_arith W .quo t .f64 _ _ SE r3
          have hop4 : ∀ t W, (binOp .mul t (.float .f64 SE) (.float .f64 SE)).run Try.prog W = .ok (.float .f64 U) W := fun t W => run_float_arith W .mul t .f64 _ _ U r5
          have hop5 : ∀ t W, (binOp .mul t (.float .f64 SE) (.float .f64 (serQ U 13))).run Try.prog W = .ok (.float .f64 M1) W := fun t W => run_float_arith W .mul t .f64 _ _ M1 r7
          have hop6 : ∀ t W, (binOp .mul t (.float .f64 4611686018427387904) (.float .f64 M1)).run Try.prog W = .ok (.float .f64 M2) W := fun t W => run_float_arith W .mul t .f64 _ _ M2 r8
          have hop7 : ∀ t W, (binOp .mul t (.float .f64 FE) (.float .f64 4604418534313441775)).run Try.prog W = .ok (.float .f64 M3) W := fun t W => run_float_arith W .mul t .f64 _ _ M3 r9
          have hop8 : ∀ t W, (binOp .add t (.float .f64 M2) (.float .f64 M3)).run Try.prog W = .ok (.float .f64 LOG) W := fun t W => run_float_arith W .add t .f64 _ _ LOG r10
          clear r1 r2 r3 r5 r7 r8 r9 r10 hLOG
          go_wp2_with (simp only [hop1, hop2, hop3, hop4])
          go_loop [6, 7] (fun vq vk => ∃ j : Nat, j ≤ 13 ∧ vq = .float .f64 (serQ U j) ∧ vk = .int .i64 (25 - 2 * (j : Int))) (fun vq vk => (30 + intOf vk).toNat)
          case atStart => exact ⟨0, by omega, by rw [HSer0.out], rfl⟩
          case round =>
            obtain ⟨j, hj, rfl, rfl⟩ := hrel
            by_cases hj13 : j < 13
            · obtain ⟨t1, t2, t3⟩ := HSer.out j hj13
              have hfk : floatOfInt .f64 (25 - 2 * (j : Int)) = fD (25 - 2 * (j : Int)) := rfl
              have hge : (1 : Int) ≤ 25 - 2 * (j : Int) := by omega
              have hwk : IntKind.i64.wrap (25 - 2 * (j : Int) - 2) = 25 - 2 * ((j + 1 : Nat) : Int) := by rw [IntWalk.i64_in _ (by omega)]; omega
              generalize fD (25 - 2 * (j : Int)) = f0 at *
              generalize serQ U j = q0 at *
              generalize hq1 : serQ U (j + 1) = q1 at *
              have HQ1 := Lib.hid hq1
              generalize mulD U q0 = m0 at *
              generalize recD j = c0 at *
              have ho1 : ∀ t W, (binOp .quo t (.float .f64 4607182418800017408) (.float .f64 f0)).run Try.prog W = .ok (.float .f64 c0) W := fun t W => run_float_arith W .quo t .f64 _ _ c0 t1
              have ho2 : ∀ t W, (binOp .mul t (.float .f64 U) (.float .f64 q0)).run Try.prog W = .ok (.float .f64 m0) W := fun t W => run_float_arith W .mul t .f64 _ _ m0 t2
              have ho3 : ∀ t W, (binOp .add t (.float .f64 c0) (.float .f64 m0)).run Try.prog W = .ok (.float .f64 q1) W := fun t W => run_float_arith W .add t .f64 _ _ q1 t3
              clear t1 t2 t3 hq1
              go_wp2_with (simp only [ho1, ho2, ho3])
              go_round
              case rel => exact ⟨j + 1, by omega, by rw [HQ1.out], by first | rfl | rw [hwk] | (congr 1; omega) | go_num⟩
              case measure => simp [intOf]; omega
            · obtain rfl : j = 13 := by omega
              have hge : ¬ (1 : Int) ≤ 25 - 2 * ((13 : Nat) : Int) := by omega
              generalize serQ U 13 = q13 at *
              go_wp2_with (simp only [hop5, hop6, hop7, hop8])
              go_ret
              exact ⟨rfl, rfl⟩

end Go.Proofs.Ytocpahhpagkknaa
