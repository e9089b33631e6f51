/- Logarithms: the program's logarithm: its walk. -/
import Derived.Test.YtocpahhpagkknaaLgF
import Derived.WalkLawsBesides
namespace Go.Proofs.Ytocpahhpagkknaa
open Go.RowKit
set_option linter.unusedVariables false
set_option linter.unusedSimpArgs false

def mesU : Value → Nat
  | .float _ b => match Ieee.double.read b with | .number _ _ i => (900 - i).toNat | _ => 0
  | _ => 0
def mesD : Value → Nat
  | .float _ b => match Ieee.double.read b with | .number _ _ i => (1100 + i).toNat | _ => 0
  | _ => 0
theorem mesU_nrm {s : Bool} {q : Nat} {I : Int} {x : Nat} (h : Nrm s q I x) : mesU (.float .f64 x) = (900 - I).toNat := by
  show (match Ieee.double.read x with | .number _ _ i => (900 - i).toNat | _ => 0) = _
  rw [h.rd]
theorem mesD_nrm {s : Bool} {q : Nat} {I : Int} {x : Nat} (h : Nrm s q I x) : mesD (.float .f64 x) = (1100 + I).toNat := by
  show (match Ieee.double.read x with | .number _ _ i => (1100 + i).toNat | _ => 0) = _
  rw [h.rd]
theorem ord_k : ∀ j : Nat, j < 14 → (Ieee.double.order (fD (25 - 2 * (j : Int))) d1 == some .gt || Ieee.double.order (fD (25 - 2 * (j : Int))) d1 == some .eq) = decide (j < 13) := by decide +kernel
theorem fD25 : fD (25 - 2 * ((0 : Nat) : Int)) = 4627730092099895296 := by decide +kernel

/-- the series' own measure -/
def mesK : Value → Nat
  | .float _ b => if b < 9223372036854775808 then b else 0
  | _ => 0
theorem mesK_step : ∀ j : Nat, j < 13 → mesK (.float .f64 (fD (25 - 2 * ((j + 1 : Nat) : Int)))) < mesK (.float .f64 (fD (25 - 2 * (j : Int)))) := by decide +kernel

set_option maxHeartbeats 1600000 in
theorem logarithm_any {y q : Nat} {I : Int} (h : Nrm false q I y) (h1 : -201 ≤ I) (h2 : I ≤ 75) (w : World) :
    Calls Try.prog 55 #[.float .f64 y] w (RetS w (.float .f64 (logE (yE q I y) ((dn15 q I : Int) - (up75 q I : Int))))) := by
  have hf : FloatKind.f64.format = Ieee.double := rfl
  obtain ⟨hkh, hkb, hkc⟩ := kh (q := q) (I := I)
  obtain ⟨hb1, hb2⟩ := kh_bd (q := q) h1 h2
  obtain ⟨hm1, hm2⟩ := kh_mid (I := I) h.lo
  have HN := Lib.hid (fun k (hk : k ≤ up75 q I) => dblN_nrm h h1 k (by omega))
  have HS := Lib.hid (fun k (hk : k ≤ up75 q I) => dblN_step h h1 k (by omega))
  have HO := Lib.hid (fun k (hk : k ≤ up75 q I) => (order75 (dblN_nrm h h1 k (by omega))).trans (lt75_up q I k hk))
  have hK := dblN_nrm h h1 (up75 q I) (by omega)
  have HN2 := Lib.hid (fun k (hk : k ≤ dn15 q I) => hlvN_nrm hK (by omega) k (by omega))
  have HS2 := Lib.hid (fun k (hk : k ≤ dn15 q I) => hlvN_step hK (by omega) k (by omega))
  have HO2 := Lib.hid (fun k (hk : k ≤ dn15 q I) => (order15 (hlvN_nrm hK (by omega) k (by omega))).trans (congrArg (!·) (lt15_dn q (I + up75 q I) k (by rw [hkb]; exact hk))))
  rw [hkb] at HO2
  have hE := hlvN_nrm hK (by omega) (dn15 q I) (by omega)
  have HL := Lib.hid (sE_ok hE hm1 hm2)
  have HYE : Hid (yE q I y = hlvN (dblN y (up75 q I)) (dn15 q I)) := rfl
  generalize yE q I y = YE at *
  generalize hKK : up75 q I = K at *
  generalize hHH : dn15 q I = H at *
  have H0 : Hid (dblN y 0 = y) := rfl
  have HF0 : Hid (fD (-((0 : Nat) : Int)) = 0) := by show _ = _; decide +kernel
  clear hE hK hkb hkc hm1 hm2 h hKK hHH
  go_enter Try.func55, Try.ntmps55
  go_wp2
  go_loop [0, 3] (fun vx ve => ∃ k : Nat, k ≤ K ∧ vx = .float .f64 (dblN y k) ∧ ve = .float .f64 (fD (-(k : Int)))) (fun vx _ => mesU vx)
  case atStart => exact ⟨0, by omega, by rw [H0.out], by rw [HF0.out]⟩
  case round =>
    obtain ⟨k, hk, rfl, rfl⟩ := hrel
    have hn1 := HN.out k hk
    have ho := HO.out k hk
    have hs := HS.out k hk
    by_cases hlt : k < K
    · rw [decide_eq_true hlt] at ho
      have hn2 := HN.out (k + 1) (by omega)
      have hsb := fD_sub k (by omega)
      have HMe : Hid (mesU (.float .f64 (dblN y (k + 1))) < mesU (.float .f64 (dblN y k))) := by show _ < _; rw [mesU_nrm hn1, mesU_nrm hn2]; omega
      clear hn1 hn2
      generalize dblN y k = y0 at *
      generalize hy1 : dblN y (k + 1) = y1 at *
      have HY1 := Lib.hid hy1
      generalize fD (-(k : Int)) = f0 at *
      generalize hf1 : fD (-((k + 1 : Nat) : Int)) = f1 at *
      have HF1 := Lib.hid hf1
      have hopM : ∀ t W, (binOp .mul t (.float .f64 y0) (.float .f64 4611686018427387904)).run Try.prog W = .ok (.float .f64 y1) W := fun t W => run_float_arith W .mul t .f64 _ _ y1 hs
      have hopS : ∀ t W, (binOp .sub t (.float .f64 f0) (.float .f64 4607182418800017408)).run Try.prog W = .ok (.float .f64 f1) W := fun t W => run_float_arith W .sub t .f64 _ _ f1 hsb
      unfold c75 at ho
      clear hs hsb hy1 hf1
      go_wp2_with (simp only [hopM, hopS])
      go_round
      case rel => exact ⟨k + 1, by omega, by rw [HY1.out], by rw [HF1.out]⟩
      case measure => exact HMe.out
    · obtain rfl : K = k := by omega
      rw [decide_eq_false (Nat.lt_irrefl _)] at ho
      unfold c75 at ho
      clear hs hn1
      have HX0 : Hid (hlvN (dblN y K) 0 = dblN y K) := rfl
      have HG0 : Hid (fD (((0 : Nat) : Int) - (K : Int)) = fD (-(K : Int))) := by show _ = _; congr 1; omega
      go_wp2
      go_loop [0, 3] (fun vx ve => ∃ k : Nat, k ≤ H ∧ vx = .float .f64 (hlvN (dblN y K) k) ∧ ve = .float .f64 (fD ((k : Int) - (K : Int)))) (fun vx _ => mesD vx)
      case atStart => exact ⟨0, by omega, by rw [HX0.out], by rw [HG0.out]⟩
      case round =>
        obtain ⟨k, hk2, rfl, rfl⟩ := hrel
        have hn1 := HN2.out k hk2
        have ho2 := HO2.out k hk2
        have hs2 := HS2.out k hk2
        by_cases hlt2 : k < H
        · have hK0 : K = 0 := by omega
          have hee : ((Ieee.double.order (hlvN (dblN y K) k) c15 == some .gt) || (Ieee.double.order (hlvN (dblN y K) k) c15 == some .eq)) = true := by rw [ho2, decide_eq_true hlt2]; rfl
          have hn2 := HN2.out (k + 1) (by omega)
          have hab := fD_add k (by omega)
          have e1 : ((k : Nat) : Int) - (K : Int) = (k : Int) := by omega
          have e2 : ((k + 1 : Nat) : Int) - (K : Int) = ((k + 1 : Nat) : Int) := by omega
          have HMe : Hid (mesD (.float .f64 (hlvN (dblN y K) (k + 1))) < mesD (.float .f64 (hlvN (dblN y K) k))) := by show _ < _; rw [mesD_nrm hn1, mesD_nrm hn2]; omega
          rw [← e1, ← e2] at hab
          unfold c15 at hee
          clear hn1 hn2 ho2 e1 e2 hK0 ho
          generalize hlvN (dblN y K) k = y0 at *
          generalize hy1 : hlvN (dblN y K) (k + 1) = y1 at *
          have HY1 := Lib.hid hy1
          generalize fD ((k : Int) - (K : Int)) = f0 at *
          generalize hf1 : fD (((k + 1 : Nat) : Int) - (K : Int)) = f1 at *
          have HF1 := Lib.hid hf1
          have hopQ : ∀ t W, (binOp .quo t (.float .f64 y0) (.float .f64 4611686018427387904)).run Try.prog W = .ok (.float .f64 y1) W := fun t W => run_float_arith W .quo t .f64 _ _ y1 hs2
          have hopA : ∀ t W, (binOp .add t (.float .f64 f0) (.float .f64 4607182418800017408)).run Try.prog W = .ok (.float .f64 f1) W := fun t W => run_float_arith W .add t .f64 _ _ f1 hab
          clear hs2 hab hy1 hf1
          go_wp2_with (simp only [hopQ, hopA])
          go_round
          case rel => exact ⟨k + 1, by omega, by rw [HY1.out], by rw [HF1.out]⟩
          case measure => exact HMe.out
        · obtain rfl : H = k := by omega
          have hee : ((Ieee.double.order (hlvN (dblN y K) H) c15 == some .gt) || (Ieee.double.order (hlvN (dblN y K) H) c15 == some .eq)) = false := by rw [ho2, decide_eq_false (Nat.lt_irrefl _)]; rfl
          unfold c15 at hee
          have hye := HYE.out
          rw [← hye] at hee ⊢
          obtain ⟨sa, sb, r1, r2, r3, r4⟩ := HL.out
          rw [← hye] at r1 r2 r3 r4
          obtain ⟨r5, r6, r7, r8, r9, r10, _⟩ := logE_ok (x := YE) (e := (H : Int) - (K : Int)) r4 (by omega)
          have HSer := Lib.hid (fun j (hj : j < 13) => serQ_step r6 hj)
          have HF25 := Lib.hid fD25
          have HSer0 : Hid (serQ (mulD (sE YE) (sE YE)) 0 = 0) := rfl
          clear r4 r6 ho hs2 hn1 ho2 hye HL HYE
          generalize hLOG : logE YE ((H : Int) - (K : Int)) = LOG at *
          generalize mulD (sE YE) (sE YE) = U at *
          generalize mulD d2 (mulD (sE YE) (serQ U 13)) = M2 at *
          generalize mulD (sE YE) (serQ U 13) = M1 at *
          generalize sE YE = SE at *
          generalize mulD (fD ((H : Int) - (K : Int))) lnC = M3 at *
          generalize fD ((H : Int) - (K : Int)) = FE at *
          have hop1 : ∀ t W, (binOp .sub t (.float .f64 YE) (.float .f64 4607182418800017408)).run Try.prog W = .ok (.float .f64 sa) W := fun t W => run_float_arith W .sub t .f64 _ _ sa r1
          have hop2 : ∀ t W, (binOp .add t (.float .f64 YE) (.float .f64 4607182418800017408)).run Try.prog W = .ok (.float .f64 sb) W := fun t W => run_float_arith W .add t .f64 _ _ sb r2
          have hop3 : ∀ t W, (binOp .quo t (.float .f64 sa) (.float .f64 sb)).run Try.prog W = .ok (.float .f64 SE) W := fun t W => run_float_arith W .quo t .f64 _ _ SE r3
          have hop4 : ∀ t W, (binOp .mul t (.float .f64 SE) (.float .f64 SE)).run Try.prog W = .ok (.float .f64 U) W := fun t W => run_float_arith W .mul t .f64 _ _ U r5
          have hop5 : ∀ t W, (binOp .mul t (.float .f64 SE) (.float .f64 (serQ U 13))).run Try.prog W = .ok (.float .f64 M1) W := fun t W => run_float_arith W .mul t .f64 _ _ M1 r7
          have hop6 : ∀ t W, (binOp .mul t (.float .f64 4611686018427387904) (.float .f64 M1)).run Try.prog W = .ok (.float .f64 M2) W := fun t W => run_float_arith W .mul t .f64 _ _ M2 r8
          have hop7 : ∀ t W, (binOp .mul t (.float .f64 FE) (.float .f64 4604418534313441775)).run Try.prog W = .ok (.float .f64 M3) W := fun t W => run_float_arith W .mul t .f64 _ _ M3 r9
          have hop8 : ∀ t W, (binOp .add t (.float .f64 M2) (.float .f64 M3)).run Try.prog W = .ok (.float .f64 LOG) W := fun t W => run_float_arith W .add t .f64 _ _ LOG r10
          clear r1 r2 r3 r5 r7 r8 r9 r10 hLOG
          go_wp2_with (simp only [hop1, hop2, hop3, hop4])
          go_loop [6, 7] (fun vq vk => ∃ j : Nat, j ≤ 13 ∧ vq = .float .f64 (serQ U j) ∧ vk = .float .f64 (fD (25 - 2 * (j : Int)))) (fun vq vk => mesK vk)
          case atStart => exact ⟨0, by omega, by rw [HSer0.out], by rw [HF25.out]⟩
          case round =>
            obtain ⟨j, hj, rfl, rfl⟩ := hrel
            have hok := ord_k j (by omega)
            unfold d1 at hok
            by_cases hj13 : j < 13
            · rw [decide_eq_true hj13] at hok
              obtain ⟨t1, t2, t3⟩ := HSer.out j hj13
              have t4 := fD_step j hj13
              have HMe : Hid (mesK (.float .f64 (fD (25 - 2 * ((j + 1 : Nat) : Int)))) < mesK (.float .f64 (fD (25 - 2 * (j : Int))))) := mesK_step j hj13
              generalize fD (25 - 2 * (j : Int)) = f0 at *
              generalize hf1 : fD (25 - 2 * ((j + 1 : Nat) : Int)) = f1 at *
              have HF1 := Lib.hid hf1
              generalize serQ U j = q0 at *
              generalize hq1 : serQ U (j + 1) = q1 at *
              have HQ1 := Lib.hid hq1
              generalize mulD U q0 = m0 at *
              generalize recD j = c0 at *
              have ho1 : ∀ t W, (binOp .quo t (.float .f64 4607182418800017408) (.float .f64 f0)).run Try.prog W = .ok (.float .f64 c0) W := fun t W => run_float_arith W .quo t .f64 _ _ c0 t1
              have ho2 : ∀ t W, (binOp .mul t (.float .f64 U) (.float .f64 q0)).run Try.prog W = .ok (.float .f64 m0) W := fun t W => run_float_arith W .mul t .f64 _ _ m0 t2
              have ho3 : ∀ t W, (binOp .add t (.float .f64 c0) (.float .f64 m0)).run Try.prog W = .ok (.float .f64 q1) W := fun t W => run_float_arith W .add t .f64 _ _ q1 t3
              have ho4 : ∀ t W, (binOp .sub t (.float .f64 f0) (.float .f64 4611686018427387904)).run Try.prog W = .ok (.float .f64 f1) W := fun t W => run_float_arith W .sub t .f64 _ _ f1 t4
              clear t1 t2 t3 t4 hf1 hq1
              go_wp2_with (simp only [ho1, ho2, ho3, ho4])
              go_round
              case rel => exact ⟨j + 1, by omega, by rw [HQ1.out], by rw [HF1.out]⟩
              case measure => exact HMe.out
            · obtain rfl : j = 13 := by omega
              rw [decide_eq_false (Nat.lt_irrefl _)] at hok
              generalize serQ U 13 = q13 at *
              go_wp2_with (simp only [hop5, hop6, hop7, hop8])
              go_ret
              exact ⟨rfl, rfl⟩

end Go.Proofs.Ytocpahhpagkknaa
