/- Logarithms of positive numbers of 32 bits: both are the same. -/
import Derived.Test.YtocpahhpagkknaaLgH
import Derived.Test.YtocpahhpagkknaaFsA
namespace Go.Proofs.Ytocpahhpagkknaa
open Go.RowKit
set_option linter.unusedVariables false
set_option linter.unusedSimpArgs false

theorem pos32 {x m : Nat} {i : Int} (h : Ieee.single.read x = .number false m i) (hm : m ≠ 0) : Ieee.single.order x 0 = some .gt ∧ Ieee.single.order x x = some .eq := by
  have e0 : Ieee.single.read 0 = .number false 0 (-149) := by decide
  refine ⟨?_, ?_⟩
  · unfold Ieee.Format.order
    rw [h, e0]
    show some (compare (Ieee.signed false m (i - min i (-149)).toNat) (Ieee.signed false 0 (-149 - min i (-149)).toNat)) = _
    have e1 : Ieee.signed false m (i - min i (-149)).toNat = ((m <<< (i - min i (-149)).toNat : Nat) : Int) := rfl
    have e2 : Ieee.signed false 0 (-149 - min i (-149)).toNat = 0 := by simp [Ieee.signed]
    rw [e1, e2, Nat.shiftLeft_eq]
    have : 0 < m * 2 ^ (i - min i (-149)).toNat := Nat.mul_pos (Nat.pos_of_ne_zero hm) (Nat.two_pow_pos _)
    rw [cmpI_gt.2 (by omega)]
  · unfold Ieee.Format.order
    rw [h]
    show some (compare _ _) = _
    rw [cmpI_eq.2 rfl]

set_option maxHeartbeats 800000 in
theorem log_both {x m : Nat} {i : Int} (h : Ieee.single.read x = .number false m i) (hm : m ≠ 0) :
    ∃ b, (∀ w, Calls Try.prog 33 #[.float .f32 x] w (Ret w (.float .f32 b))) ∧ (∀ w, Calls Try.prog 28 #[.float .f32 x] w (RetS w (.float .f32 b))) := by
  obtain ⟨o1, o2⟩ := pos32 h hm
  obtain ⟨y, q, I, c1, hy, h1, h2⟩ := conv_nrm h hm
  obtain ⟨hb1, hb2⟩ := kh_bd (q := q) h1 h2
  obtain ⟨hm1, hm2⟩ := kh_mid (I := I) hy.lo
  have hK := dblN_nrm hy h1 (up75 q I) (by omega)
  have hE := hlvN_nrm hK (by omega) (dn15 q I) (by omega)
  obtain ⟨_, _, _, _, _, hs⟩ := sE_ok hE hm1 hm2
  have hL := (logE_ok (x := yE q I y) (e := (dn15 q I : Int) - (up75 q I : Int)) hs (by omega)).2.2.2.2.2.2
  obtain ⟨b, hb⟩ := narrow_ok hL
  have C1 := Lib.hid (fun w => logarithm_any hy h1 h2 w)
  have C2 := Lib.hid (fun w => logWide_any hy h1 h2 w)
  have hfin : finB x = true := by
    have hfb : FB 128 x := ⟨false, m, i, h, read_least h, .inr ((read_bound h).resolve_left hm)⟩
    show (match opO .sub (some x) (some x) with | some z => Ieee.single.order z 0 == some .eq | none => false) = true
    have e : opO .sub (some x) (some x) = some 0 := fin_fb hfb
    rw [e]
    decide
  have CF := Lib.hid (fun w => IsFinite_any x w)
  rw [hfin] at CF
  generalize logE (yE q I y) ((dn15 q I : Int) - (up75 q I : Int)) = LG at *
  have hf : FloatKind.f32.format = Ieee.single := rfl
  have hop1 : ∀ W, (convert 31 37 (.float .f32 x)).run Try.prog W = .ok (.float .f64 y) W := fun W => run_convert_float_float W _ _ .f32 .f64 x y rfl Try.underlying37 c1
  have hop2 : ∀ W, (convert 37 31 (.float .f64 LG)).run Try.prog W = .ok (.float .f32 b) W := fun W => run_convert_float_float W _ _ .f64 .f32 LG b rfl Try.underlying31 hb
  clear h hm c1 hy hm1 hm2 hK hE hs hL hb hfin
  have CN : Hid (∀ w, Calls Try.prog 47 #[.float .f64 LG] w (RetS w (.float .f32 b))) := by
    show ∀ w, _
    intro w
    clear CF C1 C2 o1 o2
    go_enter Try.func47, Try.ntmps47
    go_wp2
    go_ret
    exact ⟨rfl, rfl⟩
  refine ⟨b, fun w => ?_, fun w => ?_⟩
  · go_enter Try.func33, Try.ntmps33
    go_wp2_with (fail)
    refine (CF.out _).mono ?_
    rintro e w1 ⟨rfl, hb1⟩
    have HB1 := Lib.hid hb1
    clear hb1
    go_wp2_with (fail)
    refine (C1.out _).mono ?_
    rintro e w2 ⟨rfl, rfl⟩
    go_wp2
    go_ret
    exact ⟨rfl, HB1.out⟩
  · go_enter Try.func28, Try.ntmps28
    go_wp2_with (fail)
    refine (C2.out _).mono ?_
    rintro e w2 ⟨rfl, rfl⟩
    go_wp2_with (fail)
    refine (CN.out _).mono ?_
    rintro e w3 ⟨rfl, rfl⟩
    go_wp2
    go_ret
    exact ⟨rfl, rfl⟩

end Go.Proofs.Ytocpahhpagkknaa
