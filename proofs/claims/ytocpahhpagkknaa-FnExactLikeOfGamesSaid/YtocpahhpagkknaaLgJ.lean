/- Logarithms of 0. -/
import Derived.Test.YtocpahhpagkknaaLgI
import Derived.Laws.LoneSync
namespace Go.Proofs.Ytocpahhpagkknaa
open Go.RowKit
set_option linter.unusedVariables false
set_option linter.unusedSimpArgs false

theorem frombits_run (n : Int) (W : World) : (callFunc 59 #[.int .u64 n]).run Try.prog W = .ok (.value (.float .f64 n.toNat)) W := by
  rw [run_callFunc_extern Try.func59 (by kernel_rfl) (by kernel_rfl) (by kernel_rfl) (e := Extern.MathFloatBits.float64frombits) (by kernel_rfl)]
  rfl

theorem mathInf_neg (w : World) : Calls Try.prog 53 #[.int .i64 (-1)] w (RetS w (.float .f64 18442240474082181120)) := by
  have hcf := frombits_run
  go_enter Try.func53, Try.ntmps53
  go_wp2
  go_ret
  exact ⟨rfl, rfl⟩

theorem infT : floatToFloatBits .f64 18442240474082181120 .f32 = some 4286578688 := by decide
theorem zeroT : floatToFloatBits .f32 0 .f64 = some 0 := by decide
theorem log_zero_impl (w : World) : Calls Try.prog 33 #[.float .f32 0] w (RetS w (.float .f32 4286578688)) := by
  have hf : FloatKind.f32.format = Ieee.single := rfl
  have o1 : Ieee.single.order 0 0 = some .eq := by decide
  have C := Lib.hid (fun W => mathInf_neg W)
  have hop2 : ∀ W, (convert 37 31 (.float .f64 18442240474082181120)).run Try.prog W = .ok (.float .f32 4286578688) W := fun W => run_convert_float_float W _ _ .f64 .f32 _ _ rfl Try.underlying31 infT
  go_enter Try.func33, Try.ntmps33
  go_wp2_with (fail)
  refine (C.out _).mono ?_
  rintro e w1 ⟨rfl, rfl⟩
  go_wp2
  go_ret
  exact ⟨rfl, rfl⟩

theorem logWide_zero (w : World) : Calls Try.prog 48 #[.float .f64 0] w (RetS w (.float .f64 18442240474082181120)) := by
  have hf : FloatKind.f64.format = Ieee.double := rfl
  have o1 : Ieee.double.order 0 0 = some .eq := by decide
  have C := Lib.hid (fun W => mathInf_neg W)
  go_enter Try.func48, Try.ntmps48
  go_wp2_with (fail)
  refine (C.out _).mono ?_
  rintro e w1 ⟨rfl, rfl⟩
  go_wp2
  go_ret
  exact ⟨rfl, rfl⟩

theorem log_zero_spec (w : World) : Calls Try.prog 28 #[.float .f32 0] w (RetS w (.float .f32 4286578688)) := by
  have C := Lib.hid (fun W => logWide_zero W)
  have hop1 : ∀ W, (convert 31 37 (.float .f32 0)).run Try.prog W = .ok (.float .f64 0) W := fun W => run_convert_float_float W _ _ .f32 .f64 _ _ rfl Try.underlying37 zeroT
  have hop2 : ∀ W, (convert 37 31 (.float .f64 18442240474082181120)).run Try.prog W = .ok (.float .f32 4286578688) W := fun W => run_convert_float_float W _ _ .f64 .f32 _ _ rfl Try.underlying31 infT
  have CN : Hid (∀ w, Calls Try.prog 47 #[.float .f64 18442240474082181120] w (RetS w (.float .f32 4286578688))) := by
    show ∀ w, _
    intro w
    clear C
    go_enter Try.func47, Try.ntmps47
    go_wp2
    go_ret
    exact ⟨rfl, rfl⟩
  go_enter Try.func28, Try.ntmps28
  go_wp2_with (fail)
  refine (C.out _).mono ?_
  rintro e w1 ⟨rfl, rfl⟩
  go_wp2_with (fail)
  refine (CN.out _).mono ?_
  rintro e w2 ⟨rfl, rfl⟩
  go_wp2
  go_ret
  exact ⟨rfl, rfl⟩

/-- what a non-negative number is, rounded -/
theorem nearest_cases (m : Nat) (i : Int) : Ieee.single.nearest false m i = 0 ∨ (∃ m' i', Ieee.single.read (Ieee.single.nearest false m i) = .number false m' i' ∧ m' ≠ 0) ∨ Ieee.single.nearest false m i = 2139095040 := by
  obtain ⟨R, hR, _⟩ := nearest_rung Ieee.single false m i (if m = 0 then 0 else (m.log2 : Int) + i + 1) (by by_cases h : m = 0 <;> simp [h]; omega)
  have e0 : ∀ r, Ieee.single.word false r = r := fun r => rfl
  rw [hR, e0]
  have hI : Ieee.single.infRung = 2139095040 := rfl
  have hB : Ieee.single.binade = 2 ^ 23 := rfl
  have hS : Ieee.single.signWeight = 2 ^ 31 := rfl
  rw [hI]
  by_cases h1 : R = 0
  · left; rw [h1]; rfl
  by_cases h2 : 2139095040 ≤ R
  · right; right; rw [Nat.min_eq_right h2]
  · right; left
    rw [Nat.min_eq_left (by omega)]
    unfold Ieee.Format.read
    have e1 : R / Ieee.single.signWeight % 2 = 0 := by rw [hS, Nat.div_eq_of_lt (by omega)]
    have e2 : R % Ieee.single.signWeight = R := by rw [hS]; exact Nat.mod_eq_of_lt (by omega)
    simp only [e1, e2]
    rw [hB, hI]
    by_cases h3 : R < 2 ^ 23
    · rw [if_pos h3]
      exact ⟨R, _, rfl, h1⟩
    · rw [if_neg h3, if_pos (by omega)]
      refine ⟨_, _, rfl, ?_⟩
      have := Nat.two_pow_pos 23
      omega
theorem inf32T : floatToFloatBits .f32 2139095040 .f64 = some 9218868437227405312 := by decide
theorem inf64T : floatToFloatBits .f64 9218868437227405312 .f32 = some 2139095040 := by decide
theorem log_inf_impl (w : World) : Calls Try.prog 33 #[.float .f32 2139095040] w (Ret w (.float .f32 2139095040)) := by
  have hf : FloatKind.f32.format = Ieee.single := rfl
  have o1 : Ieee.single.order 2139095040 0 = some .gt := by decide
  have o2 : Ieee.single.order 2139095040 2139095040 = some .eq := by decide
  have hfin : finB 2139095040 = false := by decide
  have CF := Lib.hid (fun w => IsFinite_any 2139095040 w)
  rw [hfin] at CF
  go_enter Try.func33, Try.ntmps33
  go_wp2_with (fail)
  refine (CF.out _).mono ?_
  rintro e w1 ⟨rfl, hb1⟩
  have HB1 := Lib.hid hb1
  clear hb1
  go_wp2
  go_ret
  exact ⟨rfl, HB1.out⟩

theorem isInf_inf (w : World) : Calls Try.prog 57 #[.float .f64 9218868437227405312, .int .i64 1] w (RetS w (.bool true)) := by
  have hf : FloatKind.f64.format = Ieee.double := rfl
  have o1 : Ieee.double.order 9218868437227405312 9218868437227405311 = some .gt := by decide
  go_enter Try.func57, Try.ntmps57
  go_wp2
  go_ret
  exact ⟨rfl, rfl⟩

theorem log_inf_spec (w : World) : Calls Try.prog 28 #[.float .f32 2139095040] w (RetS w (.float .f32 2139095040)) := by
  have CW : Hid (∀ w, Calls Try.prog 48 #[.float .f64 9218868437227405312] w (RetS w (.float .f64 9218868437227405312))) := by
    show ∀ w, _
    intro w
    have hf : FloatKind.f64.format = Ieee.double := rfl
    have o1 : Ieee.double.order 9218868437227405312 9218868437227405312 = some .eq := by decide
    have o2 : Ieee.double.order 9218868437227405312 0 = some .gt := by decide
    have CI := Lib.hid (fun W => isInf_inf W)
    go_enter Try.func48, Try.ntmps48
    go_wp2_with (fail)
    refine (CI.out _).mono ?_
    rintro e w1 ⟨rfl, rfl⟩
    go_wp2
    go_ret
    exact ⟨rfl, rfl⟩
  have hop1 : ∀ W, (convert 31 37 (.float .f32 2139095040)).run Try.prog W = .ok (.float .f64 9218868437227405312) W := fun W => run_convert_float_float W _ _ .f32 .f64 _ _ rfl Try.underlying37 inf32T
  have hop2 : ∀ W, (convert 37 31 (.float .f64 9218868437227405312)).run Try.prog W = .ok (.float .f32 2139095040) W := fun W => run_convert_float_float W _ _ .f64 .f32 _ _ rfl Try.underlying31 inf64T
  have CN : Hid (∀ w, Calls Try.prog 47 #[.float .f64 9218868437227405312] w (RetS w (.float .f32 2139095040))) := by
    show ∀ w, _
    intro w
    clear CW
    go_enter Try.func47, Try.ntmps47
    go_wp2
    go_ret
    exact ⟨rfl, rfl⟩
  go_enter Try.func28, Try.ntmps28
  go_wp2_with (fail)
  refine (CW.out _).mono ?_
  rintro e w1 ⟨rfl, rfl⟩
  go_wp2_with (fail)
  refine (CN.out _).mono ?_
  rintro e w2 ⟨rfl, rfl⟩
  go_wp2
  go_ret
  exact ⟨rfl, rfl⟩

end Go.Proofs.Ytocpahhpagkknaa
