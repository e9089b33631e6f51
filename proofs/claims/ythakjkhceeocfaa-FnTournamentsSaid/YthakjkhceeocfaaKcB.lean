/- Chances: what is a chance, what is finite. -/
import Derived.Test.YthakjkhceeocfaaKcA
import Derived.Test.YthakjkhceeocfaaSlF32
import Derived.Test.YthakjkhceeocfaaF32
import Derived.Shelf.Abstract
namespace Go.Proofs.Ythakjkhceeocfaa
open Go.RowKit
set_option linter.unusedVariables false
set_option linter.unusedSimpArgs false

theorem isChance_any (x : Nat) (w : World) : Calls Try.prog 24 #[.float .f32 x] w (RetS w (.bool (isCh x))) := by
  have hfm : FloatKind.f32.format = Ieee.single := rfl
  have HI : Hid (isCh x = ((Ieee.single.order x 0 == some .gt || Ieee.single.order x 0 == some .eq) && (Ieee.single.order x 1065353216 == some .lt || Ieee.single.order x 1065353216 == some .eq))) := rfl
  generalize isCh x = r at *
  rcases h1 : Ieee.single.order x 0 with _ | _ | _ | _ <;> rcases h2 : Ieee.single.order x 1065353216 with _ | _ | _ | _
  all_goals
    rw [h1, h2] at HI
    have hr := HI.out
    subst hr
    go_enter Try.func24, Try.ntmps24
    go_wp2
    go_ret
    exact ⟨rfl, rfl⟩

theorem l02Share_any (x : Nat) (w : World) : Calls Try.prog 26 #[.float .f32 x] w (RetS w (.bool (isCh x))) := by
  have hfm : FloatKind.f32.format = Ieee.single := rfl
  have HI : Hid (isCh x = ((Ieee.single.order x 0 == some .gt || Ieee.single.order x 0 == some .eq) && (Ieee.single.order x 1065353216 == some .lt || Ieee.single.order x 1065353216 == some .eq))) := rfl
  generalize isCh x = r at *
  rcases h1 : Ieee.single.order x 0 with _ | _ | _ | _ <;> rcases h2 : Ieee.single.order x 1065353216 with _ | _ | _ | _
  all_goals
    rw [h1, h2] at HI
    have hr := HI.out
    subst hr
    go_enter Try.func26, Try.ntmps26
    go_wp2
    go_ret
    exact ⟨rfl, rfl⟩

theorem KnockChances1_any (x : Nat) (w : World) : Calls Try.prog 23 #[.float .f32 x] w (Ret w (.bool (!isCh x))) := by
  have C := isChance_any x w
  generalize isCh x = b at *
  go_enter Try.func23, Try.ntmps23
  go_wp2_with (fail)
  refine C.mono ?_
  rintro e w1 ⟨rfl, rfl⟩
  go_wp2
  go_ret
  exact ⟨rfl, Below.refl _ _⟩

theorem IsFinite_fb {e x : Nat} (h : FB e x) (w : World) : Calls Try.prog 58 #[.float .f32 x] w (RetS w (.bool true)) := by
  have hfm : FloatKind.f32.format = Ieee.single := rfl
  have hop : ∀ t W, (binOp .sub t (.float .f32 x) (.float .f32 x)).run Try.prog W = .ok (.float .f32 0) W := fun t W => run_float_arith W .sub t .f32 _ _ 0 (fin_fb h)
  have h0 : Ieee.single.order 0 0 = some .eq := by decide
  clear h
  go_enter Try.func58, Try.ntmps58
  go_wp2_with (simp only [hop])
  go_ret
  exact ⟨rfl, rfl⟩

theorem areFinite1_fb {e x : Nat} (h : FB e x) (w : World) : Calls Try.prog 57 #[.float .f32 x] w (Ret w (.bool false)) := by
  have C := IsFinite_fb h w
  clear h
  go_enter Try.func57, Try.ntmps57
  go_wp2_with (fail)
  refine C.mono ?_
  rintro e w1 ⟨rfl, rfl⟩
  go_wp2
  go_ret
  exact ⟨rfl, Below.refl _ _⟩

theorem areFinite_fb (a : Option Addr) (n c : Nat) (xs : List Nat) (e : Nat) (w : World) (h : Floats w a n c xs) (hx : ∀ x ∈ xs, FB e x) : Calls Try.prog 49 #[.slice a n c] w (Ret w (.bool true)) := by
  have C := containsFuncF32_any (fun x => false) 57 #[] (enters_of Try.func57 (by kernel_rfl) rfl) a n c xs w h (fun W _ x hm => areFinite1_fb (hx x hm) W)
  have e0 : xs.any (fun _ => false) = false := by simp
  rw [e0] at C
  clear h hx e0
  go_enter Try.func49, Try.ntmps49
  go_wp2_with (fail)
  refine C.mono ?_
  rintro e w1 ⟨rfl, hb⟩
  have HB := Lib.hid hb
  clear hb
  go_wp2
  go_ret
  exact ⟨rfl, HB.out⟩

theorem checkedNumbers_fb (a : Option Addr) (n c : Nat) (xs : List Nat) (e : Nat) (w : World) (h : Floats w a n c xs) (hx : ∀ x ∈ xs, FB e x) : Calls Try.prog 25 #[.slice a n c] w (Ret w (.tuple #[.slice a n c, .bool true])) := by
  have C := areFinite_fb a n c xs e w h hx
  clear h hx
  go_enter Try.func25, Try.ntmps25
  go_wp2_with (fail)
  refine C.mono ?_
  rintro e w1 ⟨rfl, hb⟩
  have HB := Lib.hid hb
  clear hb
  go_wp2
  go_ret2
  exact ⟨rfl, HB.out⟩

end Go.Proofs.Ythakjkhceeocfaa
