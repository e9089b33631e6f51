/- Chances: what is a chance, what is finite. -/
import Derived.Test.YtcflgmjjomiejaaKcA
import Derived.Test.YtcflgmjjomiejaaSlF32
import Derived.Test.YtcflgmjjomiejaaF32
import Derived.Shelf.Abstract
namespace Go.Proofs.Ytcflgmjjomiejaa
open Go.RowKit
set_option linter.unusedVariables false
set_option linter.unusedSimpArgs false

theorem IsFinite_fb {e x : Nat} (h : FB e x) (w : World) : Calls Try.prog 30 #[.float .f32 x] w (RetS w (.bool true)) := by
  have hfm : FloatKind.f32.format = Ieee.single := rfl
  have hop : ∀ t W, (binOp .sub t (.float .f32 x) (.float .f32 x)).run Try.prog W = .ok (.float .f32 0) W := fun t W => run_float_arith W .sub t .f32 _ _ 0 (fin_fb h)
  have h0 : Ieee.single.order 0 0 = some .eq := by decide
  clear h
  go_enter Try.func30, Try.ntmps30
  go_wp2_with (simp only [hop])
  go_ret
  exact ⟨rfl, rfl⟩

theorem areFinite1_fb {e x : Nat} (h : FB e x) (w : World) : Calls Try.prog 60 #[.float .f32 x] w (Ret w (.bool false)) := by
  have C := IsFinite_fb h w
  clear h
  go_enter Try.func60, Try.ntmps60
  go_wp2_with (fail)
  refine C.mono ?_
  rintro e w1 ⟨rfl, rfl⟩
  go_wp2
  go_ret
  exact ⟨rfl, Below.refl _ _⟩

theorem areFinite_fb (a : Option Addr) (n c : Nat) (xs : List Nat) (e : Nat) (w : World) (h : Floats w a n c xs) (hx : ∀ x ∈ xs, FB e x) : Calls Try.prog 28 #[.slice a n c] w (Ret w (.bool true)) := by
  have C := containsFuncF32_any (fun x => false) 60 #[] (enters_of Try.func60 (by kernel_rfl) rfl) a n c xs w h (fun W _ x hm => areFinite1_fb (hx x hm) W)
  have e0 : xs.any (fun _ => false) = false := by simp
  rw [e0] at C
  clear h hx e0
  go_enter Try.func28, Try.ntmps28
  go_wp2_with (fail)
  refine C.mono ?_
  rintro e w1 ⟨rfl, hb⟩
  have HB := Lib.hid hb
  clear hb
  go_wp2
  go_ret
  exact ⟨rfl, HB.out⟩

theorem checkedNumbers_fb (a : Option Addr) (n c : Nat) (xs : List Nat) (e : Nat) (w : World) (h : Floats w a n c xs) (hx : ∀ x ∈ xs, FB e x) : Calls Try.prog 47 #[.slice a n c] w (Ret w (.tuple #[.slice a n c, .bool true])) := by
  have C := areFinite_fb a n c xs e w h hx
  clear h hx
  go_enter Try.func47, Try.ntmps47
  go_wp2_with (fail)
  refine C.mono ?_
  rintro e w1 ⟨rfl, hb⟩
  have HB := Lib.hid hb
  clear hb
  go_wp2
  go_ret2
  exact ⟨rfl, HB.out⟩

end Go.Proofs.Ytcflgmjjomiejaa
