/- The laws' own words: sameFloat, eqFloat32S. -/
import Derived.Test.YtocpahhpagkknaaFeA
import Derived.Test.YtocpahhpagkknaaF32
import Derived.Deep.RegionHeld3
namespace Go.Proofs.Ytocpahhpagkknaa
open Go.RowKit
set_option linter.unusedVariables false
set_option linter.unusedSimpArgs false

theorem sameFloat_eq (y : Nat) (w : World) (h1 : Ieee.double.order y y = some .eq) (h2 : Ieee.double.order y 0 = some .eq → ∃ q, Ieee.double.div 4607182418800017408 y = some q) :
    Calls Try.prog 16 #[.float .f64 y, .float .f64 y] w (RetS w (.bool true)) := by
  have hf : FloatKind.f64.format = Ieee.double := rfl
  by_cases hz : Ieee.double.order y 0 = some .eq
  · obtain ⟨q, hq⟩ := h2 hz
    have hop : ∀ t W, (binOp .quo t (.float .f64 4607182418800017408) (.float .f64 y)).run Try.prog W = .ok (.float .f64 q) W := fun t W => run_float_arith W .quo t .f64 _ _ q hq
    clear h2 hq
    go_enter Try.func16, Try.ntmps16
    go_wp2_with (simp only [hop])
    go_ret
    exact ⟨by simp, rfl⟩
  · have hz2 : (Ieee.double.order y 0 == some .eq) = false := by simpa using hz
    clear h2 hz
    go_enter Try.func16, Try.ntmps16
    go_wp2
    go_ret
    exact ⟨by simp, rfl⟩

theorem sameFloat_nan (y z : Nat) (w : World) (hy : NaN64 y) (hz : NaN64 z) :
    Calls Try.prog 16 #[.float .f64 y, .float .f64 z] w (RetS w (.bool true)) := by
  have hf : FloatKind.f64.format = Ieee.double := rfl
  have h1 := nan_order (z := y) hy
  have h2 := nan_order (z := z) hz
  clear hy hz
  go_enter Try.func16, Try.ntmps16
  go_wp2
  go_ret
  exact ⟨by simp, rfl⟩

set_option maxHeartbeats 800000 in
theorem eqFloat32S_same (a : Option Addr) (n c : Nat) (xs : List Nat) (a' : Option Addr) (n' c' : Nat) (w : World) (h : Floats w a n c xs) (h' : Floats w a' n' c' xs) :
    Calls Try.prog 9 #[.slice a n c, .slice a' n' c'] w (RetQ w (.bool true)) := by
  obtain ⟨hc, hb, hcell⟩ := h.at 0
  obtain ⟨hc', hb', hcell'⟩ := h'.at 0
  obtain rfl : n = n' := by rw [← h.len, ← h'.len]
  clear h h'
  go_enter Try.func9, Try.ntmps9
  go_wp2
  go_loopw [5] (fun i wr => ∃ k : Nat, k ≤ n ∧ i = .int .i64 k ∧ Quiet w wr) (fun i _ => n - (intOf i).toNat)
  case atStart => exact ⟨0, by omega, rfl, Quiet.refl _⟩
  case round =>
    obtain ⟨k, hk, rfl, hq⟩ := hrel
    have HW := Lib.hid hq
    clear hq
    by_cases hlt : k < n
    · obtain ⟨b, off, rfl, hlb, hx⟩ := hcell k hlt
      obtain ⟨b', off', rfl, hlb', hy⟩ := hcell' k hlt
      have hxk := cell_on (HW.out.below _) (hx k hlt)
      have hyk := cell_on (HW.out.below _) (hy k hlt)
      clear hcell hcell' hx hy
      generalize xs.getD k 0 = x at *
      rcases conv_any x with ⟨y, hy⟩ | ⟨s, t, hn⟩
      · have hop : ∀ W, (convert 31 37 (.float .f32 x)).run Try.prog W = .ok (.float .f64 y) W := fun W => run_convert_float_float W _ _ .f32 .f64 x y rfl Try.underlying37 hy.bits
        have C := Lib.hid (fun W => sameFloat_eq y W hy.self hy.zero)
        clear hy
        go_wp2
        go_region_held3 (fun W => W.cell? ⟨b, off + k, none⟩ = some (.float .f32 x) ∧ W.cell? ⟨b', off' + k, none⟩ = some (.float .f32 x)) (first | exact ⟨hxk, hyk⟩ | go_keep)
          (first | (go_at_call 16; refine (C.out _).mono ?_; rintro e w4 ⟨rfl, rfl⟩))
        go_wp2
        go_roundw
        case rel => exact ⟨k + 1, by omega, by go_num, HW.out.trans ⟨_, rfl⟩⟩
        case measure => simp [intOf]; omega
      · have hop : ∀ W, (convert 31 37 (.float .f32 x)).run Try.prog W = .ok (.float .f64 (nanF x W)) W.drew := fun W => run_conv_nan _ _ x hn rfl Try.underlying37 W
        have C := Lib.hid (fun W1 W2 W => sameFloat_nan (nanF x W1) (nanF x W2) W (nanF_nan _ _) (nanF_nan _ _))
        clear hn
        go_wp2
        go_region_held (fun W => W.cell? ⟨b, off + k, none⟩ = some (.float .f32 x) ∧ W.cell? ⟨b', off' + k, none⟩ = some (.float .f32 x)) (first | exact ⟨hxk, hyk⟩ | go_keep)
          (first | (go_at_call 16; refine (C.out _ _ _).mono ?_; rintro e w4 ⟨rfl, rfl⟩))
        all_goals
          go_wp2
          go_roundw
          case rel => exact ⟨k + 1, by omega, by go_num, HW.out.trans ⟨3, rfl⟩⟩
          case measure => simp [intOf]; omega
    · obtain rfl : k = n := by omega
      clear hcell hcell'
      go_wp2
      go_ret
      exact ⟨rfl, HW.out⟩

end Go.Proofs.Ytocpahhpagkknaa
