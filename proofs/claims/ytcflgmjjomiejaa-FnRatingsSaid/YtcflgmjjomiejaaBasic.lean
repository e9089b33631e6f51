/- The small words that all parts call: within, l00In. -/
import Derived.Test.YtcflgmjjomiejaaKit
import Derived.Test.YtcflgmjjomiejaaProg
namespace Go.Proofs.Ytcflgmjjomiejaa
open Go.RowKit

theorem within_any (x a b : Int) (w : World) : Calls Try.prog 39 #[.int .i64 x, .int .i64 a, .int .i64 b] w (RetS w (.bool (inB x a b))) := by
  by_cases h1 : a ≤ x
  · by_cases h2 : x ≤ b
    · have H := Lib.hid ((inB_iff x a b).2 ⟨h1, h2⟩)
      go_enter Try.func39, Try.ntmps39
      go_wp2
      go_ret
      exact ⟨ret_bool H.out.symm, rfl⟩
    · have H := Lib.hid ((inB_not x a b).2 (fun h => h2 h.2))
      go_enter Try.func39, Try.ntmps39
      go_wp2
      go_ret
      exact ⟨ret_bool H.out.symm, rfl⟩
  · have H := Lib.hid ((inB_not x a b).2 (fun h => h1 h.1))
    go_enter Try.func39, Try.ntmps39
    go_wp2
    go_ret
    exact ⟨ret_bool H.out.symm, rfl⟩

theorem l00In_any (x a b : Int) (w : World) : Calls Try.prog 48 #[.int .i64 x, .int .i64 a, .int .i64 b] w (RetS w (.bool (inB x a b))) := by
  by_cases h1 : a ≤ x
  · by_cases h2 : x ≤ b
    · have H := Lib.hid ((inB_iff x a b).2 ⟨h1, h2⟩)
      go_enter Try.func48, Try.ntmps48
      go_wp2
      go_ret
      exact ⟨ret_bool H.out.symm, rfl⟩
    · have H := Lib.hid ((inB_not x a b).2 (fun h => h2 h.2))
      go_enter Try.func48, Try.ntmps48
      go_wp2
      go_ret
      exact ⟨ret_bool H.out.symm, rfl⟩
  · have H := Lib.hid ((inB_not x a b).2 (fun h => h1 h.1))
    go_enter Try.func48, Try.ntmps48
    go_wp2
    go_ret
    exact ⟨ret_bool H.out.symm, rfl⟩

end Go.Proofs.Ytcflgmjjomiejaa
