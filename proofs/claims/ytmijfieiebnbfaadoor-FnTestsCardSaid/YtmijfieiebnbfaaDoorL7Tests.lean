/- Tests: l07Test, ValidTest of both. -/
import Derived.Test.YtmijfieiebnbfaaDoorBasic
import Derived.Test.YtmijfieiebnbfaaDoorTest
namespace Go.Proofs.YtmijfieiebnbfaaDoor
open Go.RowKit

/-- a test is valid -/
def okTest (x y z : Int) : Bool := inB x 0 2 && inB y 0 2 && inB z 0 51

theorem l07Test_any (b off : Nat) (x y z : Int) (w : World) (h0 : w.cell? ⟨b, off, none⟩ = some (.int .i64 x)) (h1 : w.cell? ⟨b, off + 1, none⟩ = some (.int .i64 y)) (h2 : w.cell? ⟨b, off + 2, none⟩ = some (.int .i64 z)) :
    Calls Tryd.prog 41 #[.pointer (some ⟨b, off, none⟩)] w (RetS w (.bool (okTest x y z))) := by
  have H : okTest x y z = (inB x 0 2 && inB y 0 2 && inB z 0 51) := rfl
  have H := Lib.hid H
  rcases Bool.eq_false_or_eq_true (inB x 0 2) with e0 | e0 <;> rcases Bool.eq_false_or_eq_true (inB y 0 2) with e1 | e1
  all_goals
    go_enter Tryd.func41, Tryd.ntmps41
    go_wp2_with (first | (go_at_call 39; refine (l00In_any _ _ _ _).mono ?_; rintro e w' ⟨rfl, rfl⟩))
    go_ret
    exact ⟨ret_bool (by rw [H.out]; simp [e0, e1]), rfl⟩

theorem implValidTest_any (x y z : Int) (w : World) : Calls Tryd.prog 17 #[.agg #[.int .i64 x, .int .i64 y, .int .i64 z]] w (Ret w (.bool (okTest x y z))) := by
  have H : okTest x y z = (inB x 0 2 && inB y 0 2 && inB z 0 51) := rfl
  have H := Lib.hid H
  rcases Bool.eq_false_or_eq_true (inB x 0 2) with e0 | e0 <;> rcases Bool.eq_false_or_eq_true (inB y 0 2) with e1 | e1
  all_goals
    go_enter Tryd.func17, Tryd.ntmps17
    go_wp2_with (first | (go_at_call 37; refine (within_any _ _ _ _).mono ?_; rintro e w' ⟨rfl, rfl⟩))
    go_ret
    exact ⟨ret_bool (by rw [H.out]; simp [e0, e1]), (Below.refl _ _).alloc (Nat.le_refl _) _⟩

end Go.Proofs.YtmijfieiebnbfaaDoor
