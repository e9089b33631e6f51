/- Lines of play, spec: l06Less, l06Wins, l06Hands, l06Ways, CountLines. -/
import Derived.Test.YtgldfmkjnggedaaLinesA
import Derived.Test.YtgldfmkjnggedaaLegalB
namespace Go.Proofs.Ytgldfmkjnggedaa
open Go.RowKit
set_option linter.unusedVariables false

theorem winsTrick_any (x y t : Int) (w : World) (hx : 0 ≤ x ∧ x ≤ 51) (hy : 0 ≤ y ∧ y ≤ 51) :
    Calls Try.prog 29 #[.int .i64 x, .int .i64 y, .int .i64 t] w (RetS w (.bool (winsL x y t))) := by
  have HW : Hid (winsL x y t = if x / 13 == y / 13 then decide (y < x) else !(y / 13 == t)) := rfl
  generalize winsL x y t = r at *
  rcases Bool.eq_false_or_eq_true (x / 13 == y / 13) with e | e
  · have HR : Hid (r = decide (y < x)) := by show _ = _; rw [HW.out, if_pos e]
    clear HW
    go_enter Try.func29, Try.ntmps29
    go_wp2
    go_ret
    exact ⟨ret_bool HR.out.symm, rfl⟩
  · have HR : Hid (r = (y / 13 != t)) := by show _ = _; rw [HW.out, if_neg (by rw [e]; exact Bool.false_ne_true)]; rfl
    clear HW
    go_enter Try.func29, Try.ntmps29
    go_wp2
    go_ret
    exact ⟨ret_bool HR.out.symm, rfl⟩

end Go.Proofs.Ytgldfmkjnggedaa
