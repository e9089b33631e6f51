/- Words of the laws: b10Long, b10At. -/
import Derived.Test.YtcflgmjjomiejaaSrc
namespace Go.Proofs.Ytcflgmjjomiejaa
open Go.RowKit
set_option linter.unusedVariables false

def isLongB (n n' : Nat) : Bool := decide (1048576 < n) || decide (1048576 < n')
theorem ret_b {a b : Bool} (h : a = b) : Ending.returned (.bool a) = Ending.returned (.bool b) := by rw [h]
theorem b10Long_any (a : Option Addr) (n c : Nat) (a' : Option Addr) (n' c' : Nat) (w : World) (h : n ≤ 9223372036854775807) (h' : n' ≤ 9223372036854775807) : Calls Try.prog 4 #[.slice a n c, .slice a' n' c'] w (RetS w (.bool (isLongB n n'))) := by
  by_cases h1 : 1048576 < n
  · have H : Hid (isLongB n n' = true) := by show _ = _; unfold isLongB; rw [decide_eq_true h1]; rfl
    go_enter Try.func4, Try.ntmps4
    go_wp2
    go_ret
    exact ⟨ret_b H.out.symm, rfl⟩
  · by_cases h2 : 1048576 < n'
    · have H : Hid (isLongB n n' = true) := by show _ = _; unfold isLongB; rw [decide_eq_true h2, Bool.or_true]
      go_enter Try.func4, Try.ntmps4
      go_wp2
      go_ret
      exact ⟨ret_b (by rw [H.out]; simp; omega), rfl⟩
    · have H : Hid (isLongB n n' = false) := by show _ = _; unfold isLongB; rw [decide_eq_false h1, decide_eq_false h2]; rfl
      go_enter Try.func4, Try.ntmps4
      go_wp2
      go_ret
      exact ⟨ret_b (by rw [H.out]; simp; omega), rfl⟩

set_option maxHeartbeats 1600000 in
theorem b10At_any (a : Option Addr) (n c : Nat) (bs : List Int) (k m : Int) (w : World) (h : Bytes w a n c bs) (ok : okB bs) (hk : 0 ≤ k) (hk' : k ≤ 1000) (hm : 1 ≤ m) (hm' : m ≤ 1000) :
    Calls Try.prog 5 #[.slice a n c, .int .i64 k, .int .i64 m] w fun e w' => ∃ x : Int, e = .returned (.int .i64 x) ∧ 0 ≤ x ∧ x < m ∧ w = w' := by
  obtain ⟨hc, hb, hat⟩ := h.at 0
  have HAt := Lib.hid hat
  have HOk := Lib.hid ok
  clear h ok hat
  by_cases h1 : m ≤ 1
  · go_enter Try.func5, Try.ntmps5
    go_wp2
    go_ret
    exact ⟨0, rfl, by omega, by omega, rfl⟩
  · obtain ⟨k, rfl⟩ : ∃ q : Nat, k = q := ⟨k.toNat, by omega⟩
    by_cases h2 : n ≤ k
    · have h3 : ¬ (k : Int) < (n : Int) := by omega
      have hw1 : IntKind.i64.wrap ((k : Int) * 37) = (k : Int) * 37 := IntWalk.i64_in _ (by omega)
      have hw2 : IntKind.i64.wrap ((k : Int) * 37 + 11) = (k : Int) * 37 + 11 := IntWalk.i64_in _ (by omega)
      have hr := rem_bd (x := (k : Int) * 37 + 11) (n := m) (by omega) (by omega)
      go_enter Try.func5, Try.ntmps5
      go_wp2
      go_ret
      exact ⟨_, rfl, hr.1, hr.2, rfl⟩
    · obtain ⟨b, off, rfl, hlb, hx⟩ := HAt.out k (by omega)
      have x0 := hx k (by omega)
      have hok := HOk.out k
      generalize bs.getD k 0 = x at *
      have h3 : (k : Int) < (n : Int) := by omega
      clear hx
      go_enter Try.func5, Try.ntmps5
      go_wp2
      go_ret
      exact ⟨x % m, rfl, (rem_bd (by omega) (by omega)).1, (rem_bd (by omega) (by omega)).2, rfl⟩

end Go.Proofs.Ytcflgmjjomiejaa
