/- Words of the laws: r8Long, r8At, r8Has. -/
import Derived.Test.YtdnhhkbijamadaaSrc
namespace Go.Proofs.Ytdnhhkbijamadaa
open Go.RowKit
set_option linter.unusedVariables false

def isLong (n n' : Nat) : Bool := decide (48 < n) || decide (48 < n')
theorem r8Long_any (a : Option Addr) (n c : Nat) (a' : Option Addr) (n' c' : Nat) (w : World) (h : n ≤ 9223372036854775807) (h' : n' ≤ 9223372036854775807) : Calls Try.prog 4 #[.slice a n c, .slice a' n' c'] w (RetS w (.bool (isLong n n'))) := by
  by_cases h1 : 48 < n
  · have H : Hid (isLong n n' = true) := by show _ = _; unfold isLong; rw [decide_eq_true h1]; rfl
    go_enter Try.func4, Try.ntmps4
    go_wp2
    go_ret
    exact ⟨ret_bool H.out.symm, rfl⟩
  · by_cases h2 : 48 < n'
    · have H : Hid (isLong n n' = true) := by show _ = _; unfold isLong; rw [decide_eq_true h2, Bool.or_true]
      go_enter Try.func4, Try.ntmps4
      go_wp2
      go_ret
      exact ⟨ret_bool (by rw [H.out]; simp; omega), rfl⟩
    · have H : Hid (isLong n n' = false) := by show _ = _; unfold isLong; rw [decide_eq_false h1, decide_eq_false h2]; rfl
      go_enter Try.func4, Try.ntmps4
      go_wp2
      go_ret
      exact ⟨ret_bool (by rw [H.out]; simp; omega), rfl⟩

set_option maxHeartbeats 1600000 in
theorem r8At_any (a : Option Addr) (n c : Nat) (bs : List Int) (k m : Int) (w : World) (h : Bytes w a n c bs) (ok : okB bs) (hk : 0 ≤ k) (hk' : k ≤ 1000) (hm : 1 ≤ m) (hm' : m ≤ 1000) :
    Calls Try.prog 5 #[.slice a n c, .int .i64 k, .int .i64 m] w fun e w' => ∃ x : Int, e = .returned (.int .i64 x) ∧ 0 ≤ x ∧ x < m ∧ w = w' := by
  obtain ⟨hc, hb, hat⟩ := h.at 0
  have HAt := Lib.hid hat
  have HOk := Lib.hid ok
  clear h ok hat
  by_cases h1 : m ≤ 1
  · go_enter Try.func5, Try.ntmps5
    go_wp2
    go_ret
    exact ⟨0, rfl, by omega, by omega, rfl⟩
  · obtain ⟨k, rfl⟩ : ∃ q : Nat, k = q := ⟨k.toNat, by omega⟩
    by_cases h2 : n ≤ k
    · have h3 : (n : Int) ≤ (k : Int) := by omega
      go_enter Try.func5, Try.ntmps5
      go_wp2
      go_ret
      exact ⟨0, rfl, by omega, by omega, rfl⟩
    · obtain ⟨b, off, rfl, hlb, hx⟩ := HAt.out k (by omega)
      have x0 := hx k (by omega)
      have hok := HOk.out k
      generalize bs.getD k 0 = x at *
      have h3 : ¬ (n : Int) ≤ (k : Int) := by omega
      clear hx
      go_enter Try.func5, Try.ntmps5
      go_wp2
      go_ret
      exact ⟨x % m, rfl, (rem_bd (by omega) (by omega)).1, (rem_bd (by omega) (by omega)).2, rfl⟩

end Go.Proofs.Ytdnhhkbijamadaa
