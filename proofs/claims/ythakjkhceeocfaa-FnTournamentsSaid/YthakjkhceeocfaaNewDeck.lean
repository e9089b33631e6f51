/- The decks of n cards in order: l02New and newDeck. -/
import Derived.Test.YthakjkhceeocfaaI64
namespace Go.Proofs.Ythakjkhceeocfaa
open Go.RowKit

theorem newDeck_any (n : Nat) (w : World) (hn : n ≤ 1048576) :
    Calls Try.prog 28 #[.int .i64 n] w fun e w' => ∃ a c, e = .returned (.slice a n c) ∧ Below w.heap.size w w' ∧ w'.ownsRow w.heap.size 2 1 (.slice a n c) n (intCells (upto n)) := by
  obtain ⟨i0, hi, hz0, hz1, hz2⟩ := info_parts infoI64
  go_enter Try.func28, Try.ntmps28
  go_wp2
  go_loopw [3, 7] (fun v i wr => ∃ k : Nat, k ≤ n ∧ i = .int .i64 k ∧ Below w.heap.size w wr ∧ ∃ a c, v = .slice a k c ∧ wr.ownsRow w.heap.size 2 1 (.slice a k c) k (intCells (upto k))) (fun _ i _ => n - (intOf i).toNat)
  case atStart => exact ⟨0, by omega, rfl, (Below.refl _ _).alloc (Nat.le_refl _) _, _, _, rfl, World.ownsRow_made w #[] 0 (Nat.le_refl _) (by unfold maxLen; omega) rfl⟩
  case round =>
    obtain ⟨k, hk, rfl, hbel, a, c, rfl, hown⟩ := hrel
    have hs := hbel.size
    by_cases hlt : k < n
    · go_wp2_with (first | (at_builtin; go_must (refine wpList_append_own _ rfl _ _ 24 rfl w.heap.size 2 i0 (.int .i64 0) 1 8 Try.underlying24 hi hz0 hz1 hz2 rfl (by decide) _ _ _ rfl (hown.alloc _) ⟨wr.heap.size, 0, none⟩ 1 1 [.int .i64 k] rfl rfl (new1 _ _ _) (one1 rfl) (by unfold maxLen; omega) (by omega) (by simp; omega) ?_; intro v' w1 hown1 hg1 _)))
      have HB := below_app hbel hs hg1 hown
      obtain ⟨a', c', rfl⟩ := own_form hown1
      have HO : w1.ownsRow w.heap.size 2 1 (.slice a' (k + 1) c') (k + 1) (intCells (upto (k + 1))) := by rw [upto_succ, intCells_snoc]; exact hown1
      clear hown1 hg1 hown hbel
      go_wp2
      go_roundw
      case rel => exact ⟨k + 1, by omega, by go_num, HB, a', c', rfl, HO⟩
      case measure => simp [intOf]; omega
    · obtain rfl : k = n := by omega
      go_wp2
      go_ret
      exact ⟨a, c, rfl, hbel, hown⟩

end Go.Proofs.Ythakjkhceeocfaa
