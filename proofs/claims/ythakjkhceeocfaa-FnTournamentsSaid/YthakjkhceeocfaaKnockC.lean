/- KnockRounds, spec: whole. -/
import Derived.Test.YthakjkhceeocfaaKnockB
namespace Go.Proofs.Ythakjkhceeocfaa
open Go.RowKit
set_option linter.unusedVariables false

theorem specKnockNo_any (a : Option Addr) (n c : Nat) (ws : List Bool) (p : Int) (w : World) (h : Row Value.bool w a n c ws) (hno : ¬ ((p = 2 ∨ p = 4 ∨ p = 8 ∨ p = 16) ∧ (n : Int) = p - 1)) :
    Calls Try.prog 9 #[.slice a n c, .int .i64 p] w (RetI 2 w (knockRes ws p)) := by
  have HR : Hid (knockRes ws p = ([], false)) := by
    have hl := h.len
    show knockRes ws p = _
    unfold knockRes
    rw [hl, if_neg hno]
  obtain ⟨hc, hb, -⟩ := h.at false
  clear h
  by_cases hp : p = 2 ∨ p = 4 ∨ p = 8 ∨ p = 16
  · have hn : ¬ (n : Int) = p - 1 := fun e => hno ⟨hp, e⟩
    clear hno
    rcases hp with rfl | rfl | rfl | rfl
    · have f1 : ((n : Int) == 1) = false := by simp only [beq_eq_false_iff_ne]; omega
      clear hn
      go_enter Try.func9, Try.ntmps9
      go_wp2
      go_ret2
      exact RetI.nil HR.out (Below.refl _ _)
    · have f1 : ((n : Int) == 3) = false := by simp only [beq_eq_false_iff_ne]; omega
      clear hn
      go_enter Try.func9, Try.ntmps9
      go_wp2
      go_ret2
      exact RetI.nil HR.out (Below.refl _ _)
    · have f1 : ((n : Int) == 7) = false := by simp only [beq_eq_false_iff_ne]; omega
      clear hn
      go_enter Try.func9, Try.ntmps9
      go_wp2
      go_ret2
      exact RetI.nil HR.out (Below.refl _ _)
    · have f1 : ((n : Int) == 15) = false := by simp only [beq_eq_false_iff_ne]; omega
      clear hn
      go_enter Try.func9, Try.ntmps9
      go_wp2
      go_ret2
      exact RetI.nil HR.out (Below.refl _ _)
  · have f1 : (p == 2) = false := by simp only [beq_eq_false_iff_ne]; exact fun e => hp (.inl e)
    have f2 : (p == 4) = false := by simp only [beq_eq_false_iff_ne]; exact fun e => hp (.inr (.inl e))
    have f3 : (p == 8) = false := by simp only [beq_eq_false_iff_ne]; exact fun e => hp (.inr (.inr (.inl e)))
    have f4 : (p == 16) = false := by simp only [beq_eq_false_iff_ne]; exact fun e => hp (.inr (.inr (.inr e)))
    clear hno hp
    go_enter Try.func9, Try.ntmps9
    go_wp2
    go_ret2
    exact RetI.nil HR.out (Below.refl _ _)

theorem specKnockRounds_any (a : Option Addr) (n c : Nat) (ws : List Bool) (p : Int) (w : World) (h : Row Value.bool w a n c ws) :
    Calls Try.prog 9 #[.slice a n c, .int .i64 p] w (RetI 2 w (knockRes ws p)) := by
  by_cases hy : (p = 2 ∨ p = 4 ∨ p = 8 ∨ p = 16) ∧ (n : Int) = p - 1
  · obtain ⟨hp, hn⟩ := hy
    rcases hp with rfl | rfl | rfl | rfl
    · obtain rfl : n = 1 := by omega
      exact specKnock2_any a c ws w h
    · obtain rfl : n = 3 := by omega
      exact specKnock4_any a c ws w h
    · obtain rfl : n = 7 := by omega
      exact specKnock8_any a c ws w h
    · obtain rfl : n = 15 := by omega
      exact specKnock16_any a c ws w h
  · exact specKnockNo_any a n c ws p w h hy

end Go.Proofs.Ythakjkhceeocfaa
