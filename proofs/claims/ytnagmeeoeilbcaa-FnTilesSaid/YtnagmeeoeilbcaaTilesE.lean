/- Tiles: hands of both, and how many tiles. -/
import Derived.Test.YtnagmeeoeilbcaaTilesD
import Derived.Test.YtnagmeeoeilbcaaSlI64
import Derived.Test.YtnagmeeoeilbcaaBasic
import Derived.Test.YtnagmeeoeilbcaaRet
import Derived.Shelf.Abstract
namespace Go.Proofs.Ytnagmeeoeilbcaa
open Go.RowKit Go.Shelf
set_option linter.unusedVariables false

theorem tilesIn_any (a : Option Addr) (n c : Nat) (xs : List Int) (w : World) (h : Ints w a n c xs) (hx : ∀ i, 0 ≤ xs.getD i 0 ∧ xs.getD i 0 ≤ 5) (hn : n ≤ 16) :
    Calls Try.prog 25 #[.slice a n c] w (RetS w (.int .i64 (isum xs))) := by
  obtain ⟨hc, hb, hcell⟩ := h.at
  have hl := Lib.hid h.len
  have HX := Lib.hid hx
  clear h hx
  go_enter Try.func25, Try.ntmps25
  go_wp2
  go_loop [3, 8] (fun all i => ∃ k : Nat, k ≤ n ∧ i = .int .i64 k ∧ all = .int .i64 (isum (xs.take k))) (fun _ i => n - (intOf i).toNat)
  case atStart => exact ⟨0, by omega, rfl, rfl⟩
  case round =>
    obtain ⟨k, hk, rfl, rfl⟩ := hrel
    by_cases hlt : k < n
    · obtain ⟨b, off, rfl, hlb, hxx⟩ := hcell k hlt
      have h0 := hxx k hlt
      have hb1 := isum_bd 5 xs HX.out k (by rw [hl.out]; omega)
      have hb2 := HX.out k
      have HS := Lib.hid (isum_take_succ xs k (by rw [hl.out]; exact hlt))
      clear hcell hxx
      generalize xs.getD k 0 = x at *
      generalize isum (xs.take k) = S at *
      go_wp2
      go_round
      case rel => exact ⟨k + 1, by omega, by go_num, by rw [HS.out]⟩
      case measure => simp [intOf]; omega
    · obtain rfl : k = n := by omega
      clear hcell
      go_wp2
      go_ret
      exact ⟨ret_int (by rw [List.take_of_length_le (by rw [hl.out]; exact Nat.le_refl _)]), rfl⟩

theorem IsTileHand1_any (x : Int) (w : World) : Calls Try.prog 23 #[.int .i64 x] w (Ret w (.bool (!inB x 0 4))) := by
  go_enter Try.func23, Try.ntmps23
  go_wp2_with (first | (go_at_call 24; refine (within_any _ _ _ _).mono ?_; rintro e w' ⟨rfl, rfl⟩))
  go_ret
  exact ⟨rfl, Below.refl _ _⟩

theorem any_not_all {α : Type} (p : α → Bool) (xs : List α) : (xs.any fun x => !p x) = !xs.all p := by
  induction xs with
  | nil => rfl
  | cons x xs ih => simp [ih]
theorem all_counts {xs : List Int} (h : xs.all (fun n => inB n 0 4) = true) : ∀ i, 0 ≤ xs.getD i 0 ∧ xs.getD i 0 ≤ 4 := by
  intro i
  by_cases hi : i < xs.length
  · exact (inB_iff _ _ _).1 (List.all_eq_true.1 h _ (getD_mem (d := 0) hi))
  · simp [List.getD_eq_getElem?_getD, List.getElem?_eq_none (show xs.length ≤ i by omega)]

set_option maxRecDepth 100000 in
theorem IsTileHand_any (a : Option Addr) (n c : Nat) (xs : List Int) (w : World) (h : Ints w a n c xs) :
    Calls Try.prog 7 #[.slice a n c] w (Ret w (.bool (okHand xs))) := by
  have HD : Hid (okHand xs = (decide (xs.length = 9) && (xs.all (fun n => inB n 0 4) && decide (isum xs ≤ 14)))) := rfl
  have hl := Lib.hid h.len
  obtain ⟨hc, hb, _⟩ := h.at
  have C := containsFuncI64_any (fun x => !inB x 0 4) 23 #[] (enters_of Try.func23 (by kernel_rfl) rfl) a n c xs w h (fun W _ x _ => IsTileHand1_any x W)
  rw [any_not_all] at C
  have HC := Lib.hid C
  have HH := Lib.hid h
  clear C h
  by_cases hn : n = 9
  · subst hn
    rcases Bool.eq_false_or_eq_true (xs.all (fun n => inB n 0 4)) with e | e
    · have HX := Lib.hid (all_counts e)
      go_enter Try.func7, Try.ntmps7
      go_wp2_with (fail)
      refine HC.out.mono ?_
      rintro e w1 ⟨rfl, hb1⟩
      have HB := Lib.hid hb1
      have h1 := HH.out.mono hb1
      clear hb1
      go_wp2_with (fail)
      refine (tilesIn_any _ _ _ _ _ h1 (fun i => by have := HX.out i; omega) (by omega)).mono ?_
      rintro e w2 ⟨rfl, rfl⟩
      have HE : Hid (okHand xs = decide (isum xs ≤ 14)) := by
        show okHand xs = _
        rw [HD.out, hl.out]; simp [e]
      generalize isum xs = S at *
      go_wp2
      go_ret
      exact ⟨ret_bool (by rw [HE.out]), HB.out⟩
    · go_enter Try.func7, Try.ntmps7
      go_wp2_with (fail)
      refine HC.out.mono ?_
      rintro e w1 ⟨rfl, hb1⟩
      have HB := Lib.hid hb1
      clear hb1
      go_wp2
      go_ret
      exact ⟨ret_bool (by rw [HD.out, e]; simp), HB.out⟩
  · have hn' : ((n : Int) == 9) = false := by simp; omega
    go_enter Try.func7, Try.ntmps7
    go_wp2
    go_ret
    exact ⟨ret_bool (by rw [HD.out, hl.out]; simp [hn]), Below.refl _ _⟩

end Go.Proofs.Ytnagmeeoeilbcaa
