/- Orders of cards: l02Has, l02Orders, l02Deck; isOrder, IsDeck. -/
import Derived.Test.YtaeabngamnkgjaaOrderA
import Derived.Test.YtaeabngamnkgjaaBasic
import Derived.Test.YtaeabngamnkgjaaI64
import Derived.Test.YtaeabngamnkgjaaTally
namespace Go.Proofs.Ytaeabngamnkgjaa
open Go.RowKit
set_option linter.unusedVariables false

theorem infoB : (Try.prog.info? 4).map (fun i => (i.zero, i.size, i.bytes)) = some (some (.bool false), 1, 1) := by kernel_rfl

theorem l02Has_any (a : Option Addr) (n c : Nat) (xs : List Int) (x : Int) (w : World) (h : Ints w a n c xs) :
    Calls Try.prog 75 #[.slice a n c, .int .i64 x] w (RetS w (.bool (xs.contains x))) := by
  obtain ⟨hc, hb, hcell⟩ := h.at
  have hl := Lib.hid h.len
  clear h
  have HC : Hid (xs.contains x = xs.any (fun y => x == y)) := List.contains_eq_any_beq
  generalize xs.contains x = cr at *
  go_enter Try.func75, Try.ntmps75
  go_wp2
  go_loop [5] (fun i => ∃ k : Nat, k ≤ n ∧ i = .int .i64 k ∧ NoneTo (fun y => x == y) 0 xs k) (fun i => n - (intOf i).toNat)
  case atStart => exact ⟨0, by omega, rfl, fun j hj => by omega⟩
  case round =>
    obtain ⟨k, hk, rfl, hto⟩ := hrel
    have HT := Lib.hid hto
    clear hto
    by_cases hlt : k < n
    · obtain ⟨b, off, rfl, hlb, hx⟩ := hcell k hlt
      have h0 := hx k hlt
      have HM : Hid (xs.getD k 0 ∈ xs) := getD_mem (by rw [hl.out]; exact hlt)
      have HS : Hid ((x == xs.getD k 0) = false → NoneTo (fun y => x == y) 0 xs (k + 1)) := fun e => HT.out.succ e
      clear hcell hx
      generalize xs.getD k 0 = y at *
      by_cases he : y = x
      · have he1 : (y == x) = true := by simp [he]
        have HE := Lib.hid he
        clear he
        go_wp2
        go_ret
        exact ⟨ret_bool (by rw [HC.out, List.any_eq_true.2 ⟨y, HM.out, by simp [HE.out]⟩]), rfl⟩
      · have he1 : (y == x) = false := by simp [he]
        have HE : Hid ((x == y) = false) := by
          show (x == y) = false
          simp; exact fun e => he e.symm
        clear he
        go_wp2
        go_round
        case rel => exact ⟨k + 1, by omega, by go_num, HS.out HE.out⟩
        case measure => simp [intOf]; omega
    · obtain rfl : k = n := by omega
      clear hcell
      have HN : Hid (xs.any (fun y => x == y) = false) := by
        show xs.any (fun y => x == y) = false
        have h1 := firstIdx_none HT.out hl.out
        rcases Bool.eq_false_or_eq_true (xs.any (fun y => x == y)) with e | e
        · have := (firstIdx_any (fun y => x == y) xs).1 e; omega
        · exact e
      go_wp2
      go_ret
      exact ⟨ret_bool (by rw [HC.out, HN.out]), rfl⟩

end Go.Proofs.Ytaeabngamnkgjaa
