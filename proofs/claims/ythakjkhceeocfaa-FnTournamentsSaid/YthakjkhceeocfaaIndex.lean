/- slices.Index, slices.Contains over int64. -/
import Derived.Test.YthakjkhceeocfaaI64
import Derived.Test.YthakjkhceeocfaaRet
namespace Go.Proofs.Ythakjkhceeocfaa
open Go.RowKit
set_option linter.unusedVariables false

theorem indexI64_any (a : Option Addr) (n c : Nat) (xs : List Int) (x : Int) (w : World) (h : Ints w a n c xs) :
    Calls Try.prog 50 #[.slice a n c, .int .i64 x] w (RetS w (.int .i64 (firstIdx (fun y => x == y) xs))) := by
  obtain ⟨hc, hb, hcell⟩ := h.at
  have hl := Lib.hid h.len
  clear h
  go_enter Try.func50, Try.ntmps50
  go_wp2
  go_loop [8] (fun i => ∃ k : Nat, k ≤ n ∧ i = .int .i64 k ∧ NoneTo (fun y => x == y) 0 xs k) (fun i => n - (intOf i).toNat)
  case atStart => exact ⟨0, by omega, rfl, fun j hj => by omega⟩
  case round =>
    obtain ⟨k, hk, rfl, hto⟩ := hrel
    have HT := Lib.hid hto
    clear hto
    by_cases hlt : k < n
    · obtain ⟨b, off, rfl, hlb, hx⟩ := hcell k hlt
      have h0 := hx k hlt
      have HN : Hid ((x == xs.getD k 0) = true → firstIdx (fun y => x == y) xs = (k : Int)) := fun e => firstIdx_at (d := 0) HT.out e (by rw [hl.out]; exact hlt)
      have HS : Hid ((x == xs.getD k 0) = false → NoneTo (fun y => x == y) 0 xs (k + 1)) := fun e => HT.out.succ e
      clear hcell hx
      generalize xs.getD k 0 = y at *
      rcases Bool.eq_false_or_eq_true (x == y) with he | he
      · have HE := Lib.hid he
        go_wp2
        go_ret
        exact ⟨ret_int (HN.out HE.out).symm, rfl⟩
      · have HE := Lib.hid he
        go_wp2
        go_round
        case rel => exact ⟨k + 1, by omega, by go_num, HS.out HE.out⟩
        case measure => simp [intOf]; omega
    · obtain rfl : k = n := by omega
      clear hcell
      go_wp2
      go_ret
      exact ⟨ret_int (firstIdx_none HT.out hl.out).symm, rfl⟩

theorem containsI64_any (a : Option Addr) (n c : Nat) (xs : List Int) (x : Int) (b : Bool) (hb : xs.any (fun y => x == y) = b) (w : World) (h : Ints w a n c xs) :
    Calls Try.prog 27 #[.slice a n c, .int .i64 x] w (RetS w (.bool b)) := by
  have C := indexI64_any a n c xs x w h
  have HA := Lib.hid (firstIdx_any (fun y => x == y) xs)
  have HB := Lib.hid hb
  clear h hb
  generalize firstIdx (fun y => x == y) xs = i at *
  cases b
  · have hi := (HA.out.2 HB.out)
    go_enter Try.func27, Try.ntmps27
    go_wp2_with (fail)
    refine C.mono ?_
    rintro e w2 ⟨rfl, rfl⟩
    go_wp2
    go_ret
    exact ⟨rfl, rfl⟩
  · have hi := (HA.out.1 HB.out)
    go_enter Try.func27, Try.ntmps27
    go_wp2_with (fail)
    refine C.mono ?_
    rintro e w2 ⟨rfl, rfl⟩
    go_wp2
    go_ret
    exact ⟨rfl, rfl⟩

end Go.Proofs.Ythakjkhceeocfaa
