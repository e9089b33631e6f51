/- Tricks: hands as bits. -/
import Derived.Test.YtgldfmkjnggedaaLinesF
import Derived.IntWalk
import Derived.Laws.BitsLemmas
namespace Go.Proofs.Ytgldfmkjnggedaa
open Go.RowKit
set_option linter.unusedVariables false

def bitsN (xs : List Int) : Nat := xs.foldl (fun n c => n ||| 2 ^ c.toNat) 0
theorem bitsN_take_succ (xs : List Int) (k : Nat) (h : k < xs.length) : bitsN (xs.take (k + 1)) = bitsN (xs.take k) ||| 2 ^ (xs.getD k 0).toNat := by
  rw [List.take_succ_eq_append_getElem h]
  unfold bitsN
  rw [List.foldl_append]
  simp [h]
theorem foldl_bits (xs : List Int) : ∀ (n i : Nat), (xs.foldl (fun n c => n ||| 2 ^ c.toNat) n).testBit i = (n.testBit i || xs.any fun c => c.toNat == i) := by
  induction xs with
  | nil => intro n i; simp
  | cons x xs ih =>
    intro n i
    rw [List.foldl_cons, ih, Nat.testBit_or, Nat.testBit_two_pow, List.any_cons, Bool.or_assoc]
    congr 1
theorem bitsN_test (xs : List Int) (i : Nat) : (bitsN xs).testBit i = xs.any fun c => c.toNat == i := by
  rw [bitsN, foldl_bits]
  simp
theorem bitsN_lt (xs : List Int) (h : ∀ x ∈ xs, 0 ≤ x ∧ x ≤ 51) : bitsN xs < 2 ^ 52 := by
  apply Nat.lt_pow_two_of_testBit
  intro i hi
  rw [bitsN_test, List.any_eq_false]
  intro x hx
  have := h x hx
  simp
  omega
theorem bitsN_mem {xs : List Int} (h : ∀ x ∈ xs, 0 ≤ x ∧ x ≤ 51) (x : Int) (hx : 0 ≤ x) : x ∈ xs ↔ (bitsN xs).testBit x.toNat = true := by
  rw [bitsN_test, List.any_eq_true]
  constructor
  · intro hm; exact ⟨x, hm, by simp⟩
  · rintro ⟨y, hy, e⟩
    have := h y hy
    simp at e
    rw [show x = y by omega]
    exact hy
theorem perm_of_bits {f g : Nat} {xs ys : List Int} (h : Hand f xs) (k : Hand g ys) (e : bitsN xs = bitsN ys) : xs.Perm ys := by
  refine (List.perm_ext_iff_of_nodup h.nd k.nd).2 fun x => ?_
  by_cases hx : 0 ≤ x
  · rw [bitsN_mem h.rng x hx, bitsN_mem k.rng x hx, e]
  · constructor
    · intro hm; have := h.rng x hm; omega
    · intro hm; have := k.rng x hm; omega

theorem bits_or_i64 (a b : Nat) (ha : a < 2 ^ 62) (hb : b < 2 ^ 62) : bits .or .i64 (a : Int) (b : Int) = ((a ||| b : Nat) : Int) := by
  have h := (bits_nat .i64 62 (by decide) (fun n h0 h1 => IntWalk.i64_in n ⟨by omega, by omega⟩) a b ha hb)
  exact h.2
theorem bitsOf_any (a : Option Addr) (n c : Nat) (xs : List Int) (w : World) (h : Ints w a n c xs) (hr : ∀ x ∈ xs, 0 ≤ x ∧ x ≤ 51) :
    Calls Try.prog 36 #[.slice a n c] w (RetS w (.int .i64 (bitsN xs : Nat))) := by
  obtain ⟨hc, hb, hcell⟩ := h.at
  have hl := Lib.hid h.len
  have HR := Lib.hid hr
  clear h hr
  go_enter Try.func36, Try.ntmps36
  go_wp2
  go_loop [3, 8] (fun vs vi => ∃ k : Nat, k ≤ n ∧ vi = .int .i64 k ∧ vs = .int .i64 (bitsN (xs.take k) : Nat)) (fun _ vi => n - (intOf vi).toNat)
  case atStart => exact ⟨0, by omega, rfl, rfl⟩
  case round =>
    obtain ⟨k, hk, rfl, rfl⟩ := hrel
    by_cases hlt : k < n
    · obtain ⟨b, off, rfl, hlb, hx⟩ := hcell k hlt
      have c0 := hx k hlt
      have hmx := HR.out _ (getD_mem (d := 0) (show k < xs.length by rw [hl.out]; exact hlt))
      have HS := Lib.hid (bitsN_take_succ xs k (by rw [hl.out]; exact hlt))
      have HB := Lib.hid (bitsN_lt (xs.take k) (fun x hx => HR.out x (List.mem_of_mem_take hx)))
      clear hcell hx
      generalize xs.getD k 0 = y at *
      generalize bitsN (xs.take k) = B at *
      obtain ⟨m, rfl⟩ : ∃ m : Nat, y = (m : Int) := ⟨y.toNat, by omega⟩
      have hm : m ≤ 51 := by omega
      have hB : B < 2 ^ 52 := HB.out
      have HOr : Hid (bits .or .i64 (B : Int) (wrap64 (2 ^ m)) = ((B ||| 2 ^ m : Nat) : Int)) := by
        show _ = _
        have h1 : (2 : Nat) ^ m < 2 ^ 62 := Nat.pow_lt_pow_right (by omega) (by omega)
        have e : wrap64 (2 ^ m) = ((2 ^ m : Nat) : Int) := by
          have : ((2 : Int) ^ m) = ((2 ^ m : Nat) : Int) := by simp
          rw [this]
          generalize (2 : Nat) ^ m = q at h1 ⊢
          unfold wrap64
          omega
        rw [e]
        exact bits_or_i64 B (2 ^ m) (by omega) h1
      have HS2 : Hid (bitsN (xs.take (k + 1)) = B ||| 2 ^ m) := HS.out
      clear hB
      go_wp2
      go_round
      case rel => exact ⟨k + 1, by omega, by go_num, by rw [HOr.out, HS2.out]⟩
      case measure => simp [intOf]; omega
    · obtain rfl : k = n := by omega
      have e0 : xs.take k = xs := List.take_of_length_le (by rw [hl.out]; exact Nat.le_refl _)
      rw [e0]
      clear hcell
      go_wp2
      go_ret
      exact ⟨rfl, rfl⟩

end Go.Proofs.Ytgldfmkjnggedaa
