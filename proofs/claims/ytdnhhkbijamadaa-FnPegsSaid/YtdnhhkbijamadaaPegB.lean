/- Pegs: the small functions of both. -/
import Derived.Test.YtdnhhkbijamadaaPegA
import Derived.Test.YtdnhhkbijamadaaProg
import Derived.Test.YtdnhhkbijamadaaRow
import Derived.Test.YtdnhhkbijamadaaChgC
import Derived.IntWalk
import Derived.Laws.BitsLemmas
namespace Go.Proofs.Ytdnhhkbijamadaa
open Go.RowKit
set_option linter.unusedVariables false

theorem pow62 {k : Nat} (h : k < 14) : (2 : Nat) ^ k < 2 ^ 62 := Nat.pow_lt_pow_right (by omega) (by omega)
theorem pow14 {k : Nat} (h : k < 14) : (2 : Nat) ^ k < 16384 := (Nat.pow_lt_pow_right (by omega) h : 2 ^ k < 2 ^ 14)
theorem wrap_p (k : Nat) (h : k < 15) : wrap64 (2 ^ k) = ((2 ^ k : Nat) : Int) := by
  have e : ((2 : Int) ^ k) = ((2 ^ k : Nat) : Int) := by simp
  have h1 : (2 : Nat) ^ k < 2 ^ 15 := Nat.pow_lt_pow_right (by omega) h
  rw [e]
  generalize (2 : Nat) ^ k = q at h1 ⊢
  unfold wrap64
  omega
theorem or62 (a b : Nat) (ha : a < 2 ^ 62) (hb : b < 2 ^ 62) : bits .or .i64 (a : Int) (b : Int) = ((a ||| b : Nat) : Int) :=
  (bits_nat .i64 62 (by decide) (fun n h0 h1 => IntWalk.i64_in n ⟨by omega, by omega⟩) a b ha hb).2
theorem andNot62 (a b : Nat) (ha : a < 2 ^ 62) (hb : b < 2 ^ 62) : bits .andNot .i64 (a : Int) (b : Int) = ((a ^^^ (a &&& b) : Nat) : Int) := by
  have hp : (2 : Nat) ^ IntKind.i64.bits = 2 ^ 64 := rfl
  have ha' : a % 2 ^ IntKind.i64.bits = a := Nat.mod_eq_of_lt (by rw [hp]; omega)
  have hb' : b % 2 ^ IntKind.i64.bits = b := Nat.mod_eq_of_lt (by rw [hp]; omega)
  have e : a &&& (2 ^ 64 - 1 - b) = a ^^^ (a &&& b) := by
    apply Nat.eq_of_testBit_eq
    intro j
    have h1 : (2 ^ 64 - 1 - b).testBit j = (decide (j < 64) && !b.testBit j) := by
      rw [Nat.sub_sub, Nat.add_comm 1 b]
      exact Nat.testBit_two_pow_sub_succ (by omega) j
    rw [Nat.testBit_and, Nat.testBit_xor, Nat.testBit_and, h1]
    by_cases hj : j < 64
    · rw [decide_eq_true hj]; cases a.testBit j <;> cases b.testBit j <;> rfl
    · have : a.testBit j = false := Nat.testBit_lt_two_pow (Nat.lt_of_lt_of_le ha (Nat.pow_le_pow_right (by omega) (by omega)))
      rw [this]; rfl
  have hlt : a &&& (2 ^ 64 - 1 - b) < 2 ^ 62 := Nat.lt_of_le_of_lt Nat.and_le_left ha
  simp only [bits, BitVec.ofInt_natCast, BitVec.toNat_and, BitVec.toNat_not, BitVec.toNat_ofNat, ha', hb']
  rw [← e, hp]
  generalize a &&& (2 ^ 64 - 1 - b) = q at hlt ⊢
  exact IntWalk.i64_in _ ⟨by omega, by omega⟩
theorem bit_shr (x k : Nat) (hx : x < 2 ^ 62) (b : Bool) (e : x.testBit k = b) : (bits .and .i64 ((x : Int) / 2 ^ k) 1 == 1) = b := by
  have e1 : ((x : Int) / 2 ^ k) = ((x / 2 ^ k : Nat) : Int) := by simp
  have h2 : x / 2 ^ k < 2 ^ 62 := Nat.lt_of_le_of_lt (Nat.div_le_self _ _) hx
  have h3 := (bits_nat .i64 62 (by decide) (fun n h0 h1 => IntWalk.i64_in n ⟨by omega, by omega⟩) (x / 2 ^ k) 1 h2 (by decide)).1
  rw [e1]
  rw [show (1 : Int) = ((1 : Nat) : Int) from rfl, h3, Nat.and_one_is_mod, ← e, Nat.testBit_eq_decide_div_mod_eq]
  generalize x / 2 ^ k % 2 = q
  by_cases hq : q = 1
  · subst hq; rfl
  · simp [hq]; omega

theorem mid_int (f t : Nat) : ((f : Int) + t) / 2 = (((f + t) / 2 : Nat) : Int) := by omega

def isB (n : Nat) : Bool := decide (1 ≤ n) && decide (n ≤ 14)
theorem isBoard_any (a : Option Addr) (n c : Nat) (w : World) (hn : n ≤ c) (hc : c ≤ 9223372036854775807) : Calls Try.prog 12 #[.slice a n c] w (RetS w (.bool (isB n))) := by
  by_cases h1 : 1 ≤ n
  · have e : decide ((n : Int) ≤ 14) = isB n := by
      unfold isB; rw [decide_eq_true h1, Bool.true_and]
      by_cases q : n ≤ 14
      · rw [decide_eq_true q, decide_eq_true (by omega)]
      · rw [decide_eq_false q, decide_eq_false (by omega)]
    go_enter Try.func12, Try.ntmps12
    go_wp2
    go_ret
    exact ⟨rfl, rfl⟩
  · have e : isB n = false := by unfold isB; rw [decide_eq_false h1]; rfl
    rw [e]
    clear e
    go_enter Try.func12, Try.ntmps12
    go_wp2
    go_ret
    exact ⟨rfl, rfl⟩

theorem bTo_lt14 (bs : List Bool) {k : Nat} (h : k ≤ 14) : bTo bs k < 16384 := Nat.lt_of_lt_of_le (bTo_lt bs k) (Nat.pow_le_pow_right (by omega : 0 < 2) h : 2 ^ k ≤ 2 ^ 14)
theorem bTo_yes {bs : List Bool} {k : Nat} (h : bs.getD k false = true) : bTo bs (k + 1) = bTo bs k ||| 2 ^ k := if_pos h
theorem bTo_no {bs : List Bool} {k : Nat} (h : bs.getD k false = false) : bTo bs (k + 1) = bTo bs k := if_neg (by rw [h]; exact Bool.false_ne_true)
theorem boardKey_any (a : Option Addr) (n c : Nat) (bs : List Bool) (w : World) (h : Row Value.bool w a n c bs) (hn : n ≤ 14) : Calls Try.prog 20 #[.slice a n c] w (RetS w (.int .i64 (bN bs : Nat))) := by
  obtain ⟨hc, hb, hcell⟩ := h.at false
  have hl := Lib.hid h.len
  have HF : Hid (bN bs = bTo bs n) := by show _ = _; unfold bN; rw [hl.out]
  clear h
  go_enter Try.func20, Try.ntmps20
  go_wp2
  go_loop [3, 8] (fun vs vi => ∃ k : Nat, k ≤ n ∧ vi = .int .i64 k ∧ vs = .int .i64 (bTo bs k : Nat)) (fun _ vi => n - (intOf vi).toNat)
  case atStart => exact ⟨0, by omega, rfl, rfl⟩
  case round =>
    obtain ⟨k, hk, rfl, rfl⟩ := hrel
    by_cases hlt : k < n
    · obtain ⟨b, off, rfl, hlb, hx⟩ := hcell k hlt
      have c0 := hx k hlt
      have hB : bTo bs k < 16384 := bTo_lt14 bs (by omega)
      clear hcell hx
      rcases Bool.eq_false_or_eq_true (bs.getD k false) with e | e
      · have HS := Lib.hid (bTo_yes e)
        rw [e] at c0
        clear e
        generalize bTo bs k = B at *
        have HOr : Hid (bits .or .i64 (B : Int) (wrap64 (2 ^ k)) = ((B ||| 2 ^ k : Nat) : Int)) := by
          show _ = _
          rw [wrap_p k (by omega)]; exact or62 _ _ (by omega) (pow62 (by omega))
        go_wp2
        go_round
        case rel => exact ⟨k + 1, by omega, by go_num, by rw [HS.out, HOr.out]⟩
        case measure => simp [intOf]; omega
      · have HS := Lib.hid (bTo_no e)
        rw [e] at c0
        clear e
        generalize bTo bs k = B at *
        go_wp2
        go_round
        case rel => exact ⟨k + 1, by omega, by go_num, by rw [HS.out]⟩
        case measure => simp [intOf]; omega
    · obtain rfl : k = n := by omega
      rw [← HF.out]
      clear hcell
      go_wp2
      go_ret
      exact ⟨rfl, rfl⟩

theorem infoI64T : (Try.prog.info? 2).map (fun i => (i.zero, i.size, i.bytes)) = some (some (.int .i64 0), 1, 8) := by kernel_rfl

end Go.Proofs.Ytdnhhkbijamadaa
