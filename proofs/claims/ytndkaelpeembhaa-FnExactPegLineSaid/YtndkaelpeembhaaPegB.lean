/- Pegs: the small functions of both. -/
import Derived.Test.YtndkaelpeembhaaPegA
import Derived.Test.YtndkaelpeembhaaProg
import Derived.Test.YtndkaelpeembhaaRow
import Derived.Test.YtndkaelpeembhaaChgC
import Derived.IntWalk
import Derived.Laws.BitsLemmas
namespace Go.Proofs.Ytndkaelpeembhaa
open Go.RowKit
set_option linter.unusedVariables false

theorem pow62 {k : Nat} (h : k < 14) : (2 : Nat) ^ k < 2 ^ 62 := Nat.pow_lt_pow_right (by omega) (by omega)
theorem pow14 {k : Nat} (h : k < 14) : (2 : Nat) ^ k < 16384 := (Nat.pow_lt_pow_right (by omega) h : 2 ^ k < 2 ^ 14)
theorem wrap_p (k : Nat) (h : k < 15) : wrap64 (2 ^ k) = ((2 ^ k : Nat) : Int) := by
  have e : ((2 : Int) ^ k) = ((2 ^ k : Nat) : Int) := by simp
  have h1 : (2 : Nat) ^ k < 2 ^ 15 := Nat.pow_lt_pow_right (by omega) h
  rw [e]
  generalize (2 : Nat) ^ k = q at h1 ⊢
  unfold wrap64
  omega
theorem or62 (a b : Nat) (ha : a < 2 ^ 62) (hb : b < 2 ^ 62) : bits .or .i64 (a : Int) (b : Int) = ((a ||| b : Nat) : Int) :=
  (bits_nat .i64 62 (by decide) (fun n h0 h1 => IntWalk.i64_in n ⟨by omega, by omega⟩) a b ha hb).2
theorem andNot62 (a b : Nat) (ha : a < 2 ^ 62) (hb : b < 2 ^ 62) : bits .andNot .i64 (a : Int) (b : Int) = ((a ^^^ (a &&& b) : Nat) : Int) := by
  have hp : (2 : Nat) ^ IntKind.i64.bits = 2 ^ 64 := rfl
  have ha' : a % 2 ^ IntKind.i64.bits = a := Nat.mod_eq_of_lt (by rw [hp]; omega)
  have hb' : b % 2 ^ IntKind.i64.bits = b := Nat.mod_eq_of_lt (by rw [hp]; omega)
  have e : a &&& (2 ^ 64 - 1 - b) = a ^^^ (a &&& b) := by
    apply Nat.eq_of_testBit_eq
    intro j
    have h1 : (2 ^ 64 - 1 - b).testBit j = (decide (j < 64) && !b.testBit j) := by
      rw [Nat.sub_sub, Nat.add_comm 1 b]
      exact Nat.testBit_two_pow_sub_succ (by omega) j
    rw [Nat.testBit_and, Nat.testBit_xor, Nat.testBit_and, h1]
    by_cases hj : j < 64
    · rw [decide_eq_true hj]; cases a.testBit j <;> cases b.testBit j <;> rfl
    · have : a.testBit j = false := Nat.testBit_lt_two_pow (Nat.lt_of_lt_of_le ha (Nat.pow_le_pow_right (by omega) (by omega)))
      rw [this]; rfl
  have hlt : a &&& (2 ^ 64 - 1 - b) < 2 ^ 62 := Nat.lt_of_le_of_lt Nat.and_le_left ha
  simp only [bits, BitVec.ofInt_natCast, BitVec.toNat_and, BitVec.toNat_not, BitVec.toNat_ofNat, ha', hb']
  rw [← e, hp]
  generalize a &&& (2 ^ 64 - 1 - b) = q at hlt ⊢
  exact IntWalk.i64_in _ ⟨by omega, by omega⟩
theorem bit_shr (x k : Nat) (hx : x < 2 ^ 62) (b : Bool) (e : x.testBit k = b) : (bits .and .i64 ((x : Int) / 2 ^ k) 1 == 1) = b := by
  have e1 : ((x : Int) / 2 ^ k) = ((x / 2 ^ k : Nat) : Int) := by simp
  have h2 : x / 2 ^ k < 2 ^ 62 := Nat.lt_of_le_of_lt (Nat.div_le_self _ _) hx
  have h3 := (bits_nat .i64 62 (by decide) (fun n h0 h1 => IntWalk.i64_in n ⟨by omega, by omega⟩) (x / 2 ^ k) 1 h2 (by decide)).1
  rw [e1]
  rw [show (1 : Int) = ((1 : Nat) : Int) from rfl, h3, Nat.and_one_is_mod, ← e, Nat.testBit_eq_decide_div_mod_eq]
  generalize x / 2 ^ k % 2 = q
  by_cases hq : q = 1
  · subst hq; rfl
  · simp [hq]; omega

theorem l06Has_any (x i : Nat) (w : World) (hx : x < 16384) (hi : i < 14) : Calls Try.prog 40 #[.int .i64 x, .int .i64 i] w (RetS w (.bool (x.testBit i))) := by
  have e := bit_shr x i (by omega) _ rfl
  go_enter Try.func40, Try.ntmps40
  go_wp2
  go_ret
  exact ⟨rfl, rfl⟩

theorem mid_int (f t : Nat) : ((f : Int) + t) / 2 = (((f + t) / 2 : Nat) : Int) := by omega
set_option maxRecDepth 100000 in
theorem l06Moved_any (x f t : Nat) (w : World) (hx : x < 16384) (hf : f < 14) (ht : t < 14) : Calls Try.prog 33 #[.int .i64 x, .int .i64 f, .int .i64 t] w (RetS w (.int .i64 (md x f t : Nat))) := by
  have e1 : bits .or .i64 (wrap64 (2 ^ f)) (wrap64 (2 ^ ((f + t) / 2))) = ((2 ^ f ||| 2 ^ ((f + t) / 2) : Nat) : Int) := by
    rw [wrap_p f (by omega), wrap_p ((f + t) / 2) (by omega)]; exact or62 _ _ (pow62 hf) (pow62 (by omega))
  have h1 : 2 ^ f ||| 2 ^ ((f + t) / 2) < 2 ^ 62 := Nat.or_lt_two_pow (pow62 hf) (pow62 (by omega))
  have e2 : bits .andNot .i64 (x : Int) ((2 ^ f ||| 2 ^ ((f + t) / 2) : Nat) : Int) = ((x ^^^ (x &&& (2 ^ f ||| 2 ^ ((f + t) / 2))) : Nat) : Int) := andNot62 x _ (by omega) h1
  have h2 : x ^^^ (x &&& (2 ^ f ||| 2 ^ ((f + t) / 2))) < 2 ^ 62 := Nat.xor_lt_two_pow (by omega) (Nat.lt_of_le_of_lt Nat.and_le_left (by omega))
  have e3 : bits .or .i64 ((x ^^^ (x &&& (2 ^ f ||| 2 ^ ((f + t) / 2))) : Nat) : Int) (wrap64 (2 ^ t)) = (md x f t : Nat) := by
    rw [wrap_p t (by omega)]; exact or62 _ _ h2 (pow62 ht)
  have em := mid_int f t
  have hm : (f + t) / 2 < 14 := by omega
  generalize hM : (f + t) / 2 = M at *
  go_enter Try.func33, Try.ntmps33
  go_wp2
  go_ret
  exact ⟨rfl, rfl⟩

theorem ones_succ (k x : Nat) : ones (k + 1) x = ones k x + (x.testBit k).toNat := sumR_succ _ _
theorem ones_ext {x k : Nat} (h : x < 2 ^ k) : ∀ m, k ≤ m → ones m x = ones k x := by
  intro m
  induction m with
  | zero => intro e; obtain rfl : k = 0 := by omega
            rfl
  | succ m ih =>
    intro e
    by_cases q : k = m + 1
    · rw [q]
    · have : x.testBit m = false := Nat.testBit_lt_two_pow (Nat.lt_of_lt_of_le h (Nat.pow_le_pow_right (by omega) (by omega)))
      rw [ones_succ, ih (by omega), this]; rfl
theorem ones_same {x k m : Nat} (h : x < 2 ^ k) (h' : x < 2 ^ m) : ones k x = ones m x := by
  rcases Nat.le_total k m with e | e
  · exact (ones_ext h m e).symm
  · exact ones_ext h' k e
theorem l06Ones_any (n x : Nat) (w : World) (hn : n ≤ 14) (hx : x < 2 ^ n) : Calls Try.prog 31 #[.int .i64 x] w (RetS w (.int .i64 (ones n x : Nat))) := by
  have hx14 : x < 16384 := Nat.lt_of_lt_of_le hx (Nat.pow_le_pow_right (by omega : 0 < 2) hn : 2 ^ n ≤ 2 ^ 14)
  have HX := Lib.hid hx
  clear hx
  go_enter Try.func31, Try.ntmps31
  go_wp2
  go_loop [0, 3] (fun vx vn => ∃ k y : Nat, y = x / 2 ^ k ∧ vx = .int .i64 y ∧ vn = .int .i64 (ones k x : Nat)) (fun vx _ => (intOf vx).toNat)
  case atStart => exact ⟨0, x, by simp, rfl, rfl⟩
  case round =>
    obtain ⟨k, y, hy, rfl, rfl⟩ := hrel
    have hyx : y ≤ x := by rw [hy]; exact Nat.div_le_self _ _
    have hd : y / 2 = x / 2 ^ (k + 1) := by rw [hy, Nat.div_div_eq_div_mul, Nat.pow_succ]
    have hb : (x.testBit k).toNat = y % 2 := by
      rw [Nat.testBit_eq_decide_div_mod_eq, ← hy]
      by_cases q : y % 2 = 1
      · rw [decide_eq_true q, q]; rfl
      · rw [decide_eq_false q]; show 0 = _; omega
    have hs := ones_succ k x
    rw [hb] at hs
    have hk : ones k x ≤ k := ones_le k x
    have HS := Lib.hid hs
    have HD := Lib.hid hd
    by_cases h0 : y = 0
    · have hl : x < 2 ^ k := by
        apply Classical.byContradiction
        intro q
        have := Nat.div_pos (Nat.not_lt.1 q) (Nat.two_pow_pos k)
        omega
      have e := ones_same HX.out hl
      rw [← e]
      subst h0
      clear hs hd hb hy hl e
      go_wp2
      go_ret
      exact ⟨rfl, rfl⟩
    · have hk14 : k ≤ 14 := by
        apply Classical.byContradiction
        intro q
        have h1 : x < 2 ^ k := Nat.lt_of_lt_of_le hx14 (Nat.pow_le_pow_right (by omega : 0 < 2) (by omega : 14 ≤ k) : 2 ^ 14 ≤ 2 ^ k)
        rw [Nat.div_eq_of_lt h1] at hy
        exact h0 hy
      clear hs hd hb hy
      generalize ones k x = S at *
      go_wp2
      go_round
      case rel => exact ⟨k + 1, y / 2, HD.out, by go_num, by rw [HS.out]; go_num⟩
      case measure => simp [intOf]; omega

def isB (n : Nat) : Bool := decide (1 ≤ n) && decide (n ≤ 14)
theorem isBoard_any (a : Option Addr) (n c : Nat) (w : World) (hn : n ≤ c) (hc : c ≤ 9223372036854775807) : Calls Try.prog 20 #[.slice a n c] w (RetS w (.bool (isB n))) := by
  by_cases h1 : 1 ≤ n
  · have e : decide ((n : Int) ≤ 14) = isB n := by
      unfold isB; rw [decide_eq_true h1, Bool.true_and]
      by_cases q : n ≤ 14
      · rw [decide_eq_true q, decide_eq_true (by omega)]
      · rw [decide_eq_false q, decide_eq_false (by omega)]
    go_enter Try.func20, Try.ntmps20
    go_wp2
    go_ret
    exact ⟨rfl, rfl⟩
  · have e : isB n = false := by unfold isB; rw [decide_eq_false h1]; rfl
    rw [e]
    clear e
    go_enter Try.func20, Try.ntmps20
    go_wp2
    go_ret
    exact ⟨rfl, rfl⟩

theorem bTo_lt14 (bs : List Bool) {k : Nat} (h : k ≤ 14) : bTo bs k < 16384 := Nat.lt_of_lt_of_le (bTo_lt bs k) (Nat.pow_le_pow_right (by omega : 0 < 2) h : 2 ^ k ≤ 2 ^ 14)
theorem bTo_yes {bs : List Bool} {k : Nat} (h : bs.getD k false = true) : bTo bs (k + 1) = bTo bs k ||| 2 ^ k := if_pos h
theorem bTo_no {bs : List Bool} {k : Nat} (h : bs.getD k false = false) : bTo bs (k + 1) = bTo bs k := if_neg (by rw [h]; exact Bool.false_ne_true)
theorem boardKey_any (a : Option Addr) (n c : Nat) (bs : List Bool) (w : World) (h : Row Value.bool w a n c bs) (hn : n ≤ 14) : Calls Try.prog 34 #[.slice a n c] w (RetS w (.int .i64 (bN bs : Nat))) := by
  obtain ⟨hc, hb, hcell⟩ := h.at false
  have hl := Lib.hid h.len
  have HF : Hid (bN bs = bTo bs n) := by show _ = _; unfold bN; rw [hl.out]
  clear h
  go_enter Try.func34, Try.ntmps34
  go_wp2
  go_loop [3, 8] (fun vs vi => ∃ k : Nat, k ≤ n ∧ vi = .int .i64 k ∧ vs = .int .i64 (bTo bs k : Nat)) (fun _ vi => n - (intOf vi).toNat)
  case atStart => exact ⟨0, by omega, rfl, rfl⟩
  case round =>
    obtain ⟨k, hk, rfl, rfl⟩ := hrel
    by_cases hlt : k < n
    · obtain ⟨b, off, rfl, hlb, hx⟩ := hcell k hlt
      have c0 := hx k hlt
      have hB : bTo bs k < 16384 := bTo_lt14 bs (by omega)
      clear hcell hx
      rcases Bool.eq_false_or_eq_true (bs.getD k false) with e | e
      · have HS := Lib.hid (bTo_yes e)
        rw [e] at c0
        clear e
        generalize bTo bs k = B at *
        have HOr : Hid (bits .or .i64 (B : Int) (wrap64 (2 ^ k)) = ((B ||| 2 ^ k : Nat) : Int)) := by
          show _ = _
          rw [wrap_p k (by omega)]; exact or62 _ _ (by omega) (pow62 (by omega))
        go_wp2
        go_round
        case rel => exact ⟨k + 1, by omega, by go_num, by rw [HS.out, HOr.out]⟩
        case measure => simp [intOf]; omega
      · have HS := Lib.hid (bTo_no e)
        rw [e] at c0
        clear e
        generalize bTo bs k = B at *
        go_wp2
        go_round
        case rel => exact ⟨k + 1, by omega, by go_num, by rw [HS.out]⟩
        case measure => simp [intOf]; omega
    · obtain rfl : k = n := by omega
      rw [← HF.out]
      clear hcell
      go_wp2
      go_ret
      exact ⟨rfl, rfl⟩

theorem l06Board_no (a : Option Addr) (n c : Nat) (w : World) (hn : n ≤ c) (hc : c ≤ 9223372036854775807) (h14 : 14 < n) : Calls Try.prog 28 #[.slice a n c] w (RetS w (.tuple #[.int .i64 0, .bool false])) := by
  go_enter Try.func28, Try.ntmps28
  go_wp2
  refine wp_loop_rounds 1 ?_
  rw [rounds_succ]
  go_wp2
  go_ret2
  refine ⟨?_, rfl⟩
  show Ending.returned (.tuple #[.int .i64 0, .bool (decide ((n : Int) ≤ 14))]) = _
  rw [decide_eq_false (by omega)]
theorem l06Board_any (a : Option Addr) (n c : Nat) (bs : List Bool) (w : World) (h : Row Value.bool w a n c bs) (hn : n ≤ 14) : Calls Try.prog 28 #[.slice a n c] w (RetS w (.tuple #[.int .i64 (bN bs : Nat), .bool (isB n)])) := by
  obtain ⟨hc, hb, hcell⟩ := h.at false
  have hl := Lib.hid h.len
  have HF : Hid (bN bs = bTo bs n) := by show _ = _; unfold bN; rw [hl.out]
  have HI : Hid (isB n = decide (1 ≤ n)) := by show _ = _; unfold isB; rw [decide_eq_true hn, Bool.and_true]
  clear h
  go_enter Try.func28, Try.ntmps28
  go_wp2
  go_loop [4, 5] (fun vs vi => ∃ k : Nat, k ≤ n ∧ vi = .int .i64 k ∧ vs = .int .i64 (bTo bs k : Nat)) (fun _ vi => n - (intOf vi).toNat)
  case atStart => exact ⟨0, by omega, rfl, rfl⟩
  case round =>
    obtain ⟨k, hk, rfl, rfl⟩ := hrel
    by_cases hlt : k < n
    · obtain ⟨b, off, rfl, hlb, hx⟩ := hcell k hlt
      have c0 := hx k hlt
      have hB : bTo bs k < 16384 := bTo_lt14 bs (by omega)
      clear hcell hx
      rcases Bool.eq_false_or_eq_true (bs.getD k false) with e | e
      · have HS := Lib.hid (bTo_yes e)
        rw [e] at c0
        clear e
        generalize bTo bs k = B at *
        have HOr : Hid (bits .or .i64 (B : Int) (wrap64 (2 ^ k)) = ((B ||| 2 ^ k : Nat) : Int)) := by
          show _ = _
          rw [wrap_p k (by omega)]; exact or62 _ _ (by omega) (pow62 (by omega))
        go_wp2
        go_round
        case rel => exact ⟨k + 1, by omega, by go_num, by rw [HS.out, HOr.out]⟩
        case measure => simp [intOf]; omega
      · have HS := Lib.hid (bTo_no e)
        rw [e] at c0
        clear e
        generalize bTo bs k = B at *
        go_wp2
        go_round
        case rel => exact ⟨k + 1, by omega, by go_num, by rw [HS.out]⟩
        case measure => simp [intOf]; omega
    · obtain rfl : k = n := by omega
      rw [← HF.out]
      clear hcell
      by_cases h1 : 1 ≤ k
      · have e : Hid (isB k = true) := by show _ = _; rw [HI.out, decide_eq_true h1]
        go_wp2
        go_ret2
        refine ⟨?_, rfl⟩
        show Ending.returned (.tuple #[.int .i64 (bN bs : Nat), .bool (decide ((k : Int) ≤ 14))]) = _
        rw [e.out, decide_eq_true (by omega)]
      · have e : Hid (isB k = false) := by show _ = _; rw [HI.out, decide_eq_false h1]
        go_wp2
        go_ret2
        refine ⟨?_, rfl⟩
        show Ending.returned (.tuple #[.int .i64 (bN bs : Nat), .bool false]) = _
        rw [e.out]

theorem infoI64T : (Try.prog.info? 2).map (fun i => (i.zero, i.size, i.bytes)) = some (some (.int .i64 0), 1, 8) := by kernel_rfl
theorem l06Told_any (n : Nat) (w : World) (hn : n ≤ 14) : Calls Try.prog 29 #[.int .i64 n] w fun e w' => ∃ g, e = .returned (.slice (some ⟨g, 0, none⟩) (2 ^ n) (2 ^ n)) ∧ Below w.heap.size w w' ∧ w'.ownsRow w.heap.size 2 1 (.slice (some ⟨g, 0, none⟩) (2 ^ n) (2 ^ n)) (2 ^ n) (intCells (List.replicate (2 ^ n) 0)) := by
  obtain ⟨i0, hi, hz0, hz1, hz2⟩ := info_parts infoI64T
  have hp : 2 ^ n < 2 ^ 15 := Nat.pow_lt_pow_right (by omega) (by omega)
  have hw := wrap_p n (by omega)
  generalize hN : 2 ^ n = N at *
  go_enter Try.func29, Try.ntmps29
  go_wp2_with (first | (at_make; go_must (refine wpList_make_full _ rfl _ _ 26 rfl w.heap.size 2 i0 _ 1 Try.underlying26 hi hz0 hz1 _ _ _ _ N rfl rfl hw hw (by rw [hz2]; omega) (by unfold maxLen; omega) (by simp) ?_; intro w1 hown1 hg1)))
  go_ret
  refine ⟨_, rfl, below_made (Below.refl _ _) (Nat.le_refl _) hg1, ?_⟩
  have := hown1
  rw [made_const _ (.int .i64 0) (by decide) (by intro i hi; match i, hi with | 0, _ => rfl), Nat.mul_one] at this
  unfold intCells
  rw [List.map_replicate]
  exact this

end Go.Proofs.Ytndkaelpeembhaa
