/- Logarithms: numbers of 64 bits: what is doubled, what is divided. -/
import Derived.Test.YtocpahhpagkknaaFeA
namespace Go.Proofs.Ytocpahhpagkknaa
set_option linter.unusedVariables false
set_option linter.unusedSimpArgs false
open Ieee

theorem log2_shl {m : Nat} (hm : m ≠ 0) (k : Nat) : (m * 2 ^ k).log2 = m.log2 + k := by
  have hne : m * 2 ^ k ≠ 0 := Nat.mul_ne_zero hm (Nat.pos_iff_ne_zero.1 (Nat.two_pow_pos _))
  rw [Nat.log2_eq_iff hne]
  refine ⟨?_, ?_⟩
  · rw [Nat.pow_add]
    exact Nat.mul_le_mul_right _ (Nat.log2_self_le hm)
  · rw [show m.log2 + k + 1 = (m.log2 + 1) + k by omega, Nat.pow_add]
    exact Nat.mul_lt_mul_of_pos_right Nat.lt_log2_self (Nat.two_pow_pos _)
/-- a cut that drops nothing -/
theorem cut_exact (neg : Bool) (q drop : Nat) (h : drop ≤ (q * 2 ^ drop).log2 + 2) : Toward.even.cut neg (q * 2 ^ drop) drop = q := by
  unfold Toward.cut
  rw [Nat.min_eq_left h, Nat.one_shiftLeft]
  have h1 : q * 2 ^ drop / 2 ^ drop = q := Nat.mul_div_cancel _ (Nat.two_pow_pos _)
  have h2 : q * 2 ^ drop % 2 ^ drop = 0 := Nat.mul_mod_left _ _
  simp only [h1, h2]
  have h3 : ¬ (2 ^ drop < 2 * 0) := by omega
  have h4 : (2 ^ drop == 2 * 0) = false := by
    have := Nat.two_pow_pos drop
    simp
  simp [h3, h4]
theorem rung_lt {n q : Nat} (h : n * 2 ^ 52 ≤ 1974 * 2 ^ 52) (hq : q < 2 ^ 53) : n * 2 ^ 52 + q < 2047 * 2 ^ 52 := by
  have e : (2 : Nat) ^ 53 = 2 * 2 ^ 52 := by rw [Nat.pow_succ, Nat.mul_comm]
  rw [e] at hq
  have hB : 0 < (2 : Nat) ^ 52 := Nat.two_pow_pos _
  generalize (2 : Nat) ^ 52 = B at *
  omega
set_option maxRecDepth 100000 in
/-- a number with at most 53 digits is kept as it is -/
theorem nearest_exactG (neg : Bool) (mag : Nat) (place : Int) (q : Nat) (i : Int) (hq : 2 ^ 52 ≤ q) (hq2 : q < 2 ^ 53) (hi : -1074 ≤ i) (hi2 : i ≤ 900) (hne : mag ≠ 0) (hlog : (mag.log2 : Int) + place = i + 52) (hs : mag <<< (place - i).toNat = q * 2 ^ (i - place).toNat) :
    double.read (double.nearest neg mag place) = .number neg q i := by
  have hq0 : q ≠ 0 := by have : 0 < 2 ^ 52 := Nat.two_pow_pos _; omega
  have hlq : q.log2 = 52 := by
    rw [Nat.log2_eq_iff hq0]
    exact ⟨hq, hq2⟩
  have hF : double.fractionBits = 52 := rfl
  have hP : double.leastPlace = -1074 := rfl
  have hB : double.binade = 2 ^ 52 := rfl
  have hI : double.infRung = 2047 * 2 ^ 52 := rfl
  have hS : double.signWeight = 2 ^ 63 := rfl
  have e1 : double.nearest neg mag place = double.word neg ((i + 1074).toNat * 2 ^ 52 + q) := by
    unfold Format.nearest
    rw [if_neg hne]
    have hmax : max (place + (mag.log2 : Int) - (double.fractionBits : Int)) double.leastPlace = i := by rw [hF, hP]; omega
    dsimp only
    rw [hmax, hP, hB, hI, hs, cut_exact neg q _ (by rw [log2_shl hq0, hlq]; omega)]
    have h3 : (i - -1074).toNat = (i + 1074).toNat := by omega
    have h4 : (i + 1074).toNat ≤ 1974 := by omega
    have h5 : (i + 1074).toNat * 2 ^ 52 ≤ 1974 * 2 ^ 52 := Nat.mul_le_mul_right _ h4
    have h6 : (i + 1074).toNat * 2 ^ 52 + q ≤ 2047 * 2 ^ 52 := Nat.le_of_lt (rung_lt h5 hq2)
    rw [h3, Nat.min_eq_left h6]
  rw [e1]
  have hR : (i + 1074).toNat * 2 ^ 52 + q < 2047 * 2 ^ 52 := by
    have h4 : (i + 1074).toNat ≤ 1974 := by omega
    have h5 : (i + 1074).toNat * 2 ^ 52 ≤ 1974 * 2 ^ 52 := Nat.mul_le_mul_right _ h4
    exact rung_lt h5 hq2
  generalize hn : (i + 1074).toNat = n at *
  have hRS : n * 2 ^ 52 + q < 2 ^ 63 := by omega
  have e2 : double.word neg (n * 2 ^ 52 + q) / double.signWeight % 2 = neg.toNat := by
    unfold Format.word
    rw [hS]
    cases neg
    · simp [Nat.div_eq_of_lt hRS]
    · simp only [if_true, Bool.toNat_true]
      rw [Nat.add_div_left _ (by decide), Nat.div_eq_of_lt hRS]
  have e3 : double.word neg (n * 2 ^ 52 + q) % double.signWeight = n * 2 ^ 52 + q := by
    unfold Format.word
    rw [hS]
    cases neg
    · simp [Nat.mod_eq_of_lt hRS]
    · simp [Nat.mod_eq_of_lt hRS]
  unfold Format.read
  simp only [e2, e3, hB, hI]
  have e4 : (neg.toNat == 1) = neg := by cases neg <;> rfl
  rw [e4, if_neg (by omega), if_pos hR]
  have e5 : (n * 2 ^ 52 + q) % 2 ^ 52 = q - 2 ^ 52 := by omega
  have e6 : (n * 2 ^ 52 + q) / 2 ^ 52 = n + 1 := by omega
  have e7 : 2 ^ 52 + (q - 2 ^ 52) = q := by omega
  have e8 : (-1074 : Int) + ((n + 1 - 1 : Nat) : Int) = i := by omega
  rw [e5, e6, hP, e7, e8]
theorem nearest_exact (neg : Bool) (q : Nat) (i : Int) (hq : 2 ^ 52 ≤ q) (hq2 : q < 2 ^ 53) (k : Nat) (hi : -1074 ≤ i) (hi2 : i ≤ 900) :
    double.read (double.nearest neg (q * 2 ^ k) (i - k)) = .number neg q i := by
  have hq0 : q ≠ 0 := by have : 0 < 2 ^ 52 := Nat.two_pow_pos _; omega
  have hlq : q.log2 = 52 := by
    rw [Nat.log2_eq_iff hq0]
    exact ⟨hq, hq2⟩
  refine nearest_exactG neg _ _ q i hq hq2 hi hi2 (Nat.mul_ne_zero hq0 (Nat.pos_iff_ne_zero.1 (Nat.two_pow_pos _))) (by rw [log2_shl hq0, hlq]; omega) ?_
  have h1 : (i - (k : Int) - i).toNat = 0 := by omega
  have h2 : (i - (i - (k : Int))).toNat = k := by omega
  rw [h1, h2, Nat.shiftLeft_zero]
/-- a number of fewer digits -/
theorem nearest_small (neg : Bool) (m : Nat) (i : Int) (hm : m ≠ 0) (hm2 : m < 2 ^ 53) (h1 : -1000 ≤ (m.log2 : Int) + i) (h2 : (m.log2 : Int) + i ≤ 900) :
    double.read (double.nearest neg m i) = .number neg (m * 2 ^ (52 - m.log2)) (i + m.log2 - 52) ∧ 2 ^ 52 ≤ m * 2 ^ (52 - m.log2) ∧ m * 2 ^ (52 - m.log2) < 2 ^ 53 := by
  have hl : m.log2 ≤ 52 := by
    have := log2_lt' hm2 hm
    omega
  have hq1 : 2 ^ 52 ≤ m * 2 ^ (52 - m.log2) := by
    have h1 := Nat.mul_le_mul_right (2 ^ (52 - m.log2)) (Nat.log2_self_le hm)
    rw [← Nat.pow_add, show m.log2 + (52 - m.log2) = 52 by omega] at h1
    exact h1
  have hq2 : m * 2 ^ (52 - m.log2) < 2 ^ 53 := by
    have h1 := Nat.mul_lt_mul_of_pos_right (Nat.lt_log2_self (n := m)) (Nat.two_pow_pos (52 - m.log2))
    rw [← Nat.pow_add, show m.log2 + 1 + (52 - m.log2) = 53 by omega] at h1
    exact h1
  refine ⟨?_, hq1, hq2⟩
  refine nearest_exactG neg m i _ _ hq1 hq2 (by omega) (by omega) hm (by omega) ?_
  have e1 : (i - (i + (m.log2 : Int) - 52)).toNat = 52 - m.log2 := by omega
  have e2 : (i + (m.log2 : Int) - 52 - i).toNat = 0 := by omega
  rw [e1, e2, Nat.shiftLeft_eq, Nat.pow_zero, Nat.mul_one]
/-- x * 2 -/
theorem dbl_read {x : Nat} {s : Bool} {m : Nat} {i : Int} (h : double.read x = .number s m i) (hm : m ≠ 0) (hm2 : m < 2 ^ 53) (hlo : -1000 ≤ (m.log2 : Int) + i) (hhi : (m.log2 : Int) + i ≤ 900) :
    ∃ r, double.mul x 4611686018427387904 = some r ∧ double.read r = .number s (m * 2 ^ (52 - m.log2)) (i + m.log2 - 51) := by
  have e2 : double.read 4611686018427387904 = .number false 4503599627370496 (-51) := by decide
  have hl : m.log2 ≤ 52 := by
    have := log2_lt' hm2 hm
    omega
  refine ⟨_, by unfold Format.mul; rw [h, e2]; rfl, ?_⟩
  have hq1 : 2 ^ 52 ≤ m * 2 ^ (52 - m.log2) := by
    have h1 := Nat.mul_le_mul_right (2 ^ (52 - m.log2)) (Nat.log2_self_le hm)
    rw [← Nat.pow_add, show m.log2 + (52 - m.log2) = 52 by omega] at h1
    exact h1
  have hq2 : m * 2 ^ (52 - m.log2) < 2 ^ 53 := by
    have h1 := Nat.mul_lt_mul_of_pos_right (Nat.lt_log2_self (n := m)) (Nat.two_pow_pos (52 - m.log2))
    rw [← Nat.pow_add, show m.log2 + 1 + (52 - m.log2) = 53 by omega] at h1
    exact h1
  have := nearest_exact (s ^^ false) (m * 2 ^ (52 - m.log2)) (i + m.log2 - 51) hq1 hq2 m.log2 (by omega) (by omega)
  have e3 : m * 2 ^ (52 - m.log2) * 2 ^ m.log2 = m * 4503599627370496 := by
    rw [Nat.mul_assoc, ← Nat.pow_add, show 52 - m.log2 + m.log2 = 52 by omega]
  have e4 : i + (m.log2 : Int) - 51 - (m.log2 : Int) = i + -51 := by omega
  rw [e3, e4] at this
  have e5 : (s ^^ false) = s := by cases s <;> rfl
  rw [e5] at this
  show double.read (double.nearest (s ^^ false) (m * 4503599627370496) (i + -51)) = _
  rw [e5]
  exact this

/-- a normal number: 53 digits -/
structure Nrm (s : Bool) (q : Nat) (I : Int) (x : Nat) : Prop where
  rd : double.read x = .number s q I
  lo : 2 ^ 52 ≤ q
  hi : q < 2 ^ 53
theorem Nrm.log {s : Bool} {q : Nat} {I : Int} {x : Nat} (h : Nrm s q I x) : q ≠ 0 ∧ q.log2 = 52 := by
  have h0 : q ≠ 0 := by have : 0 < 2 ^ 52 := Nat.two_pow_pos _; have := h.lo; omega
  exact ⟨h0, (Nat.log2_eq_iff h0).2 ⟨h.lo, h.hi⟩⟩
theorem Nrm.dbl {s : Bool} {q : Nat} {I : Int} {x : Nat} (h : Nrm s q I x) (h1 : -1052 ≤ I) (h2 : I ≤ 800) : ∃ r, double.mul x 4611686018427387904 = some r ∧ Nrm s q (I + 1) r := by
  obtain ⟨h0, hl⟩ := h.log
  obtain ⟨r, e1, e2⟩ := dbl_read h.rd h0 h.hi (by rw [hl]; omega) (by rw [hl]; omega)
  rw [hl] at e2
  refine ⟨r, e1, ?_, h.lo, h.hi⟩
  rw [e2, Nat.sub_self, Nat.pow_zero, Nat.mul_one]
  congr 1
  omega
theorem quot_number (d : Nat) (s : Bool) (m : Nat) (i : Int) (t : Bool) (n : Nat) (j : Int) (hn : n ≠ 0) :
    Datum.quotient d (.number s m i) (.number t n j) = some (.number (s ^^ t) (2 * ((m <<< (d + n.log2 - m.log2)) / n) + ((m <<< (d + n.log2 - m.log2)) % n != 0).toNat) (i - j - (d + n.log2 - m.log2 : Nat) - 1)) := if_neg hn
/-- x / 2 -/
theorem Nrm.half {s : Bool} {q : Nat} {I : Int} {x : Nat} (h : Nrm s q I x) (h1 : -1000 ≤ I) (h2 : I ≤ 900) : ∃ r, double.div x 4611686018427387904 = some r ∧ Nrm s q (I - 1) r := by
  obtain ⟨h0, hl⟩ := h.log
  have e2 : double.read 4611686018427387904 = .number false (2 ^ 52) (-51) := by decide
  have hl2 : ((2 : Nat) ^ 52).log2 = 52 := by decide
  have hF : double.fractionBits + 2 = 54 := rfl
  have e3 : double.div x 4611686018427387904 = some (double.nearest (s ^^ false) (q * 2 ^ 3) (I - -51 - 54 - 1)) := by
    unfold Format.div
    rw [h.rd, e2, hF]
    rw [quot_number _ _ _ _ _ _ _ (Nat.pos_iff_ne_zero.1 (Nat.two_pow_pos 52)), hl2, hl, show 54 + 52 - 52 = 54 by rfl, Nat.shiftLeft_eq]
    have h5 : q * 2 ^ 54 = (q * 4) * 2 ^ 52 := by rw [Nat.mul_assoc, show (4 : Nat) * 2 ^ 52 = 2 ^ 54 by rw [show (4 : Nat) = 2 ^ 2 by rfl, ← Nat.pow_add]]
    have h6 : q * 2 ^ 54 / 2 ^ 52 = q * 4 := by rw [h5]; exact Nat.mul_div_cancel _ (Nat.two_pow_pos _)
    have h7 : q * 2 ^ 54 % 2 ^ 52 = 0 := by rw [h5]; exact Nat.mul_mod_left _ _
    rw [h6, h7]
    have h8 : 2 * (q * 4) + ((0 : Nat) != 0).toNat = q * 2 ^ 3 := by
      show 2 * (q * 4) + 0 = q * 8
      omega
    rw [h8]
    rfl
  have h9 := nearest_exact (s ^^ false) q (I - 1) h.lo h.hi 3 (by omega) (by omega)
  have h10 : I - -51 - 54 - 1 = I - 1 - ((3 : Nat) : Int) := by omega
  have h11 : (s ^^ false) = s := by cases s <;> rfl
  refine ⟨_, e3, ?_, h.lo, h.hi⟩
  rw [h10, h9, h11]
/-- x < 0.75, x < 1.5 -/
def lt75 (q : Nat) (I : Int) : Bool := decide (I ≤ -54) || (decide (I = -53) && decide (q < 3 * 2 ^ 51))
def lt15 (q : Nat) (I : Int) : Bool := decide (I ≤ -53) || (decide (I = -52) && decide (q < 3 * 2 ^ 51))
theorem order_c {q : Nat} {I J : Int} {x c : Nat} (h : Nrm false q I x) (hc : double.read c = .number false (3 * 2 ^ 51) J) :
    double.order x c = some (if I < J ∨ (I = J ∧ q < 3 * 2 ^ 51) then .lt else if I = J ∧ q = 3 * 2 ^ 51 then .eq else .gt) := by
  unfold Format.order
  rw [h.rd, hc]
  show some (compare (signed false q (I - min I J).toNat) (signed false (3 * 2 ^ 51) (J - min I J).toNat)) = _
  have s1 : ∀ (m a : Nat), signed false m a = ((m * 2 ^ a : Nat) : Int) := fun m a => by
    show ((m <<< a : Nat) : Int) = _
    rw [Nat.shiftLeft_eq]
  rw [s1, s1, cmpI]
  have hlo := h.lo
  have hhi := h.hi
  have p52 : (2 : Nat) ^ 52 = 2 * 2 ^ 51 := by rw [Nat.pow_succ, Nat.mul_comm]
  have p53 : (2 : Nat) ^ 53 = 4 * 2 ^ 51 := by rw [Nat.pow_succ, p52, Nat.mul_comm, ← Nat.mul_assoc]
  rw [p52] at hlo
  rw [p53] at hhi
  have hB : 0 < (2 : Nat) ^ 51 := Nat.two_pow_pos _
  generalize (2 : Nat) ^ 51 = B at *
  congr 1
  rcases Int.lt_trichotomy I J with hIJ | hIJ | hIJ
  · obtain ⟨k, hk⟩ : ∃ k : Nat, (J - min I J).toNat = k + 1 := ⟨(J - min I J).toNat - 1, by omega⟩
    have h0 : (I - min I J).toNat = 0 := by omega
    have hk2 : 3 * B * 2 ^ (k + 1) = 6 * B * 2 ^ k := by rw [Nat.pow_succ]; generalize 2 ^ k = z; rw [Nat.mul_comm z 2, ← Nat.mul_assoc]; congr 1; omega
    have hk3 : 6 * B ≤ 6 * B * 2 ^ k := Nat.le_mul_of_pos_right _ (Nat.two_pow_pos _)
    rw [h0, hk, hk2, Nat.pow_zero, Nat.mul_one, if_pos (by omega), if_pos (.inl hIJ)]
  · subst hIJ
    have h0 : (I - min I I).toNat = 0 := by omega
    rw [h0, Nat.pow_zero, Nat.mul_one, Nat.mul_one]
    by_cases e : q < 3 * B
    · have a1 : ((q : Nat) : Int) < ((3 * B : Nat) : Int) := by omega
      have a2 : I < I ∨ (I = I ∧ q < 3 * B) := .inr ⟨rfl, e⟩
      rw [if_pos a1, if_pos a2]
    · have a1 : ¬ ((q : Nat) : Int) < ((3 * B : Nat) : Int) := by omega
      have a2 : ¬ (I < I ∨ (I = I ∧ q < 3 * B)) := by rintro (z | z) <;> omega
      rw [if_neg a1, if_neg a2]
      by_cases e2 : q = 3 * B
      · have a3 : ((q : Nat) : Int) = ((3 * B : Nat) : Int) := by omega
        have a4 : I = I ∧ q = 3 * B := ⟨rfl, e2⟩
        rw [if_pos a3, if_pos a4]
      · have a3 : ¬ ((q : Nat) : Int) = ((3 * B : Nat) : Int) := by omega
        have a4 : ¬ (I = I ∧ q = 3 * B) := fun z => e2 z.2
        rw [if_neg a3, if_neg a4]
  · obtain ⟨k, hk⟩ : ∃ k : Nat, (I - min I J).toNat = k + 1 := ⟨(I - min I J).toNat - 1, by omega⟩
    have h0 : (J - min I J).toNat = 0 := by omega
    have hk2 : q * 2 ^ (k + 1) = 2 * q * 2 ^ k := by rw [Nat.pow_succ]; generalize 2 ^ k = z; rw [Nat.mul_comm z 2, ← Nat.mul_assoc, Nat.mul_comm q 2]
    have hk3 : 2 * q ≤ 2 * q * 2 ^ k := Nat.le_mul_of_pos_right _ (Nat.two_pow_pos _)
    rw [h0, hk, hk2, Nat.pow_zero, Nat.mul_one, if_neg (by omega), if_neg (by omega), if_neg (by omega), if_neg (fun z => by omega)]
theorem lt75_dbl {q : Nat} {I : Int} (h : lt75 q I = true) : lt15 q (I + 1) = true := by
  unfold lt75 at h
  unfold lt15
  simp only [Bool.or_eq_true, Bool.and_eq_true, decide_eq_true_eq] at h ⊢
  rcases h with h | ⟨h, h'⟩
  · left; omega
  · right; exact ⟨by omega, h'⟩
theorem lt15_half {q : Nat} {I : Int} (h : lt15 q I = false) : lt75 q (I - 1) = false := by
  rcases Bool.eq_false_or_eq_true (lt75 q (I - 1)) with e | e
  · have := lt75_dbl e
    rw [show I - 1 + 1 = I by omega, h] at this
    cases this
  · exact e

end Go.Proofs.Ytocpahhpagkknaa
