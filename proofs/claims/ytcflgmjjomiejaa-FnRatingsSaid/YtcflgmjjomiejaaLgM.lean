/- Logarithms: numbers of 64 bits: what is doubled, what is divided. -/
import Derived.Test.YtcflgmjjomiejaaFeA
import Derived.Test.YtcflgmjjomiejaaRow
import Derived.Test.YtcflgmjjomiejaaProg
import Derived.WalkLawsBesides
import Derived.Test.YtcflgmjjomiejaaFsA
import Derived.Laws.LoneSync
namespace Go.Proofs.Ytcflgmjjomiejaa
set_option linter.unusedVariables false
set_option linter.unusedSimpArgs false
open Ieee

theorem log2_shl {m : Nat} (hm : m ≠ 0) (k : Nat) : (m * 2 ^ k).log2 = m.log2 + k := by
  have hne : m * 2 ^ k ≠ 0 := Nat.mul_ne_zero hm (Nat.pos_iff_ne_zero.1 (Nat.two_pow_pos _))
  rw [Nat.log2_eq_iff hne]
  refine ⟨?_, ?_⟩
  · rw [Nat.pow_add]
    exact Nat.mul_le_mul_right _ (Nat.log2_self_le hm)
  · rw [show m.log2 + k + 1 = (m.log2 + 1) + k by omega, Nat.pow_add]
    exact Nat.mul_lt_mul_of_pos_right Nat.lt_log2_self (Nat.two_pow_pos _)
/-- a cut that drops nothing -/
theorem cut_exact (neg : Bool) (q drop : Nat) (h : drop ≤ (q * 2 ^ drop).log2 + 2) : Toward.even.cut neg (q * 2 ^ drop) drop = q := by
  unfold Toward.cut
  rw [Nat.min_eq_left h, Nat.one_shiftLeft]
  have h1 : q * 2 ^ drop / 2 ^ drop = q := Nat.mul_div_cancel _ (Nat.two_pow_pos _)
  have h2 : q * 2 ^ drop % 2 ^ drop = 0 := Nat.mul_mod_left _ _
  simp only [h1, h2]
  have h3 : ¬ (2 ^ drop < 2 * 0) := by omega
  have h4 : (2 ^ drop == 2 * 0) = false := by
    have := Nat.two_pow_pos drop
    simp
  simp [h3, h4]
theorem rung_lt {n q : Nat} (h : n * 2 ^ 52 ≤ 1974 * 2 ^ 52) (hq : q < 2 ^ 53) : n * 2 ^ 52 + q < 2047 * 2 ^ 52 := by
  have e : (2 : Nat) ^ 53 = 2 * 2 ^ 52 := by rw [Nat.pow_succ, Nat.mul_comm]
  rw [e] at hq
  have hB : 0 < (2 : Nat) ^ 52 := Nat.two_pow_pos _
  generalize (2 : Nat) ^ 52 = B at *
  omega
set_option maxRecDepth 100000 in
/-- a number with at most 53 digits is kept as it is -/
theorem nearest_exactG (neg : Bool) (mag : Nat) (place : Int) (q : Nat) (i : Int) (hq : 2 ^ 52 ≤ q) (hq2 : q < 2 ^ 53) (hi : -1074 ≤ i) (hi2 : i ≤ 900) (hne : mag ≠ 0) (hlog : (mag.log2 : Int) + place = i + 52) (hs : mag <<< (place - i).toNat = q * 2 ^ (i - place).toNat) :
    double.read (double.nearest neg mag place) = .number neg q i := by
  have hq0 : q ≠ 0 := by have : 0 < 2 ^ 52 := Nat.two_pow_pos _; omega
  have hlq : q.log2 = 52 := by
    rw [Nat.log2_eq_iff hq0]
    exact ⟨hq, hq2⟩
  have hF : double.fractionBits = 52 := rfl
  have hP : double.leastPlace = -1074 := rfl
  have hB : double.binade = 2 ^ 52 := rfl
  have hI : double.infRung = 2047 * 2 ^ 52 := rfl
  have hS : double.signWeight = 2 ^ 63 := rfl
  have e1 : double.nearest neg mag place = double.word neg ((i + 1074).toNat * 2 ^ 52 + q) := by
    unfold Format.nearest
    rw [if_neg hne]
    have hmax : max (place + (mag.log2 : Int) - (double.fractionBits : Int)) double.leastPlace = i := by rw [hF, hP]; omega
    dsimp only
    rw [hmax, hP, hB, hI, hs, cut_exact neg q _ (by rw [log2_shl hq0, hlq]; omega)]
    have h3 : (i - -1074).toNat = (i + 1074).toNat := by omega
    have h4 : (i + 1074).toNat ≤ 1974 := by omega
    have h5 : (i + 1074).toNat * 2 ^ 52 ≤ 1974 * 2 ^ 52 := Nat.mul_le_mul_right _ h4
    have h6 : (i + 1074).toNat * 2 ^ 52 + q ≤ 2047 * 2 ^ 52 := Nat.le_of_lt (rung_lt h5 hq2)
    rw [h3, Nat.min_eq_left h6]
  rw [e1]
  have hR : (i + 1074).toNat * 2 ^ 52 + q < 2047 * 2 ^ 52 := by
    have h4 : (i + 1074).toNat ≤ 1974 := by omega
    have h5 : (i + 1074).toNat * 2 ^ 52 ≤ 1974 * 2 ^ 52 := Nat.mul_le_mul_right _ h4
    exact rung_lt h5 hq2
  generalize hn : (i + 1074).toNat = n at *
  have hRS : n * 2 ^ 52 + q < 2 ^ 63 := by omega
  have e2 : double.word neg (n * 2 ^ 52 + q) / double.signWeight % 2 = neg.toNat := by
    unfold Format.word
    rw [hS]
    cases neg
    · simp [Nat.div_eq_of_lt hRS]
    · simp only [if_true, Bool.toNat_true]
      rw [Nat.add_div_left _ (by decide), Nat.div_eq_of_lt hRS]
  have e3 : double.word neg (n * 2 ^ 52 + q) % double.signWeight = n * 2 ^ 52 + q := by
    unfold Format.word
    rw [hS]
    cases neg
    · simp [Nat.mod_eq_of_lt hRS]
    · simp [Nat.mod_eq_of_lt hRS]
  unfold Format.read
  simp only [e2, e3, hB, hI]
  have e4 : (neg.toNat == 1) = neg := by cases neg <;> rfl
  rw [e4, if_neg (by omega), if_pos hR]
  have e5 : (n * 2 ^ 52 + q) % 2 ^ 52 = q - 2 ^ 52 := by omega
  have e6 : (n * 2 ^ 52 + q) / 2 ^ 52 = n + 1 := by omega
  have e7 : 2 ^ 52 + (q - 2 ^ 52) = q := by omega
  have e8 : (-1074 : Int) + ((n + 1 - 1 : Nat) : Int) = i := by omega
  rw [e5, e6, hP, e7, e8]
theorem nearest_exact (neg : Bool) (q : Nat) (i : Int) (hq : 2 ^ 52 ≤ q) (hq2 : q < 2 ^ 53) (k : Nat) (hi : -1074 ≤ i) (hi2 : i ≤ 900) :
    double.read (double.nearest neg (q * 2 ^ k) (i - k)) = .number neg q i := by
  have hq0 : q ≠ 0 := by have : 0 < 2 ^ 52 := Nat.two_pow_pos _; omega
  have hlq : q.log2 = 52 := by
    rw [Nat.log2_eq_iff hq0]
    exact ⟨hq, hq2⟩
  refine nearest_exactG neg _ _ q i hq hq2 hi hi2 (Nat.mul_ne_zero hq0 (Nat.pos_iff_ne_zero.1 (Nat.two_pow_pos _))) (by rw [log2_shl hq0, hlq]; omega) ?_
  have h1 : (i - (k : Int) - i).toNat = 0 := by omega
  have h2 : (i - (i - (k : Int))).toNat = k := by omega
  rw [h1, h2, Nat.shiftLeft_zero]
/-- a number of fewer digits -/
theorem nearest_small (neg : Bool) (m : Nat) (i : Int) (hm : m ≠ 0) (hm2 : m < 2 ^ 53) (h1 : -1000 ≤ (m.log2 : Int) + i) (h2 : (m.log2 : Int) + i ≤ 900) :
    double.read (double.nearest neg m i) = .number neg (m * 2 ^ (52 - m.log2)) (i + m.log2 - 52) ∧ 2 ^ 52 ≤ m * 2 ^ (52 - m.log2) ∧ m * 2 ^ (52 - m.log2) < 2 ^ 53 := by
  have hl : m.log2 ≤ 52 := by
    have := log2_lt' hm2 hm
    omega
  have hq1 : 2 ^ 52 ≤ m * 2 ^ (52 - m.log2) := by
    have h1 := Nat.mul_le_mul_right (2 ^ (52 - m.log2)) (Nat.log2_self_le hm)
    rw [← Nat.pow_add, show m.log2 + (52 - m.log2) = 52 by omega] at h1
    exact h1
  have hq2 : m * 2 ^ (52 - m.log2) < 2 ^ 53 := by
    have h1 := Nat.mul_lt_mul_of_pos_right (Nat.lt_log2_self (n := m)) (Nat.two_pow_pos (52 - m.log2))
    rw [← Nat.pow_add, show m.log2 + 1 + (52 - m.log2) = 53 by omega] at h1
    exact h1
  refine ⟨?_, hq1, hq2⟩
  refine nearest_exactG neg m i _ _ hq1 hq2 (by omega) (by omega) hm (by omega) ?_
  have e1 : (i - (i + (m.log2 : Int) - 52)).toNat = 52 - m.log2 := by omega
  have e2 : (i + (m.log2 : Int) - 52 - i).toNat = 0 := by omega
  rw [e1, e2, Nat.shiftLeft_eq, Nat.pow_zero, Nat.mul_one]
/-- x * 2 -/
theorem dbl_read {x : Nat} {s : Bool} {m : Nat} {i : Int} (h : double.read x = .number s m i) (hm : m ≠ 0) (hm2 : m < 2 ^ 53) (hlo : -1000 ≤ (m.log2 : Int) + i) (hhi : (m.log2 : Int) + i ≤ 900) :
    ∃ r, double.mul x 4611686018427387904 = some r ∧ double.read r = .number s (m * 2 ^ (52 - m.log2)) (i + m.log2 - 51) := by
  have e2 : double.read 4611686018427387904 = .number false 4503599627370496 (-51) := by decide
  have hl : m.log2 ≤ 52 := by
    have := log2_lt' hm2 hm
    omega
  refine ⟨_, by unfold Format.mul; rw [h, e2]; rfl, ?_⟩
  have hq1 : 2 ^ 52 ≤ m * 2 ^ (52 - m.log2) := by
    have h1 := Nat.mul_le_mul_right (2 ^ (52 - m.log2)) (Nat.log2_self_le hm)
    rw [← Nat.pow_add, show m.log2 + (52 - m.log2) = 52 by omega] at h1
    exact h1
  have hq2 : m * 2 ^ (52 - m.log2) < 2 ^ 53 := by
    have h1 := Nat.mul_lt_mul_of_pos_right (Nat.lt_log2_self (n := m)) (Nat.two_pow_pos (52 - m.log2))
    rw [← Nat.pow_add, show m.log2 + 1 + (52 - m.log2) = 53 by omega] at h1
    exact h1
  have := nearest_exact (s ^^ false) (m * 2 ^ (52 - m.log2)) (i + m.log2 - 51) hq1 hq2 m.log2 (by omega) (by omega)
  have e3 : m * 2 ^ (52 - m.log2) * 2 ^ m.log2 = m * 4503599627370496 := by
    rw [Nat.mul_assoc, ← Nat.pow_add, show 52 - m.log2 + m.log2 = 52 by omega]
  have e4 : i + (m.log2 : Int) - 51 - (m.log2 : Int) = i + -51 := by omega
  rw [e3, e4] at this
  have e5 : (s ^^ false) = s := by cases s <;> rfl
  rw [e5] at this
  show double.read (double.nearest (s ^^ false) (m * 4503599627370496) (i + -51)) = _
  rw [e5]
  exact this

/-- a normal number: 53 digits -/
structure Nrm (s : Bool) (q : Nat) (I : Int) (x : Nat) : Prop where
  rd : double.read x = .number s q I
  lo : 2 ^ 52 ≤ q
  hi : q < 2 ^ 53
theorem Nrm.log {s : Bool} {q : Nat} {I : Int} {x : Nat} (h : Nrm s q I x) : q ≠ 0 ∧ q.log2 = 52 := by
  have h0 : q ≠ 0 := by have : 0 < 2 ^ 52 := Nat.two_pow_pos _; have := h.lo; omega
  exact ⟨h0, (Nat.log2_eq_iff h0).2 ⟨h.lo, h.hi⟩⟩
theorem Nrm.dbl {s : Bool} {q : Nat} {I : Int} {x : Nat} (h : Nrm s q I x) (h1 : -1052 ≤ I) (h2 : I ≤ 800) : ∃ r, double.mul x 4611686018427387904 = some r ∧ Nrm s q (I + 1) r := by
  obtain ⟨h0, hl⟩ := h.log
  obtain ⟨r, e1, e2⟩ := dbl_read h.rd h0 h.hi (by rw [hl]; omega) (by rw [hl]; omega)
  rw [hl] at e2
  refine ⟨r, e1, ?_, h.lo, h.hi⟩
  rw [e2, Nat.sub_self, Nat.pow_zero, Nat.mul_one]
  congr 1
  omega
theorem quot_number (d : Nat) (s : Bool) (m : Nat) (i : Int) (t : Bool) (n : Nat) (j : Int) (hn : n ≠ 0) :
    Datum.quotient d (.number s m i) (.number t n j) = some (.number (s ^^ t) (2 * ((m <<< (d + n.log2 - m.log2)) / n) + ((m <<< (d + n.log2 - m.log2)) % n != 0).toNat) (i - j - (d + n.log2 - m.log2 : Nat) - 1)) := if_neg hn
/-- x / 2 -/
theorem Nrm.half {s : Bool} {q : Nat} {I : Int} {x : Nat} (h : Nrm s q I x) (h1 : -1000 ≤ I) (h2 : I ≤ 900) : ∃ r, double.div x 4611686018427387904 = some r ∧ Nrm s q (I - 1) r := by
  obtain ⟨h0, hl⟩ := h.log
  have e2 : double.read 4611686018427387904 = .number false (2 ^ 52) (-51) := by decide
  have hl2 : ((2 : Nat) ^ 52).log2 = 52 := by decide
  have hF : double.fractionBits + 2 = 54 := rfl
  have e3 : double.div x 4611686018427387904 = some (double.nearest (s ^^ false) (q * 2 ^ 3) (I - -51 - 54 - 1)) := by
    unfold Format.div
    rw [h.rd, e2, hF]
    rw [quot_number _ _ _ _ _ _ _ (Nat.pos_iff_ne_zero.1 (Nat.two_pow_pos 52)), hl2, hl, show 54 + 52 - 52 = 54 by rfl, Nat.shiftLeft_eq]
    have h5 : q * 2 ^ 54 = (q * 4) * 2 ^ 52 := by rw [Nat.mul_assoc, show (4 : Nat) * 2 ^ 52 = 2 ^ 54 by rw [show (4 : Nat) = 2 ^ 2 by rfl, ← Nat.pow_add]]
    have h6 : q * 2 ^ 54 / 2 ^ 52 = q * 4 := by rw [h5]; exact Nat.mul_div_cancel _ (Nat.two_pow_pos _)
    have h7 : q * 2 ^ 54 % 2 ^ 52 = 0 := by rw [h5]; exact Nat.mul_mod_left _ _
    rw [h6, h7]
    have h8 : 2 * (q * 4) + ((0 : Nat) != 0).toNat = q * 2 ^ 3 := by
      show 2 * (q * 4) + 0 = q * 8
      omega
    rw [h8]
    rfl
  have h9 := nearest_exact (s ^^ false) q (I - 1) h.lo h.hi 3 (by omega) (by omega)
  have h10 : I - -51 - 54 - 1 = I - 1 - ((3 : Nat) : Int) := by omega
  have h11 : (s ^^ false) = s := by cases s <;> rfl
  refine ⟨_, e3, ?_, h.lo, h.hi⟩
  rw [h10, h9, h11]
/-- x < 0.75, x < 1.5 -/
def lt75 (q : Nat) (I : Int) : Bool := decide (I ≤ -54) || (decide (I = -53) && decide (q < 3 * 2 ^ 51))
def lt15 (q : Nat) (I : Int) : Bool := decide (I ≤ -53) || (decide (I = -52) && decide (q < 3 * 2 ^ 51))
theorem order_c {q : Nat} {I J : Int} {x c : Nat} (h : Nrm false q I x) (hc : double.read c = .number false (3 * 2 ^ 51) J) :
    double.order x c = some (if I < J ∨ (I = J ∧ q < 3 * 2 ^ 51) then .lt else if I = J ∧ q = 3 * 2 ^ 51 then .eq else .gt) := by
  unfold Format.order
  rw [h.rd, hc]
  show some (compare (signed false q (I - min I J).toNat) (signed false (3 * 2 ^ 51) (J - min I J).toNat)) = _
  have s1 : ∀ (m a : Nat), signed false m a = ((m * 2 ^ a : Nat) : Int) := fun m a => by
    show ((m <<< a : Nat) : Int) = _
    rw [Nat.shiftLeft_eq]
  rw [s1, s1, cmpI]
  have hlo := h.lo
  have hhi := h.hi
  have p52 : (2 : Nat) ^ 52 = 2 * 2 ^ 51 := by rw [Nat.pow_succ, Nat.mul_comm]
  have p53 : (2 : Nat) ^ 53 = 4 * 2 ^ 51 := by rw [Nat.pow_succ, p52, Nat.mul_comm, ← Nat.mul_assoc]
  rw [p52] at hlo
  rw [p53] at hhi
  have hB : 0 < (2 : Nat) ^ 51 := Nat.two_pow_pos _
  generalize (2 : Nat) ^ 51 = B at *
  congr 1
  rcases Int.lt_trichotomy I J with hIJ | hIJ | hIJ
  · obtain ⟨k, hk⟩ : ∃ k : Nat, (J - min I J).toNat = k + 1 := ⟨(J - min I J).toNat - 1, by omega⟩
    have h0 : (I - min I J).toNat = 0 := by omega
    have hk2 : 3 * B * 2 ^ (k + 1) = 6 * B * 2 ^ k := by rw [Nat.pow_succ]; generalize 2 ^ k = z; rw [Nat.mul_comm z 2, ← Nat.mul_assoc]; congr 1; omega
    have hk3 : 6 * B ≤ 6 * B * 2 ^ k := Nat.le_mul_of_pos_right _ (Nat.two_pow_pos _)
    rw [h0, hk, hk2, Nat.pow_zero, Nat.mul_one, if_pos (by omega), if_pos (.inl hIJ)]
  · subst hIJ
    have h0 : (I - min I I).toNat = 0 := by omega
    rw [h0, Nat.pow_zero, Nat.mul_one, Nat.mul_one]
    by_cases e : q < 3 * B
    · have a1 : ((q : Nat) : Int) < ((3 * B : Nat) : Int) := by omega
      have a2 : I < I ∨ (I = I ∧ q < 3 * B) := .inr ⟨rfl, e⟩
      rw [if_pos a1, if_pos a2]
    · have a1 : ¬ ((q : Nat) : Int) < ((3 * B : Nat) : Int) := by omega
      have a2 : ¬ (I < I ∨ (I = I ∧ q < 3 * B)) := by rintro (z | z) <;> omega
      rw [if_neg a1, if_neg a2]
      by_cases e2 : q = 3 * B
      · have a3 : ((q : Nat) : Int) = ((3 * B : Nat) : Int) := by omega
        have a4 : I = I ∧ q = 3 * B := ⟨rfl, e2⟩
        rw [if_pos a3, if_pos a4]
      · have a3 : ¬ ((q : Nat) : Int) = ((3 * B : Nat) : Int) := by omega
        have a4 : ¬ (I = I ∧ q = 3 * B) := fun z => e2 z.2
        rw [if_neg a3, if_neg a4]
  · obtain ⟨k, hk⟩ : ∃ k : Nat, (I - min I J).toNat = k + 1 := ⟨(I - min I J).toNat - 1, by omega⟩
    have h0 : (J - min I J).toNat = 0 := by omega
    have hk2 : q * 2 ^ (k + 1) = 2 * q * 2 ^ k := by rw [Nat.pow_succ]; generalize 2 ^ k = z; rw [Nat.mul_comm z 2, ← Nat.mul_assoc, Nat.mul_comm q 2]
    have hk3 : 2 * q ≤ 2 * q * 2 ^ k := Nat.le_mul_of_pos_right _ (Nat.two_pow_pos _)
    rw [h0, hk, hk2, Nat.pow_zero, Nat.mul_one, if_neg (by omega), if_neg (by omega), if_neg (by omega), if_neg (fun z => by omega)]
theorem lt75_dbl {q : Nat} {I : Int} (h : lt75 q I = true) : lt15 q (I + 1) = true := by
  unfold lt75 at h
  unfold lt15
  simp only [Bool.or_eq_true, Bool.and_eq_true, decide_eq_true_eq] at h ⊢
  rcases h with h | ⟨h, h'⟩
  · left; omega
  · right; exact ⟨by omega, h'⟩
theorem lt15_half {q : Nat} {I : Int} (h : lt15 q I = false) : lt75 q (I - 1) = false := by
  rcases Bool.eq_false_or_eq_true (lt75 q (I - 1)) with e | e
  · have := lt75_dbl e
    rw [show I - 1 + 1 = I by omega, h] at this
    cases this
  · exact e

/-- a positive number of 32 bits is a normal number of 64 -/
theorem conv_nrm {x : Nat} {m : Nat} {i : Int} (h : single.read x = .number false m i) (hm : m ≠ 0) :
    ∃ y q I, floatToFloatBits .f32 x .f64 = some y ∧ Nrm false q I y ∧ -201 ≤ I ∧ I ≤ 75 := by
  have h1 := read_bound h
  have h2 := read_least h
  have hl : single.leastPlace = -149 := rfl
  rw [hl] at h2
  have h3 : (m.log2 : Int) + i < 128 := h1.resolve_left hm
  have hm2 : m < 2 ^ 53 := by
    have key : ∀ (neg : Bool) (rung : Nat), (if rung < single.binade then Datum.number neg rung single.leastPlace else if rung < single.infRung then Datum.number neg (single.binade + rung % single.binade) (single.leastPlace + (rung / single.binade - 1 : Nat)) else if rung = single.infRung then .infinity neg else .nan neg (rung - single.infRung)) = .number false m i → m < 2 ^ 24 := by
      intro neg rung h
      have hb : single.binade = 2 ^ 23 := rfl
      rw [hb] at h
      split at h
      · rename_i hr
        injection h with _ h5 _
        omega
      · split at h
        · injection h with _ h5 _
          have := Nat.mod_lt rung (show 0 < 2 ^ 23 by decide)
          omega
        · split at h <;> cases h
    have := key _ _ h
    exact Nat.lt_trans this (by decide)
  obtain ⟨e1, e2, e3⟩ := nearest_small false m i hm hm2 (by omega) (by omega)
  refine ⟨double.nearest false m i, _, _, ?_, ⟨e1, e2, e3⟩, by omega, by omega⟩
  unfold floatToFloatBits
  have e4 : FloatKind.f32.decode x = .number false m i := h
  have e5 : FloatKind.f64.decode (FloatKind.f64.encode (.number false m i)) = .number false (m * 2 ^ (52 - m.log2)) (i + m.log2 - 52) := e1
  rw [if_neg (by decide), e4]
  show (if (FloatKind.f64.decode (FloatKind.f64.encode (.number false m i))).isInfinity then none else some (FloatKind.f64.encode (.number false m i))) = _
  rw [e5]
  rfl
/-- at most 2 ^ e -/
def Ub (e : Int) (m : Nat) (i : Int) : Prop := m = 0 ∨ (m.log2 : Int) + i < e ∨ ((m.log2 : Int) + i = e ∧ m = 2 ^ m.log2)
/-- a number of 64 bits, at most 2 ^ e -/
def BD (e : Int) (x : Nat) : Prop := ∃ s m i, double.read x = .number s m i ∧ Ub e m i
theorem Ub.more {e e' : Int} {m : Nat} {i : Int} (h : Ub e m i) (he : e ≤ e') : Ub e' m i := by
  rcases h with h | h | ⟨h, h'⟩
  · exact .inl h
  · exact .inr (.inl (by omega))
  · rcases Int.lt_or_eq_of_le he with q | q
    · exact .inr (.inl (by omega))
    · exact .inr (.inr ⟨by omega, h'⟩)
theorem BD.more {e e' : Int} {x : Nat} (h : BD e x) (he : e ≤ e') : BD e' x := by
  obtain ⟨s, m, i, h1, h2⟩ := h
  exact ⟨s, m, i, h1, h2.more he⟩
theorem log2_two_pow (k : Nat) : (2 ^ k : Nat).log2 = k := by
  rw [Nat.log2_eq_iff (Nat.pos_iff_ne_zero.1 (Nat.two_pow_pos _))]
  exact ⟨Nat.le_refl _, Nat.pow_lt_pow_right (by omega) (Nat.lt_succ_self _)⟩
/-- a power of two is kept -/
theorem nearest_pow (s : Bool) (L : Nat) (i : Int) (h1 : -1000 ≤ (L : Int) + i) (h2 : (L : Int) + i ≤ 900) : double.read (double.nearest s (2 ^ L) i) = .number s (2 ^ 52) ((L : Int) + i - 52) := by
  refine nearest_exactG s (2 ^ L) i (2 ^ 52) ((L : Int) + i - 52) (Nat.le_refl _) (Nat.pow_lt_pow_right (by omega) (by omega)) (by omega) (by omega) (Nat.pos_iff_ne_zero.1 (Nat.two_pow_pos _)) (by rw [log2_two_pow]; omega) ?_
  rw [Nat.shiftLeft_eq, ← Nat.pow_add, ← Nat.pow_add]
  congr 1
  omega
theorem cut_ge (neg : Bool) (n drop : Nat) (h : n.log2 = 52 + drop) (hn : n ≠ 0) : 2 ^ 52 ≤ Toward.even.cut neg n drop := by
  unfold Toward.cut
  rw [Nat.min_eq_left (by omega), Nat.one_shiftLeft]
  refine Nat.le_trans ?_ (Nat.le_add_right _ _)
  rw [Nat.le_div_iff_mul_le (Nat.two_pow_pos _), ← Nat.pow_add, ← h]
  exact Nat.log2_self_le hn

set_option maxRecDepth 100000 in
theorem read_rung (neg : Bool) (n q : Nat) (hq : 2 ^ 52 ≤ q) (hq2 : q < 2 ^ 53) (hR : n * 2 ^ 52 + q < 2047 * 2 ^ 52) : double.read (double.word neg (n * 2 ^ 52 + q)) = .number neg q ((n : Int) - 1074) := by
  have hP : double.leastPlace = -1074 := rfl
  have hB : double.binade = 2 ^ 52 := rfl
  have hI : double.infRung = 2047 * 2 ^ 52 := rfl
  have hS : double.signWeight = 2 ^ 63 := rfl
  have hRS : n * 2 ^ 52 + q < 2 ^ 63 := by omega
  have e2 : double.word neg (n * 2 ^ 52 + q) / double.signWeight % 2 = neg.toNat := by
    unfold Format.word
    rw [hS]
    cases neg
    · simp [Nat.div_eq_of_lt hRS]
    · simp only [if_true, Bool.toNat_true]
      rw [Nat.add_div_left _ (by decide), Nat.div_eq_of_lt hRS]
  have e3 : double.word neg (n * 2 ^ 52 + q) % double.signWeight = n * 2 ^ 52 + q := by
    unfold Format.word
    rw [hS]
    cases neg
    · simp [Nat.mod_eq_of_lt hRS]
    · simp [Nat.mod_eq_of_lt hRS]
  unfold Format.read
  simp only [e2, e3, hB, hI]
  have e4 : (neg.toNat == 1) = neg := by cases neg <;> rfl
  rw [e4, if_neg (by omega), if_pos hR]
  have e5 : (n * 2 ^ 52 + q) % 2 ^ 52 = q - 2 ^ 52 := by omega
  have e6 : (n * 2 ^ 52 + q) / 2 ^ 52 = n + 1 := by omega
  have e7 : 2 ^ 52 + (q - 2 ^ 52) = q := by omega
  have e8 : (-1074 : Int) + ((n + 1 - 1 : Nat) : Int) = (n : Int) - 1074 := by omega
  rw [e5, e6, hP, e7, e8]
/-- to round keeps the bound -/
theorem nearest_bd (s : Bool) (m : Nat) (i : Int) (e : Int) (h : Ub e m i) (he : -900 ≤ e) (he2 : e ≤ 900) : BD e (double.nearest s m i) := by
  rcases h with rfl | h | ⟨h, h'⟩
  · refine ⟨s, 0, -1074, ?_, .inl rfl⟩
    unfold Format.nearest
    rw [if_pos rfl]
    cases s <;> decide
  · by_cases hm : m = 0
    · subst hm
      refine ⟨s, 0, -1074, ?_, .inl rfl⟩
      unfold Format.nearest
      rw [if_pos rfl]
      cases s <;> decide
    · by_cases hn : (m.log2 : Int) + i < -1000
      · obtain ⟨s', m', i', h1, _, h3⟩ := nearest_fd s m i (-1000) (.inr hn) (by omega) (by omega)
        refine ⟨s', m', i', h1, ?_⟩
        rcases h3 with h3 | h3
        · exact .inl h3
        · exact .inr (.inl (by omega))
      · obtain ⟨last, hlast⟩ : ∃ last : Int, last = (m.log2 : Int) + i - 52 := ⟨_, rfl⟩
        obtain ⟨n, hn'⟩ : ∃ n : Nat, (n : Int) = last + 1074 := ⟨(last + 1074).toNat, by omega⟩
        have hlg : (m <<< (i - last).toNat).log2 = m.log2 + (i - last).toNat := by rw [Nat.shiftLeft_eq]; exact log2_shl hm _
        have hne : m <<< (i - last).toNat ≠ 0 := by rw [Nat.shiftLeft_eq]; exact Nat.mul_ne_zero hm (Nat.pos_iff_ne_zero.1 (Nat.two_pow_pos _))
        have k1 := cut_ge s (m <<< (i - last).toNat) (last - i).toNat (by rw [hlg]; omega) hne
        have k2 := cut_le s (m <<< (i - last).toNat) (last - i).toNat 53 (by rw [hlg]; omega) hne
        have hw : double.nearest s m i = double.word s (min (n * 2 ^ 52 + Toward.even.cut s (m <<< (i - last).toNat) (last - i).toNat) (2047 * 2 ^ 52)) := by
          have hF : double.fractionBits = 52 := rfl
          have hP : double.leastPlace = -1074 := rfl
          have hB : double.binade = 2 ^ 52 := rfl
          have hI : double.infRung = 2047 * 2 ^ 52 := rfl
          unfold Format.nearest
          rw [if_neg hm]
          have hmax : max (i + (m.log2 : Int) - (double.fractionBits : Int)) double.leastPlace = last := by rw [hF, hP]; omega
          dsimp only
          rw [hmax, hP, hB, hI]
          have h3 : (last - -1074).toNat = n := by omega
          rw [h3]
        generalize Toward.even.cut s (m <<< (i - last).toNat) (last - i).toNat = kept at *
        have hn2 : n ≤ 1930 := by omega
        have h5 : (n + 2) * 2 ^ 52 ≤ 1974 * 2 ^ 52 := Nat.mul_le_mul_right _ (by omega)
        rw [hw]
        by_cases hk : kept < 2 ^ 53
        · have h6 := rung_lt (Nat.mul_le_mul_right (2 ^ 52) (show n ≤ 1974 by omega)) hk
          rw [Nat.min_eq_left (Nat.le_of_lt h6)]
          refine ⟨s, kept, _, read_rung s n kept k1 hk h6, .inr (.inl ?_)⟩
          have h7 : kept.log2 < 53 := log2_lt' hk (by have : 0 < 2 ^ 52 := Nat.two_pow_pos _; omega)
          omega
        · have hk2 : kept = 2 ^ 53 := Nat.le_antisymm k2 (Nat.le_of_not_lt hk)
          have e53 : (2 : Nat) ^ 53 = 2 ^ 52 + 2 ^ 52 := by rw [Nat.pow_succ, Nat.mul_comm, Nat.two_mul]
          have h8 : n * 2 ^ 52 + kept = (n + 1) * 2 ^ 52 + 2 ^ 52 := by rw [hk2, e53, Nat.succ_mul, Nat.add_assoc]
          have h6 := rung_lt (q := 2 ^ 52) (Nat.mul_le_mul_right (2 ^ 52) (show n + 1 ≤ 1974 by omega)) (Nat.pow_lt_pow_right (by omega) (by omega))
          rw [h8, Nat.min_eq_left (Nat.le_of_lt h6)]
          refine ⟨s, 2 ^ 52, _, read_rung s (n + 1) (2 ^ 52) (Nat.le_refl _) (Nat.pow_lt_pow_right (by omega) (by omega)) h6, ?_⟩
          rcases Int.lt_or_eq_of_le (show (m.log2 : Int) + i + 1 ≤ e by omega) with q | q
          · exact .inr (.inl (by rw [log2_two_pow]; omega))
          · exact .inr (.inr ⟨by rw [log2_two_pow]; omega, by rw [log2_two_pow]⟩)
  · rw [h']
    by_cases hn : -1000 ≤ (m.log2 : Int) + i
    · refine ⟨s, 2 ^ 52, _, nearest_pow s m.log2 i hn (by omega), .inr (.inr ⟨by rw [log2_two_pow]; omega, by rw [log2_two_pow]⟩)⟩
    · omega

theorem Ub.mul {e1 e2 : Int} {m n : Nat} {i j : Int} (h : Ub e1 m i) (k : Ub e2 n j) : Ub (e1 + e2) (m * n) (i + j) := by
  by_cases hm : m = 0
  · left; rw [hm, Nat.zero_mul]
  by_cases hn : n = 0
  · left; rw [hn, Nat.mul_zero]
  right
  have h := h.resolve_left hm
  have k := k.resolve_left hn
  rcases h with h | ⟨h, h'⟩
  · rcases k with k | ⟨k, k'⟩
    · left
      have := log2_mul_le m n hm hn
      omega
    · left
      have e : (m * n).log2 = m.log2 + n.log2 := by conv => lhs; rw [k', log2_shl hm]
      omega
  · have e : (m * n).log2 = n.log2 + m.log2 := by conv => lhs; rw [h', Nat.mul_comm, log2_shl hn]
    rcases k with k | ⟨k, k'⟩
    · left; omega
    · right
      refine ⟨by omega, ?_⟩
      rw [e, Nat.pow_add, ← k', ← h', Nat.mul_comm]
theorem BD.mul {e1 e2 : Int} {x y : Nat} (hx : BD e1 x) (hy : BD e2 y) (h1 : -900 ≤ e1 + e2) (h2 : e1 + e2 ≤ 900) : ∃ r, double.mul x y = some r ∧ BD (e1 + e2) r := by
  obtain ⟨s, m, i, a1, a2⟩ := hx
  obtain ⟨t, n, j, b1, b2⟩ := hy
  exact ⟨_, by unfold Format.mul; rw [a1, b1]; rfl, nearest_bd _ _ _ _ (a2.mul b2) h1 h2⟩
theorem Ub.shl {e : Int} {m : Nat} {i base : Int} (h : Ub e m i) (hb : base ≤ i) {E : Nat} (hE : (E : Int) = e - base) : m <<< (i - base).toNat ≤ 2 ^ E := by
  rw [Nat.shiftLeft_eq]
  rcases h with rfl | h | ⟨h, h'⟩
  · rw [Nat.zero_mul]; exact Nat.zero_le _
  · refine Nat.le_trans (Nat.mul_le_mul_right _ (Nat.le_of_lt (Nat.lt_log2_self (n := m)))) ?_
    rw [← Nat.pow_add]
    exact Nat.pow_le_pow_right (by omega) (by omega)
  · rw [h', ← Nat.pow_add]
    exact Nat.pow_le_pow_right (by omega) (by omega)
theorem Ub.of_le {m : Nat} {base : Int} {E : Nat} (h : m ≤ 2 ^ E) : Ub (E + base) m base := by
  by_cases hm : m = 0
  · exact .inl hm
  · right
    by_cases e : m = 2 ^ E
    · right
      subst e
      rw [log2_two_pow]
      exact ⟨rfl, rfl⟩
    · left
      have := log2_lt' (show m < 2 ^ E by omega) hm
      omega
theorem Ub.zero_of {e : Int} {m : Nat} {i : Int} (h : Ub e m i) (he : e < i) : m = 0 := by
  rcases h with h | h | ⟨h, _⟩
  · exact h
  · omega
  · omega
theorem Ub.sum {e : Int} {m n : Nat} {i j : Int} (s t : Bool) (h : Ub e m i) (k : Ub e n j) : Ub (e + 1) (signed s m (i - min i j).toNat + signed t n (j - min i j).toNat).natAbs (min i j) := by
  have b1 := signed_abs s m (i - min i j).toNat
  have b2 := signed_abs t n (j - min i j).toNat
  by_cases hb : min i j ≤ e
  · obtain ⟨E, hE⟩ : ∃ E : Nat, (E : Int) = e - min i j := ⟨(e - min i j).toNat, by omega⟩
    have a1 := h.shl (base := min i j) (by omega) hE
    have a2 := k.shl (base := min i j) (by omega) hE
    have h3 : (signed s m (i - min i j).toNat + signed t n (j - min i j).toNat).natAbs ≤ 2 ^ (E + 1) := by
      rw [Nat.pow_succ]
      omega
    have := Ub.of_le (base := min i j) h3
    exact this.more (by omega)
  · have hm : m = 0 := h.zero_of (by omega)
    have hn : n = 0 := k.zero_of (by omega)
    subst hm; subst hn
    left
    rw [Nat.shiftLeft_eq, Nat.zero_mul] at b1 b2
    omega
theorem BD.add {e : Int} {x y : Nat} (hx : BD e x) (hy : BD e y) (h1 : -900 ≤ e + 1) (h2 : e + 1 ≤ 900) : ∃ r, double.add x y = some r ∧ BD (e + 1) r := by
  obtain ⟨s, m, i, a1, a2⟩ := hx
  obtain ⟨t, n, j, b1, b2⟩ := hy
  exact ⟨_, by unfold Format.add; rw [a1, b1]; rfl, nearest_bd _ _ _ _ (a2.sum s t b2) h1 h2⟩
theorem BD.sub {e : Int} {x y : Nat} (hx : BD e x) (hy : BD e y) (h1 : -900 ≤ e + 1) (h2 : e + 1 ≤ 900) : ∃ r, double.sub x y = some r ∧ BD (e + 1) r := by
  obtain ⟨s, m, i, a1, a2⟩ := hx
  obtain ⟨t, n, j, b1, b2⟩ := hy
  exact ⟨_, by unfold Format.sub; rw [a1, b1]; rfl, nearest_bd _ _ _ _ (a2.sum s (!t) b2) h1 h2⟩
/-- at least 2 ^ d -/
def LB (d : Int) (x : Nat) : Prop := ∃ s m i, double.read x = .number s m i ∧ m ≠ 0 ∧ d ≤ (m.log2 : Int) + i
theorem BD.div {e d : Int} {x y : Nat} (hx : BD e x) (hy : LB d y) (h1 : -900 ≤ e - d) (h2 : e - d ≤ 900) : ∃ r, double.div x y = some r ∧ BD (e - d) r := by
  obtain ⟨s, m, i, a1, a2⟩ := hx
  obtain ⟨t, n, j, b1, b2, b3⟩ := hy
  refine ⟨double.write (.number (s ^^ t) (2 * ((m <<< (double.fractionBits + 2 + n.log2 - m.log2)) / n) + ((m <<< (double.fractionBits + 2 + n.log2 - m.log2)) % n != 0).toNat) (i - j - (double.fractionBits + 2 + n.log2 - m.log2 : Nat) - 1)), by unfold Format.div; rw [a1, b1, quot_number _ _ _ _ _ _ _ b2]; rfl, ?_⟩
  refine nearest_bd _ _ _ _ ?_ h1 h2
  by_cases hm : m = 0
  · left
    subst hm
    rw [Nat.shiftLeft_eq, Nat.zero_mul, Nat.zero_div, Nat.zero_mod]
    rfl
  · have hei : (m.log2 : Int) + i ≤ e := by
      rcases a2.resolve_left hm with q | ⟨q, _⟩ <;> omega
    generalize hmo : double.fractionBits + 2 + n.log2 - m.log2 = more
    have hF : double.fractionBits = 52 := rfl
    rw [hF] at hmo
    obtain ⟨A, hA⟩ : ∃ A : Nat, (A : Int) = e - i + more - n.log2 := ⟨(e - i + more - n.log2).toNat, by omega⟩
    obtain ⟨E, hE⟩ : ∃ E : Nat, (E : Int) = e - i := ⟨(e - i).toNat, by omega⟩
    have k1 : m ≤ 2 ^ E := by
      have := a2.shl (base := i) (Int.le_refl _) hE
      rw [show (i - i).toNat = 0 by omega, Nat.shiftLeft_zero] at this
      exact this
    have k2 : m <<< more ≤ 2 ^ A * n := by
      rw [Nat.shiftLeft_eq]
      refine Nat.le_trans (Nat.mul_le_mul_right _ k1) (Nat.le_trans ?_ (Nat.mul_le_mul_left _ (Nat.log2_self_le b2)))
      rw [← Nat.pow_add, ← Nat.pow_add]
      exact Nat.pow_le_pow_right (by omega) (by omega)
    have hn : 0 < n := Nat.pos_of_ne_zero b2
    have k3 : 2 * (m <<< more / n) + (m <<< more % n != 0).toNat ≤ 2 ^ (A + 1) := by
      rw [Nat.pow_succ]
      have k4 : m <<< more / n ≤ 2 ^ A := Nat.div_le_of_le_mul (by rw [Nat.mul_comm]; exact k2)
      by_cases hz : m <<< more % n = 0
      · have : (m <<< more % n != 0) = false := by simp [hz]
        rw [this]
        show 2 * _ + 0 ≤ _
        omega
      · have k5 : m <<< more / n < 2 ^ A := by
          rcases Nat.lt_or_eq_of_le k4 with q | q
          · exact q
          · exfalso
            have k6 := Nat.div_add_mod (m <<< more) n
            rw [q, Nat.mul_comm n] at k6
            omega
        have : (m <<< more % n != 0) = true := by simp [hz]
        rw [this]
        show 2 * _ + 1 ≤ _
        omega
    exact (Ub.of_le (base := i - j - (more : Int) - 1) k3).more (by omega)

theorem nearest_lb (s : Bool) (m : Nat) (i : Int) (hm : m ≠ 0) (h1 : -1000 ≤ (m.log2 : Int) + i) (h2 : (m.log2 : Int) + i ≤ 800) : LB ((m.log2 : Int) + i) (double.nearest s m i) := by
  obtain ⟨last, hlast⟩ : ∃ last : Int, last = (m.log2 : Int) + i - 52 := ⟨_, rfl⟩
  obtain ⟨n, hn'⟩ : ∃ n : Nat, (n : Int) = last + 1074 := ⟨(last + 1074).toNat, by omega⟩
  have hlg : (m <<< (i - last).toNat).log2 = m.log2 + (i - last).toNat := by rw [Nat.shiftLeft_eq]; exact log2_shl hm _
  have hne : m <<< (i - last).toNat ≠ 0 := by rw [Nat.shiftLeft_eq]; exact Nat.mul_ne_zero hm (Nat.pos_iff_ne_zero.1 (Nat.two_pow_pos _))
  have k1 := cut_ge s (m <<< (i - last).toNat) (last - i).toNat (by rw [hlg]; omega) hne
  have k2 := cut_le s (m <<< (i - last).toNat) (last - i).toNat 53 (by rw [hlg]; omega) hne
  have hw : double.nearest s m i = double.word s (min (n * 2 ^ 52 + Toward.even.cut s (m <<< (i - last).toNat) (last - i).toNat) (2047 * 2 ^ 52)) := by
    have hF : double.fractionBits = 52 := rfl
    have hP : double.leastPlace = -1074 := rfl
    have hB : double.binade = 2 ^ 52 := rfl
    have hI : double.infRung = 2047 * 2 ^ 52 := rfl
    unfold Format.nearest
    rw [if_neg hm]
    have hmax : max (i + (m.log2 : Int) - (double.fractionBits : Int)) double.leastPlace = last := by rw [hF, hP]; omega
    dsimp only
    rw [hmax, hP, hB, hI]
    have h3 : (last - -1074).toNat = n := by omega
    rw [h3]
  generalize Toward.even.cut s (m <<< (i - last).toNat) (last - i).toNat = kept at *
  have hB : 0 < 2 ^ 52 := Nat.two_pow_pos _
  rw [hw]
  by_cases hk : kept < 2 ^ 53
  · have h6 := rung_lt (Nat.mul_le_mul_right (2 ^ 52) (show n ≤ 1974 by omega)) hk
    rw [Nat.min_eq_left (Nat.le_of_lt h6)]
    have hl : kept.log2 = 52 := (Nat.log2_eq_iff (by omega)).2 ⟨k1, hk⟩
    exact ⟨s, kept, _, read_rung s n kept k1 hk h6, by omega, by rw [hl]; omega⟩
  · have hk2 : kept = 2 ^ 53 := Nat.le_antisymm k2 (Nat.le_of_not_lt hk)
    have e53 : (2 : Nat) ^ 53 = 2 ^ 52 + 2 ^ 52 := by rw [Nat.pow_succ, Nat.mul_comm, Nat.two_mul]
    have h8 : n * 2 ^ 52 + kept = (n + 1) * 2 ^ 52 + 2 ^ 52 := by rw [hk2, e53, Nat.succ_mul, Nat.add_assoc]
    have h6 := rung_lt (q := 2 ^ 52) (Nat.mul_le_mul_right (2 ^ 52) (show n + 1 ≤ 1974 by omega)) (Nat.pow_lt_pow_right (by omega) (by omega))
    rw [h8, Nat.min_eq_left (Nat.le_of_lt h6)]
    exact ⟨s, 2 ^ 52, _, read_rung s (n + 1) (2 ^ 52) (Nat.le_refl _) (Nat.pow_lt_pow_right (by omega) (by omega)) h6, by omega, by rw [log2_two_pow]; omega⟩
def d1 : Nat := 4607182418800017408
def d2 : Nat := 4611686018427387904
theorem d1_read : double.read d1 = .number false (2 ^ 52) (-52) := by decide
/-- from 0.75 on, below 1.5 -/
theorem mid_two {q : Nat} {I : Int} (h1 : lt75 q I = false) (h2 : lt15 q I = true) : (I = -53 ∧ 3 * 2 ^ 51 ≤ q) ∨ (I = -52 ∧ q < 3 * 2 ^ 51) := by
  unfold lt75 at h1
  unfold lt15 at h2
  simp only [Bool.or_eq_true, Bool.and_eq_true, decide_eq_true_eq, Bool.or_eq_false_iff, Bool.and_eq_false_iff, decide_eq_false_iff_not] at h1 h2
  rcases h2 with h2 | ⟨h2, h3⟩
  · left
    rcases h1 with ⟨a, b⟩
    rcases b with b | b
    · omega
    · exact ⟨by omega, by omega⟩
  · exact .inr ⟨h2, h3⟩
theorem mid_sub {q : Nat} {I : Int} {y : Nat} (h : Nrm false q I y) (hm : (I = -53 ∧ 3 * 2 ^ 51 ≤ q) ∨ (I = -52 ∧ q < 3 * 2 ^ 51)) : ∃ r, double.sub y d1 = some r ∧ BD (-1) r := by
  refine ⟨_, by unfold Format.sub; rw [h.rd, d1_read]; rfl, ?_⟩
  refine nearest_bd _ _ _ _ ?_ (by omega) (by omega)
  have hlo := h.lo
  have hhi := h.hi
  have p52 : (2 : Nat) ^ 52 = 2 * 2 ^ 51 := by rw [Nat.pow_succ, Nat.mul_comm]
  have p53 : (2 : Nat) ^ 53 = 4 * 2 ^ 51 := by rw [Nat.pow_succ, p52, Nat.mul_comm, ← Nat.mul_assoc]
  rcases hm with ⟨rfl, hm⟩ | ⟨rfl, hm⟩
  · have e : (signed false q (-53 - min (-53) (-52) : Int).toNat + signed (!false) (2 ^ 52) (-52 - min (-53) (-52) : Int).toNat).natAbs ≤ 2 ^ 51 := by
      show ((q : Int) + -((2 ^ 53 : Nat) : Int)).natAbs ≤ 2 ^ 51
      rw [p53] at hhi ⊢
      generalize (2 : Nat) ^ 51 = B at *
      omega
    exact (Ub.of_le (base := min (-53) (-52)) e).more (by decide)
  · have e : (signed false q (-52 - min (-52) (-52) : Int).toNat + signed (!false) (2 ^ 52) (-52 - min (-52) (-52) : Int).toNat).natAbs ≤ 2 ^ 51 := by
      show ((q : Int) + -((2 ^ 52 : Nat) : Int)).natAbs ≤ 2 ^ 51
      rw [p52] at hlo ⊢
      generalize (2 : Nat) ^ 51 = B at *
      omega
    exact (Ub.of_le (base := min (-52) (-52)) e).more (by decide)

theorem mid_add {q : Nat} {I : Int} {y : Nat} (h : Nrm false q I y) (hm : (I = -53 ∧ 3 * 2 ^ 51 ≤ q) ∨ (I = -52 ∧ q < 3 * 2 ^ 51)) : ∃ r, double.add y d1 = some r ∧ LB 0 r := by
  have p53 : (2 : Nat) ^ 53 = 2 ^ 52 + 2 ^ 52 := by rw [Nat.pow_succ, Nat.mul_comm, Nat.two_mul]
  have hB : 0 < (2 : Nat) ^ 52 := Nat.two_pow_pos _
  have key : ∀ (N : Nat) (base : Int), 2 ^ 53 ≤ N → N < 2 ^ 55 → (base = -53 ∨ base = -52) → LB 0 (double.nearest false N base) := by
    intro N base h1 h2 h3
    have hN : N ≠ 0 := by have := Nat.two_pow_pos 53; omega
    have l1 : 53 ≤ N.log2 := (Nat.le_log2 hN).2 h1
    have l2 := log2_lt' h2 hN
    obtain ⟨s, m, i, a, b, c⟩ := nearest_lb false N base hN (by omega) (by omega)
    exact ⟨s, m, i, a, b, by omega⟩
  have p55 : (2 : Nat) ^ 55 = 8 * 2 ^ 52 := by rw [show (8 : Nat) = 2 ^ 3 by rfl, ← Nat.pow_add]
  have hlo := h.lo
  have hhi := h.hi
  refine ⟨_, by unfold Format.add; rw [h.rd, d1_read]; rfl, ?_⟩
  rcases hm with ⟨rfl, _⟩ | ⟨rfl, _⟩
  · have e : signed false q (-53 - min (-53) (-52) : Int).toNat + signed false (2 ^ 52) (-52 - min (-53) (-52) : Int).toNat = ((q + 2 ^ 53 : Nat) : Int) := by
      show ((q : Int) + ((2 ^ 53 : Nat) : Int)) = _
      omega
    show LB 0 (double.nearest (if _ = 0 then _ else decide (_ < 0)) _ _)
    rw [e]
    have h0 : ¬ ((q + 2 ^ 53 : Nat) : Int) = 0 := by omega
    rw [if_neg h0, decide_eq_false (by omega), Int.natAbs_natCast]
    exact key _ _ (by omega) (by rw [p55, p53] at *; omega) (.inl (by decide))
  · have e : signed false q (-52 - min (-52) (-52) : Int).toNat + signed false (2 ^ 52) (-52 - min (-52) (-52) : Int).toNat = ((q + 2 ^ 52 : Nat) : Int) := by
      show ((q : Int) + ((2 ^ 52 : Nat) : Int)) = _
      omega
    show LB 0 (double.nearest (if _ = 0 then _ else decide (_ < 0)) _ _)
    rw [e]
    have h0 : ¬ ((q + 2 ^ 52 : Nat) : Int) = 0 := by omega
    rw [if_neg h0, decide_eq_false (by omega), Int.natAbs_natCast]
    exact key _ _ (by rw [p53]; omega) (by rw [p55, p53] at *; omega) (.inr (by decide))
/-- floats that stand for k, and 1 / k -/
def fD (v : Int) : Nat := floatOfInt .f64 v
theorem recip : ∀ k : Nat, k < 13 → ∃ c, double.div d1 (fD (25 - 2 * (k : Int))) = some c ∧ BD 0 c := by
  have key : ∀ k : Nat, k < 13 → BD 0 ((double.div d1 (fD (25 - 2 * (k : Int)))).getD 0) ∧ (double.div d1 (fD (25 - 2 * (k : Int)))).isSome = true := by
    intro k hk
    have h1 : ∀ k : Nat, k < 13 → LB 0 (fD (25 - 2 * ((k : Nat) : Int))) := by
      intro k hk
      have hm : (25 - 2 * (k : Int)).natAbs ≠ 0 := by omega
      have h2 : ((25 - 2 * (k : Int)) < 0 : Bool) = false := by simp; omega
      show LB 0 (double.nearest ((25 - 2 * (k : Int)) < 0) (25 - 2 * (k : Int)).natAbs 0)
      have l2 := log2_lt' (show (25 - 2 * (k : Int)).natAbs < 2 ^ 5 by omega) hm
      obtain ⟨s, m, i, a, b, c⟩ := nearest_lb ((25 - 2 * (k : Int)) < 0) (25 - 2 * (k : Int)).natAbs 0 hm (by omega) (by omega)
      exact ⟨s, m, i, a, b, by omega⟩
    have h3 : BD 0 d1 := ⟨false, 2 ^ 52, -52, d1_read, .inr (.inr (by decide))⟩
    obtain ⟨c, e1, e2⟩ := BD.div h3 (h1 k hk) (by omega) (by omega)
    rw [e1]
    exact ⟨e2, rfl⟩
  intro k hk
  obtain ⟨h1, h2⟩ := key k hk
  obtain ⟨c, hc⟩ := Option.isSome_iff_exists.1 h2
  rw [hc] at h1
  exact ⟨c, hc, h1⟩

theorem fD_sub : ∀ k : Nat, k < 300 → double.sub (fD (-(k : Int))) d1 = some (fD (-((k + 1 : Nat) : Int))) := by decide +kernel
theorem fD_add : ∀ k : Nat, k < 300 → double.add (fD (k : Int)) d1 = some (fD ((k + 1 : Nat) : Int)) := by decide +kernel
theorem fD_step : ∀ k : Nat, k < 13 → double.sub (fD (25 - 2 * (k : Int))) d2 = some (fD (25 - 2 * ((k + 1 : Nat) : Int))) := by decide +kernel
theorem fD_bd {v : Int} (h : v.natAbs ≤ 2 ^ 8) : BD 8 (fD v) := by
  show BD 8 (double.nearest (v < 0) v.natAbs 0)
  exact nearest_bd _ _ _ _ (Ub.of_le (base := 0) (E := 8) h) (by omega) (by omega)
def addD (x y : Nat) : Nat := (double.add x y).getD 0
def mulD (x y : Nat) : Nat := (double.mul x y).getD 0
def recD (k : Nat) : Nat := (double.div d1 (fD (25 - 2 * (k : Int)))).getD 0
theorem addD_ok {e : Int} {x y : Nat} (hx : BD e x) (hy : BD e y) (h1 : -900 ≤ e + 1) (h2 : e + 1 ≤ 900) : double.add x y = some (addD x y) ∧ BD (e + 1) (addD x y) := by
  obtain ⟨r, a, b⟩ := BD.add hx hy h1 h2
  have e : addD x y = r := by unfold addD; rw [a]; rfl
  rw [e]
  exact ⟨a, b⟩
theorem mulD_ok {e1 e2 : Int} {x y : Nat} (hx : BD e1 x) (hy : BD e2 y) (h1 : -900 ≤ e1 + e2) (h2 : e1 + e2 ≤ 900) : double.mul x y = some (mulD x y) ∧ BD (e1 + e2) (mulD x y) := by
  obtain ⟨r, a, b⟩ := BD.mul hx hy h1 h2
  have e : mulD x y = r := by unfold mulD; rw [a]; rfl
  rw [e]
  exact ⟨a, b⟩
theorem recD_ok {k : Nat} (h : k < 13) : double.div d1 (fD (25 - 2 * (k : Int))) = some (recD k) ∧ BD 0 (recD k) := by
  obtain ⟨c, a, b⟩ := recip k h
  have e : recD k = c := by unfold recD; rw [a]; rfl
  rw [e]
  exact ⟨a, b⟩
/-- the series -/
def serQ (u : Nat) : Nat → Nat
  | 0 => 0
  | k + 1 => addD (recD k) (mulD u (serQ u k))
theorem BD.zero (e : Int) : BD e 0 := ⟨false, 0, -1074, by decide, .inl rfl⟩
theorem serQ_bd {u : Nat} (hu : BD (-2) u) : ∀ k, k ≤ 13 → BD 1 (serQ u k) := by
  intro k
  induction k with
  | zero => intro _; exact BD.zero _
  | succ k ih =>
    intro hk
    have h1 := (mulD_ok hu (ih (by omega)) (by omega) (by omega)).2
    exact (addD_ok (recD_ok (show k < 13 by omega)).2 (h1.more (by omega)) (by omega) (by omega)).2
theorem serQ_step {u : Nat} (hu : BD (-2) u) {k : Nat} (hk : k < 13) :
    double.div d1 (fD (25 - 2 * (k : Int))) = some (recD k) ∧ double.mul u (serQ u k) = some (mulD u (serQ u k)) ∧ double.add (recD k) (mulD u (serQ u k)) = some (serQ u (k + 1)) := by
  have h0 := mulD_ok hu (serQ_bd hu k (by omega)) (by omega) (by omega)
  exact ⟨(recD_ok hk).1, h0.1, (addD_ok (recD_ok hk).2 (h0.2.more (by omega)) (by omega) (by omega)).1⟩
/-- a number of 64 bits that is not too great has one of 32 -/
theorem narrow_ok {y : Nat} (h : BD 100 y) : ∃ b, floatToFloatBits .f64 y .f32 = some b := by
  obtain ⟨s, m, i, h1, h2⟩ := h
  have h3 : m = 0 ∨ (m.log2 : Int) + i < ((101 : Nat) : Int) := by
    rcases h2 with h | h | ⟨h, _⟩
    · exact .inl h
    · exact .inr (by omega)
    · exact .inr (by omega)
  obtain ⟨s', m', i', k1, _, _⟩ := nearest_fb s m i 101 h3 (by omega)
  refine ⟨single.nearest s m i, ?_⟩
  unfold floatToFloatBits
  have e4 : FloatKind.f64.decode y = .number s m i := h1
  have e5 : FloatKind.f32.decode (FloatKind.f32.encode (.number s m i)) = .number s' m' i' := k1
  rw [if_neg (by decide), e4]
  show (if (FloatKind.f32.decode (FloatKind.f32.encode (.number s m i))).isInfinity then none else some (FloatKind.f32.encode (.number s m i))) = _
  rw [e5]
  rfl

open Go.RowKit

/-- how often it is doubled, how often it is halved -/
def up75 (q : Nat) (I : Int) : Nat := if q < 3 * 2 ^ 51 then (-52 - I).toNat else (-53 - I).toNat
def dn15 (q : Nat) (I : Int) : Nat := if q < 3 * 2 ^ 51 then (I + 52).toNat else (I + 53).toNat
theorem lt75_up (q : Nat) (I : Int) (k : Nat) (hk : k ≤ up75 q I) : lt75 q (I + k) = decide (k < up75 q I) := by
  unfold lt75 up75 at *
  rw [Bool.eq_iff_iff]
  simp only [Bool.or_eq_true, Bool.and_eq_true, decide_eq_true_eq]
  by_cases h : q < 3 * 2 ^ 51
  · rw [if_pos h] at hk ⊢
    constructor
    · rintro (z | ⟨z, _⟩) <;> omega
    · intro z
      by_cases e : I + (k : Int) = -53
      · exact .inr ⟨e, h⟩
      · left; omega
  · rw [if_neg h] at hk ⊢
    constructor
    · rintro (z | ⟨z, z2⟩)
      · omega
      · exact absurd z2 h
    · intro z; left; omega
theorem lt15_dn (q : Nat) (I : Int) (k : Nat) (hk : k ≤ dn15 q I) : lt15 q (I - k) = !decide (k < dn15 q I) := by
  unfold lt15 dn15 at *
  rw [Bool.eq_iff_iff]
  simp only [Bool.or_eq_true, Bool.and_eq_true, decide_eq_true_eq, Bool.not_eq_true', decide_eq_false_iff_not]
  by_cases h : q < 3 * 2 ^ 51
  · rw [if_pos h] at hk ⊢
    constructor
    · rintro (z | ⟨z, _⟩) <;> omega
    · intro z
      by_cases e : I - (k : Int) = -52
      · exact .inr ⟨e, h⟩
      · left; omega
  · rw [if_neg h] at hk ⊢
    constructor
    · rintro (z | ⟨z, z2⟩)
      · omega
      · exact absurd z2 h
    · intro z; left; omega
def c75 : Nat := 4604930618986332160
def c15 : Nat := 4609434218613702656
theorem c75_read : Ieee.double.read c75 = .number false (3 * 2 ^ 51) (-53) := by decide
theorem c15_read : Ieee.double.read c15 = .number false (3 * 2 ^ 51) (-52) := by decide
theorem order75 {q : Nat} {I : Int} {y : Nat} (h : Nrm false q I y) : (Ieee.double.order y c75 == some .lt) = lt75 q I := by
  rw [order_c h c75_read]
  unfold lt75
  by_cases a : I < -53 ∨ (I = -53 ∧ q < 3 * 2 ^ 51)
  · rw [if_pos a]
    have : (decide (I ≤ -54) || (decide (I = -53) && decide (q < 3 * 2 ^ 51))) = true := by
      simp only [Bool.or_eq_true, Bool.and_eq_true, decide_eq_true_eq]
      rcases a with a | a
      · left; omega
      · exact .inr a
    rw [this]; rfl
  · rw [if_neg a]
    have : (decide (I ≤ -54) || (decide (I = -53) && decide (q < 3 * 2 ^ 51))) = false := by
      rw [Bool.eq_false_iff]
      intro z
      simp only [Bool.or_eq_true, Bool.and_eq_true, decide_eq_true_eq] at z
      apply a
      rcases z with z | z
      · left; omega
      · exact .inr z
    rw [this]
    split <;> rfl
theorem order15 {q : Nat} {I : Int} {y : Nat} (h : Nrm false q I y) : (Ieee.double.order y c15 == some .gt || Ieee.double.order y c15 == some .eq) = !lt15 q I := by
  rw [order_c h c15_read]
  unfold lt15
  by_cases a : I < -52 ∨ (I = -52 ∧ q < 3 * 2 ^ 51)
  · rw [if_pos a]
    have : (decide (I ≤ -53) || (decide (I = -52) && decide (q < 3 * 2 ^ 51))) = true := by
      simp only [Bool.or_eq_true, Bool.and_eq_true, decide_eq_true_eq]
      rcases a with a | a
      · left; omega
      · exact .inr a
    rw [this]; rfl
  · rw [if_neg a]
    have : (decide (I ≤ -53) || (decide (I = -52) && decide (q < 3 * 2 ^ 51))) = false := by
      rw [Bool.eq_false_iff]
      intro z
      simp only [Bool.or_eq_true, Bool.and_eq_true, decide_eq_true_eq] at z
      apply a
      rcases z with z | z
      · left; omega
      · exact .inr z
    rw [this]
    split <;> rfl
/-- doubled k times, halved k times -/
def dblN (y : Nat) : Nat → Nat
  | 0 => y
  | k + 1 => (Ieee.double.mul (dblN y k) d2).getD 0
def hlvN (y : Nat) : Nat → Nat
  | 0 => y
  | k + 1 => (Ieee.double.div (hlvN y k) d2).getD 0
theorem dblN_nrm {q : Nat} {I : Int} {y : Nat} (h : Nrm false q I y) (h1 : -201 ≤ I) : ∀ k : Nat, I + k ≤ 700 → Nrm false q (I + k) (dblN y k) := by
  intro k
  induction k with
  | zero => intro _; rw [show I + ((0 : Nat) : Int) = I by omega]; exact h
  | succ k ih =>
    intro hk
    obtain ⟨r, a, b⟩ := (ih (by omega)).dbl (by omega) (by omega)
    have e : dblN y (k + 1) = r := by show (Ieee.double.mul (dblN y k) d2).getD 0 = r; unfold d2; rw [a]; rfl
    rw [e, show I + ((k + 1 : Nat) : Int) = I + (k : Int) + 1 by omega]
    exact b
theorem dblN_step {q : Nat} {I : Int} {y : Nat} (h : Nrm false q I y) (h1 : -201 ≤ I) (k : Nat) (hk : I + k ≤ 700) : Ieee.double.mul (dblN y k) d2 = some (dblN y (k + 1)) := by
  obtain ⟨r, a, b⟩ := (dblN_nrm h h1 k hk).dbl (by omega) (by omega)
  have e : dblN y (k + 1) = r := by show (Ieee.double.mul (dblN y k) d2).getD 0 = r; unfold d2; rw [a]; rfl
  rw [e]
  exact a
theorem hlvN_nrm {q : Nat} {I : Int} {y : Nat} (h : Nrm false q I y) (h1 : I ≤ 800) : ∀ k : Nat, -900 ≤ I - k → Nrm false q (I - k) (hlvN y k) := by
  intro k
  induction k with
  | zero => intro _; rw [show I - ((0 : Nat) : Int) = I by omega]; exact h
  | succ k ih =>
    intro hk
    obtain ⟨r, a, b⟩ := (ih (by omega)).half (by omega) (by omega)
    have e : hlvN y (k + 1) = r := by show (Ieee.double.div (hlvN y k) d2).getD 0 = r; unfold d2; rw [a]; rfl
    rw [e, show I - ((k + 1 : Nat) : Int) = I - (k : Int) - 1 by omega]
    exact b
theorem hlvN_step {q : Nat} {I : Int} {y : Nat} (h : Nrm false q I y) (h1 : I ≤ 800) (k : Nat) (hk : -900 ≤ I - k) : Ieee.double.div (hlvN y k) d2 = some (hlvN y (k + 1)) := by
  obtain ⟨r, a, b⟩ := (hlvN_nrm h h1 k hk).half (by omega) (by omega)
  have e : hlvN y (k + 1) = r := by show (Ieee.double.div (hlvN y k) d2).getD 0 = r; unfold d2; rw [a]; rfl
  rw [e]
  exact a

theorem kh {q : Nat} {I : Int} : (up75 q I = 0 ∨ dn15 q I = 0) ∧ dn15 q (I + up75 q I) = dn15 q I ∧ up75 q (I - dn15 q I) = up75 q I := by
  unfold up75 dn15
  by_cases h : q < 3 * 2 ^ 51
  · simp only [if_pos h]
    omega
  · simp only [if_neg h]
    omega
theorem kh_bd {q : Nat} {I : Int} (h1 : -201 ≤ I) (h2 : I ≤ 75) : up75 q I ≤ 200 ∧ dn15 q I ≤ 200 := by
  unfold up75 dn15
  by_cases h : q < 3 * 2 ^ 51
  · simp only [if_pos h]
    omega
  · simp only [if_neg h]
    omega
theorem kh_mid {q : Nat} {I : Int} (h1 : 2 ^ 52 ≤ q) : lt75 q (I + up75 q I - dn15 q I) = false ∧ lt15 q (I + up75 q I - dn15 q I) = true := by
  obtain ⟨a, b, c⟩ := kh (q := q) (I := I)
  have e1 := lt75_up q I (up75 q I) (Nat.le_refl _)
  rw [decide_eq_false (Nat.lt_irrefl _)] at e1
  have e2 := lt15_dn q (I + up75 q I) (dn15 q I) (by rw [b]; exact Nat.le_refl _)
  rw [b, decide_eq_false (Nat.lt_irrefl _)] at e2
  refine ⟨?_, e2⟩
  rcases a with a | a
  · rw [a] at e1 ⊢
    have e3 := lt75_up q (I - dn15 q I) 0 (Nat.zero_le _)
    rw [c, a] at e3
    have e4 : I + ((0 : Nat) : Int) - (dn15 q I : Int) = I - (dn15 q I : Int) + ((0 : Nat) : Int) := by omega
    rw [e4, e3]
    exact decide_eq_false (Nat.lt_irrefl _)
  · rw [a]
    have e4 : I + (up75 q I : Int) - ((0 : Nat) : Int) = I + (up75 q I : Int) := by omega
    rw [e4]
    exact e1
def lnC : Nat := 4604418534313441775
def yE (q : Nat) (I : Int) (y : Nat) : Nat := hlvN (dblN y (up75 q I)) (dn15 q I)
def sE (x : Nat) : Nat := (Ieee.double.div ((Ieee.double.sub x d1).getD 0) ((Ieee.double.add x d1).getD 0)).getD 0
def logE (x : Nat) (e : Int) : Nat := addD (mulD d2 (mulD (sE x) (serQ (mulD (sE x) (sE x)) 13))) (mulD (fD e) lnC)
theorem sE_ok {q : Nat} {I : Int} {x : Nat} (h : Nrm false q I x) (h1 : lt75 q I = false) (h2 : lt15 q I = true) :
    ∃ a b, Ieee.double.sub x d1 = some a ∧ Ieee.double.add x d1 = some b ∧ Ieee.double.div a b = some (sE x) ∧ BD (-1) (sE x) := by
  obtain ⟨a, ha, ha2⟩ := mid_sub h (mid_two h1 h2)
  obtain ⟨b, hb, hb2⟩ := mid_add h (mid_two h1 h2)
  obtain ⟨r, hr, hr2⟩ := BD.div ha2 hb2 (by omega) (by omega)
  have e : sE x = r := by unfold sE; rw [ha, hb]; show (Ieee.double.div a b).getD 0 = r; rw [hr]; rfl
  rw [e]
  exact ⟨a, b, ha, hb, hr, hr2.more (by omega)⟩
theorem logE_ok {x : Nat} {e : Int} (hs : BD (-1) (sE x)) (he : e.natAbs ≤ 2 ^ 8) :
    Ieee.double.mul (sE x) (sE x) = some (mulD (sE x) (sE x)) ∧ BD (-2) (mulD (sE x) (sE x)) ∧
    Ieee.double.mul (sE x) (serQ (mulD (sE x) (sE x)) 13) = some (mulD (sE x) (serQ (mulD (sE x) (sE x)) 13)) ∧
    Ieee.double.mul d2 (mulD (sE x) (serQ (mulD (sE x) (sE x)) 13)) = some (mulD d2 (mulD (sE x) (serQ (mulD (sE x) (sE x)) 13))) ∧
    Ieee.double.mul (fD e) lnC = some (mulD (fD e) lnC) ∧
    Ieee.double.add (mulD d2 (mulD (sE x) (serQ (mulD (sE x) (sE x)) 13))) (mulD (fD e) lnC) = some (logE x e) ∧ BD 100 (logE x e) := by
  have u := mulD_ok hs hs (by omega) (by omega)
  have u2 : BD (-2) (mulD (sE x) (sE x)) := u.2
  have q := serQ_bd u2 13 (Nat.le_refl _)
  have a := mulD_ok hs q (by omega) (by omega)
  have b2 : BD 1 d2 := ⟨false, 2 ^ 52, -51, by decide, .inr (.inr (by decide))⟩
  have b := mulD_ok b2 a.2 (by omega) (by omega)
  have cl : BD 0 lnC := ⟨false, 6243314768165359, -53, by decide, .inr (.inl (by decide))⟩
  have c := mulD_ok (fD_bd he) cl (by omega) (by omega)
  have d := addD_ok (e := 8) (b.2.more (by omega)) (c.2.more (by omega)) (by omega) (by omega)
  exact ⟨u.1, u2, a.1, b.1, c.1, d.1, d.2.more (by omega)⟩

def mesU : Value → Nat
  | .float _ b => match Ieee.double.read b with | .number _ _ i => (900 - i).toNat | _ => 0
  | _ => 0
def mesD : Value → Nat
  | .float _ b => match Ieee.double.read b with | .number _ _ i => (1100 + i).toNat | _ => 0
  | _ => 0
theorem mesU_nrm {s : Bool} {q : Nat} {I : Int} {x : Nat} (h : Nrm s q I x) : mesU (.float .f64 x) = (900 - I).toNat := by
  show (match Ieee.double.read x with | .number _ _ i => (900 - i).toNat | _ => 0) = _
  rw [h.rd]
theorem mesD_nrm {s : Bool} {q : Nat} {I : Int} {x : Nat} (h : Nrm s q I x) : mesD (.float .f64 x) = (1100 + I).toNat := by
  show (match Ieee.double.read x with | .number _ _ i => (1100 + i).toNat | _ => 0) = _
  rw [h.rd]
theorem ord_k : ∀ j : Nat, j < 14 → (Ieee.double.order (fD (25 - 2 * (j : Int))) d1 == some .gt || Ieee.double.order (fD (25 - 2 * (j : Int))) d1 == some .eq) = decide (j < 13) := by decide +kernel
theorem fD25 : fD (25 - 2 * ((0 : Nat) : Int)) = 4627730092099895296 := by decide +kernel

/-- the series' own measure -/
def mesK : Value → Nat
  | .float _ b => if b < 9223372036854775808 then b else 0
  | _ => 0
theorem mesK_step : ∀ j : Nat, j < 13 → mesK (.float .f64 (fD (25 - 2 * ((j + 1 : Nat) : Int)))) < mesK (.float .f64 (fD (25 - 2 * (j : Int)))) := by decide +kernel

set_option maxHeartbeats 1600000 in
theorem logarithm_any {y q : Nat} {I : Int} (h : Nrm false q I y) (h1 : -201 ≤ I) (h2 : I ≤ 75) (w : World) :
    Calls Try.prog 67 #[.float .f64 y] w (RetS w (.float .f64 (logE (yE q I y) ((dn15 q I : Int) - (up75 q I : Int))))) := by
  have hf : FloatKind.f64.format = Ieee.double := rfl
  obtain ⟨hkh, hkb, hkc⟩ := kh (q := q) (I := I)
  obtain ⟨hb1, hb2⟩ := kh_bd (q := q) h1 h2
  obtain ⟨hm1, hm2⟩ := kh_mid (I := I) h.lo
  have HN := Lib.hid (fun k (hk : k ≤ up75 q I) => dblN_nrm h h1 k (by omega))
  have HS := Lib.hid (fun k (hk : k ≤ up75 q I) => dblN_step h h1 k (by omega))
  have HO := Lib.hid (fun k (hk : k ≤ up75 q I) => (order75 (dblN_nrm h h1 k (by omega))).trans (lt75_up q I k hk))
  have hK := dblN_nrm h h1 (up75 q I) (by omega)
  have HN2 := Lib.hid (fun k (hk : k ≤ dn15 q I) => hlvN_nrm hK (by omega) k (by omega))
  have HS2 := Lib.hid (fun k (hk : k ≤ dn15 q I) => hlvN_step hK (by omega) k (by omega))
  have HO2 := Lib.hid (fun k (hk : k ≤ dn15 q I) => (order15 (hlvN_nrm hK (by omega) k (by omega))).trans (congrArg (!·) (lt15_dn q (I + up75 q I) k (by rw [hkb]; exact hk))))
  rw [hkb] at HO2
  have hE := hlvN_nrm hK (by omega) (dn15 q I) (by omega)
  have HL := Lib.hid (sE_ok hE hm1 hm2)
  have HYE : Hid (yE q I y = hlvN (dblN y (up75 q I)) (dn15 q I)) := rfl
  generalize yE q I y = YE at *
  generalize hKK : up75 q I = K at *
  generalize hHH : dn15 q I = H at *
  have H0 : Hid (dblN y 0 = y) := rfl
  have HF0 : Hid (fD (-((0 : Nat) : Int)) = 0) := by show _ = _; decide +kernel
  clear hE hK hkb hkc hm1 hm2 h hKK hHH
  go_enter Try.func67, Try.ntmps67
  go_wp2
  go_loop [0, 3] (fun vx ve => ∃ k : Nat, k ≤ K ∧ vx = .float .f64 (dblN y k) ∧ ve = .float .f64 (fD (-(k : Int)))) (fun vx _ => mesU vx)
  case atStart => exact ⟨0, by omega, by rw [H0.out], by rw [HF0.out]⟩
  case round =>
    obtain ⟨k, hk, rfl, rfl⟩ := hrel
    have hn1 := HN.out k hk
    have ho := HO.out k hk
    have hs := HS.out k hk
    by_cases hlt : k < K
    · rw [decide_eq_true hlt] at ho
      have hn2 := HN.out (k + 1) (by omega)
      have hsb := fD_sub k (by omega)
      have HMe : Hid (mesU (.float .f64 (dblN y (k + 1))) < mesU (.float .f64 (dblN y k))) := by show _ < _; rw [mesU_nrm hn1, mesU_nrm hn2]; omega
      clear hn1 hn2
      generalize dblN y k = y0 at *
      generalize hy1 : dblN y (k + 1) = y1 at *
      have HY1 := Lib.hid hy1
      generalize fD (-(k : Int)) = f0 at *
      generalize hf1 : fD (-((k + 1 : Nat) : Int)) = f1 at *
      have HF1 := Lib.hid hf1
      have hopM : ∀ t W, (binOp .mul t (.float .f64 y0) (.float .f64 4611686018427387904)).run Try.prog W = .ok (.float .f64 y1) W := fun t W => run_float_arith W .mul t .f64 _ _ y1 hs
      have hopS : ∀ t W, (binOp .sub t (.float .f64 f0) (.float .f64 4607182418800017408)).run Try.prog W = .ok (.float .f64 f1) W := fun t W => run_float_arith W .sub t .f64 _ _ f1 hsb
      unfold c75 at ho
      clear hs hsb hy1 hf1
      go_wp2_with (simp only [hopM, hopS])
      go_round
      case rel => exact ⟨k + 1, by omega, by rw [HY1.out], by rw [HF1.out]⟩
      case measure => exact HMe.out
    · obtain rfl : K = k := by omega
      rw [decide_eq_false (Nat.lt_irrefl _)] at ho
      unfold c75 at ho
      clear hs hn1
      have HX0 : Hid (hlvN (dblN y K) 0 = dblN y K) := rfl
      have HG0 : Hid (fD (((0 : Nat) : Int) - (K : Int)) = fD (-(K : Int))) := by show _ = _; congr 1; omega
      go_wp2
      go_loop [0, 3] (fun vx ve => ∃ k : Nat, k ≤ H ∧ vx = .float .f64 (hlvN (dblN y K) k) ∧ ve = .float .f64 (fD ((k : Int) - (K : Int)))) (fun vx _ => mesD vx)
      case atStart => exact ⟨0, by omega, by rw [HX0.out], by rw [HG0.out]⟩
      case round =>
        obtain ⟨k, hk2, rfl, rfl⟩ := hrel
        have hn1 := HN2.out k hk2
        have ho2 := HO2.out k hk2
        have hs2 := HS2.out k hk2
        by_cases hlt2 : k < H
        · have hK0 : K = 0 := by omega
          have hee : ((Ieee.double.order (hlvN (dblN y K) k) c15 == some .gt) || (Ieee.double.order (hlvN (dblN y K) k) c15 == some .eq)) = true := by rw [ho2, decide_eq_true hlt2]; rfl
          have hn2 := HN2.out (k + 1) (by omega)
          have hab := fD_add k (by omega)
          have e1 : ((k : Nat) : Int) - (K : Int) = (k : Int) := by omega
          have e2 : ((k + 1 : Nat) : Int) - (K : Int) = ((k + 1 : Nat) : Int) := by omega
          have HMe : Hid (mesD (.float .f64 (hlvN (dblN y K) (k + 1))) < mesD (.float .f64 (hlvN (dblN y K) k))) := by show _ < _; rw [mesD_nrm hn1, mesD_nrm hn2]; omega
          rw [← e1, ← e2] at hab
          unfold c15 at hee
          clear hn1 hn2 ho2 e1 e2 hK0 ho
          generalize hlvN (dblN y K) k = y0 at *
          generalize hy1 : hlvN (dblN y K) (k + 1) = y1 at *
          have HY1 := Lib.hid hy1
          generalize fD ((k : Int) - (K : Int)) = f0 at *
          generalize hf1 : fD (((k + 1 : Nat) : Int) - (K : Int)) = f1 at *
          have HF1 := Lib.hid hf1
          have hopQ : ∀ t W, (binOp .quo t (.float .f64 y0) (.float .f64 4611686018427387904)).run Try.prog W = .ok (.float .f64 y1) W := fun t W => run_float_arith W .quo t .f64 _ _ y1 hs2
          have hopA : ∀ t W, (binOp .add t (.float .f64 f0) (.float .f64 4607182418800017408)).run Try.prog W = .ok (.float .f64 f1) W := fun t W => run_float_arith W .add t .f64 _ _ f1 hab
          clear hs2 hab hy1 hf1
          go_wp2_with (simp only [hopQ, hopA])
          go_round
          case rel => exact ⟨k + 1, by omega, by rw [HY1.out], by rw [HF1.out]⟩
          case measure => exact HMe.out
        · obtain rfl : H = k := by omega
          have hee : ((Ieee.double.order (hlvN (dblN y K) H) c15 == some .gt) || (Ieee.double.order (hlvN (dblN y K) H) c15 == some .eq)) = false := by rw [ho2, decide_eq_false (Nat.lt_irrefl _)]; rfl
          unfold c15 at hee
          have hye := HYE.out
          rw [← hye] at hee ⊢
          obtain ⟨sa, sb, r1, r2, r3, r4⟩ := HL.out
          rw [← hye] at r1 r2 r3 r4
          obtain ⟨r5, r6, r7, r8, r9, r10, _⟩ := logE_ok (x := YE) (e := (H : Int) - (K : Int)) r4 (by omega)
          have HSer := Lib.hid (fun j (hj : j < 13) => serQ_step r6 hj)
          have HF25 := Lib.hid fD25
          have HSer0 : Hid (serQ (mulD (sE YE) (sE YE)) 0 = 0) := rfl
          clear r4 r6 ho hs2 hn1 ho2 hye HL HYE
          generalize hLOG : logE YE ((H : Int) - (K : Int)) = LOG at *
          generalize mulD (sE YE) (sE YE) = U at *
          generalize mulD d2 (mulD (sE YE) (serQ U 13)) = M2 at *
          generalize mulD (sE YE) (serQ U 13) = M1 at *
          generalize sE YE = SE at *
          generalize mulD (fD ((H : Int) - (K : Int))) lnC = M3 at *
          generalize fD ((H : Int) - (K : Int)) = FE at *
          have hop1 : ∀ t W, (binOp .sub t (.float .f64 YE) (.float .f64 4607182418800017408)).run Try.prog W = .ok (.float .f64 sa) W := fun t W => run_float_arith W .sub t .f64 _ _ sa r1
          have hop2 : ∀ t W, (binOp .add t (.float .f64 YE) (.float .f64 4607182418800017408)).run Try.prog W = .ok (.float .f64 sb) W := fun t W => run_float_arith W .add t .f64 _ _ sb r2
          have hop3 : ∀ t W, (binOp .quo t (.float .f64 sa) (.float .f64 sb)).run Try.prog W = .ok (.float .f64 SE) W := fun t W => run_float_arith W .quo t .f64 _ _ SE r3
          have hop4 : ∀ t W, (binOp .mul t (.float .f64 SE) (.float .f64 SE)).run Try.prog W = .ok (.float .f64 U) W := fun t W => run_float_arith W .mul t .f64 _ _ U r5
          have hop5 : ∀ t W, (binOp .mul t (.float .f64 SE) (.float .f64 (serQ U 13))).run Try.prog W = .ok (.float .f64 M1) W := fun t W => run_float_arith W .mul t .f64 _ _ M1 r7
          have hop6 : ∀ t W, (binOp .mul t (.float .f64 4611686018427387904) (.float .f64 M1)).run Try.prog W = .ok (.float .f64 M2) W := fun t W => run_float_arith W .mul t .f64 _ _ M2 r8
          have hop7 : ∀ t W, (binOp .mul t (.float .f64 FE) (.float .f64 4604418534313441775)).run Try.prog W = .ok (.float .f64 M3) W := fun t W => run_float_arith W .mul t .f64 _ _ M3 r9
          have hop8 : ∀ t W, (binOp .add t (.float .f64 M2) (.float .f64 M3)).run Try.prog W = .ok (.float .f64 LOG) W := fun t W => run_float_arith W .add t .f64 _ _ LOG r10
          clear r1 r2 r3 r5 r7 r8 r9 r10 hLOG
          go_wp2_with (simp only [hop1, hop2, hop3, hop4])
          go_loop [6, 7] (fun vq vk => ∃ j : Nat, j ≤ 13 ∧ vq = .float .f64 (serQ U j) ∧ vk = .float .f64 (fD (25 - 2 * (j : Int)))) (fun vq vk => mesK vk)
          case atStart => exact ⟨0, by omega, by rw [HSer0.out], by rw [HF25.out]⟩
          case round =>
            obtain ⟨j, hj, rfl, rfl⟩ := hrel
            have hok := ord_k j (by omega)
            unfold d1 at hok
            by_cases hj13 : j < 13
            · rw [decide_eq_true hj13] at hok
              obtain ⟨t1, t2, t3⟩ := HSer.out j hj13
              have t4 := fD_step j hj13
              have HMe : Hid (mesK (.float .f64 (fD (25 - 2 * ((j + 1 : Nat) : Int)))) < mesK (.float .f64 (fD (25 - 2 * (j : Int))))) := mesK_step j hj13
              generalize fD (25 - 2 * (j : Int)) = f0 at *
              generalize hf1 : fD (25 - 2 * ((j + 1 : Nat) : Int)) = f1 at *
              have HF1 := Lib.hid hf1
              generalize serQ U j = q0 at *
              generalize hq1 : serQ U (j + 1) = q1 at *
              have HQ1 := Lib.hid hq1
              generalize mulD U q0 = m0 at *
              generalize recD j = c0 at *
              have ho1 : ∀ t W, (binOp .quo t (.float .f64 4607182418800017408) (.float .f64 f0)).run Try.prog W = .ok (.float .f64 c0) W := fun t W => run_float_arith W .quo t .f64 _ _ c0 t1
              have ho2 : ∀ t W, (binOp .mul t (.float .f64 U) (.float .f64 q0)).run Try.prog W = .ok (.float .f64 m0) W := fun t W => run_float_arith W .mul t .f64 _ _ m0 t2
              have ho3 : ∀ t W, (binOp .add t (.float .f64 c0) (.float .f64 m0)).run Try.prog W = .ok (.float .f64 q1) W := fun t W => run_float_arith W .add t .f64 _ _ q1 t3
              have ho4 : ∀ t W, (binOp .sub t (.float .f64 f0) (.float .f64 4611686018427387904)).run Try.prog W = .ok (.float .f64 f1) W := fun t W => run_float_arith W .sub t .f64 _ _ f1 t4
              clear t1 t2 t3 t4 hf1 hq1
              go_wp2_with (simp only [ho1, ho2, ho3, ho4])
              go_round
              case rel => exact ⟨j + 1, by omega, by rw [HQ1.out], by rw [HF1.out]⟩
              case measure => exact HMe.out
            · obtain rfl : j = 13 := by omega
              rw [decide_eq_false (Nat.lt_irrefl _)] at hok
              generalize serQ U 13 = q13 at *
              go_wp2_with (simp only [hop5, hop6, hop7, hop8])
              go_ret
              exact ⟨rfl, rfl⟩

theorem order_pos {q : Nat} {I : Int} {y : Nat} (h : Nrm false q I y) : Ieee.double.order y 0 = some .gt := by
  have e0 : Ieee.double.read 0 = .number false 0 (-1074) := by decide
  unfold Ieee.Format.order
  rw [h.rd, e0]
  show some (compare (Ieee.signed false q (I - min I (-1074)).toNat) (Ieee.signed false 0 (-1074 - min I (-1074)).toNat)) = _
  have h0 := h.log.1
  have e1 : Ieee.signed false q (I - min I (-1074)).toNat = ((q <<< (I - min I (-1074)).toNat : Nat) : Int) := rfl
  have e2 : Ieee.signed false 0 (-1074 - min I (-1074)).toNat = 0 := by simp [Ieee.signed]
  rw [e1, e2, Nat.shiftLeft_eq]
  have : 0 < q * 2 ^ (I - min I (-1074)).toNat := Nat.mul_pos (Nat.pos_of_ne_zero h0) (Nat.two_pow_pos _)
  rw [cmpI_gt.2 (by omega)]
theorem order_max {q : Nat} {I : Int} {y : Nat} (h : Nrm false q I y) (hI : I ≤ 900) : Ieee.double.order y 9218868437227405311 = some .lt := by
  have e0 : Ieee.double.read 9218868437227405311 = .number false (2 ^ 53 - 1) 971 := by decide
  unfold Ieee.Format.order
  rw [h.rd, e0]
  show some (compare (Ieee.signed false q (I - min I 971).toNat) (Ieee.signed false (2 ^ 53 - 1) (971 - min I 971).toNat)) = _
  have e1 : Ieee.signed false q (I - min I 971).toNat = ((q * 2 ^ (I - min I 971).toNat : Nat) : Int) := by
    show ((q <<< _ : Nat) : Int) = _
    rw [Nat.shiftLeft_eq]
  have e2 : Ieee.signed false (2 ^ 53 - 1) (971 - min I 971).toNat = (((2 ^ 53 - 1) * 2 ^ (971 - min I 971).toNat : Nat) : Int) := by
    show (((2 ^ 53 - 1) <<< _ : Nat) : Int) = _
    rw [Nat.shiftLeft_eq]
  obtain ⟨k, hk⟩ : ∃ k : Nat, (971 - min I 971).toNat = k + 1 := ⟨(971 - min I 971).toNat - 1, by omega⟩
  have h0 : (I - min I 971).toNat = 0 := by omega
  rw [e1, e2, h0, hk, Nat.pow_zero, Nat.mul_one]
  have h1 := h.hi
  have h3 : (2 ^ 53 - 1) * 2 ≤ (2 ^ 53 - 1) * 2 ^ (k + 1) := Nat.mul_le_mul_left _ (by rw [Nat.pow_succ]; have := Nat.two_pow_pos k; omega)
  rw [cmpI_lt.2 (by omega)]

theorem kh_lo {q : Nat} {I : Int} (h1 : -201 ≤ I) : -201 ≤ I - (dn15 q I : Int) := by
  unfold dn15
  by_cases h : q < 3 * 2 ^ 51
  · simp only [if_pos h]
    omega
  · simp only [if_neg h]
    omega
theorem isInf_nrm {y : Nat} (w : World) (h : Ieee.double.order y 9218868437227405311 = some .lt) : Calls Try.prog 76 #[.float .f64 y, .int .i64 1] w (RetS w (.bool false)) := by
  have hf : FloatKind.f64.format = Ieee.double := rfl
  go_enter Try.func76, Try.ntmps76
  go_wp2
  go_ret
  exact ⟨rfl, rfl⟩
theorem ordI_k : ∀ j : Nat, j < 14 → decide ((1 : Int) ≤ 25 - 2 * (j : Int)) = decide (j < 13) := by decide

set_option maxHeartbeats 1600000 in
theorem logWide_any {y q : Nat} {I : Int} (h : Nrm false q I y) (h1 : -201 ≤ I) (h2 : I ≤ 75) (w : World) :
    Calls Try.prog 69 #[.float .f64 y] w (RetS w (.float .f64 (logE (yE q I y) ((dn15 q I : Int) - (up75 q I : Int))))) := by
  have hf : FloatKind.f64.format = Ieee.double := rfl
  obtain ⟨hkh, hkb, hkc⟩ := kh (q := q) (I := I)
  obtain ⟨hb1, hb2⟩ := kh_bd (q := q) h1 h2
  have hlo := kh_lo (q := q) h1
  obtain ⟨hm1, hm2⟩ := kh_mid (I := I) h.lo
  have HN2 := Lib.hid (fun k (hk : k ≤ dn15 q I) => hlvN_nrm h (by omega) k (by omega))
  have HS2 := Lib.hid (fun k (hk : k ≤ dn15 q I) => hlvN_step h (by omega) k (by omega))
  have HO2 := Lib.hid (fun k (hk : k ≤ dn15 q I) => (order15 (hlvN_nrm h (by omega) k (by omega))).trans (congrArg (!·) (lt15_dn q I k hk)))
  have hH := hlvN_nrm h (by omega) (dn15 q I) (by omega)
  have HN := Lib.hid (fun k (hk : k ≤ up75 q I) => dblN_nrm hH (by omega) k (by omega))
  have HS := Lib.hid (fun k (hk : k ≤ up75 q I) => dblN_step hH (by omega) k (by omega))
  have HO := Lib.hid (fun k (hk : k ≤ up75 q I) => (order75 (dblN_nrm hH (by omega) k (by omega))).trans (lt75_up q (I - dn15 q I) k (by rw [hkc]; exact hk)))
  rw [hkc] at HO
  have hK := dblN_nrm h h1 (up75 q I) (by omega)
  have hE := hlvN_nrm hK (by omega) (dn15 q I) (by omega)
  have HSW : Hid (dblN (hlvN y (dn15 q I)) (up75 q I) = hlvN (dblN y (up75 q I)) (dn15 q I)) := by
    show _ = _
    rcases hkh with e | e
    · rw [e]; rfl
    · rw [e]; rfl
  have hop0 := order_selfN (f := Ieee.double) (e := 1000) (x := y) ⟨false, q, I, h.rd, by show (-1074 : Int) ≤ I; omega, .inr (by rw [h.log.2]; omega)⟩
  have hopos := order_pos h
  have homax := order_max h (by omega)
  have HL := Lib.hid (sE_ok hE hm1 hm2)
  have HYE : Hid (yE q I y = hlvN (dblN y (up75 q I)) (dn15 q I)) := rfl
  generalize yE q I y = YE at *
  generalize hKK : up75 q I = K at *
  generalize hHH : dn15 q I = H at *
  have H0 : Hid (hlvN y 0 = y) := rfl
  clear hE hK hH hkb hkc hm1 hm2 h hKK hHH
  have CI := Lib.hid (fun W => isInf_nrm W homax)
  clear homax
  go_enter Try.func69, Try.ntmps69
  go_wp2_with (fail)
  refine (CI.out _).mono ?_
  rintro e w1 ⟨rfl, rfl⟩
  go_wp2
  go_loop [0, 3] (fun vx ve => ∃ k : Nat, k ≤ H ∧ vx = .float .f64 (hlvN y k) ∧ ve = .int .i64 (k : Int)) (fun vx _ => mesD vx)
  case atStart => exact ⟨0, by omega, by rw [H0.out], rfl⟩
  case round =>
    obtain ⟨k, hk2, rfl, rfl⟩ := hrel
    have hn1 := HN2.out k hk2
    have ho2 := HO2.out k hk2
    have hs2 := HS2.out k hk2
    by_cases hlt2 : k < H
    · have hee : ((Ieee.double.order (hlvN y k) c15 == some .gt) || (Ieee.double.order (hlvN y k) c15 == some .eq)) = true := by rw [ho2, decide_eq_true hlt2]; rfl
      have hn2 := HN2.out (k + 1) (by omega)
      have HMe : Hid (mesD (.float .f64 (hlvN y (k + 1))) < mesD (.float .f64 (hlvN y k))) := by show _ < _; rw [mesD_nrm hn1, mesD_nrm hn2]; omega
      unfold c15 at hee
      clear hn1 hn2 ho2
      generalize hlvN y k = y0 at *
      generalize hy1 : hlvN y (k + 1) = y1 at *
      have HY1 := Lib.hid hy1
      have hopQ : ∀ t W, (binOp .quo t (.float .f64 y0) (.float .f64 4611686018427387904)).run Try.prog W = .ok (.float .f64 y1) W := fun t W => run_float_arith W .quo t .f64 _ _ y1 hs2
      clear hs2 hy1
      go_wp2_with (simp only [hopQ])
      go_round
      case rel => exact ⟨k + 1, by omega, by rw [HY1.out], by go_num⟩
      case measure => exact HMe.out
    · obtain rfl : H = k := by omega
      have hee : ((Ieee.double.order (hlvN y H) c15 == some .gt) || (Ieee.double.order (hlvN y H) c15 == some .eq)) = false := by rw [ho2, decide_eq_false (Nat.lt_irrefl _)]; rfl
      unfold c15 at hee
      clear ho2 hs2 hn1
      have HX0 : Hid (dblN (hlvN y H) 0 = hlvN y H) := rfl
      go_wp2
      go_loop [0, 3] (fun vx ve => ∃ k : Nat, k ≤ K ∧ vx = .float .f64 (dblN (hlvN y H) k) ∧ ve = .int .i64 ((H : Int) - (k : Int))) (fun vx _ => mesU vx)
      case atStart => exact ⟨0, by omega, by rw [HX0.out], by first | rfl | (congr 1; omega)⟩
      case round =>
        obtain ⟨k, hk, rfl, rfl⟩ := hrel
        have hn1 := HN.out k hk
        have ho := HO.out k hk
        have hs := HS.out k hk
        by_cases hlt : k < K
        · rw [decide_eq_true hlt] at ho
          have hn2 := HN.out (k + 1) (by omega)
          have HMe : Hid (mesU (.float .f64 (dblN (hlvN y H) (k + 1))) < mesU (.float .f64 (dblN (hlvN y H) k))) := by show _ < _; rw [mesU_nrm hn1, mesU_nrm hn2]; omega
          clear hn1 hn2
          generalize dblN (hlvN y H) k = y0 at *
          generalize hy1 : dblN (hlvN y H) (k + 1) = y1 at *
          have HY1 := Lib.hid hy1
          have hopM : ∀ t W, (binOp .mul t (.float .f64 y0) (.float .f64 4611686018427387904)).run Try.prog W = .ok (.float .f64 y1) W := fun t W => run_float_arith W .mul t .f64 _ _ y1 hs
          have hwk : IntKind.i64.wrap ((H : Int) - (k : Int) - 1) = (H : Int) - ((k + 1 : Nat) : Int) := by rw [IntWalk.i64_in _ (by omega)]; omega
          unfold c75 at ho
          clear hs hy1
          go_wp2_with (simp only [hopM])
          go_round
          case rel => exact ⟨k + 1, by omega, by rw [HY1.out], by first | rfl | rw [hwk] | (congr 1; omega) | go_num⟩
          case measure => exact HMe.out
        · obtain rfl : K = k := by omega
          rw [decide_eq_false (Nat.lt_irrefl _)] at ho
          unfold c75 at ho
          clear hs hn1
          have hyw := HSW.out.trans HYE.out.symm
          have hye := HYE.out
          rw [hyw] at ho ⊢
          obtain ⟨sa, sb, r1, r2, r3, r4⟩ := HL.out
          rw [← hye] at r1 r2 r3 r4
          obtain ⟨r5, r6, r7, r8, r9, r10, _⟩ := logE_ok (x := YE) (e := (H : Int) - (K : Int)) r4 (by omega)
          have HSer := Lib.hid (fun j (hj : j < 13) => serQ_step r6 hj)
          have HSer0 : Hid (serQ (mulD (sE YE) (sE YE)) 0 = 0) := rfl
          have hFE : floatOfInt .f64 ((H : Int) - (K : Int)) = fD ((H : Int) - (K : Int)) := rfl
          clear r4 r6 hye hyw HL HYE HSW
          generalize hLOG : logE YE ((H : Int) - (K : Int)) = LOG at *
          generalize mulD (sE YE) (sE YE) = U at *
          generalize mulD d2 (mulD (sE YE) (serQ U 13)) = M2 at *
          generalize mulD (sE YE) (serQ U 13) = M1 at *
          generalize sE YE = SE at *
          generalize mulD (fD ((H : Int) - (K : Int))) lnC = M3 at *
          generalize fD ((H : Int) - (K : Int)) = FE at *
          have hop1 : ∀ t W, (binOp .sub t (.float .f64 YE) (.float .f64 4607182418800017408)).run Try.prog W = .ok (.float .f64 sa) W := fun t W => run_float_arith W .sub t .f64 _ _ sa r1
          have hop2 : ∀ t W, (binOp .add t (.float .f64 YE) (.float .f64 4607182418800017408)).run Try.prog W = .ok (.float .f64 sb) W := fun t W => run_float_arith W .add t .f64 _ _ sb r2
          have hop3 : ∀ t W, (binOp .quo t (.float .f64 sa) (.float .f64 sb)).run Try.prog W = .ok (.float .f64 SE) W := fun t W => run_float_arith W .quo t .f64 _ _ SE r3
          have hop4 : ∀ t W, (binOp .mul t (.float .f64 SE) (.float .f64 SE)).run Try.prog W = .ok (.float .f64 U) W := fun t W => run_float_arith W .mul t .f64 _ _ U r5
          have hop5 : ∀ t W, (binOp .mul t (.float .f64 SE) (.float .f64 (serQ U 13))).run Try.prog W = .ok (.float .f64 M1) W := fun t W => run_float_arith W .mul t .f64 _ _ M1 r7
          have hop6 : ∀ t W, (binOp .mul t (.float .f64 4611686018427387904) (.float .f64 M1)).run Try.prog W = .ok (.float .f64 M2) W := fun t W => run_float_arith W .mul t .f64 _ _ M2 r8
          have hop7 : ∀ t W, (binOp .mul t (.float .f64 FE) (.float .f64 4604418534313441775)).run Try.prog W = .ok (.float .f64 M3) W := fun t W => run_float_arith W .mul t .f64 _ _ M3 r9
          have hop8 : ∀ t W, (binOp .add t (.float .f64 M2) (.float .f64 M3)).run Try.prog W = .ok (.float .f64 LOG) W := fun t W => run_float_arith W .add t .f64 _ _ LOG r10
          clear r1 r2 r3 r5 r7 r8 r9 r10 hLOG
          go_wp2_with (simp only [hop1, hop2, hop3, hop4])
          go_loop [6, 7] (fun vq vk => ∃ j : Nat, j ≤ 13 ∧ vq = .float .f64 (serQ U j) ∧ vk = .int .i64 (25 - 2 * (j : Int))) (fun vq vk => (30 + intOf vk).toNat)
          case atStart => exact ⟨0, by omega, by rw [HSer0.out], rfl⟩
          case round =>
            obtain ⟨j, hj, rfl, rfl⟩ := hrel
            by_cases hj13 : j < 13
            · obtain ⟨t1, t2, t3⟩ := HSer.out j hj13
              have hfk : floatOfInt .f64 (25 - 2 * (j : Int)) = fD (25 - 2 * (j : Int)) := rfl
              have hge : (1 : Int) ≤ 25 - 2 * (j : Int) := by omega
              have hwk : IntKind.i64.wrap (25 - 2 * (j : Int) - 2) = 25 - 2 * ((j + 1 : Nat) : Int) := by rw [IntWalk.i64_in _ (by omega)]; omega
              generalize fD (25 - 2 * (j : Int)) = f0 at *
              generalize serQ U j = q0 at *
              generalize hq1 : serQ U (j + 1) = q1 at *
              have HQ1 := Lib.hid hq1
              generalize mulD U q0 = m0 at *
              generalize recD j = c0 at *
              have ho1 : ∀ t W, (binOp .quo t (.float .f64 4607182418800017408) (.float .f64 f0)).run Try.prog W = .ok (.float .f64 c0) W := fun t W => run_float_arith W .quo t .f64 _ _ c0 t1
              have ho2 : ∀ t W, (binOp .mul t (.float .f64 U) (.float .f64 q0)).run Try.prog W = .ok (.float .f64 m0) W := fun t W => run_float_arith W .mul t .f64 _ _ m0 t2
              have ho3 : ∀ t W, (binOp .add t (.float .f64 c0) (.float .f64 m0)).run Try.prog W = .ok (.float .f64 q1) W := fun t W => run_float_arith W .add t .f64 _ _ q1 t3
              clear t1 t2 t3 hq1
              go_wp2_with (simp only [ho1, ho2, ho3])
              go_round
              case rel => exact ⟨j + 1, by omega, by rw [HQ1.out], by first | rfl | rw [hwk] | (congr 1; omega) | go_num⟩
              case measure => simp [intOf]; omega
            · obtain rfl : j = 13 := by omega
              have hge : ¬ (1 : Int) ≤ 25 - 2 * ((13 : Nat) : Int) := by omega
              generalize serQ U 13 = q13 at *
              go_wp2_with (simp only [hop5, hop6, hop7, hop8])
              go_ret
              exact ⟨rfl, rfl⟩

theorem pos32 {x m : Nat} {i : Int} (h : Ieee.single.read x = .number false m i) (hm : m ≠ 0) : Ieee.single.order x 0 = some .gt ∧ Ieee.single.order x x = some .eq := by
  have e0 : Ieee.single.read 0 = .number false 0 (-149) := by decide
  refine ⟨?_, ?_⟩
  · unfold Ieee.Format.order
    rw [h, e0]
    show some (compare (Ieee.signed false m (i - min i (-149)).toNat) (Ieee.signed false 0 (-149 - min i (-149)).toNat)) = _
    have e1 : Ieee.signed false m (i - min i (-149)).toNat = ((m <<< (i - min i (-149)).toNat : Nat) : Int) := rfl
    have e2 : Ieee.signed false 0 (-149 - min i (-149)).toNat = 0 := by simp [Ieee.signed]
    rw [e1, e2, Nat.shiftLeft_eq]
    have : 0 < m * 2 ^ (i - min i (-149)).toNat := Nat.mul_pos (Nat.pos_of_ne_zero hm) (Nat.two_pow_pos _)
    rw [cmpI_gt.2 (by omega)]
  · unfold Ieee.Format.order
    rw [h]
    show some (compare _ _) = _
    rw [cmpI_eq.2 rfl]

/-- b is the narrowed logarithm of x, where x is a positive number -/
def LogP (x b : Nat) : Prop := ∀ m i, Ieee.single.read x = .number false m i → m ≠ 0 → ∃ y q I, floatToFloatBits .f32 x .f64 = some y ∧ Nrm false q I y ∧ -201 ≤ I ∧ I ≤ 75 ∧ floatToFloatBits .f64 (logE (yE q I y) ((dn15 q I : Int) - (up75 q I : Int))) .f32 = some b
set_option maxHeartbeats 800000 in
theorem log_both {x m : Nat} {i : Int} (h : Ieee.single.read x = .number false m i) (hm : m ≠ 0) :
    ∃ b, (∀ w, Calls Try.prog 52 #[.float .f32 x] w (Ret w (.float .f32 b))) ∧ (∀ w, Calls Try.prog 53 #[.float .f32 x] w (RetS w (.float .f32 b))) ∧ LogP x b := by
  obtain ⟨o1, o2⟩ := pos32 h hm
  obtain ⟨y, q, I, c1, hy, h1, h2⟩ := conv_nrm h hm
  obtain ⟨hb1, hb2⟩ := kh_bd (q := q) h1 h2
  obtain ⟨hm1, hm2⟩ := kh_mid (I := I) hy.lo
  have hK := dblN_nrm hy h1 (up75 q I) (by omega)
  have hE := hlvN_nrm hK (by omega) (dn15 q I) (by omega)
  obtain ⟨_, _, _, _, _, hs⟩ := sE_ok hE hm1 hm2
  have hL := (logE_ok (x := yE q I y) (e := (dn15 q I : Int) - (up75 q I : Int)) hs (by omega)).2.2.2.2.2.2
  obtain ⟨b, hb⟩ := narrow_ok hL
  have HP : Hid (LogP x b) := fun _ _ _ _ => ⟨y, q, I, c1, hy, h1, h2, hb⟩
  have C1 := Lib.hid (fun w => logarithm_any hy h1 h2 w)
  have C2 := Lib.hid (fun w => logWide_any hy h1 h2 w)
  have hfin : finB x = true := by
    have hfb : FB 128 x := ⟨false, m, i, h, read_least h, .inr ((read_bound h).resolve_left hm)⟩
    show (match opO .sub (some x) (some x) with | some z => Ieee.single.order z 0 == some .eq | none => false) = true
    have e : opO .sub (some x) (some x) = some 0 := fin_fb hfb
    rw [e]
    decide
  have CF := Lib.hid (fun w => IsFinite_any x w)
  rw [hfin] at CF
  generalize logE (yE q I y) ((dn15 q I : Int) - (up75 q I : Int)) = LG at *
  have hf : FloatKind.f32.format = Ieee.single := rfl
  have hop1 : ∀ W, (convert 29 28 (.float .f32 x)).run Try.prog W = .ok (.float .f64 y) W := fun W => run_convert_float_float W _ _ .f32 .f64 x y rfl Try.underlying28 c1
  have hop2 : ∀ W, (convert 28 29 (.float .f64 LG)).run Try.prog W = .ok (.float .f32 b) W := fun W => run_convert_float_float W _ _ .f64 .f32 LG b rfl Try.underlying29 hb
  clear h hm c1 hy hm1 hm2 hK hE hs hL hb hfin
  have CN : Hid (∀ w, Calls Try.prog 68 #[.float .f64 LG] w (RetS w (.float .f32 b))) := by
    show ∀ w, _
    intro w
    clear CF C1 C2 o1 o2
    go_enter Try.func68, Try.ntmps68
    go_wp2
    go_ret
    exact ⟨rfl, rfl⟩
  refine ⟨b, fun w => ?_, fun w => ?_, HP.out⟩
  · go_enter Try.func52, Try.ntmps52
    go_wp2_with (fail)
    refine (CF.out _).mono ?_
    rintro e w1 ⟨rfl, hb1⟩
    have HB1 := Lib.hid hb1
    clear hb1
    go_wp2_with (fail)
    refine (C1.out _).mono ?_
    rintro e w2 ⟨rfl, rfl⟩
    go_wp2
    go_ret
    exact ⟨rfl, HB1.out⟩
  · go_enter Try.func53, Try.ntmps53
    go_wp2_with (fail)
    refine (C2.out _).mono ?_
    rintro e w2 ⟨rfl, rfl⟩
    go_wp2_with (fail)
    refine (CN.out _).mono ?_
    rintro e w3 ⟨rfl, rfl⟩
    go_wp2
    go_ret
    exact ⟨rfl, rfl⟩

theorem frombits_run (n : Int) (W : World) : (callFunc 75 #[.int .u64 n]).run Try.prog W = .ok (.value (.float .f64 n.toNat)) W := by
  rw [run_callFunc_extern Try.func75 (by kernel_rfl) (by kernel_rfl) (by kernel_rfl) (e := Extern.MathFloatBits.float64frombits) (by kernel_rfl)]
  rfl

theorem mathInf_neg (w : World) : Calls Try.prog 65 #[.int .i64 (-1)] w (RetS w (.float .f64 18442240474082181120)) := by
  have hcf := frombits_run
  go_enter Try.func65, Try.ntmps65
  go_wp2
  go_ret
  exact ⟨rfl, rfl⟩

theorem infT : floatToFloatBits .f64 18442240474082181120 .f32 = some 4286578688 := by decide
theorem zeroT : floatToFloatBits .f32 0 .f64 = some 0 := by decide
theorem log_zero_impl (w : World) : Calls Try.prog 52 #[.float .f32 0] w (RetS w (.float .f32 4286578688)) := by
  have hf : FloatKind.f32.format = Ieee.single := rfl
  have o1 : Ieee.single.order 0 0 = some .eq := by decide
  have C := Lib.hid (fun W => mathInf_neg W)
  have hop2 : ∀ W, (convert 28 29 (.float .f64 18442240474082181120)).run Try.prog W = .ok (.float .f32 4286578688) W := fun W => run_convert_float_float W _ _ .f64 .f32 _ _ rfl Try.underlying29 infT
  go_enter Try.func52, Try.ntmps52
  go_wp2_with (fail)
  refine (C.out _).mono ?_
  rintro e w1 ⟨rfl, rfl⟩
  go_wp2
  go_ret
  exact ⟨rfl, rfl⟩

theorem logWide_zero (w : World) : Calls Try.prog 69 #[.float .f64 0] w (RetS w (.float .f64 18442240474082181120)) := by
  have hf : FloatKind.f64.format = Ieee.double := rfl
  have o1 : Ieee.double.order 0 0 = some .eq := by decide
  have C := Lib.hid (fun W => mathInf_neg W)
  go_enter Try.func69, Try.ntmps69
  go_wp2_with (fail)
  refine (C.out _).mono ?_
  rintro e w1 ⟨rfl, rfl⟩
  go_wp2
  go_ret
  exact ⟨rfl, rfl⟩

theorem log_zero_spec (w : World) : Calls Try.prog 53 #[.float .f32 0] w (RetS w (.float .f32 4286578688)) := by
  have C := Lib.hid (fun W => logWide_zero W)
  have hop1 : ∀ W, (convert 29 28 (.float .f32 0)).run Try.prog W = .ok (.float .f64 0) W := fun W => run_convert_float_float W _ _ .f32 .f64 _ _ rfl Try.underlying28 zeroT
  have hop2 : ∀ W, (convert 28 29 (.float .f64 18442240474082181120)).run Try.prog W = .ok (.float .f32 4286578688) W := fun W => run_convert_float_float W _ _ .f64 .f32 _ _ rfl Try.underlying29 infT
  have CN : Hid (∀ w, Calls Try.prog 68 #[.float .f64 18442240474082181120] w (RetS w (.float .f32 4286578688))) := by
    show ∀ w, _
    intro w
    clear C
    go_enter Try.func68, Try.ntmps68
    go_wp2
    go_ret
    exact ⟨rfl, rfl⟩
  go_enter Try.func53, Try.ntmps53
  go_wp2_with (fail)
  refine (C.out _).mono ?_
  rintro e w1 ⟨rfl, rfl⟩
  go_wp2_with (fail)
  refine (CN.out _).mono ?_
  rintro e w2 ⟨rfl, rfl⟩
  go_wp2
  go_ret
  exact ⟨rfl, rfl⟩

/-- what a non-negative number is, rounded -/
theorem nearest_cases (m : Nat) (i : Int) : Ieee.single.nearest false m i = 0 ∨ (∃ m' i', Ieee.single.read (Ieee.single.nearest false m i) = .number false m' i' ∧ m' ≠ 0) ∨ Ieee.single.nearest false m i = 2139095040 := by
  obtain ⟨R, hR, _⟩ := nearest_rung Ieee.single false m i (if m = 0 then 0 else (m.log2 : Int) + i + 1) (by by_cases h : m = 0 <;> simp [h]; omega)
  have e0 : ∀ r, Ieee.single.word false r = r := fun r => rfl
  rw [hR, e0]
  have hI : Ieee.single.infRung = 2139095040 := rfl
  have hB : Ieee.single.binade = 2 ^ 23 := rfl
  have hS : Ieee.single.signWeight = 2 ^ 31 := rfl
  rw [hI]
  by_cases h1 : R = 0
  · left; rw [h1]; rfl
  by_cases h2 : 2139095040 ≤ R
  · right; right; rw [Nat.min_eq_right h2]
  · right; left
    rw [Nat.min_eq_left (by omega)]
    unfold Ieee.Format.read
    have e1 : R / Ieee.single.signWeight % 2 = 0 := by rw [hS, Nat.div_eq_of_lt (by omega)]
    have e2 : R % Ieee.single.signWeight = R := by rw [hS]; exact Nat.mod_eq_of_lt (by omega)
    simp only [e1, e2]
    rw [hB, hI]
    by_cases h3 : R < 2 ^ 23
    · rw [if_pos h3]
      exact ⟨R, _, rfl, h1⟩
    · rw [if_neg h3, if_pos (by omega)]
      refine ⟨_, _, rfl, ?_⟩
      have := Nat.two_pow_pos 23
      omega
theorem inf32T : floatToFloatBits .f32 2139095040 .f64 = some 9218868437227405312 := by decide
theorem inf64T : floatToFloatBits .f64 9218868437227405312 .f32 = some 2139095040 := by decide
theorem log_inf_impl (w : World) : Calls Try.prog 52 #[.float .f32 2139095040] w (Ret w (.float .f32 2139095040)) := by
  have hf : FloatKind.f32.format = Ieee.single := rfl
  have o1 : Ieee.single.order 2139095040 0 = some .gt := by decide
  have o2 : Ieee.single.order 2139095040 2139095040 = some .eq := by decide
  have hfin : finB 2139095040 = false := by decide
  have CF := Lib.hid (fun w => IsFinite_any 2139095040 w)
  rw [hfin] at CF
  go_enter Try.func52, Try.ntmps52
  go_wp2_with (fail)
  refine (CF.out _).mono ?_
  rintro e w1 ⟨rfl, hb1⟩
  have HB1 := Lib.hid hb1
  clear hb1
  go_wp2
  go_ret
  exact ⟨rfl, HB1.out⟩

theorem isInf_inf (w : World) : Calls Try.prog 76 #[.float .f64 9218868437227405312, .int .i64 1] w (RetS w (.bool true)) := by
  have hf : FloatKind.f64.format = Ieee.double := rfl
  have o1 : Ieee.double.order 9218868437227405312 9218868437227405311 = some .gt := by decide
  go_enter Try.func76, Try.ntmps76
  go_wp2
  go_ret
  exact ⟨rfl, rfl⟩

theorem log_inf_spec (w : World) : Calls Try.prog 53 #[.float .f32 2139095040] w (RetS w (.float .f32 2139095040)) := by
  have CW : Hid (∀ w, Calls Try.prog 69 #[.float .f64 9218868437227405312] w (RetS w (.float .f64 9218868437227405312))) := by
    show ∀ w, _
    intro w
    have hf : FloatKind.f64.format = Ieee.double := rfl
    have o1 : Ieee.double.order 9218868437227405312 9218868437227405312 = some .eq := by decide
    have o2 : Ieee.double.order 9218868437227405312 0 = some .gt := by decide
    have CI := Lib.hid (fun W => isInf_inf W)
    go_enter Try.func69, Try.ntmps69
    go_wp2_with (fail)
    refine (CI.out _).mono ?_
    rintro e w1 ⟨rfl, rfl⟩
    go_wp2
    go_ret
    exact ⟨rfl, rfl⟩
  have hop1 : ∀ W, (convert 29 28 (.float .f32 2139095040)).run Try.prog W = .ok (.float .f64 9218868437227405312) W := fun W => run_convert_float_float W _ _ .f32 .f64 _ _ rfl Try.underlying28 inf32T
  have hop2 : ∀ W, (convert 28 29 (.float .f64 9218868437227405312)).run Try.prog W = .ok (.float .f32 2139095040) W := fun W => run_convert_float_float W _ _ .f64 .f32 _ _ rfl Try.underlying29 inf64T
  have CN : Hid (∀ w, Calls Try.prog 68 #[.float .f64 9218868437227405312] w (RetS w (.float .f32 2139095040))) := by
    show ∀ w, _
    intro w
    clear CW
    go_enter Try.func68, Try.ntmps68
    go_wp2
    go_ret
    exact ⟨rfl, rfl⟩
  go_enter Try.func53, Try.ntmps53
  go_wp2_with (fail)
  refine (CW.out _).mono ?_
  rintro e w1 ⟨rfl, rfl⟩
  go_wp2_with (fail)
  refine (CN.out _).mono ?_
  rintro e w2 ⟨rfl, rfl⟩
  go_wp2
  go_ret
  exact ⟨rfl, rfl⟩

end Go.Proofs.Ytcflgmjjomiejaa
