/- Floats: what products, sums, differences and comparisons of numbers that are not negative are worth. -/
import Derived.Test.YtcflgmjjomiejaaVlA
namespace Go.Proofs.Ytcflgmjjomiejaa
set_option linter.unusedVariables false
set_option linter.unusedSimpArgs false
open Ieee

/-- what a rounded v / 2 ^ U is: q units of 2 ^ d -/
structure Rnd (F P U v q d : Nat) : Prop where
  hd : d = max (v.log2 - F) (U - P)
  hi : q * 2 ^ d ≤ v + 2 ^ d
  lo : v ≤ q * 2 ^ d + 2 ^ d
  ex : v % 2 ^ d = 0 → q * 2 ^ d = v
  nz : U - P + F ≤ v.log2 → 2 ^ F ≤ q

theorem nearest_rnd {f : Format} {P : Nat} (hf : Roomy f P) (mag : Nat) (place : Int) (U v : Nat) (hPU : P ≤ U) (hpl : 0 ≤ place + U) (hv : mag * 2 ^ (place + U).toNat = v) (hb : v.log2 ≤ U + 125) :
    ∃ q d, Rnd f.fractionBits P U v q d ∧ Vl f (f.nearest false mag place) (q * 2 ^ (d - (U - P))) := by
  obtain ⟨q, d, h1, h2, h3, h4, h5, h6⟩ := nearest_val hf mag place U v hPU hpl hv hb
  exact ⟨q, d, ⟨h1, h3, h4, h5, h6⟩, h2⟩

theorem vl_mul {f : Format} {P : Nat} (hf : Roomy f P) {x y a b : Nat} (hx : Vl f x a) (hy : Vl f y b) (hb : (a * b).log2 ≤ 2 * P + 125) :
    ∃ r q d, f.mul x y = some r ∧ Rnd f.fractionBits P (2 * P) (a * b) q d ∧ Vl f r (q * 2 ^ (d - P)) := by
  obtain ⟨m, i, h1, h2, h3⟩ := hx
  obtain ⟨n, j, k1, k2, k3⟩ := hy
  have hP := hf.hP
  obtain ⟨q, d, h4, h5⟩ := nearest_rnd hf (m * n) (i + j) (2 * P) (a * b) (by omega) (by omega) (by
    rw [← h3, ← k3, show (i + j + ((2 * P : Nat) : Int)).toNat = (i - f.leastPlace).toNat + (j - f.leastPlace).toNat by omega, Nat.pow_add]
    grind) hb
  refine ⟨_, q, d, by unfold Format.mul; rw [h1, k1]; rfl, h4, ?_⟩
  rw [show 2 * P - P = P by omega] at h5
  exact h5

theorem signed_f (m a : Nat) : signed false m a = ((m * 2 ^ a : Nat) : Int) := by unfold signed; rw [if_neg (by decide), Nat.shiftLeft_eq]
theorem signed_t (m a : Nat) : signed true m a = -((m * 2 ^ a : Nat) : Int) := by unfold signed; rw [if_pos rfl, Nat.shiftLeft_eq]
/-- both over one base -/
theorem base_units {L base i : Int} {m a : Nat} (h1 : L ≤ base) (h2 : base ≤ i) (h : m * 2 ^ (i - L).toNat = a) : m * 2 ^ (i - base).toNat * 2 ^ (base - L).toNat = a := by
  rw [Nat.mul_assoc, ← Nat.pow_add, ← h]
  congr 2
  omega

theorem vl_add {f : Format} {P : Nat} (hf : Roomy f P) {x y a b : Nat} (hx : Vl f x a) (hy : Vl f y b) (hb : (a + b).log2 ≤ P + 125) :
    ∃ r q d, f.add x y = some r ∧ Rnd f.fractionBits P P (a + b) q d ∧ Vl f r (q * 2 ^ d) := by
  obtain ⟨m, i, h1, h2, h3⟩ := hx
  obtain ⟨n, j, k1, k2, k3⟩ := hy
  have hP := hf.hP
  have e1 := base_units (base := min i j) (by omega) (by omega) h3
  have e2 := base_units (base := min i j) (by omega) (by omega) k3
  obtain ⟨q, d, h4, h5⟩ := nearest_rnd hf (m * 2 ^ (i - min i j).toNat + n * 2 ^ (j - min i j).toNat) (min i j) P (a + b) (by omega) (by omega) (by
    rw [show (min i j + (P : Int)).toNat = (min i j - f.leastPlace).toNat by omega, Nat.add_mul, e1, e2]) hb
  refine ⟨f.nearest false (m * 2 ^ (i - min i j).toNat + n * 2 ^ (j - min i j).toNat) (min i j), q, d, ?_, h4, ?_⟩
  · unfold Format.add
    rw [h1, k1]
    unfold Datum.sum
    dsimp only
    rw [signed_f, signed_f, ← Int.natCast_add]
    show some (f.write _) = _
    unfold Format.write
    dsimp only
    rw [Int.natAbs_natCast]
    congr 1
    split
    · rfl
    · rw [decide_eq_false (by omega)]
  · rw [show P - P = 0 by omega, Nat.sub_zero] at h5
    exact h5

theorem vl_sub {f : Format} {P : Nat} (hf : Roomy f P) {x y a b : Nat} (hx : Vl f x a) (hy : Vl f y b) (hab : b ≤ a) (hb : (a - b).log2 ≤ P + 125) :
    ∃ r q d, f.sub x y = some r ∧ Rnd f.fractionBits P P (a - b) q d ∧ Vl f r (q * 2 ^ d) := by
  obtain ⟨m, i, h1, h2, h3⟩ := hx
  obtain ⟨n, j, k1, k2, k3⟩ := hy
  have hP := hf.hP
  have e1 := base_units (base := min i j) (by omega) (by omega) h3
  have e2 := base_units (base := min i j) (by omega) (by omega) k3
  have hle : n * 2 ^ (j - min i j).toNat ≤ m * 2 ^ (i - min i j).toNat := by
    refine Nat.le_of_mul_le_mul_right ?_ (Nat.two_pow_pos (min i j - f.leastPlace).toNat)
    rw [e1, e2]
    exact hab
  obtain ⟨q, d, h4, h5⟩ := nearest_rnd hf (m * 2 ^ (i - min i j).toNat - n * 2 ^ (j - min i j).toNat) (min i j) P (a - b) (by omega) (by omega) (by
    rw [show (min i j + (P : Int)).toNat = (min i j - f.leastPlace).toNat by omega, Nat.sub_mul, e1, e2]) hb
  refine ⟨f.nearest false (m * 2 ^ (i - min i j).toNat - n * 2 ^ (j - min i j).toNat) (min i j), q, d, ?_, h4, ?_⟩
  · unfold Format.sub
    rw [h1, k1]
    unfold Datum.opposite Datum.sum
    dsimp only
    rw [Bool.not_false, signed_f, signed_t, show ((m * 2 ^ (i - min i j).toNat : Nat) : Int) + -((n * 2 ^ (j - min i j).toNat : Nat) : Int) = ((m * 2 ^ (i - min i j).toNat - n * 2 ^ (j - min i j).toNat : Nat) : Int) by omega]
    show some (f.write _) = _
    unfold Format.write
    dsimp only
    rw [Int.natAbs_natCast]
    congr 1
    split
    · rfl
    · rw [decide_eq_false (by omega)]
  · rw [show P - P = 0 by omega, Nat.sub_zero] at h5
    exact h5

theorem vl_order {f : Format} {x y a b : Nat} (hx : Vl f x a) (hy : Vl f y b) : f.order x y = some (if a < b then .lt else if a = b then .eq else .gt) := by
  obtain ⟨m, i, h1, h2, h3⟩ := hx
  obtain ⟨n, j, k1, k2, k3⟩ := hy
  have e1 := base_units (base := min i j) (by omega) (by omega) h3
  have e2 := base_units (base := min i j) (by omega) (by omega) k3
  unfold Format.order
  rw [h1, k1]
  unfold Datum.order
  dsimp only
  rw [signed_f, signed_f, cmpI]
  have hp := Nat.two_pow_pos (min i j - f.leastPlace).toNat
  generalize 2 ^ (min i j - f.leastPlace).toNat = G at *
  generalize m * 2 ^ (i - min i j).toNat = A at *
  generalize n * 2 ^ (j - min i j).toNat = B at *
  congr 1
  have c1 : ((A : Int) < (B : Int)) = (a < b) := by
    rw [Int.ofNat_lt, ← e1, ← e2, Nat.mul_lt_mul_right hp]
  have c2 : ((A : Int) = (B : Int)) = (a = b) := by
    rw [Int.natCast_inj, ← e1, ← e2, Nat.mul_left_inj (by omega)]
  simp only [c1, c2]
theorem vl_lt {f : Format} {x y a b : Nat} (hx : Vl f x a) (hy : Vl f y b) : (f.order x y == some .lt) = decide (a < b) := by
  rw [vl_order hx hy]
  by_cases h : a < b
  · rw [if_pos h, decide_eq_true h]; rfl
  · rw [if_neg h, decide_eq_false h]
    split <;> rfl
theorem vl_gt {f : Format} {x y a b : Nat} (hx : Vl f x a) (hy : Vl f y b) : (f.order x y == some .gt) = decide (b < a) := by
  rw [vl_order hx hy]
  by_cases h : a < b
  · rw [if_pos h, decide_eq_false (by omega)]; rfl
  · rw [if_neg h]
    by_cases h2 : a = b
    · rw [if_pos h2, decide_eq_false (by omega)]; rfl
    · rw [if_neg h2, decide_eq_true (by omega)]; rfl

end Go.Proofs.Ytcflgmjjomiejaa
