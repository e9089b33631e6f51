/- Logarithms: the series, plain terms. -/
import Derived.Test.YtocpahhpagkknaaLgC
namespace Go.Proofs.Ytocpahhpagkknaa
set_option linter.unusedVariables false
set_option linter.unusedSimpArgs false
open Ieee

theorem nearest_lb (s : Bool) (m : Nat) (i : Int) (hm : m ≠ 0) (h1 : -1000 ≤ (m.log2 : Int) + i) (h2 : (m.log2 : Int) + i ≤ 800) : LB ((m.log2 : Int) + i) (double.nearest s m i) := by
  obtain ⟨last, hlast⟩ : ∃ last : Int, last = (m.log2 : Int) + i - 52 := ⟨_, rfl⟩
  obtain ⟨n, hn'⟩ : ∃ n : Nat, (n : Int) = last + 1074 := ⟨(last + 1074).toNat, by omega⟩
  have hlg : (m <<< (i - last).toNat).log2 = m.log2 + (i - last).toNat := by rw [Nat.shiftLeft_eq]; exact log2_shl hm _
  have hne : m <<< (i - last).toNat ≠ 0 := by rw [Nat.shiftLeft_eq]; exact Nat.mul_ne_zero hm (Nat.pos_iff_ne_zero.1 (Nat.two_pow_pos _))
  have k1 := cut_ge s (m <<< (i - last).toNat) (last - i).toNat (by rw [hlg]; omega) hne
  have k2 := cut_le s (m <<< (i - last).toNat) (last - i).toNat 53 (by rw [hlg]; omega) hne
  have hw : double.nearest s m i = double.word s (min (n * 2 ^ 52 + Toward.even.cut s (m <<< (i - last).toNat) (last - i).toNat) (2047 * 2 ^ 52)) := by
    have hF : double.fractionBits = 52 := rfl
    have hP : double.leastPlace = -1074 := rfl
    have hB : double.binade = 2 ^ 52 := rfl
    have hI : double.infRung = 2047 * 2 ^ 52 := rfl
    unfold Format.nearest
    rw [if_neg hm]
    have hmax : max (i + (m.log2 : Int) - (double.fractionBits : Int)) double.leastPlace = last := by rw [hF, hP]; omega
    dsimp only
    rw [hmax, hP, hB, hI]
    have h3 : (last - -1074).toNat = n := by omega
    rw [h3]
  generalize Toward.even.cut s (m <<< (i - last).toNat) (last - i).toNat = kept at *
  have hB : 0 < 2 ^ 52 := Nat.two_pow_pos _
  rw [hw]
  by_cases hk : kept < 2 ^ 53
  · have h6 := rung_lt (Nat.mul_le_mul_right (2 ^ 52) (show n ≤ 1974 by omega)) hk
    rw [Nat.min_eq_left (Nat.le_of_lt h6)]
    have hl : kept.log2 = 52 := (Nat.log2_eq_iff (by omega)).2 ⟨k1, hk⟩
    exact ⟨s, kept, _, read_rung s n kept k1 hk h6, by omega, by rw [hl]; omega⟩
  · have hk2 : kept = 2 ^ 53 := Nat.le_antisymm k2 (Nat.le_of_not_lt hk)
    have e53 : (2 : Nat) ^ 53 = 2 ^ 52 + 2 ^ 52 := by rw [Nat.pow_succ, Nat.mul_comm, Nat.two_mul]
    have h8 : n * 2 ^ 52 + kept = (n + 1) * 2 ^ 52 + 2 ^ 52 := by rw [hk2, e53, Nat.succ_mul, Nat.add_assoc]
    have h6 := rung_lt (q := 2 ^ 52) (Nat.mul_le_mul_right (2 ^ 52) (show n + 1 ≤ 1974 by omega)) (Nat.pow_lt_pow_right (by omega) (by omega))
    rw [h8, Nat.min_eq_left (Nat.le_of_lt h6)]
    exact ⟨s, 2 ^ 52, _, read_rung s (n + 1) (2 ^ 52) (Nat.le_refl _) (Nat.pow_lt_pow_right (by omega) (by omega)) h6, by omega, by rw [log2_two_pow]; omega⟩
def d1 : Nat := 4607182418800017408
def d2 : Nat := 4611686018427387904
theorem d1_read : double.read d1 = .number false (2 ^ 52) (-52) := by decide
/-- from 0.75 on, below 1.5 -/
theorem mid_two {q : Nat} {I : Int} (h1 : lt75 q I = false) (h2 : lt15 q I = true) : (I = -53 ∧ 3 * 2 ^ 51 ≤ q) ∨ (I = -52 ∧ q < 3 * 2 ^ 51) := by
  unfold lt75 at h1
  unfold lt15 at h2
  simp only [Bool.or_eq_true, Bool.and_eq_true, decide_eq_true_eq, Bool.or_eq_false_iff, Bool.and_eq_false_iff, decide_eq_false_iff_not] at h1 h2
  rcases h2 with h2 | ⟨h2, h3⟩
  · left
    rcases h1 with ⟨a, b⟩
    rcases b with b | b
    · omega
    · exact ⟨by omega, by omega⟩
  · exact .inr ⟨h2, h3⟩
theorem mid_sub {q : Nat} {I : Int} {y : Nat} (h : Nrm false q I y) (hm : (I = -53 ∧ 3 * 2 ^ 51 ≤ q) ∨ (I = -52 ∧ q < 3 * 2 ^ 51)) : ∃ r, double.sub y d1 = some r ∧ BD (-1) r := by
  refine ⟨_, by unfold Format.sub; rw [h.rd, d1_read]; rfl, ?_⟩
  refine nearest_bd _ _ _ _ ?_ (by omega) (by omega)
  have hlo := h.lo
  have hhi := h.hi
  have p52 : (2 : Nat) ^ 52 = 2 * 2 ^ 51 := by rw [Nat.pow_succ, Nat.mul_comm]
  have p53 : (2 : Nat) ^ 53 = 4 * 2 ^ 51 := by rw [Nat.pow_succ, p52, Nat.mul_comm, ← Nat.mul_assoc]
  rcases hm with ⟨rfl, hm⟩ | ⟨rfl, hm⟩
  · have e : (signed false q (-53 - min (-53) (-52) : Int).toNat + signed (!false) (2 ^ 52) (-52 - min (-53) (-52) : Int).toNat).natAbs ≤ 2 ^ 51 := by
      show ((q : Int) + -((2 ^ 53 : Nat) : Int)).natAbs ≤ 2 ^ 51
      rw [p53] at hhi ⊢
      generalize (2 : Nat) ^ 51 = B at *
      omega
    exact (Ub.of_le (base := min (-53) (-52)) e).more (by decide)
  · have e : (signed false q (-52 - min (-52) (-52) : Int).toNat + signed (!false) (2 ^ 52) (-52 - min (-52) (-52) : Int).toNat).natAbs ≤ 2 ^ 51 := by
      show ((q : Int) + -((2 ^ 52 : Nat) : Int)).natAbs ≤ 2 ^ 51
      rw [p52] at hlo ⊢
      generalize (2 : Nat) ^ 51 = B at *
      omega
    exact (Ub.of_le (base := min (-52) (-52)) e).more (by decide)

theorem mid_add {q : Nat} {I : Int} {y : Nat} (h : Nrm false q I y) (hm : (I = -53 ∧ 3 * 2 ^ 51 ≤ q) ∨ (I = -52 ∧ q < 3 * 2 ^ 51)) : ∃ r, double.add y d1 = some r ∧ LB 0 r := by
  have p53 : (2 : Nat) ^ 53 = 2 ^ 52 + 2 ^ 52 := by rw [Nat.pow_succ, Nat.mul_comm, Nat.two_mul]
  have hB : 0 < (2 : Nat) ^ 52 := Nat.two_pow_pos _
  have key : ∀ (N : Nat) (base : Int), 2 ^ 53 ≤ N → N < 2 ^ 55 → (base = -53 ∨ base = -52) → LB 0 (double.nearest false N base) := by
    intro N base h1 h2 h3
    have hN : N ≠ 0 := by have := Nat.two_pow_pos 53; omega
    have l1 : 53 ≤ N.log2 := (Nat.le_log2 hN).2 h1
    have l2 := log2_lt' h2 hN
    obtain ⟨s, m, i, a, b, c⟩ := nearest_lb false N base hN (by omega) (by omega)
    exact ⟨s, m, i, a, b, by omega⟩
  have p55 : (2 : Nat) ^ 55 = 8 * 2 ^ 52 := by rw [show (8 : Nat) = 2 ^ 3 by rfl, ← Nat.pow_add]
  have hlo := h.lo
  have hhi := h.hi
  refine ⟨_, by unfold Format.add; rw [h.rd, d1_read]; rfl, ?_⟩
  rcases hm with ⟨rfl, _⟩ | ⟨rfl, _⟩
  · have e : signed false q (-53 - min (-53) (-52) : Int).toNat + signed false (2 ^ 52) (-52 - min (-53) (-52) : Int).toNat = ((q + 2 ^ 53 : Nat) : Int) := by
      show ((q : Int) + ((2 ^ 53 : Nat) : Int)) = _
      omega
    show LB 0 (double.nearest (if _ = 0 then _ else decide (_ < 0)) _ _)
    rw [e]
    have h0 : ¬ ((q + 2 ^ 53 : Nat) : Int) = 0 := by omega
    rw [if_neg h0, decide_eq_false (by omega), Int.natAbs_natCast]
    exact key _ _ (by omega) (by rw [p55, p53] at *; omega) (.inl (by decide))
  · have e : signed false q (-52 - min (-52) (-52) : Int).toNat + signed false (2 ^ 52) (-52 - min (-52) (-52) : Int).toNat = ((q + 2 ^ 52 : Nat) : Int) := by
      show ((q : Int) + ((2 ^ 52 : Nat) : Int)) = _
      omega
    show LB 0 (double.nearest (if _ = 0 then _ else decide (_ < 0)) _ _)
    rw [e]
    have h0 : ¬ ((q + 2 ^ 52 : Nat) : Int) = 0 := by omega
    rw [if_neg h0, decide_eq_false (by omega), Int.natAbs_natCast]
    exact key _ _ (by rw [p53]; omega) (by rw [p55, p53] at *; omega) (.inr (by decide))
/-- floats that stand for k, and 1 / k -/
def fD (v : Int) : Nat := floatOfInt .f64 v
theorem recip : ∀ k : Nat, k < 13 → ∃ c, double.div d1 (fD (25 - 2 * (k : Int))) = some c ∧ BD 0 c := by
  have key : ∀ k : Nat, k < 13 → BD 0 ((double.div d1 (fD (25 - 2 * (k : Int)))).getD 0) ∧ (double.div d1 (fD (25 - 2 * (k : Int)))).isSome = true := by
    intro k hk
    have h1 : ∀ k : Nat, k < 13 → LB 0 (fD (25 - 2 * ((k : Nat) : Int))) := by
      intro k hk
      have hm : (25 - 2 * (k : Int)).natAbs ≠ 0 := by omega
      have h2 : ((25 - 2 * (k : Int)) < 0 : Bool) = false := by simp; omega
      show LB 0 (double.nearest ((25 - 2 * (k : Int)) < 0) (25 - 2 * (k : Int)).natAbs 0)
      have l2 := log2_lt' (show (25 - 2 * (k : Int)).natAbs < 2 ^ 5 by omega) hm
      obtain ⟨s, m, i, a, b, c⟩ := nearest_lb ((25 - 2 * (k : Int)) < 0) (25 - 2 * (k : Int)).natAbs 0 hm (by omega) (by omega)
      exact ⟨s, m, i, a, b, by omega⟩
    have h3 : BD 0 d1 := ⟨false, 2 ^ 52, -52, d1_read, .inr (.inr (by decide))⟩
    obtain ⟨c, e1, e2⟩ := BD.div h3 (h1 k hk) (by omega) (by omega)
    rw [e1]
    exact ⟨e2, rfl⟩
  intro k hk
  obtain ⟨h1, h2⟩ := key k hk
  obtain ⟨c, hc⟩ := Option.isSome_iff_exists.1 h2
  rw [hc] at h1
  exact ⟨c, hc, h1⟩

theorem fD_sub : ∀ k : Nat, k < 300 → double.sub (fD (-(k : Int))) d1 = some (fD (-((k + 1 : Nat) : Int))) := by decide +kernel
theorem fD_add : ∀ k : Nat, k < 300 → double.add (fD (k : Int)) d1 = some (fD ((k + 1 : Nat) : Int)) := by decide +kernel
theorem fD_step : ∀ k : Nat, k < 13 → double.sub (fD (25 - 2 * (k : Int))) d2 = some (fD (25 - 2 * ((k + 1 : Nat) : Int))) := by decide +kernel
theorem fD_bd {v : Int} (h : v.natAbs ≤ 2 ^ 8) : BD 8 (fD v) := by
  show BD 8 (double.nearest (v < 0) v.natAbs 0)
  exact nearest_bd _ _ _ _ (Ub.of_le (base := 0) (E := 8) h) (by omega) (by omega)
def addD (x y : Nat) : Nat := (double.add x y).getD 0
def mulD (x y : Nat) : Nat := (double.mul x y).getD 0
def recD (k : Nat) : Nat := (double.div d1 (fD (25 - 2 * (k : Int)))).getD 0
theorem addD_ok {e : Int} {x y : Nat} (hx : BD e x) (hy : BD e y) (h1 : -900 ≤ e + 1) (h2 : e + 1 ≤ 900) : double.add x y = some (addD x y) ∧ BD (e + 1) (addD x y) := by
  obtain ⟨r, a, b⟩ := BD.add hx hy h1 h2
  have e : addD x y = r := by unfold addD; rw [a]; rfl
  rw [e]
  exact ⟨a, b⟩
theorem mulD_ok {e1 e2 : Int} {x y : Nat} (hx : BD e1 x) (hy : BD e2 y) (h1 : -900 ≤ e1 + e2) (h2 : e1 + e2 ≤ 900) : double.mul x y = some (mulD x y) ∧ BD (e1 + e2) (mulD x y) := by
  obtain ⟨r, a, b⟩ := BD.mul hx hy h1 h2
  have e : mulD x y = r := by unfold mulD; rw [a]; rfl
  rw [e]
  exact ⟨a, b⟩
theorem recD_ok {k : Nat} (h : k < 13) : double.div d1 (fD (25 - 2 * (k : Int))) = some (recD k) ∧ BD 0 (recD k) := by
  obtain ⟨c, a, b⟩ := recip k h
  have e : recD k = c := by unfold recD; rw [a]; rfl
  rw [e]
  exact ⟨a, b⟩
/-- the series -/
def serQ (u : Nat) : Nat → Nat
  | 0 => 0
  | k + 1 => addD (recD k) (mulD u (serQ u k))
theorem BD.zero (e : Int) : BD e 0 := ⟨false, 0, -1074, by decide, .inl rfl⟩
theorem serQ_bd {u : Nat} (hu : BD (-2) u) : ∀ k, k ≤ 13 → BD 1 (serQ u k) := by
  intro k
  induction k with
  | zero => intro _; exact BD.zero _
  | succ k ih =>
    intro hk
    have h1 := (mulD_ok hu (ih (by omega)) (by omega) (by omega)).2
    exact (addD_ok (recD_ok (show k < 13 by omega)).2 (h1.more (by omega)) (by omega) (by omega)).2
theorem serQ_step {u : Nat} (hu : BD (-2) u) {k : Nat} (hk : k < 13) :
    double.div d1 (fD (25 - 2 * (k : Int))) = some (recD k) ∧ double.mul u (serQ u k) = some (mulD u (serQ u k)) ∧ double.add (recD k) (mulD u (serQ u k)) = some (serQ u (k + 1)) := by
  have h0 := mulD_ok hu (serQ_bd hu k (by omega)) (by omega) (by omega)
  exact ⟨(recD_ok hk).1, h0.1, (addD_ok (recD_ok hk).2 (h0.2.more (by omega)) (by omega) (by omega)).1⟩
/-- a number of 64 bits that is not too great has one of 32 -/
theorem narrow_ok {y : Nat} (h : BD 100 y) : ∃ b, floatToFloatBits .f64 y .f32 = some b := by
  obtain ⟨s, m, i, h1, h2⟩ := h
  have h3 : m = 0 ∨ (m.log2 : Int) + i < ((101 : Nat) : Int) := by
    rcases h2 with h | h | ⟨h, _⟩
    · exact .inl h
    · exact .inr (by omega)
    · exact .inr (by omega)
  obtain ⟨s', m', i', k1, _, _⟩ := nearest_fb s m i 101 h3 (by omega)
  refine ⟨single.nearest s m i, ?_⟩
  unfold floatToFloatBits
  have e4 : FloatKind.f64.decode y = .number s m i := h1
  have e5 : FloatKind.f32.decode (FloatKind.f32.encode (.number s m i)) = .number s' m' i' := k1
  rw [if_neg (by decide), e4]
  show (if (FloatKind.f32.decode (FloatKind.f32.encode (.number s m i))).isInfinity then none else some (FloatKind.f32.encode (.number s m i))) = _
  rw [e5]
  rfl

end Go.Proofs.Ytocpahhpagkknaa
