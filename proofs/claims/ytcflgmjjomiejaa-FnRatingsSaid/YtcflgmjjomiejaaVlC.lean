/- Floats: numbers n / 2 ^ K that are kept as they are by products, sums, differences and conversions; products that are rounded in their last places. -/
import Derived.Test.YtcflgmjjomiejaaVlB
import Derived.Test.YtcflgmjjomiejaaKcA
namespace Go.Proofs.Ytcflgmjjomiejaa
set_option linter.unusedVariables false
set_option linter.unusedSimpArgs false
open Ieee

/-- the digits of a word of 32 bits -/
theorem read_digits {x m : Nat} {i : Int} {s : Bool} (h : single.read x = .number s m i) : m < 2 ^ 24 := by
  have key : ∀ (neg : Bool) (rung : Nat), (if rung < single.binade then Datum.number neg rung single.leastPlace else if rung < single.infRung then Datum.number neg (single.binade + rung % single.binade) (single.leastPlace + (rung / single.binade - 1 : Nat)) else if rung = single.infRung then .infinity neg else .nan neg (rung - single.infRung)) = .number s m i → m < 2 ^ 24 := by
    intro neg rung h
    have hb : single.binade = 2 ^ 23 := rfl
    rw [hb] at h
    split at h
    · rename_i hr
      injection h with _ h5 _
      omega
    · split at h
      · injection h with _ h5 _
        have := Nat.mod_lt rung (show 0 < 2 ^ 23 by decide)
        omega
      · split at h <;> cases h
  exact key _ _ h

theorem log2_le_of {n k : Nat} (h : n < 2 ^ (k + 1)) : n.log2 ≤ k := by
  by_cases hn : n = 0
  · subst hn; exact Nat.zero_le _
  · have := (Nat.log2_lt hn).2 h
    omega

theorem pow_mod (m : Nat) {d t : Nat} (h : d ≤ t) : (m * 2 ^ t) % 2 ^ d = 0 := by
  rw [show t = (t - d) + d by omega, Nat.pow_add, ← Nat.mul_assoc, Nat.mul_mod_left]

/-- a number of 32 bits as one of 64 -/
theorem vl_wide {x a E : Nat} (h : Vl single x a) (ha : a.log2 ≤ 249) (hE : E = 925) : ∃ y, floatToFloatBits .f32 x .f64 = some y ∧ Vl double y (a * 2 ^ E) := by
  obtain ⟨m, i, h1, h2, h3⟩ := h
  have hd := read_digits h1
  have hP : single.leastPlace = -149 := rfl
  rw [hP] at h2 h3
  have hv : m * 2 ^ (i + ((1074 : Nat) : Int)).toNat = a * 2 ^ E := by
    rw [← h3, Nat.mul_assoc, ← Nat.pow_add]
    congr 2
    omega
  have hlog : (a * 2 ^ E).log2 ≤ a.log2 + E := by
    by_cases h0 : a = 0
    · rw [h0, Nat.zero_mul]
      show 0 ≤ _
      exact Nat.zero_le _
    · rw [log2_up h0]
      exact Nat.le_refl _
  obtain ⟨q, d, hr, hq⟩ := nearest_rnd roomy2 m i 1074 _ (Nat.le_refl _) (by omega) hv (by omega)
  have e0 : q * 2 ^ d = a * 2 ^ E := by
    refine hr.ex ?_
    rw [← hv]
    refine pow_mod _ ?_
    have h4 := hr.hd
    rw [← hv] at h4
    have hF : double.fractionBits = 52 := rfl
    rw [hF] at h4
    by_cases h0 : m = 0
    · rw [h0, Nat.zero_mul] at h4
      have : Nat.log2 0 = 0 := rfl
      rw [this] at h4
      omega
    · rw [log2_up h0] at h4
      have h5 : m.log2 ≤ 23 := log2_le_of hd
      omega
  rw [Nat.sub_self, Nat.sub_zero, e0] at hq
  have hq0 := hq
  obtain ⟨m', i', k1, _⟩ := hq
  refine ⟨double.nearest false m i, ?_, hq0⟩
  unfold floatToFloatBits
  have e1 : FloatKind.f32.decode x = .number false m i := h1
  have e2 : FloatKind.f64.decode (FloatKind.f64.encode (.number false m i)) = .number false m' i' := k1
  rw [if_neg (by decide), e1]
  show (if (FloatKind.f64.decode (FloatKind.f64.encode (.number false m i))).isInfinity then none else some (FloatKind.f64.encode (.number false m i))) = _
  rw [e2]
  rfl

/-- n / 2 ^ K in 32 bits, in 64 bits -/
def Dy (K n x : Nat) : Prop := Vl single x (n * 2 ^ (149 - K))
def Dd (K n x : Nat) : Prop := Vl double x (n * 2 ^ (1074 - K))

theorem log2_dy {n K P e : Nat} (h : n < 2 ^ (e + 1)) : (n * 2 ^ (P - K)).log2 ≤ e + (P - K) := by
  by_cases h0 : n = 0
  · rw [h0, Nat.zero_mul]
    show 0 ≤ _
    exact Nat.zero_le _
  · rw [log2_up h0]
    have := log2_le_of h
    omega

theorem Dy.wide {K n x : Nat} (h : Dy K n x) (hn : n < 2 ^ 40) (hK : K ≤ 149) : ∃ y, floatToFloatBits .f32 x .f64 = some y ∧ Dd K n y := by
  obtain ⟨E, hE⟩ : ∃ E, E = 925 := ⟨_, rfl⟩
  obtain ⟨y, h1, h2⟩ := vl_wide h (Nat.le_trans (log2_dy (e := 39) hn) (by omega)) hE
  refine ⟨y, h1, ?_⟩
  unfold Dd
  rw [show 1074 - K = (149 - K) + E by omega, Nat.pow_add, ← Nat.mul_assoc]
  exact h2

theorem Dy.mul {K L n m x y : Nat} (hx : Dy K n x) (hy : Dy L m y) (hnm : n * m < 2 ^ 24) (hK : K + L ≤ 126) : ∃ r, single.mul x y = some r ∧ Dy (K + L) (n * m) r := by
  have hF : single.fractionBits = 23 := rfl
  have ev : n * 2 ^ (149 - K) * (m * 2 ^ (149 - L)) = n * m * 2 ^ (298 - (K + L)) := by
    rw [show 298 - (K + L) = (149 - K) + (149 - L) by omega, Nat.pow_add]
    grind
  have hl := log2_dy (n := n * m) (K := K + L) (P := 298) (e := 23) hnm
  obtain ⟨r, q, d, h1, h2, h3⟩ := vl_mul roomy1 hx hy (by rw [ev]; omega)
  refine ⟨r, h1, ?_⟩
  rw [ev] at h2
  have hd := h2.hd
  rw [hF] at hd
  have hd2 : d ≤ 298 - (K + L) := by omega
  have e0 := h2.ex (pow_mod _ hd2)
  unfold Dy
  have e1 : q * 2 ^ (d - 149) = n * m * 2 ^ (149 - (K + L)) := by
    refine Nat.eq_of_mul_eq_mul_right (Nat.two_pow_pos 149) ?_
    rw [Nat.mul_assoc, ← Nat.pow_add, Nat.mul_assoc, ← Nat.pow_add, show d - 149 + 149 = d by omega, show 149 - (K + L) + 149 = 298 - (K + L) by omega]
    exact e0
  rw [← e1]
  exact h3

/-- a product of more digits: rounded by at most 1024 units -/
theorem Dy.mulR {K L n m x y : Nat} (hx : Dy K n x) (hy : Dy L m y) (hnm : n * m < 2 ^ 34) (hK : K + L = 28) : ∃ r v, single.mul x y = some r ∧ Dy 28 v r ∧ v ≤ n * m + 1024 ∧ n * m ≤ v + 1024 := by
  have hF : single.fractionBits = 23 := rfl
  obtain ⟨E, hE⟩ : ∃ E, E = 270 := ⟨_, rfl⟩
  have h5 : (1024 : Nat) = 2 ^ 10 := by decide
  have ev : n * 2 ^ (149 - K) * (m * 2 ^ (149 - L)) = n * m * 2 ^ E := by
    rw [show E = (149 - K) + (149 - L) by omega, Nat.pow_add]
    grind
  have hl := log2_dy (n := n * m) (K := 28) (P := 298) (e := 33) (by omega)
  rw [show 298 - 28 = E by omega] at hl
  obtain ⟨r, q, d, h1, h2, h3⟩ := vl_mul roomy1 hx hy (by rw [ev]; omega)
  rw [ev] at h2
  have hd := h2.hd
  rw [hF] at hd
  have hd2 : d ≤ 280 := by omega
  by_cases hd3 : d ≤ E
  · refine ⟨r, n * m, h1, ?_, by omega, by omega⟩
    have e0 := h2.ex (pow_mod _ hd3)
    unfold Dy
    have e1 : q * 2 ^ (d - 149) = n * m * 2 ^ (149 - 28) := by
      refine Nat.eq_of_mul_eq_mul_right (Nat.two_pow_pos 149) ?_
      rw [Nat.mul_assoc, ← Nat.pow_add, Nat.mul_assoc, ← Nat.pow_add, show d - 149 + 149 = d by omega, show 149 - 28 + 149 = E by omega]
      exact e0
    rw [← e1]
    exact h3
  · refine ⟨r, q * 2 ^ (d - E), h1, ?_, ?_, ?_⟩
    · unfold Dy
      rw [Nat.mul_assoc, ← Nat.pow_add, show d - E + (149 - 28) = d - 149 by omega]
      exact h3
    · refine Nat.le_of_mul_le_mul_right ?_ (Nat.two_pow_pos E)
      rw [Nat.mul_assoc, ← Nat.pow_add, show d - E + E = d by omega, Nat.add_mul]
      refine Nat.le_trans h2.hi (Nat.add_le_add_left ?_ _)
      rw [h5, ← Nat.pow_add]
      exact Nat.pow_le_pow_right (by omega) (by omega)
    · refine Nat.le_of_mul_le_mul_right ?_ (Nat.two_pow_pos E)
      rw [Nat.add_mul, Nat.mul_assoc q, ← Nat.pow_add, show d - E + E = d by omega]
      refine Nat.le_trans h2.lo (Nat.add_le_add_left ?_ _)
      rw [h5, ← Nat.pow_add]
      exact Nat.pow_le_pow_right (by omega) (by omega)

theorem Dy.add {K n m x y : Nat} (hx : Dy K n x) (hy : Dy K m y) (hnm : n + m < 2 ^ 24) (hK : K ≤ 126) : ∃ r, single.add x y = some r ∧ Dy K (n + m) r := by
  have hF : single.fractionBits = 23 := rfl
  have ev : n * 2 ^ (149 - K) + m * 2 ^ (149 - K) = (n + m) * 2 ^ (149 - K) := (Nat.add_mul _ _ _).symm
  have hl := log2_dy (n := n + m) (K := K) (P := 149) (e := 23) hnm
  obtain ⟨r, q, d, h1, h2, h3⟩ := vl_add roomy1 hx hy (by rw [ev]; omega)
  refine ⟨r, h1, ?_⟩
  rw [ev] at h2
  have hd := h2.hd
  rw [hF] at hd
  have e0 := h2.ex (pow_mod _ (by omega))
  unfold Dy
  rw [← e0]
  exact h3

theorem Dd.add {K n m x y : Nat} (hx : Dd K n x) (hy : Dd K m y) (hnm : n + m < 2 ^ 53) (hK : K ≤ 1000) : ∃ r, double.add x y = some r ∧ Dd K (n + m) r := by
  have hF : double.fractionBits = 52 := rfl
  have ev : n * 2 ^ (1074 - K) + m * 2 ^ (1074 - K) = (n + m) * 2 ^ (1074 - K) := (Nat.add_mul _ _ _).symm
  have hl := log2_dy (n := n + m) (K := K) (P := 1074) (e := 52) hnm
  obtain ⟨r, q, d, h1, h2, h3⟩ := vl_add roomy2 hx hy (by rw [ev]; omega)
  refine ⟨r, h1, ?_⟩
  rw [ev] at h2
  have hd := h2.hd
  rw [hF] at hd
  have e0 := h2.ex (pow_mod _ (by omega))
  unfold Dd
  rw [← e0]
  exact h3

theorem Dd.sub {K n m x y : Nat} (hx : Dd K n x) (hy : Dd K m y) (hm : m ≤ n) (hn : n < 2 ^ 53) (hK : K ≤ 1000) : ∃ r, double.sub x y = some r ∧ Dd K (n - m) r := by
  have hF : double.fractionBits = 52 := rfl
  have ev : n * 2 ^ (1074 - K) - m * 2 ^ (1074 - K) = (n - m) * 2 ^ (1074 - K) := (Nat.sub_mul _ _ _).symm
  have hl := log2_dy (n := n - m) (K := K) (P := 1074) (e := 52) (by omega)
  obtain ⟨r, q, d, h1, h2, h3⟩ := vl_sub roomy2 hx hy (Nat.mul_le_mul_right _ hm) (by rw [ev]; omega)
  refine ⟨r, h1, ?_⟩
  rw [ev] at h2
  have hd := h2.hd
  rw [hF] at hd
  have e0 := h2.ex (pow_mod _ (by omega))
  unfold Dd
  rw [← e0]
  exact h3

theorem Dd.lt {K n m x y : Nat} (hx : Dd K n x) (hy : Dd K m y) : (double.order x y == some .lt) = decide (n < m) := by
  rw [vl_lt hx hy]
  simp only [Nat.mul_lt_mul_right (Nat.two_pow_pos (1074 - K))]

theorem Dd.zero (K : Nat) : Dd K 0 0 := ⟨0, -1074, by decide, by decide, by simp⟩
theorem Dd.of {K n x m s : Nat} {i : Int} (h : double.read x = .number false m i) (hi : -1074 ≤ i) (h1 : m = n * 2 ^ s) (h2 : s + (i + 1074).toNat = 1074 - K) : Dd K n x := by
  refine ⟨m, i, h, hi, ?_⟩
  rw [h1, Nat.mul_assoc, ← Nat.pow_add]
  congr 2
theorem Dd.one28 : Dd 28 268435456 4607182418800017408 := Dd.of (m := 4503599627370496) (s := 24) (i := -52) (by decide) (by decide) (by decide) (by decide)
theorem Dy.zero (K : Nat) : Dy K 0 0 := ⟨0, -149, by decide, by decide, by simp⟩
theorem Dy.one : Dy 0 1 1065353216 := ⟨8388608, -23, by decide, by decide, by decide⟩

theorem Dy.fM {K L n m x y : Nat} (hx : Dy K n x) (hy : Dy L m y) (hnm : n * m < 2 ^ 24) (hK : K + L ≤ 126) : Dy (K + L) (n * m) (fM x y) := by
  obtain ⟨r, h1, h2⟩ := Dy.mul hx hy hnm hK
  unfold Proofs.Ytcflgmjjomiejaa.fM
  rw [h1]
  exact h2
theorem Dy.fA {K n m x y : Nat} (hx : Dy K n x) (hy : Dy K m y) (hnm : n + m < 2 ^ 24) (hK : K ≤ 126) : Dy K (n + m) (fA x y) := by
  obtain ⟨r, h1, h2⟩ := Dy.add hx hy hnm hK
  unfold Proofs.Ytcflgmjjomiejaa.fA
  rw [h1]
  exact h2

end Go.Proofs.Ytcflgmjjomiejaa
