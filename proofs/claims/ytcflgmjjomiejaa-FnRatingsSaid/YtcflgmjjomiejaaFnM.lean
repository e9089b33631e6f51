/- Strengths told as fractions: what a round keeps. -/
import Derived.Test.YtcflgmjjomiejaaRrM
import Derived.Test.YtcflgmjjomiejaaFsA
import Derived.Test.YtcflgmjjomiejaaMtM
namespace Go.Proofs.Ytcflgmjjomiejaa
set_option linter.unusedVariables false
set_option linter.unusedSimpArgs false
open Ieee

/-- an operation's answer, worth v -/
def VO (r : Option Nat) (v : Rat) : Prop := ∃ x, r = some x ∧ Vr single x v
theorem vo_add {r q : Option Nat} {a b : Rat} (hx : VO r a) (hy : VO q b) (h1 : a + b ≤ 2 ^ (124 : Int)) (h0 : 0 ≤ a + b) : ∃ v, VO (opO .add r q) v ∧ Fl single (a + b) v := by
  obtain ⟨x, rfl, gx⟩ := hx
  obtain ⟨y, rfl, gy⟩ := hy
  have hp := two_pos 124
  have h2 : (2 : Rat) ^ (124 : Int) ≤ 2 ^ (125 : Int) := two_le (by decide)
  obtain ⟨z, v, e, g, f⟩ := vr_add roomy1 gx gy (Rat.le_trans h1 h2) (by grind)
  exact ⟨v, ⟨z, e, g⟩, f⟩
theorem vo_mul {r q : Option Nat} {a b : Rat} (hx : VO r a) (hy : VO q b) (h1 : a * b ≤ 2 ^ (124 : Int)) (h0 : 0 ≤ a * b) : ∃ v, VO (opO .mul r q) v ∧ Fl single (a * b) v := by
  obtain ⟨x, rfl, gx⟩ := hx
  obtain ⟨y, rfl, gy⟩ := hy
  have hp := two_pos 124
  have h2 : (2 : Rat) ^ (124 : Int) ≤ 2 ^ (125 : Int) := two_le (by decide)
  obtain ⟨z, v, e, g, f⟩ := vr_mul roomy1 gx gy (Rat.le_trans h1 h2) (by grind)
  exact ⟨v, ⟨z, e, g⟩, f⟩
theorem vo_div {r q : Option Nat} {a b : Rat} (hx : VO r a) (hy : VO q b) (hb : b ≠ 0) (h1 : a / b ≤ 2 ^ (124 : Int)) (h0 : 0 ≤ a / b) : ∃ v, VO (opO .quo r q) v ∧ Fl single (a / b) v := by
  obtain ⟨x, rfl, gx⟩ := hx
  obtain ⟨y, rfl, gy⟩ := hy
  have hp := two_pos 124
  obtain ⟨z, v, e, g, f⟩ := vr_div roomy1 gx gy hb h1 (by grind)
  exact ⟨v, ⟨z, e, g⟩, f⟩
theorem vo_int (n : Int) (h : n.natAbs ≤ 2 ^ 24) : VO (some (fI n)) (n : Rat) := ⟨_, rfl, vr_int1 n h⟩
theorem vo_half : VO (some fHalf) (1 / 2) := ⟨_, rfl, half32⟩
theorem vo_one : VO (some fOne) 1 := ⟨_, rfl, one32⟩
theorem vo_zero : VO (some 0) 0 := ⟨_, rfl, zero32⟩

theorem div_le' {a b c : Rat} (hb : 0 < b) (h : a ≤ c * b) : a / b ≤ c := by
  refine Rat.le_of_mul_le_mul_right ?_ hb
  have : a / b * b = a := by grind
  rw [this]; exact h
theorem le_div' {a b c : Rat} (hb : 0 < b) (h : c * b ≤ a) : c ≤ a / b := by
  refine Rat.le_of_mul_le_mul_right ?_ hb
  have : a / b * b = a := by grind
  rw [this]; exact h
theorem rep_nat (q : Nat) (k : Int) (hq : q ≤ 2 ^ 24) (hk : -149 ≤ k) : Rep single ((q : Rat) * (2 : Rat) ^ k) := ⟨false, q, k, hk, hq, by rw [sg_f]; grind⟩
theorem rep_frac (q : Nat) (j : Nat) (hq : q ≤ 2 ^ 24) (hj : j ≤ 20) {c : Rat} (hc : c = (q : Rat) * (2 : Rat) ^ (-(j : Int))) : Rep single c := by rw [hc]; exact rep_nat q _ hq (by omega)

theorem ratSum_nonneg {s : Nat → Rat} {n : Nat} (h : ∀ i, i < n → 0 ≤ s i) : 0 ≤ ratSum s n := by
  induction n with
  | zero => exact Rat.le_refl
  | succ n ih =>
    have h1 := ih fun i hi => h i (by omega)
    have h2 := h n (by omega)
    show 0 ≤ ratSum s n + s n
    grind
theorem ratSum_one {s : Nat → Rat} {n : Nat} (h : ∀ i, i < n → 0 ≤ s i) {i : Nat} (hi : i < n) : s i ≤ ratSum s n := by
  induction n with
  | zero => omega
  | succ n ih =>
    have h1 : 0 ≤ ratSum s n := ratSum_nonneg (n := n) fun i hi => h i (by omega)
    have h2 := h n (by omega)
    show s i ≤ ratSum s n + s n
    by_cases e : i = n
    · subst e; grind
    · have := ih (fun i hi => h i (by omega)) (by omega)
      grind
theorem ratSum_two {s : Nat → Rat} {n : Nat} (h : ∀ i, i < n → 0 ≤ s i) {i k : Nat} (hi : i < k) (hk : k < n) : s i + s k ≤ ratSum s n := by
  induction n with
  | zero => omega
  | succ n ih =>
    have h2 := h n (by omega)
    show s i + s k ≤ ratSum s n + s n
    by_cases e : k = n
    · subst e
      have := ratSum_one (n := k) (fun i hi => h i (by omega)) hi
      grind
    · have := ih (fun i hi => h i (by omega)) (by omega)
      grind

/-- bounds by the number of players -/
def C1 (p : Nat) : Nat := 67108864 / (1025 * p)
def C2 (p : Nat) : Nat := 67108864 / (1025 * p + 1024)
def C3 (p : Nat) : Nat := 4194304 / (65 * p)
theorem c_facts : ∀ p : Nat, p < 7 → 2 ≤ p → C1 p * (1025 * p) ≤ 67108864 ∧ C2 p * (1025 * p + 1024) ≤ 67108864 ∧ C3 p * (65 * p) ≤ 4194304 ∧ 33554432 ≤ 3264 * C3 p ∧ C1 p ≤ 40000 ∧ C2 p ≤ 40000 ∧ C3 p ≤ 40000 ∧ 1 ≤ C2 p ∧ ∀ m : Nat, m < 9 → (2 * m + 1) * 4194304 ≤ 130 * p * (m * C1 p + C2 p) := by decide

/-- how often i has met others than itself, of the first k -/
def metTo (mt : List Int) (p i : Nat) : Nat → Nat
  | 0 => 0
  | k + 1 => if k = i then metTo mt p i k else metTo mt p i k + (mt.getD (i * p + k) 0).toNat
/-- what games give -/
structure GamesT (mt sc : List Int) (p : Nat) : Prop where
  p2 : 2 ≤ p
  p6 : p ≤ 6
  nn : ∀ i k, i < p → k < p → 0 ≤ mt.getD (i * p + k) 0
  le : ∀ i, i < p → metTo mt p i p ≤ 8
  sc0 : ∀ i, i < p → 0 ≤ sc.getD i 0
  sc2 : ∀ i, i < p → sc.getD i 0 ≤ 2 * (metTo mt p i p : Int)
theorem metTo_mono (mt : List Int) (p i : Nat) {j k : Nat} (h : j ≤ k) : metTo mt p i j ≤ metTo mt p i k := by
  induction k with
  | zero => have : j = 0 := by omega
            subst this; exact Nat.le_refl _
  | succ k ih =>
    by_cases e : j = k + 1
    · subst e; exact Nat.le_refl _
    · have h1 := ih (by omega)
      have h2 : metTo mt p i (k + 1) = if k = i then metTo mt p i k else metTo mt p i k + (mt.getD (i * p + k) 0).toNat := rfl
      rw [h2]
      split <;> omega

/-- strengths behind t rounds -/
structure StrR (p t : Nat) (S : List (Option Nat)) (s : Nat → Rat) : Prop where
  vo : ∀ i, i < p → VO (S.getD i none) (s i)
  lo : ∀ i, i < p → (2 : Rat) ^ (-(6 * (t : Int))) ≤ s i
  s1 : ratSum s p ≤ (p : Rat) + (p : Rat) / 10000
  s2 : (p : Rat) ≤ ratSum s p + (p : Rat) / 10000

/-- powers of two of a round -/
structure Pw (t : Nat) (μ ν : Rat) : Prop where
  eμ : (2 : Rat) ^ (-(6 * (t : Int))) = μ
  eν : (2 : Rat) ^ (6 * (t : Int)) = ν
  pos : 0 < μ
  one : 1 ≤ ν
  inv : μ * ν = 1
  top : ν ≤ 2 ^ (114 : Int)
  le1 : μ ≤ 1
theorem pw_ok (t : Nat) (ht : t ≤ 19) : ∃ μ ν, Pw t μ ν := by
  refine ⟨_, _, rfl, rfl, two_pos _, ?_, ?_, two_le (by omega), ?_⟩
  · have := two_le (a := 0) (b := 6 * (t : Int)) (by omega)
    exact this
  · rw [← Rat.zpow_add (by decide), show -(6 * (t : Int)) + 6 * (t : Int) = 0 by omega]
    rfl
  · have := two_le (a := -(6 * (t : Int))) (b := 0) (by omega)
    exact this
theorem rep_nu {t : Nat} {μ ν : Rat} (h : Pw t μ ν) (q : Nat) (hq : q ≤ 2 ^ 24) (j : Int) (hj : -20 ≤ j) {c : Rat} (hc : c = (q : Rat) * (2 : Rat) ^ j * ν) : Rep single c := by
  have := rep_nat q (j + 6 * (t : Int)) hq (by omega)
  rw [Rat.zpow_add (by decide), h.eν, ← Rat.mul_assoc, ← hc] at this
  exact this
theorem rep_mu {t : Nat} {μ ν : Rat} (h : Pw t μ ν) (ht : t ≤ 19) (q : Nat) (hq : q ≤ 2 ^ 24) (j : Int) (hj : -30 ≤ j) {c : Rat} (hc : c = (q : Rat) * (2 : Rat) ^ j * μ) : Rep single c := by
  have := rep_nat q (j + -(6 * (t : Int))) hq (by omega)
  rw [Rat.zpow_add (by decide), h.eμ, ← Rat.mul_assoc, ← hc] at this
  exact this

theorem pow_m1 : (2 : Rat) ^ (-1 : Int) = 1 / 2 := by decide +kernel
theorem pow_m16 : (2 : Rat) ^ (-((16 : Nat) : Int)) = 1 / 65536 := by decide +kernel
theorem StrR.pos {p t : Nat} {S : List (Option Nat)} {s : Nat → Rat} (h : StrR p t S s) : ∀ i, i < p → 0 ≤ s i := fun i hi => by
  have := h.lo i hi
  have := two_pos (-(6 * (t : Int)))
  grind
theorem StrR.two {p t : Nat} {S : List (Option Nat)} {s : Nat → Rat} (h : StrR p t S s) {i k : Nat} (hi : i < p) (hk : k < p) (hik : i ≠ k) : s i + s k ≤ (p : Rat) * 1025 / 1024 := by
  have h1 := h.s1
  have hp : (0 : Rat) ≤ (p : Rat) := Rat.natCast_nonneg
  rcases Nat.lt_or_ge i k with e | e
  · have := ratSum_two h.pos e hk
    grind
  · have := ratSum_two h.pos (show k < i by omega) hi
    grind
theorem StrR.one {p t : Nat} {S : List (Option Nat)} {s : Nat → Rat} (h : StrR p t S s) {i : Nat} (hi : i < p) : s i ≤ (p : Rat) * 1025 / 1024 := by
  have h1 := h.s1
  have hp : (0 : Rat) ≤ (p : Rat) := Rat.natCast_nonneg
  have := ratSum_one h.pos hi
  grind
theorem pc (p : Nat) (h2 : 2 ≤ p) (h6 : p ≤ 6) : (2 : Rat) ≤ (p : Rat) ∧ (p : Rat) ≤ 6 := ⟨by exact_mod_cast h2, by exact_mod_cast h6⟩
theorem n124 {a : Rat} (h : a ≤ big) : a ≤ 2 ^ (124 : Int) := le124 h
theorem top_nu {t : Nat} {μ ν : Rat} (h : Pw t μ ν) (c : Rat) (h0 : 0 ≤ c) (hc : c ≤ 1000) : c * ν ≤ 2 ^ (124 : Int) := by
  have h1 : (2 : Rat) ^ (124 : Int) = 1024 * 2 ^ (114 : Int) := by
    rw [show (124 : Int) = 10 + 114 by rfl, Rat.zpow_add (by decide)]
    rfl
  rw [h1]
  have h2 := (mul_bd (a := c) (b := ν) (A := 1000) (B := 2 ^ (114 : Int)) hc (by grind) h.top (by have := h.one; grind)).1
  have := two_pos 114
  grind

/-- what lies below a player's score -/
theorem bel_ok {mt sc : List Int} {p t : Nat} {S : List (Option Nat)} {s : Nat → Rat} {μ ν : Rat} (hG : GamesT mt sc p) (hS : StrR p t S s) (hP : Pw t μ ν) (ht : t ≤ 19) {i : Nat} (hi : i < p) :
    ∀ k, k ≤ p → ∃ b, VO (belO mt p S i k) b ∧ (metTo mt p i k : Rat) * ((C1 p : Rat) / 65536) ≤ b ∧ b ≤ (metTo mt p i k : Rat) / 2 * ν := by
  intro k
  have hp := pc p hG.p2 hG.p6
  obtain ⟨f1, f2, f3, f4, f5, f6, f7, f8, f9⟩ := c_facts p (by have := hG.p6; omega) hG.p2
  induction k with
  | zero => intro _; exact ⟨0, vo_zero, by show ((0 : Nat) : Rat) * _ ≤ 0; have : ((0 : Nat) : Rat) = 0 := rfl; rw [this]; grind, by show 0 ≤ ((0 : Nat) : Rat) / 2 * ν; have : ((0 : Nat) : Rat) = 0 := rfl; rw [this]; grind⟩
  | succ k ih =>
    intro hk
    obtain ⟨b, g1, g2, g3⟩ := ih (by omega)
    have em : metTo mt p i (k + 1) = if k = i then metTo mt p i k else metTo mt p i k + (mt.getD (i * p + k) 0).toNat := rfl
    by_cases hki : k = i
    · subst hki
      rw [belO_same, em, if_pos rfl]
      exact ⟨b, g1, g2, g3⟩
    · rw [belO_step _ _ _ _ _ hki]
      rw [if_neg hki] at em
      have hM8 : metTo mt p i (k + 1) ≤ 8 := Nat.le_trans (metTo_mono mt p i hk) (hG.le i hi)
      have hnn := hG.nn i k hi (by omega)
      obtain ⟨m, hm⟩ : ∃ m : Nat, mt.getD (i * p + k) 0 = (m : Int) := ⟨(mt.getD (i * p + k) 0).toNat, by omega⟩
      rw [hm, Int.toNat_natCast] at em
      rw [hm]
      have hm8 : m ≤ 8 := by omega
      -- the sum of both strengths
      have l1 := hS.lo i hi
      have l2 := hS.lo k (by omega)
      rw [hP.eμ] at l1 l2
      have u12 := hS.two hi (show k < p by omega) (fun e => hki e.symm)
      have hμ := hP.pos
      obtain ⟨d, v1, F1⟩ := vo_add (hS.vo i hi) (hS.vo k (by omega)) (n124 (by unfold big; grind)) (by grind)
      have d1 : 2 * μ ≤ d := F1.ge _ (rep_mu hP ht 2 (by decide) 0 (by decide) (by have : ((2 : Nat) : Rat) = 2 := rfl; rw [this]; have : (2 : Rat) ^ (0 : Int) = 1 := rfl; rw [this]; grind)) (by grind)
      have d2 : d ≤ (p : Rat) * 1025 / 1024 := F1.le _ (rep_frac (1025 * p) 10 (by have := hG.p6; omega) (by decide) (by rw [Rat.natCast_mul]; have : ((1025 : Nat) : Rat) = 1025 := rfl; rw [this]; grind)) u12
      have d0 : 0 < d := by grind
      -- the quotient
      have vm := vo_int (m : Int) (by omega)
      rw [Rat.intCast_natCast] at vm
      have m0 : (0 : Rat) ≤ (m : Rat) := Rat.natCast_nonneg
      have q0 : 0 ≤ (m : Rat) / d := le_div' d0 (by rw [Rat.zero_mul]; exact m0)
      have q1 : (m : Rat) / d ≤ (m : Rat) / 2 * ν := by
        refine div_le' d0 ?_
        have h1 := Rat.mul_le_mul_of_nonneg_left d1 (show 0 ≤ (m : Rat) / 2 * ν from Rat.mul_nonneg (by grind) (by have := hP.one; grind))
        have h2 : (m : Rat) / 2 * ν * (2 * μ) = (m : Rat) := by
          have := hP.inv
          grind
        rw [h2] at h1
        exact h1
      have c1f : (C1 p : Rat) * (1025 * (p : Rat)) ≤ 67108864 := by exact_mod_cast f1
      have q2 : (m : Rat) * ((C1 p : Rat) / 65536) ≤ (m : Rat) / d := by
        refine le_div' d0 ?_
        have c0 : (0 : Rat) ≤ (C1 p : Rat) := Rat.natCast_nonneg
        have h1 := Rat.mul_le_mul_of_nonneg_left d2 (show 0 ≤ (m : Rat) * ((C1 p : Rat) / 65536) from Rat.mul_nonneg m0 (by grind))
        have h2 := Rat.mul_le_mul_of_nonneg_left c1f m0
        grind
      have hmν : (m : Rat) / 2 * ν ≤ 2 ^ (124 : Int) := top_nu hP ((m : Rat) / 2) (by grind) (by have h8 : (m : Rat) ≤ ((8 : Nat) : Rat) := (by exact_mod_cast hm8); have h9 : ((8 : Nat) : Rat) = 8 := rfl; rw [h9] at h8; grind)
      obtain ⟨q, v2, F2⟩ := vo_div vm v1 (by grind) (Rat.le_trans q1 hmν) q0
      have q3 : q ≤ (m : Rat) / 2 * ν := F2.le _ (rep_nu hP m (by omega) (-1) (by decide) (by rw [pow_m1]; grind)) q1
      have q4 : (m : Rat) * ((C1 p : Rat) / 65536) ≤ q := F2.ge _ (rep_frac (m * C1 p) 16 (Nat.le_trans (Nat.mul_le_mul hm8 f5) (by decide)) (by decide) (by rw [Rat.natCast_mul]; rw [pow_m16]; grind)) q2
      -- the sum
      have eM : (metTo mt p i (k + 1) : Rat) = (metTo mt p i k : Rat) + (m : Rat) := by rw [em, Rat.natCast_add]
      rw [eM]
      have c0 : (0 : Rat) ≤ (C1 p : Rat) := Rat.natCast_nonneg
      have M0 : (0 : Rat) ≤ (metTo mt p i k : Rat) := Rat.natCast_nonneg
      have hbM : 0 ≤ b := by
        have := Rat.mul_nonneg M0 (show 0 ≤ (C1 p : Rat) / 65536 by grind)
        grind
      have hM : (metTo mt p i k : Rat) + (m : Rat) ≤ 8 := by
        rw [← eM]
        exact_mod_cast hM8
      have hMν : ((metTo mt p i k : Rat) + (m : Rat)) / 2 * ν ≤ 2 ^ (124 : Int) := top_nu hP _ (by grind) (by grind)
      have hle : b + q ≤ ((metTo mt p i k : Rat) + (m : Rat)) / 2 * ν := by grind
      have hq0 : 0 ≤ q := F2.ge 0 (rep_zero _) q0
      obtain ⟨b', v3, F3⟩ := vo_add g1 v2 (Rat.le_trans hle hMν) (by grind)
      refine ⟨b', v3, ?_, ?_⟩
      · refine F3.ge _ (rep_frac (metTo mt p i (k + 1) * C1 p) 16 (Nat.le_trans (Nat.mul_le_mul hM8 f5) (by decide)) (by decide) ?_) (by grind)
        rw [Rat.natCast_mul, eM]
        rw [pow_m16]; grind
      · refine F3.le _ (rep_nu hP (metTo mt p i (k + 1)) (by omega) (-1) (by decide) ?_) hle
        rw [pow_m1, eM]; grind

theorem nat_le_rat {m k : Nat} (h : m ≤ k) : (m : Rat) ≤ (k : Rat) := by exact_mod_cast h
/-- rounding, of what is not too small -/
theorem Fl.rel {e v : Rat} (h : Fl single e v) (h0 : (2 : Rat) ^ (-125 : Int) ≤ e) : v ≤ e + e / 2000000 ∧ e ≤ v + e / 2000000 := by
  have hp := two_pos (-125)
  have g1 := h.hi e Rat.le_refl (by grind)
  have g2 := h.lo e Rat.le_refl (by grind)
  have ht : tF single * 16777216 = (2 : Rat) ^ (-125 : Int) := by
    have e : tF single = (2 : Rat) ^ (-149 : Int) := rfl
    rw [e, show (-125 : Int) = -149 + 24 by rfl, Rat.zpow_add (by decide)]
    rfl
  rw [wF1] at g1 g2
  generalize (2 : Rat) ^ (-125 : Int) = E at *
  generalize tF single = T at *
  exact ⟨by grind, by grind⟩
theorem pow_n1 : (2 : Rat) ^ (-((1 : Nat) : Int)) = 1 / 2 := by decide +kernel
theorem nx_ok {mt sc : List Int} {p t : Nat} {S : List (Option Nat)} {s : Nat → Rat} {μ ν : Rat} (hG : GamesT mt sc p) (hS : StrR p t S s) (hP : Pw t μ ν) (ht : t ≤ 19) {i : Nat} (hi : i < p) :
    ∃ x, VO (nxO mt sc p S i) x ∧ 51 / 512 * μ ≤ x ∧ x ≤ (p : Rat) * 65 / 64 := by
  have hp := pc p hG.p2 hG.p6
  obtain ⟨f1, f2, f3, f4, f5, f6, f7, f8, f9⟩ := c_facts p (by have := hG.p6; omega) hG.p2
  obtain ⟨b, v1, b1, b2⟩ := bel_ok hG hS hP ht hi p (Nat.le_refl _)
  have hM8 := hG.le i hi
  have hM8' : (metTo mt p i p : Rat) ≤ ((8 : Nat) : Rat) := nat_le_rat hM8
  have e8 : ((8 : Nat) : Rat) = 8 := rfl
  rw [e8] at hM8'
  have M0 : (0 : Rat) ≤ (metTo mt p i p : Rat) := Rat.natCast_nonneg
  have c10 : (0 : Rat) ≤ (C1 p : Rat) := Rat.natCast_nonneg
  have c20 : (1 : Rat) ≤ (C2 p : Rat) := by exact_mod_cast f8
  have hμ := hP.pos
  have hν := hP.one
  -- the strength and one
  have l1 := hS.lo i hi
  rw [hP.eμ] at l1
  have u1 := hS.one hi
  obtain ⟨e, v2, F2⟩ := vo_add (hS.vo i hi) vo_one (n124 (by unfold big; grind)) (by grind)
  have e1 : 1 ≤ e := F2.ge 1 (rep_frac 1 0 (by decide) (by decide) (by decide +kernel)) (by grind)
  have e2 : e ≤ ((p : Rat) * 1025 + 1024) / 1024 := F2.le _ (rep_frac (1025 * p + 1024) 10 (by have := hG.p6; omega) (by decide) (by rw [Rat.natCast_add, Rat.natCast_mul]; have h1 : ((1025 : Nat) : Rat) = 1025 := rfl; have h2 : ((1024 : Nat) : Rat) = 1024 := rfl; rw [h1, h2]; grind)) (by grind)
  have e0 : 0 < e := by grind
  have r0 : 1 / e ≤ 1 := div_le' e0 (by grind)
  have c2f : (C2 p : Rat) * (1025 * (p : Rat) + 1024) ≤ 67108864 := by exact_mod_cast f2
  have r1 : (C2 p : Rat) / 65536 ≤ 1 / e := by
    refine le_div' e0 ?_
    have h1 := Rat.mul_le_mul_of_nonneg_left e2 (show 0 ≤ (C2 p : Rat) / 65536 by grind)
    grind
  obtain ⟨r, v3, F3⟩ := vo_div vo_one v2 (by grind) (n124 (by unfold big; grind)) (by grind)
  have r2 : r ≤ 1 := F3.le 1 (rep_frac 1 0 (by decide) (by decide) (by decide +kernel)) r0
  have r3 : (C2 p : Rat) / 65536 ≤ r := F3.ge _ (rep_frac (C2 p) 16 (Nat.le_trans f6 (by decide)) (by decide) (by rw [pow_m16]; grind)) r1
  -- what lies below
  have hb0 : 0 ≤ b := by
    have := Rat.mul_nonneg M0 (show 0 ≤ (C1 p : Rat) / 65536 by grind)
    grind
  have hb4 : b ≤ 4 * ν := by
    have := Rat.mul_le_mul_of_nonneg_right (show (metTo mt p i p : Rat) / 2 ≤ 4 by grind) (show 0 ≤ ν by grind)
    grind
  have h5 : b + r ≤ 5 * ν := by grind
  obtain ⟨B, v4, F4⟩ := vo_add v1 v3 (Rat.le_trans h5 (top_nu hP 5 (by decide) (by decide +kernel))) (by grind)
  have B1 : B ≤ 5 * ν := F4.le _ (rep_nu hP 5 (by decide) 0 (by decide) (by have h1 : ((5 : Nat) : Rat) = 5 := rfl; have h2 : (2 : Rat) ^ (0 : Int) = 1 := rfl; rw [h1, h2]; grind)) h5
  have B2 : ((metTo mt p i p : Rat) * (C1 p : Rat) + (C2 p : Rat)) / 65536 ≤ B := F4.ge _ (rep_frac (metTo mt p i p * C1 p + C2 p) 16 (by have := Nat.mul_le_mul hM8 f5; omega) (by decide) (by rw [Rat.natCast_add, Rat.natCast_mul, pow_m16]; grind)) (by grind)
  have B0 : 0 < B := by
    have := Rat.mul_nonneg M0 c10
    grind
  -- the score
  have s0 := hG.sc0 i hi
  have s2 := hG.sc2 i hi
  obtain ⟨q, hq⟩ : ∃ q : Nat, sc.getD i 0 = (q : Int) := ⟨(sc.getD i 0).toNat, by omega⟩
  have hq16 : q ≤ 16 := by omega
  have hqM : q ≤ 2 * metTo mt p i p := by omega
  have vq := vo_int (q : Int) (by omega)
  rw [Rat.intCast_natCast] at vq
  have q0 : (0 : Rat) ≤ (q : Rat) := Rat.natCast_nonneg
  have q16 : (q : Rat) ≤ ((16 : Nat) : Rat) := nat_le_rat hq16
  have e16 : ((16 : Nat) : Rat) = 16 := rfl
  rw [e16] at q16
  obtain ⟨h, v5, F5⟩ := vo_mul vo_half vq (n124 (by unfold big; grind)) (by grind)
  have hh : h = 1 / 2 * (q : Rat) := F5.exact (rep_frac q 1 (by omega) (by decide) (by rw [pow_n1]; grind))
  subst hh
  obtain ⟨n, v6, F6⟩ := vo_add v5 vo_half (n124 (by unfold big; grind)) (by grind)
  have hn : n = 1 / 2 * (q : Rat) + 1 / 2 := F6.exact (rep_frac (q + 1) 1 (by omega) (by decide) (by rw [pow_n1, Rat.natCast_add]; have h2 : ((1 : Nat) : Rat) = 1 := rfl; rw [h2]; grind))
  subst hn
  -- the quotient
  have hlow : 51 / 512 * μ ≤ (1 / 2 * (q : Rat) + 1 / 2) / B := by
    refine le_div' B0 ?_
    have h1 := Rat.mul_le_mul_of_nonneg_left B1 (show 0 ≤ 51 / 512 * μ by grind)
    have h2 : 51 / 512 * μ * (5 * ν) = 255 / 512 := by have := hP.inv; grind
    grind
  have hup : (1 / 2 * (q : Rat) + 1 / 2) / B ≤ (p : Rat) * 65 / 64 := by
    refine div_le' B0 ?_
    have h1 := Rat.mul_le_mul_of_nonneg_left B2 (show 0 ≤ (p : Rat) * 65 / 64 by grind)
    have h2 := f9 (metTo mt p i p) (by omega)
    have h3 : (2 * (metTo mt p i p : Rat) + 1) * 4194304 ≤ 130 * (p : Rat) * ((metTo mt p i p : Rat) * (C1 p : Rat) + (C2 p : Rat)) := by exact_mod_cast h2
    have h4 : (q : Rat) ≤ 2 * (metTo mt p i p : Rat) := by exact_mod_cast hqM
    grind
  obtain ⟨x, v7, F7⟩ := vo_div v6 v4 (by grind) (n124 (by unfold big; grind)) (by grind)
  have en : nxO mt sc p S i = opO .quo (opO .add (opO .mul (some fHalf) (some (fI (q : Int)))) (some fHalf)) (opO .add (belO mt p S i p) (opO .quo (some fOne) (opO .add (S.getD i none) (some fOne)))) := by
    unfold nxO lowO
    rw [hq]
  rw [en]
  refine ⟨x, v7, ?_, ?_⟩
  · refine F7.ge _ (rep_mu hP ht 51 (by decide) (-9) (by decide) ?_) hlow
    have h1 : (2 : Rat) ^ (-9 : Int) = 1 / 512 := by decide +kernel
    have h2 : ((51 : Nat) : Rat) = 51 := rfl
    rw [h1, h2]; grind
  · refine F7.le _ (rep_frac (65 * p) 6 (by have := hG.p6; omega) (by decide) ?_) hup
    have h1 : (2 : Rat) ^ (-((6 : Nat) : Int)) = 1 / 64 := by decide +kernel
    have h2 : ((65 : Nat) : Rat) = 65 := rfl
    rw [h1, Rat.natCast_mul, h2]; grind

theorem choose_rat {n : Nat} {P : Nat → Rat → Prop} (h : ∀ i, i < n → ∃ v, P i v) : ∃ f : Nat → Rat, ∀ i, i < n → P i (f i) := by
  induction n with
  | zero => exact ⟨fun _ => 0, fun i hi => by omega⟩
  | succ n ih =>
    obtain ⟨f, hf⟩ := ih fun i hi => h i (by omega)
    obtain ⟨v, hv⟩ := h n (by omega)
    refine ⟨fun i => if i = n then v else f i, fun i hi => ?_⟩
    by_cases e : i = n
    · subst e; simpa using hv
    · simpa [e] using hf i (by omega)
theorem ratSum_le {a b : Nat → Rat} {n : Nat} (h : ∀ i, i < n → a i ≤ b i) : ratSum a n ≤ ratSum b n := by
  induction n with
  | zero => exact Rat.le_refl
  | succ n ih =>
    have h1 := ih fun i hi => h i (by omega)
    have h2 := h n (by omega)
    show ratSum a n + a n ≤ ratSum b n + b n
    grind
theorem ratSum_mul (a : Nat → Rat) (c : Rat) : ∀ n, ratSum (fun i => a i * c) n = ratSum a n * c := by
  intro n
  induction n with
  | zero => show (0 : Rat) = 0 * c; grind
  | succ n ih => show ratSum (fun i => a i * c) n + a n * c = (ratSum a n + a n) * c; rw [ih]; grind
theorem tiny_mu {t : Nat} {μ ν : Rat} (h : Pw t μ ν) (ht : t ≤ 19) {e : Rat} (he : 1 / 2048 * μ ≤ e) : (2 : Rat) ^ (-125 : Int) ≤ e := by
  have h1 : (2 : Rat) ^ (-125 : Int) = 1 / 2048 * 2 ^ (-114 : Int) := by
    rw [show (-125 : Int) = -11 + -114 by rfl, Rat.zpow_add (by decide)]
    have : (2 : Rat) ^ (-11 : Int) = 1 / 2048 := by decide +kernel
    rw [this]
  have h2 : (2 : Rat) ^ (-114 : Int) ≤ μ := by
    rw [← h.eμ]
    exact two_le (by omega)
  rw [h1]
  generalize (2 : Rat) ^ (-114 : Int) = E at *
  grind

/-- the sum of the next strengths -/
theorem sum_ok {L : List (Option Nat)} {x : Nat → Rat} {p t : Nat} {μ ν : Rat} (hP : Pw t μ ν) (ht : t ≤ 19) (hp2 : 2 ≤ p) (hp6 : p ≤ 6) (hv : ∀ i, i < p → VO (L.getD i none) (x i)) (h1 : ∀ i, i < p → 51 / 512 * μ ≤ x i) (h2 : ∀ i, i < p → x i ≤ (p : Rat) * 65 / 64) :
    ∀ k, k ≤ p → ∃ S, VO (sumO L k) S ∧ 0 ≤ S ∧ S ≤ (k : Rat) * ((p : Rat) * 65 / 64) ∧ (1 ≤ k → 51 / 512 * μ ≤ S) ∧ S ≤ ratSum x k + ratSum x k * (k : Rat) / 1000000 ∧ ratSum x k ≤ S + ratSum x k * (k : Rat) / 1000000 := by
  intro k
  have hp := pc p hp2 hp6
  have hμ := hP.pos
  have hx0 : ∀ i, i < p → 0 ≤ x i := fun i hi => by have := h1 i hi; grind
  induction k with
  | zero =>
    intro _
    have h0 : ((0 : Nat) : Rat) = 0 := rfl
    rw [h0]
    exact ⟨0, vo_zero, Rat.le_refl, by grind, fun h => absurd h (by omega), by show (0 : Rat) ≤ 0 + 0 * 0 / 1000000; grind, by show (0 : Rat) ≤ 0 + 0 * 0 / 1000000; grind⟩
  | succ k ih =>
    intro hk
    obtain ⟨S, g1, g2, g3, g4, g5, g6⟩ := ih (by omega)
    have a1 := h1 k (by omega)
    have a2 := h2 k (by omega)
    have a0 := hx0 k (by omega)
    have hSg : 0 ≤ ratSum x k := ratSum_nonneg fun i hi => hx0 i (by omega)
    have ek : ((k + 1 : Nat) : Rat) = (k : Rat) + 1 := by grind
    have k0 : (0 : Rat) ≤ (k : Rat) := Rat.natCast_nonneg
    have k5 : (k : Rat) ≤ ((5 : Nat) : Rat) := nat_le_rat (by omega)
    have e5 : ((5 : Nat) : Rat) = 5 := rfl
    rw [e5] at k5
    have hkX : (k : Rat) * ((p : Rat) * 65 / 64) ≤ 5 * ((p : Rat) * 65 / 64) := Rat.mul_le_mul_of_nonneg_right k5 (by grind)
    obtain ⟨S', v, F⟩ := vo_add g1 (hv k (by omega)) (n124 (by unfold big; grind)) (by grind)
    obtain ⟨r1, r2⟩ := F.rel (tiny_mu hP ht (by grind))
    have eSg : ratSum x (k + 1) = ratSum x k + x k := rfl
    have b1 : ratSum x k * (k : Rat) ≤ ratSum x k * 5 := Rat.mul_le_mul_of_nonneg_left k5 hSg
    have b2 : x k * (k : Rat) ≤ x k * 5 := Rat.mul_le_mul_of_nonneg_left k5 a0
    have b3 : 0 ≤ ratSum x k * (k : Rat) := Rat.mul_nonneg hSg k0
    have b4 : 0 ≤ x k * (k : Rat) := Rat.mul_nonneg a0 k0
    refine ⟨S', v, F.ge 0 (rep_zero _) (by grind), ?_, fun _ => ?_, ?_, ?_⟩
    · refine F.le _ (rep_frac ((k + 1) * (65 * p)) 6 ?_ (by decide) ?_) ?_
      · have : (k + 1) * (65 * p) ≤ 6 * (65 * 6) := Nat.mul_le_mul (by omega) (by omega)
        omega
      · have h1 : (2 : Rat) ^ (-((6 : Nat) : Int)) = 1 / 64 := by decide +kernel
        have h2 : ((65 : Nat) : Rat) = 65 := rfl
        rw [h1, Rat.natCast_mul, Rat.natCast_mul, h2]; grind
      · rw [ek]; grind
    · refine F.ge _ (rep_mu hP ht 51 (by decide) (-9) (by decide) ?_) (by grind)
      have h1 : (2 : Rat) ^ (-9 : Int) = 1 / 512 := by decide +kernel
      have h2 : ((51 : Nat) : Rat) = 51 := rfl
      rw [h1, h2]; grind
    · rw [eSg, ek]; grind
    · rw [eSg, ek]; grind

set_option maxHeartbeats 1600000 in
theorem step_ok {mt sc : List Int} {p t : Nat} {S : List (Option Nat)} {s : Nat → Rat} (hG : GamesT mt sc p) (hS : StrR p t S s) (ht : t ≤ 19) : ∃ s', StrR p (t + 1) (stepO mt sc p S) s' ∧ ∀ i, i < p → s' i ≤ 1000 := by
  obtain ⟨μ, ν, hP⟩ := pw_ok t ht
  have hp := pc p hG.p2 hG.p6
  obtain ⟨f1, f2, f3, f4, f5, f6, f7, f8, f9⟩ := c_facts p (by have := hG.p6; omega) hG.p2
  obtain ⟨x, hx⟩ := choose_rat (fun i (hi : i < p) => nx_ok hG hS hP ht hi)
  have hμ := hP.pos
  have hν := hP.one
  have hxv : ∀ i, i < p → VO ((nxL mt sc p S).getD i none) (x i) := fun i hi => by rw [nxL_get hi]; exact (hx i hi).1
  obtain ⟨B, vB, B0, B1, B2, B3, B4⟩ := sum_ok hP ht hG.p2 hG.p6 hxv (fun i hi => (hx i hi).2.1) (fun i hi => (hx i hi).2.2) p (Nat.le_refl _)
  have B2 := B2 (by have := hG.p2; omega)
  have Bp : 0 < B := by grind
  have hx0 : ∀ i, i < p → 0 ≤ x i := fun i hi => by have := (hx i hi).2.1; grind
  have hSg : 0 ≤ ratSum x p := ratSum_nonneg hx0
  -- the factor
  have vp := vo_int (p : Int) (by have := hG.p6; omega)
  rw [Rat.intCast_natCast] at vp
  have c3f : (C3 p : Rat) * (65 * (p : Rat)) ≤ 4194304 := by exact_mod_cast f3
  have c30 : (0 : Rat) ≤ (C3 p : Rat) := Rat.natCast_nonneg
  have q1 : (C3 p : Rat) / 65536 ≤ (p : Rat) / B := by
    refine le_div' Bp ?_
    have h1 := Rat.mul_le_mul_of_nonneg_left B1 (show 0 ≤ (C3 p : Rat) / 65536 by grind)
    have h2 := Rat.mul_le_mul_of_nonneg_left c3f (show 0 ≤ (p : Rat) by grind)
    grind
  have q2 : (p : Rat) / B ≤ 64 * ν := by
    refine div_le' Bp ?_
    have h1 := Rat.mul_le_mul_of_nonneg_left B2 (show 0 ≤ 64 * ν by grind)
    have h2 : 64 * ν * (51 / 512 * μ) = 51 / 8 := by have := hP.inv; grind
    grind
  have hν64 : 64 * ν ≤ 2 ^ (124 : Int) := top_nu hP 64 (by decide +kernel) (by decide +kernel)
  obtain ⟨β, vβ, Fβ⟩ := vo_div vp vB (by grind) (Rat.le_trans q2 hν64) (by grind)
  have β1 : (C3 p : Rat) / 65536 ≤ β := Fβ.ge _ (rep_frac (C3 p) 16 (Nat.le_trans f7 (by decide)) (by decide) (by rw [pow_m16]; grind)) q1
  have β2 : β ≤ 64 * ν := Fβ.le _ (rep_nu hP 64 (by decide) 0 (by decide) (by have h1 : ((64 : Nat) : Rat) = 64 := rfl; have h2 : (2 : Rat) ^ (0 : Int) = 1 := rfl; rw [h1, h2]; grind)) q2
  have c3p : (33554432 : Rat) ≤ 3264 * (C3 p : Rat) := by exact_mod_cast f4
  obtain ⟨r1, r2⟩ := Fβ.rel (tiny_mu hP ht (by have := hP.le1; grind))
  -- each is multiplied
  have hn : ∀ i, i < p → ∃ y, VO (opO .mul ((nxL mt sc p S).getD i none) (byO (nxL mt sc p S) p)) y ∧ 1 / 64 * μ ≤ y ∧ y ≤ x i * β + x i * β / 2000000 ∧ x i * β ≤ y + x i * β / 2000000 := by
    intro i hi
    have a1 := (hx i hi).2.1
    have a2 := (hx i hi).2.2
    have l1 : 1 / 64 * μ ≤ x i * β := by
      have h1 := (mul_bd (a := 51 / 512 * μ) (b := (C3 p : Rat) / 65536) (A := x i) (B := β) a1 (by grind) β1 (by grind)).1
      have h2 := Rat.mul_le_mul_of_nonneg_right c3p (show 0 ≤ μ by grind)
      grind
    have u1 : x i * β ≤ 1000 * ν := by
      have h1 := (mul_bd (a := x i) (b := β) (A := 15) (B := 64 * ν) (by grind) (by grind) β2 (by grind)).1
      grind
    obtain ⟨y, vy, Fy⟩ := vo_mul (hxv i hi) vβ (Rat.le_trans u1 (top_nu hP 1000 (by decide +kernel) (by decide +kernel))) (by grind)
    obtain ⟨y1, y2⟩ := Fy.rel (tiny_mu hP ht (by grind))
    refine ⟨y, vy, ?_, y1, y2⟩
    refine Fy.ge _ (rep_mu hP ht 1 (by decide) (-6) (by decide) ?_) l1
    have h1 : (2 : Rat) ^ (-6 : Int) = 1 / 64 := by decide +kernel
    have h2 : ((1 : Nat) : Rat) = 1 := rfl
    rw [h1, h2]; grind
  obtain ⟨y, hy⟩ := choose_rat hn
  -- the sum of the next
  have e1 : ratSum y p ≤ ratSum (fun i => x i * (β + β / 2000000)) p := ratSum_le fun i hi => by have := (hy i hi).2.2.1; grind
  have e2 : ratSum (fun i => x i * (β - β / 2000000)) p ≤ ratSum y p := ratSum_le fun i hi => by have := (hy i hi).2.2.2; grind
  rw [ratSum_mul] at e1 e2
  obtain ⟨Sg, hSge⟩ : ∃ Sg, ratSum x p = Sg := ⟨_, rfl⟩
  rw [hSge] at e1 e2 B3 B4 hSg
  have eK : (p : Rat) / B * B = (p : Rat) := by grind
  obtain ⟨R, hRe⟩ : ∃ R, (p : Rat) / B = R := ⟨_, rfl⟩
  rw [hRe] at q1 q2 eK r1 r2
  have R0 : 0 ≤ R := by grind
  have p6 : (p : Rat) ≤ 6 := hp.2
  have hRSg : 0 ≤ R * Sg := Rat.mul_nonneg R0 hSg
  have k1 := Rat.mul_le_mul_of_nonneg_left B3 R0
  have k2 := Rat.mul_le_mul_of_nonneg_left B4 R0
  have k3 : R * Sg * (p : Rat) ≤ R * Sg * 6 := Rat.mul_le_mul_of_nonneg_left p6 hRSg
  have k4 := Rat.mul_le_mul_of_nonneg_right r1 hSg
  have k5 := Rat.mul_le_mul_of_nonneg_right r2 hSg
  have s1 : ratSum y p ≤ (p : Rat) + (p : Rat) / 10000 := by grind
  have s2 : (p : Rat) ≤ ratSum y p + (p : Rat) / 10000 := by grind
  have hst : ∀ i, i < p → (stepO mt sc p S).getD i none = opO .mul ((nxL mt sc p S).getD i none) (byO (nxL mt sc p S) p) := fun i hi => by
    unfold stepO
    have hl : i < (nxL mt sc p S).length := by rw [nxL_len]; exact hi
    simp [hl]
  refine ⟨y, ⟨fun i hi => by rw [hst i hi]; exact (hy i hi).1, fun i hi => ?_, s1, s2⟩, fun i hi => ?_⟩
  · have := (hy i hi).2.1
    rw [show -(6 * ((t + 1 : Nat) : Int)) = -6 + -(6 * (t : Int)) by omega, Rat.zpow_add (by decide), hP.eμ]
    have h1 : (2 : Rat) ^ (-6 : Int) = 1 / 64 := by decide +kernel
    rw [h1]
    exact this
  · have hy0 : ∀ i, i < p → 0 ≤ y i := fun i hi => by have := (hy i hi).2.1; grind
    have := ratSum_one hy0 hi
    grind
theorem ratSum_const (c : Rat) : ∀ n, ratSum (fun _ => c) n = (n : Rat) * c := by
  intro n
  induction n with
  | zero => show (0 : Rat) = ((0 : Nat) : Rat) * c; have : ((0 : Nat) : Rat) = 0 := rfl; rw [this]; grind
  | succ n ih => show ratSum (fun _ => c) n + c = ((n + 1 : Nat) : Rat) * c; rw [ih]; grind
/-- strengths behind t rounds are greater than 0, and make p, nearly -/
theorem fit_ok {mt sc : List Int} {p : Nat} (hG : GamesT mt sc p) : ∀ t, t ≤ 20 → ∃ s, StrR p t (fitO mt sc p t) s ∧ ∀ i, i < p → s i ≤ 1000 := by
  intro t
  induction t with
  | zero =>
    intro _
    have hp := pc p hG.p2 hG.p6
    refine ⟨fun _ => 1, ⟨fun i hi => ?_, fun i hi => Rat.le_refl, ?_, ?_⟩, fun i hi => (show (1 : Rat) ≤ 1000 by decide +kernel)⟩
    · have : (fitO mt sc p 0).getD i none = some fOne := by
        show (List.replicate p (some fOne)).getD i none = some fOne
        simp [hi]
      rw [this]
      exact vo_one
    · rw [ratSum_const]; grind
    · rw [ratSum_const]; grind
  | succ t ih =>
    intro ht
    obtain ⟨s, hS, _⟩ := ih (by omega)
    exact step_ok hG hS (by omega)

theorem addAt_same (out : List Int) (i : Nat) (d : Int) (h : i < out.length) : (addAt out i d).getD i 0 = out.getD i 0 + d := by simp [addAt, h]
theorem addAt_sum (L : List Int) : ∀ (i : Nat) (d : Int), i < L.length → (addAt L i d).sum = L.sum + d := by
  induction L with
  | nil => intro i d h; simp at h
  | cons x L ih =>
    intro i d h
    cases i with
    | zero => simp [addAt]; omega
    | succ i =>
      have := ih i d (by simpa using h)
      simp only [addAt, List.getD_eq_getElem?_getD] at this
      simp [addAt, this]
      omega
theorem place_inj2 {n a b c d : Nat} (hb : b < n) (hd : d < n) (h : a * n + b = c * n + d) : a = c ∧ b = d := by
  have e1 : (a * n + b) / n = a := by rw [Nat.mul_comm, Nat.mul_add_div (by omega), Nat.div_eq_of_lt hb, Nat.add_zero]
  have e2 : (c * n + d) / n = c := by rw [Nat.mul_comm, Nat.mul_add_div (by omega), Nat.div_eq_of_lt hd, Nat.add_zero]
  have e3 : a = c := by rw [← e1, ← e2, h]
  subst e3
  exact ⟨rfl, by omega⟩
theorem metTo_add {mt : List Int} {p a b i : Nat} (hl : mt.length = p * p) (hn : ∀ j, 0 ≤ mt.getD j 0) (ha : a < p) (hb : b < p) (hab : a ≠ b) : ∀ k, k ≤ p → metTo (addAt mt (a * p + b) 1) p i k = metTo mt p i k + if i = a ∧ b < k then 1 else 0 := by
  intro k
  induction k with
  | zero => intro _; rw [if_neg (by omega)]; rfl
  | succ k ih =>
    intro hk
    have h1 := ih (by omega)
    have e1 : ∀ m : List Int, metTo m p i (k + 1) = if k = i then metTo m p i k else metTo m p i k + (m.getD (i * p + k) 0).toNat := fun m => rfl
    rw [e1, e1, h1]
    have hnn := hn (i * p + k)
    by_cases h2 : k = i
    · rw [if_pos h2, if_pos h2]
      by_cases h3 : i = a ∧ b < k
      · rw [if_pos h3, if_pos (by omega)]
      · rw [if_neg h3, if_neg (by omega)]
    · rw [if_neg h2, if_neg h2]
      by_cases h3 : i = a ∧ b = k
      · obtain ⟨rfl, rfl⟩ := h3
        rw [addAt_same _ _ _ (by rw [hl]; exact place_lt ha hb), if_neg (by omega), if_pos (by omega)]
        omega
      · have h4 : a * p + b ≠ i * p + k := fun e => by
          obtain ⟨q1, q2⟩ := place_inj2 hb (show k < p by omega) e
          exact h3 ⟨q1.symm, q2⟩
        rw [addAt_getD_ne _ _ _ _ h4]
        by_cases h5 : i = a ∧ b < k
        · rw [if_pos h5, if_pos (by omega)]; omega
        · rw [if_neg h5, if_neg (by omega)]
          omega
theorem addAt_nn {L : List Int} {i : Nat} {d : Int} (h : ∀ j, 0 ≤ L.getD j 0) (hd : 0 ≤ d) : ∀ j, 0 ≤ (addAt L i d).getD j 0 := fun j => by
  have hj := h j
  by_cases e : i = j
  · subst e
    by_cases hl : i < L.length
    · rw [addAt_same _ _ _ hl]; omega
    · have : (addAt L i d).getD i 0 = 0 := by
        rw [List.getD_eq_getElem?_getD, List.getElem?_eq_none (by rw [addAt_len]; omega)]
        rfl
      omega
  · rw [addAt_getD_ne _ _ _ _ e]; exact hj
/-- what k games give -/
structure Tal (p k : Nat) (sc mt : List Int) : Prop where
  sn : ∀ j, 0 ≤ sc.getD j 0
  mn : ∀ j, 0 ≤ mt.getD j 0
  le : ∀ i, i < p → metTo mt p i p ≤ k
  s2 : ∀ i, i < p → sc.getD i 0 ≤ 2 * (metTo mt p i p : Int)
  ss : sc.sum = 2 * (k : Int)
  ms : mt.sum = 2 * (k : Int)
theorem rep0_getD (n j : Nat) : (List.replicate n (0 : Int)).getD j 0 = 0 := by
  simp only [List.getD_eq_getElem?_getD, List.getElem?_replicate]
  split <;> rfl
theorem metTo_zero (p i : Nat) (n : Nat) : ∀ k, metTo (List.replicate n (0 : Int)) p i k = 0 := by
  intro k
  induction k with
  | zero => rfl
  | succ k ih =>
    show (if k = i then metTo (List.replicate n (0 : Int)) p i k else metTo (List.replicate n (0 : Int)) p i k + ((List.replicate n (0 : Int)).getD (i * p + k) 0).toNat) = 0
    rw [ih, rep0_getD]
    split <;> rfl
theorem rep_sum0 (n : Nat) : (List.replicate n (0 : Int)).sum = 0 := by
  induction n with
  | zero => rfl
  | succ n ih => rw [List.replicate_succ, List.sum_cons, ih]; rfl
theorem tal_ok {p : Nat} {gs : List (Int × Int × Int)} (hg : ∀ g ∈ gs, okGame (p : Int) g = true) : ∀ k, k ≤ gs.length → Tal p k (tally scorePs p (gs.take k)) (tally (metPs p) (p * p) (gs.take k)) := by
  intro k
  induction k with
  | zero =>
    intro _
    rw [List.take_zero, tally_nil, tally_nil]
    exact ⟨fun j => by rw [rep0_getD]; exact Int.le_refl _, fun j => by rw [rep0_getD]; exact Int.le_refl _, fun i hi => by rw [metTo_zero]; exact Nat.le_refl _, fun i hi => by rw [metTo_zero, rep0_getD]; exact Int.le_refl _, rep_sum0 _, rep_sum0 _⟩
  | succ k ih =>
    intro hk
    have hT := ih (by omega)
    have hls := tally_len scorePs p (gs.take k)
    have hlm := tally_len (metPs p) (p * p) (gs.take k)
    rw [tally_succ scorePs p gs k (by omega), tally_succ (metPs p) (p * p) gs k (by omega)]
    obtain ⟨a, b, e1, e2, ha, hb, hab, hr0, hr2⟩ := okGame_nat (hg _ (getD_mem (d := (0, 0, 0)) (k := k) (by omega)))
    have ha' : a < p := by omega
    have hb' : b < p := by omega
    generalize tally scorePs p (gs.take k) = S0 at *
    generalize tally (metPs p) (p * p) (gs.take k) = M0 at *
    unfold scorePs metPs
    dsimp only
    rw [e1, e2, Int.toNat_natCast, Int.toNat_natCast]
    generalize (gs.getD k (0, 0, 0)).2.2 = r at *
    have pab := place_lt ha' hb'
    have pba := place_lt hb' ha'
    have hl1 : (addAt M0 (a * p + b) 1).length = p * p := by rw [addAt_len, hlm]
    have hn1 := addAt_nn (i := a * p + b) (d := 1) hT.mn (by omega)
    have hm : ∀ i, metTo (addAt (addAt M0 (a * p + b) 1) (b * p + a) 1) p i p = metTo M0 p i p + (if i = a then 1 else 0) + (if i = b then 1 else 0) := fun i => by
      rw [metTo_add hl1 hn1 hb' ha' (fun e => hab e.symm) p (Nat.le_refl _), metTo_add hlm hT.mn ha' hb' hab p (Nat.le_refl _)]
      by_cases h1 : i = a
      · by_cases h2 : i = b
        · omega
        · rw [if_pos ⟨h1, hb'⟩, if_pos h1, if_neg (by omega), if_neg h2]
      · by_cases h2 : i = b
        · rw [if_neg (by omega), if_neg h1, if_pos ⟨h2, ha'⟩, if_pos h2]
        · rw [if_neg (by omega), if_neg h1, if_neg (by omega), if_neg h2]
    have hs : ∀ i, i < p → (addAt (addAt S0 a r) b (2 - r)).getD i 0 = S0.getD i 0 + (if i = a then r else 0) + (if i = b then 2 - r else 0) := fun i hi => by
      by_cases h2 : i = b
      · subst h2
        rw [addAt_same _ _ _ (by rw [addAt_len, hls]; exact hi), addAt_getD_ne _ _ _ _ hab, if_neg (fun e => hab e.symm), if_pos rfl]
        omega
      · rw [addAt_getD_ne _ _ _ _ (fun e => h2 e.symm), if_neg h2]
        by_cases h1 : i = a
        · subst h1
          rw [addAt_same _ _ _ (by rw [hls]; exact hi), if_pos rfl]
          omega
        · rw [addAt_getD_ne _ _ _ _ (fun e => h1 e.symm), if_neg h1]
          omega
    refine ⟨addAt_nn (addAt_nn hT.sn hr0) (by omega), addAt_nn hn1 (by omega), fun i hi => ?_, fun i hi => ?_, ?_, ?_⟩
    · rw [hm]
      have := hT.le i hi
      by_cases h1 : i = a
      · rw [if_pos h1, if_neg (by omega)]; omega
      · rw [if_neg h1]
        split <;> omega
    · rw [hm, hs i hi]
      have := hT.s2 i hi
      by_cases h1 : i = a
      · rw [if_pos h1, if_pos h1, if_neg (by omega), if_neg (by omega)]; omega
      · rw [if_neg h1, if_neg h1]
        by_cases h2 : i = b
        · rw [if_pos h2, if_pos h2]; omega
        · rw [if_neg h2, if_neg h2]; omega
    · rw [addAt_sum _ _ _ (by rw [addAt_len, hls]; exact hb'), addAt_sum _ _ _ (by rw [hls]; exact ha'), hT.ss]
      omega
    · rw [addAt_sum _ _ _ (by rw [hl1]; exact pba), addAt_sum _ _ _ (by rw [hlm]; exact pab), hT.ms]
      omega

theorem tal_all {p : Nat} {gs : List (Int × Int × Int)} (hg : ∀ g ∈ gs, okGame (p : Int) g = true) : Tal p gs.length (tally scorePs p gs) (tally (metPs p) (p * p) gs) := by
  have := tal_ok hg gs.length (Nat.le_refl _)
  rw [List.take_length] at this
  exact this
theorem tal_games {p : Nat} {gs : List (Int × Int × Int)} (hg : ∀ g ∈ gs, okGame (p : Int) g = true) (hl : gs.length ≤ 8) (h2 : 2 ≤ p) (h6 : p ≤ 6) : GamesT (tally (metPs p) (p * p) gs) (tally scorePs p gs) p := by
  have h := tal_all hg
  exact ⟨h2, h6, fun i k _ _ => h.mn _, fun i hi => Nat.le_trans (h.le i hi) hl, fun i _ => h.sn i, h.s2⟩

/-- strengths: positive, at most 1000, whose sum is near p -/
structure StrV (p : Nat) (L : List Nat) (s : Nat → Rat) : Prop where
  len : L.length = p
  vr : ∀ i, i < p → Vr Ieee.single (L.getD i 0) (s i)
  pos : ∀ i, i < p → 0 < s i
  low : ∀ i, i < p → (2 : Rat) ^ (-120 : Int) ≤ s i
  top : ∀ i, i < p → s i ≤ 1000
  s1 : ratSum s p ≤ (p : Rat) + (p : Rat) / 10000
  s2 : (p : Rat) ≤ ratSum s p + (p : Rat) / 10000
theorem fitRes_ok {p : Nat} {gs : List (Int × Int × Int)} (hg : ∀ g ∈ gs, okGame (p : Int) g = true) (hl : gs.length ≤ 8) (h2 : 2 ≤ p) (h6 : p ≤ 6) :
    ∃ L s, fitRes (p : Int) gs 20 = (L, true) ∧ StrV p L s := by
  obtain ⟨s, hS, htop⟩ := fit_ok (tal_games hg hl h2 h6) 20 (Nat.le_refl _)
  have hok : okGames (p : Int) gs = true := by
    simp only [okGames, Bool.and_eq_true, inB_iff, decide_eq_true_eq, List.all_eq_true]
    exact ⟨⟨⟨by omega, by omega⟩, by omega⟩, hg⟩
  have hlen := fitO_len (tally (metPs p) (p * p) gs) (tally scorePs p gs) p 20
  have hpos : ∀ i, i < p → 0 < s i := fun i hi => by
    have := hS.lo i hi
    have := two_pos (-(6 * ((20 : Nat) : Int)))
    grind
  have hfin : (fitO (tally (metPs p) (p * p) gs) (tally scorePs p gs) p 20).all finO = true := by
    rw [List.all_eq_true]
    intro r hr
    obtain ⟨i, hi, rfl⟩ := List.getElem_of_mem hr
    obtain ⟨x, e, g⟩ := hS.vo i (by omega)
    rw [List.getD_eq_getElem?_getD, List.getElem?_eq_getElem hi] at e
    have e' : (fitO (tally (metPs p) (p * p) gs) (tally scorePs p gs) p 20)[i] = some x := e
    rw [e']
    exact vr_fin g (by have := htop i (by omega); unfold big; grind) (by have := hpos i (by omega); unfold big; grind)
  have e20 : (20 : Int).toNat = 20 := rfl
  refine ⟨(fitO (tally (metPs p) (p * p) gs) (tally scorePs p gs) p 20).map (·.getD 0), s, ?_, ?_, fun i hi => ?_, hpos, fun i hi => hS.lo i hi, htop, hS.s1, hS.s2⟩
  · unfold fitRes
    rw [hok, Int.toNat_natCast, e20, if_pos (by decide), if_pos hfin]
  · rw [List.length_map, hlen]
  · obtain ⟨x, e, g⟩ := hS.vo i hi
    have hi' : i < (fitO (tally (metPs p) (p * p) gs) (tally scorePs p gs) p 20).length := by rw [hlen]; exact hi
    have : ((fitO (tally (metPs p) (p * p) gs) (tally scorePs p gs) p 20).map (·.getD 0)).getD i 0 = x := by
      rw [List.getD_eq_getElem?_getD, List.getElem?_eq_getElem hi'] at e
      simp [hi']
      have e' : (fitO (tally (metPs p) (p * p) gs) (tally scorePs p gs) p 20)[i] = some x := e
      rw [e']
      rfl
    rw [this]
    exact g

end Go.Proofs.Ytcflgmjjomiejaa
