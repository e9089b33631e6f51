/- Operations on words, told as fractions: each gives a word that is worth the result, rounded. -/
import Derived.Test.YtcflgmjjomiejaaRaM
import Derived.Test.YtcflgmjjomiejaaFsA
import Derived.Test.YtcflgmjjomiejaaBasic
import Derived.Test.YtcflgmjjomiejaaLkA
namespace Go.Proofs.Ytcflgmjjomiejaa
set_option linter.unusedVariables false
set_option linter.unusedSimpArgs false
open Ieee

def mW (x y : Nat) : Nat := (double.mul x y).getD 0
def aW (x y : Nat) : Nat := (double.add x y).getD 0
def dW (x y : Nat) : Nat := (double.div x y).getD 0
def mS (x y : Nat) : Nat := (single.mul x y).getD 0
def aS (x y : Nat) : Nat := (single.add x y).getD 0
def sS (x y : Nat) : Nat := (single.sub x y).getD 0
def dS (x y : Nat) : Nat := (single.div x y).getD 0
def cW (x : Nat) : Nat := (floatToFloatBits .f32 x .f64).getD 0
def cS (x : Nat) : Nat := (floatToFloatBits .f64 x .f32).getD 0

theorem p125 : (1000000000000000000000000000000 : Rat) ≤ 2 ^ (124 : Int) := by decide +kernel
theorem p125' : (1000000000000000000000000000000 : Rat) ≤ 2 ^ (125 : Int) := by decide +kernel
/-- below a great number -/
def big : Rat := 1000000000000000000000000000000
theorem le125 {a : Rat} (h : a ≤ big) : a ≤ 2 ^ (125 : Int) := Rat.le_trans h p125'
theorem le124 {a : Rat} (h : a ≤ big) : a ≤ 2 ^ (124 : Int) := Rat.le_trans h p125

theorem mW_ok {x y : Nat} {a b : Rat} (hx : Vr double x a) (hy : Vr double y b) (h1 : a * b ≤ big) (h2 : -(a * b) ≤ big) : floatBits .mul .f64 x y = some (mW x y) ∧ ∃ v, Vr double (mW x y) v ∧ Fl double (a * b) v := by
  obtain ⟨r, v, g1, g2, g3⟩ := vr_mul roomy2 hx hy (le125 h1) (le125 h2)
  have e : mW x y = r := by unfold mW; rw [g1]; rfl
  rw [e]
  exact ⟨g1, v, g2, g3⟩
theorem aW_ok {x y : Nat} {a b : Rat} (hx : Vr double x a) (hy : Vr double y b) (h1 : a + b ≤ big) (h2 : -(a + b) ≤ big) : floatBits .add .f64 x y = some (aW x y) ∧ ∃ v, Vr double (aW x y) v ∧ Fl double (a + b) v := by
  obtain ⟨r, v, g1, g2, g3⟩ := vr_add roomy2 hx hy (le125 h1) (le125 h2)
  have e : aW x y = r := by unfold aW; rw [g1]; rfl
  rw [e]
  exact ⟨g1, v, g2, g3⟩
theorem dW_ok {x y : Nat} {a b : Rat} (hx : Vr double x a) (hy : Vr double y b) (hb : b ≠ 0) (h1 : a / b ≤ big) (h2 : -(a / b) ≤ big) : floatBits .quo .f64 x y = some (dW x y) ∧ ∃ v, Vr double (dW x y) v ∧ Fl double (a / b) v := by
  obtain ⟨r, v, g1, g2, g3⟩ := vr_div roomy2 hx hy hb (le124 h1) (le124 h2)
  have e : dW x y = r := by unfold dW; rw [g1]; rfl
  rw [e]
  exact ⟨g1, v, g2, g3⟩
theorem mS_ok {x y : Nat} {a b : Rat} (hx : Vr single x a) (hy : Vr single y b) (h1 : a * b ≤ big) (h2 : -(a * b) ≤ big) : floatBits .mul .f32 x y = some (mS x y) ∧ ∃ v, Vr single (mS x y) v ∧ Fl single (a * b) v := by
  obtain ⟨r, v, g1, g2, g3⟩ := vr_mul roomy1 hx hy (le125 h1) (le125 h2)
  have e : mS x y = r := by unfold mS; rw [g1]; rfl
  rw [e]
  exact ⟨g1, v, g2, g3⟩
theorem aS_ok {x y : Nat} {a b : Rat} (hx : Vr single x a) (hy : Vr single y b) (h1 : a + b ≤ big) (h2 : -(a + b) ≤ big) : floatBits .add .f32 x y = some (aS x y) ∧ ∃ v, Vr single (aS x y) v ∧ Fl single (a + b) v := by
  obtain ⟨r, v, g1, g2, g3⟩ := vr_add roomy1 hx hy (le125 h1) (le125 h2)
  have e : aS x y = r := by unfold aS; rw [g1]; rfl
  rw [e]
  exact ⟨g1, v, g2, g3⟩
theorem sS_ok {x y : Nat} {a b : Rat} (hx : Vr single x a) (hy : Vr single y b) (h1 : a - b ≤ big) (h2 : -(a - b) ≤ big) : floatBits .sub .f32 x y = some (sS x y) ∧ ∃ v, Vr single (sS x y) v ∧ Fl single (a - b) v := by
  obtain ⟨r, v, g1, g2, g3⟩ := vr_sub roomy1 hx hy (le125 h1) (le125 h2)
  have e : sS x y = r := by unfold sS; rw [g1]; rfl
  rw [e]
  exact ⟨g1, v, g2, g3⟩
theorem dS_ok {x y : Nat} {a b : Rat} (hx : Vr single x a) (hy : Vr single y b) (hb : b ≠ 0) (h1 : a / b ≤ big) (h2 : -(a / b) ≤ big) : floatBits .quo .f32 x y = some (dS x y) ∧ ∃ v, Vr single (dS x y) v ∧ Fl single (a / b) v := by
  obtain ⟨r, v, g1, g2, g3⟩ := vr_div roomy1 hx hy hb (le124 h1) (le124 h2)
  have e : dS x y = r := by unfold dS; rw [g1]; rfl
  rw [e]
  exact ⟨g1, v, g2, g3⟩
theorem cW_ok {x : Nat} {a : Rat} (hx : Vr single x a) (h1 : a ≤ big) (h2 : -a ≤ big) : floatToFloatBits .f32 x .f64 = some (cW x) ∧ Vr double (cW x) a := by
  obtain ⟨y, g1, g2⟩ := vr_wide hx (le125 h1) (le125 h2)
  have e : cW x = y := by unfold cW; rw [g1]; rfl
  rw [e]
  exact ⟨g1, g2⟩
theorem cS_ok {x : Nat} {a : Rat} (hx : Vr double x a) (h1 : a ≤ big) (h2 : -a ≤ big) : floatToFloatBits .f64 x .f32 = some (cS x) ∧ ∃ v, Vr single (cS x) v ∧ Fl single a v := by
  obtain ⟨y, v, g1, g2, g3⟩ := vr_narrow hx (le125 h1) (le125 h2)
  have e : cS x = y := by unfold cS; rw [g1]; rfl
  rw [e]
  exact ⟨g1, v, g2, g3⟩

/-- how near: in 64 bits, in 32 bits -/
theorem Fl.near2 {e v : Rat} (h : Fl double e v) (b : Rat) (h1 : e ≤ b) (h2 : -e ≤ b) : v ≤ e + (b / 2251799813685248 + 1 / 1000000000000000000000000000000) ∧ e ≤ v + (b / 2251799813685248 + 1 / 1000000000000000000000000000000) := by
  have g1 := h.hi b h1 h2
  have g2 := h.lo b h1 h2
  have g3 := tF2
  rw [wF2] at g1 g2
  exact ⟨by grind, by grind⟩
theorem Fl.near1 {e v : Rat} (h : Fl single e v) (b : Rat) (h1 : e ≤ b) (h2 : -e ≤ b) : v ≤ e + (b / 4194304 + 1 / 1000000000000000000000000000000) ∧ e ≤ v + (b / 4194304 + 1 / 1000000000000000000000000000000) := by
  have g1 := h.hi b h1 h2
  have g2 := h.lo b h1 h2
  have g3 := tF1
  rw [wF1] at g1 g2
  exact ⟨by grind, by grind⟩
/-- products of bounded numbers -/
theorem mul_bd {a b A B : Rat} (h1 : a ≤ A) (h2 : -a ≤ A) (h3 : b ≤ B) (h4 : -b ≤ B) : a * b ≤ A * B ∧ -(a * b) ≤ A * B := by
  have hA : 0 ≤ A := by grind
  have hB : 0 ≤ B := by grind
  have key : ∀ x y : Rat, 0 ≤ x → x ≤ A → 0 ≤ y → y ≤ B → x * y ≤ A * B := fun x y hx hxA hy hyB =>
    Rat.le_trans (Rat.mul_le_mul_of_nonneg_right hxA hy) (Rat.mul_le_mul_of_nonneg_left hyB hA)
  have pos : ∀ x y : Rat, 0 ≤ x → 0 ≤ y → 0 ≤ x * y := fun x y hx hy => Rat.mul_nonneg hx hy
  rcases Rat.le_total (a := 0) (b := a) with ha | ha <;> rcases Rat.le_total (a := 0) (b := b) with hb | hb
  · have g1 := key a b ha h1 hb h3
    have g2 := pos a b ha hb
    exact ⟨g1, by grind⟩
  · have g1 := key a (-b) ha h1 (by grind) h4
    have g2 := pos a (-b) ha (by grind)
    exact ⟨by grind, by grind⟩
  · have g1 := key (-a) b (by grind) h2 hb h3
    have g2 := pos (-a) b (by grind) hb
    exact ⟨by grind, by grind⟩
  · have g1 := key (-a) (-b) (by grind) h2 (by grind) h4
    have g2 := pos (-a) (-b) (by grind) (by grind)
    exact ⟨by grind, by grind⟩
theorem div_bd {a b A : Rat} (h1 : a ≤ A) (h2 : -a ≤ A) (hb : 1 ≤ b) : a / b ≤ A ∧ -(a / b) ≤ A := by
  have hb0 : 0 < b := by grind
  have hA : 0 ≤ A := by grind
  have h3 : A ≤ A * b := by
    have := Rat.mul_le_mul_of_nonneg_left hb hA
    rw [Rat.mul_one] at this
    exact this
  have e : a / b * b = a := by grind
  refine ⟨Rat.le_of_mul_le_mul_right ?_ hb0, Rat.le_of_mul_le_mul_right ?_ hb0⟩
  · rw [e]; grind
  · have : -(a / b) * b = -a := by grind
    rw [this]; grind

/-- a word is worth one number -/
theorem vr_uni {f : Format} {x : Nat} {a b : Rat} (h : Vr f x a) (k : Vr f x b) : a = b := by
  obtain ⟨s, m, i, h1, _, rfl⟩ := h
  obtain ⟨t, n, j, k1, _, rfl⟩ := k
  rw [h1] at k1
  cases k1
  rfl
theorem vr_int {f : Format} {P : Nat} (hf : Roomy f P) (n : Int) (h : n.natAbs ≤ 2 ^ 24) (hF : 23 ≤ f.fractionBits) (hL : f.leastPlace ≤ 0) : Vr f (f.nearest (decide (n < 0)) n.natAbs 0) (n : Rat) := by
  have e1 := total_rat (s := false) (t := false) n
  have e : sg (decide (n < 0)) * ((n.natAbs : Rat) * (2 : Rat) ^ (0 : Int)) = (n : Rat) := by
    by_cases h0 : n = 0
    · subst h0
      show _ * (((0 : Nat) : Rat) * _) = _
      grind
    · rw [if_neg h0] at e1
      rw [← e1]
      grind
  have hl : n.natAbs.log2 ≤ 24 := log2_le_of (by omega)
  obtain ⟨v, g1, g2⟩ := near_rat hf (decide (n < 0)) n.natAbs 0 (.inr (by omega))
  rw [e] at g2
  have := Fl.exact g2 (rep_of (decide (n < 0)) n.natAbs 0 hL (Nat.le_trans h (Nat.pow_le_pow_right (by omega) (by omega))) e.symm)
  subst this
  exact g1
theorem vr_int1 (n : Int) (h : n.natAbs ≤ 2 ^ 24) : Vr single (floatOfInt .f32 n) (n : Rat) := vr_int roomy1 n h (by decide) (by decide)
theorem vr_int2 (n : Int) (h : n.natAbs ≤ 2 ^ 24) : Vr double (floatOfInt .f64 n) (n : Rat) := vr_int roomy2 n h (by decide) (by decide)

def w256 : Nat := 4643211215818981376
def w1 : Nat := 4607182418800017408
/-- the word of k -/
def fk (k : Nat) : Nat := floatOfInt .f64 (k : Int)
def pE (t : Nat) : Nat → Nat
  | 0 => w1
  | j + 1 => aW w1 (dW (mW t (pE t j)) (fk (12 - j)))
def qE (p : Nat) : Nat → Nat
  | 0 => p
  | j + 1 => mW (qE p j) (qE p j)
def tE (x : Nat) : Nat := dW (cW x) w256
def expW (x : Nat) : Nat := qE (pE (tE x) 12) 8
def expS (x : Nat) : Nat := cS (expW x)

theorem fk_vr {k : Nat} (h : k ≤ 12) : Vr double (fk k) (k : Rat) := by
  have := vr_int2 (k : Int) (by omega)
  rw [Rat.intCast_natCast] at this
  exact this
/-- a step of the series -/
theorem pE_step {t j : Nat} {τ π : Rat} (ht : Vr double t τ) (h1 : τ ≤ 1 / 20) (h2 : -τ ≤ 1 / 20) (hp : Vr double (pE t j) π) (h3 : 15 / 16 ≤ π) (h4 : π ≤ 17 / 16) (hj : j < 12) :
    floatBits .mul .f64 t (pE t j) = some (mW t (pE t j)) ∧ floatBits .quo .f64 (mW t (pE t j)) (fk (12 - j)) = some (dW (mW t (pE t j)) (fk (12 - j))) ∧ floatBits .add .f64 w1 (dW (mW t (pE t j)) (fk (12 - j))) = some (pE t (j + 1)) ∧
    ∃ π', Vr double (pE t (j + 1)) π' ∧ 15 / 16 ≤ π' ∧ π' ≤ 17 / 16 ∧ π' ≤ 1 + τ * π / ((12 - j : Nat) : Rat) + 1 / 1000000000000000 ∧ 1 + τ * π / ((12 - j : Nat) : Rat) ≤ π' + 1 / 1000000000000000 := by
  obtain ⟨b1, b2⟩ := mul_bd h1 h2 h4 (show -π ≤ 17 / 16 by grind)
  obtain ⟨e1, v1, g1, f1⟩ := mW_ok ht hp (by unfold big; grind) (by unfold big; grind)
  obtain ⟨n1, n2⟩ := f1.near2 (1 / 20 * (17 / 16)) b1 b2
  have hk : (1 : Rat) ≤ ((12 - j : Nat) : Rat) := by
    have : 1 ≤ 12 - j := by omega
    exact_mod_cast this
  obtain ⟨c1, c2⟩ := div_bd (show v1 ≤ 3 / 50 by grind) (show -v1 ≤ 3 / 50 by grind) hk
  obtain ⟨e2, v2, g2, f2⟩ := dW_ok g1 (fk_vr (k := 12 - j) (by omega)) (by grind) (by unfold big; grind) (by unfold big; grind)
  obtain ⟨n3, n4⟩ := f2.near2 (3 / 50) c1 c2
  obtain ⟨e3, v3, g3, f3⟩ := aW_ok one64 g2 (by unfold big; grind) (by unfold big; grind)
  obtain ⟨n5, n6⟩ := f3.near2 (11 / 10) (by grind) (by grind)
  -- the quotient's error
  have d1 : v1 / ((12 - j : Nat) : Rat) ≤ τ * π / ((12 - j : Nat) : Rat) + (1 / 20 * (17 / 16) / 2251799813685248 + 1 / 1000000000000000000000000000000) ∧ τ * π / ((12 - j : Nat) : Rat) ≤ v1 / ((12 - j : Nat) : Rat) + (1 / 20 * (17 / 16) / 2251799813685248 + 1 / 1000000000000000000000000000000) := by
    obtain ⟨k1, k2⟩ := div_bd (a := v1 - τ * π) (A := 1 / 20 * (17 / 16) / 2251799813685248 + 1 / 1000000000000000000000000000000) (by grind) (by grind) hk
    have e : (v1 - τ * π) / ((12 - j : Nat) : Rat) = v1 / ((12 - j : Nat) : Rat) - τ * π / ((12 - j : Nat) : Rat) := by
      generalize ((12 - j : Nat) : Rat) = K at *
      grind
    rw [e] at k1 k2
    exact ⟨by grind, by grind⟩
  refine ⟨e1, e2, e3, v3, g3, by grind, by grind, by grind, by grind⟩
theorem pE_bd {t : Nat} {τ : Rat} (ht : Vr double t τ) (h1 : τ ≤ 1 / 20) (h2 : -τ ≤ 1 / 20) : ∀ j, j ≤ 12 → ∃ π, Vr double (pE t j) π ∧ 15 / 16 ≤ π ∧ π ≤ 17 / 16 := by
  intro j
  induction j with
  | zero => intro _; exact ⟨1, one64, by grind, by grind⟩
  | succ j ih =>
    intro hj
    obtain ⟨π, g1, g2, g3⟩ := ih (by omega)
    obtain ⟨_, _, _, π', k1, k2, k3, _⟩ := pE_step ht h1 h2 g1 g2 g3 (by omega)
    exact ⟨π', k1, k2, k3⟩
/-- a square -/
theorem sq_step {p : Nat} {σ L U : Rat} (hp : Vr double p σ) (hL : 0 ≤ L) (h1 : L ≤ σ) (h2 : σ ≤ U) (hU : U ≤ 1000000000000) :
    floatBits .mul .f64 p p = some (mW p p) ∧ ∃ σ', Vr double (mW p p) σ' ∧ Fl double (σ * σ) σ' ∧ L * L - (U * U / 2251799813685248 + 1 / 1000000000000000000000000000000) ≤ σ' ∧ σ' ≤ U * U + (U * U / 2251799813685248 + 1 / 1000000000000000000000000000000) := by
  have h3 : σ * σ ≤ U * U := (mul_bd h2 (by grind) h2 (by grind)).1
  have h4 : 0 ≤ σ * σ := Rat.mul_nonneg (by grind) (by grind)
  have h5 : L * L ≤ σ * σ := (mul_bd h1 (by grind) h1 (by grind)).1
  have h6 : U * U ≤ 1000000000000 * 1000000000000 := (mul_bd hU (by grind) hU (by grind)).1
  obtain ⟨e1, v, g1, f1⟩ := mW_ok hp hp (by unfold big; grind) (by unfold big; grind)
  obtain ⟨n1, n2⟩ := f1.near2 (U * U) h3 (by grind)
  exact ⟨e1, v, g1, f1, by grind, by grind⟩
/-- squares between two rows of bounds -/
structure Rows8 (L U : Nat → Rat) : Prop where
  pos : ∀ j, j < 8 → 0 ≤ L j
  top : ∀ j, j < 8 → U j ≤ 1000000000000
  lo : ∀ j, j < 8 → L (j + 1) ≤ L j * L j - (U j * U j / 2251799813685248 + 1 / 1000000000000000000000000000000)
  hi : ∀ j, j < 8 → U j * U j + (U j * U j / 2251799813685248 + 1 / 1000000000000000000000000000000) ≤ U (j + 1)
theorem qE_bd {L U : Nat → Rat} (hR : Rows8 L U) {p : Nat} {σ : Rat} (hp : Vr double p σ) (h1 : L 0 ≤ σ) (h2 : σ ≤ U 0) : ∀ j, j ≤ 8 → ∃ s, Vr double (qE p j) s ∧ L j ≤ s ∧ s ≤ U j := by
  intro j
  induction j with
  | zero => intro _; exact ⟨σ, hp, h1, h2⟩
  | succ j ih =>
    intro hj
    obtain ⟨s, g1, g2, g3⟩ := ih (by omega)
    obtain ⟨_, s', k1, _, k2, k3⟩ := sq_step g1 (hR.pos j (by omega)) g2 g3 (hR.top j (by omega))
    exact ⟨s', k1, Rat.le_trans (hR.lo j (by omega)) k2, Rat.le_trans k3 (hR.hi j (by omega))⟩
def rowOf (l : List Rat) (j : Nat) : Rat := l.getD j 0
def loA : List Rat := [15 / 16, 878 / 1000, 77 / 100, 592 / 1000, 35 / 100, 122 / 1000, 148 / 10000, 21 / 100000, 4 / 100000000]
def hiA : List Rat := [17 / 16, 113 / 100, 128 / 100, 164 / 100, 27 / 10, 73 / 10, 54, 2917, 8509000]
theorem rowsA : Rows8 (rowOf loA) (rowOf hiA) := by
  refine ⟨?_, ?_, ?_, ?_⟩ <;> decide +kernel

theorem rep_quarter {f : Format} (n : Int) (hF : 23 ≤ f.fractionBits) (hL : f.leastPlace ≤ -10) (h : n.natAbs ≤ 2 ^ 24) (k : Nat) (hk : k ≤ 10) {c : Rat} (hc : c = (n : Rat) * (2 : Rat) ^ (-(k : Int))) : Rep f c := by
  have e1 := total_rat (s := false) (t := false) n
  refine ⟨if n = 0 then false && false else decide (n < 0), n.natAbs, -(k : Int), by omega, Nat.le_trans h (Nat.pow_le_pow_right (by omega) (by omega)), ?_⟩
  rw [← Rat.mul_assoc, e1, hc]
theorem rep1 (n : Int) (h : n.natAbs ≤ 2 ^ 24) (k : Nat) (hk : k ≤ 10) {c : Rat} (hc : c = (n : Rat) * (2 : Rat) ^ (-(k : Int))) : Rep single c := rep_quarter n (by decide) (by decide) h k hk hc
theorem rep2 (n : Int) (h : n.natAbs ≤ 2 ^ 24) (k : Nat) (hk : k ≤ 10) {c : Rat} (hc : c = (n : Rat) * (2 : Rat) ^ (-(k : Int))) : Rep double c := rep_quarter n (by decide) (by decide) h k hk hc
theorem vr_lt {f : Format} {x y : Nat} {a b : Rat} (hx : Vr f x a) (hy : Vr f y b) (h : a < b) : f.order x y = some .lt := by rw [vr_order hx hy, if_pos h]
theorem vr_gt {f : Format} {x y : Nat} {a b : Rat} (hx : Vr f x a) (hy : Vr f y b) (h : b < a) : f.order x y = some .gt := by
  rw [vr_order hx hy, if_neg (by grind), if_neg (by grind)]
theorem vr_eq {f : Format} {x y : Nat} {a b : Rat} (hx : Vr f x a) (hy : Vr f y b) (h : a = b) : f.order x y = some .eq := by
  subst h
  rw [vr_order hx hy, if_neg Rat.lt_irrefl, if_pos rfl]
def w200 : Nat := 4641240890982006784
def wm200 : Nat := 13864612927836782592
theorem c200 : Vr double w200 200 := vr_of false 7036874417766400 (-45) (by decide) (by decide) (by rw [sg_f]; grind)
theorem cm200 : Vr double wm200 (-200) := vr_of true 7036874417766400 (-45) (by decide) (by decide) (by rw [sg_t]; grind)

/-- every operation of an exponential answers -/
structure ExpOps (x : Nat) : Prop where
  wide : floatToFloatBits .f32 x .f64 = some (cW x)
  self : double.order (cW x) (cW x) = some .eq
  ordG : double.order (cW x) w200 = some .lt
  ordL : double.order (cW x) wm200 = some .gt
  div : floatBits .quo .f64 (cW x) w256 = some (tE x)
  mul : ∀ j, j < 12 → floatBits .mul .f64 (tE x) (pE (tE x) j) = some (mW (tE x) (pE (tE x) j))
  quo : ∀ j, j < 12 → floatBits .quo .f64 (mW (tE x) (pE (tE x) j)) (fk (12 - j)) = some (dW (mW (tE x) (pE (tE x) j)) (fk (12 - j)))
  add : ∀ j, j < 12 → floatBits .add .f64 w1 (dW (mW (tE x) (pE (tE x) j)) (fk (12 - j))) = some (pE (tE x) (j + 1))
  sq : ∀ j, j < 8 → floatBits .mul .f64 (qE (pE (tE x) 12) j) (qE (pE (tE x) 12) j) = some (qE (pE (tE x) 12) (j + 1))
  nar : floatToFloatBits .f64 (expW x) .f32 = some (expS x)
/-- the argument of the series -/
theorem tE_ok {x : Nat} {ξ : Rat} (hx : Vr single x ξ) (h1 : ξ ≤ 12) (h2 : -ξ ≤ 12) :
    floatToFloatBits .f32 x .f64 = some (cW x) ∧ Vr double (cW x) ξ ∧ floatBits .quo .f64 (cW x) w256 = some (tE x) ∧
    ∃ τ, Vr double (tE x) τ ∧ τ ≤ 1 / 20 ∧ -τ ≤ 1 / 20 ∧ τ ≤ ξ / 256 + 1 / 10000000000000000 ∧ ξ / 256 ≤ τ + 1 / 10000000000000000 := by
  obtain ⟨e1, g1⟩ := cW_ok hx (by unfold big; grind) (by unfold big; grind)
  obtain ⟨e2, τ, g2, f2⟩ := dW_ok g1 c256 (by decide) (by unfold big; grind) (by unfold big; grind)
  obtain ⟨n1, n2⟩ := f2.near2 (12 / 256) (by grind) (by grind)
  exact ⟨e1, g1, e2, τ, g2, by grind, by grind, by grind, by grind⟩
theorem exp_ok {x : Nat} {ξ : Rat} (hx : Vr single x ξ) (h1 : ξ ≤ 12) (h2 : -ξ ≤ 12) : ExpOps x ∧ ∃ ε, Vr single (expS x) ε ∧ 0 ≤ ε ∧ ε ≤ 10000000 := by
  obtain ⟨e1, g1, e2, τ, g2, b1, b2, _, _⟩ := tE_ok hx h1 h2
  have hP := pE_bd g2 b1 b2
  obtain ⟨π, p1, p2, p3⟩ := hP 12 (Nat.le_refl _)
  have hl0 : rowOf loA 0 = 15 / 16 := rfl
  have hh0 : rowOf hiA 0 = 17 / 16 := rfl
  have hQ := qE_bd rowsA p1 (by rw [hl0]; exact p2) (by rw [hh0]; exact p3)
  obtain ⟨s, q1, q2, q3⟩ := hQ 8 (Nat.le_refl _)
  have hl8 : rowOf loA 8 = 4 / 100000000 := rfl
  have hh8 : rowOf hiA 8 = 8509000 := rfl
  rw [hl8] at q2
  rw [hh8] at q3
  obtain ⟨e3, ε, g3, f3⟩ := cS_ok q1 (by unfold big; grind) (by unfold big; grind)
  obtain ⟨n1, n2⟩ := f3.near1 8509000 q3 (by grind)
  have hε0 : 0 ≤ ε := f3.ge 0 (rep_zero _) (by grind)
  refine ⟨⟨e1, vr_eq g1 g1 rfl, vr_lt g1 c200 (by grind), vr_gt g1 cm200 (by grind), e2, fun j hj => ?_, fun j hj => ?_, fun j hj => ?_, fun j hj => ?_, e3⟩, ε, g3, hε0, by grind⟩
  · obtain ⟨π, p1, p2, p3⟩ := hP j (by omega)
    exact (pE_step g2 b1 b2 p1 p2 p3 hj).1
  · obtain ⟨π, p1, p2, p3⟩ := hP j (by omega)
    exact (pE_step g2 b1 b2 p1 p2 p3 hj).2.1
  · obtain ⟨π, p1, p2, p3⟩ := hP j (by omega)
    exact (pE_step g2 b1 b2 p1 p2 p3 hj).2.2.1
  · obtain ⟨s, q1, q2, q3⟩ := hQ j (by omega)
    exact (sq_step q1 (rowsA.pos j hj) q2 q3 (rowsA.top j hj)).1

def one32w : Nat := 1065353216
def two32w : Nat := 1073741824
def qX (a b : Nat) : Nat := dS (sS b a) two32w
/-- the expectation of a against b, at the scale 2 -/
def eW (a b : Nat) : Nat := dS one32w (aS one32w (expS (qX a b)))
structure ExpectOps (a b : Nat) : Prop where
  sub : floatBits .sub .f32 b a = some (sS b a)
  quo : floatBits .quo .f32 (sS b a) two32w = some (qX a b)
  exp : ExpOps (qX a b)
  add : floatBits .add .f32 one32w (expS (qX a b)) = some (aS one32w (expS (qX a b)))
  div : floatBits .quo .f32 one32w (aS one32w (expS (qX a b))) = some (eW a b)
  fa : finB a = true
  fb : finB b = true
  fe : finB (eW a b) = true
theorem vr_fin {x : Nat} {v : Rat} (h : Vr single x v) (h1 : v ≤ big) (h2 : -v ≤ big) : finB x = true := by
  have hfb : FB (100 + 1) x := h.fb (e := 100) (Rat.le_trans h1 (by decide +kernel)) (Rat.le_trans h2 (by decide +kernel))
  show (match opO .sub (some x) (some x) with | some z => Ieee.single.order z 0 == some .eq | none => false) = true
  have e : opO .sub (some x) (some x) = some 0 := fin_fb hfb
  rw [e]
  decide
theorem qX_ok {a b : Nat} {α β : Rat} (ha : Vr single a α) (hb : Vr single b β) (h1 : β - α ≤ 23) (h2 : α - β ≤ 23) :
    floatBits .sub .f32 b a = some (sS b a) ∧ floatBits .quo .f32 (sS b a) two32w = some (qX a b) ∧ ∃ ξ, Vr single (qX a b) ξ ∧ ξ ≤ 12 ∧ -ξ ≤ 12 ∧ ξ ≤ (β - α) / 2 + 1 / 100000 ∧ (β - α) / 2 ≤ ξ + 1 / 100000 := by
  obtain ⟨e1, δ, g1, f1⟩ := sS_ok hb ha (by unfold big; grind) (by unfold big; grind)
  obtain ⟨n1, n2⟩ := f1.near1 23 h1 (by grind)
  obtain ⟨e2, ξ, g2, f2⟩ := dS_ok g1 two32 (by decide) (by unfold big; grind) (by unfold big; grind)
  obtain ⟨n3, n4⟩ := f2.near1 12 (by grind) (by grind)
  exact ⟨e1, e2, ξ, g2, by grind, by grind, by grind, by grind⟩
theorem eW_ok {a b : Nat} {α β : Rat} (ha : Vr single a α) (hb : Vr single b β) (h1 : β - α ≤ 23) (h2 : α - β ≤ 23) (h3 : α ≤ big) (h4 : -α ≤ big) (h5 : β ≤ big) (h6 : -β ≤ big) :
    ExpectOps a b ∧ ∃ ε v, Vr single (expS (qX a b)) ε ∧ 0 ≤ ε ∧ ε ≤ 10000000 ∧ Vr single (eW a b) v ∧ 0 ≤ v ∧ v ≤ 1 ∧ (∃ s, Fl single (1 + ε) s ∧ 1 ≤ s ∧ Fl single (1 / s) v) := by
  obtain ⟨e1, e2, ξ, g2, b1, b2, _, _⟩ := qX_ok ha hb h1 h2
  obtain ⟨ho, ε, g3, b3, b4⟩ := exp_ok g2 b1 b2
  obtain ⟨e4, s, g4, f4⟩ := aS_ok one32 g3 (by unfold big; grind) (by unfold big; grind)
  have hs1 : 1 ≤ s := f4.ge 1 (rep1 1 (by decide) 0 (by omega) (by decide +kernel)) (by grind)
  obtain ⟨c1, c2⟩ := div_bd (a := 1) (A := 1) (by grind) (by grind) hs1
  obtain ⟨e5, v, g5, f5⟩ := dS_ok one32 g4 (by grind) (by unfold big; grind) (by unfold big; grind)
  have hv1 : v ≤ 1 := f5.le 1 (rep1 1 (by decide) 0 (by omega) (by decide +kernel)) c1
  have hpos : 0 ≤ 1 / s := by
    have h0 : 0 < s := by grind
    refine Rat.le_of_mul_le_mul_right ?_ h0
    have : 1 / s * s = 1 := by grind
    rw [this, Rat.zero_mul]
    decide
  have hv0 : 0 ≤ v := f5.ge 0 (rep_zero _) hpos
  exact ⟨⟨e1, e2, ho, e4, e5, vr_fin ha h3 h4, vr_fin hb h5 h6, vr_fin g5 (by unfold big; grind) (by unfold big; grind)⟩, ε, v, g3, b3, b4, g5, hv0, hv1, s, f4, hs1, f5⟩

open Go.RowKit

def mesE : Value → Nat | .float _ b => b | _ => 0
theorem fk_facts : ∀ j : Nat, j < 12 → fk (12 - (j + 1)) < fk (12 - j) ∧ ((Ieee.double.order (fk (12 - j)) w1 == some .gt) || (Ieee.double.order (fk (12 - j)) w1 == some .eq)) = true ∧ floatBits .sub .f64 (fk (12 - j)) w1 = some (fk (12 - (j + 1))) := by decide +kernel
theorem fk_end : ((Ieee.double.order (fk (12 - 12)) w1 == some .gt) || (Ieee.double.order (fk (12 - 12)) w1 == some .eq)) = false := by decide +kernel
theorem fk_start : (4622945017495814144 : Nat) = fk (12 - 0) := by decide +kernel

set_option maxHeartbeats 1600000 in
theorem exponential_ops {x : Nat} (h : ExpOps x) (w : World) : Calls Try.prog 73 #[.float .f64 (cW x)] w (RetS w (.float .f64 (expW x))) := by
  have hfm : FloatKind.f64.format = Ieee.double := rfl
  obtain ⟨_, _, o1, o2, d1, hm, hq, ha, hs, _⟩ := h
  unfold w200 at o1
  unfold wm200 at o2
  have hopD : ∀ t W, (binOp .quo t (.float .f64 (cW x)) (.float .f64 4643211215818981376)).run Try.prog W = .ok (.float .f64 (tE x)) W := fun t W => run_float_arith W .quo t .f64 _ _ _ d1
  have HM := Lib.hid hm
  have HQ := Lib.hid hq
  have HA := Lib.hid ha
  have HS := Lib.hid hs
  have HT : Hid (qE (pE (tE x) 12) 8 = expW x) := rfl
  have HP0 : Hid (pE (tE x) 0 = 4607182418800017408) := rfl
  have HS0 : Hid (∀ p, qE p 0 = p) := fun p => rfl
  have HF0 := Lib.hid fk_start
  clear d1 hm hq ha hs
  generalize expW x = E at *
  generalize tE x = T at *
  generalize cW x = y at *
  go_enter Try.func73, Try.ntmps73
  go_wp2_with (simp only [hopD])
  go_loop [4, 5] (fun vp vk => ∃ j : Nat, j ≤ 12 ∧ vp = .float .f64 (pE T j) ∧ vk = .float .f64 (fk (12 - j))) (fun _ vk => mesE vk)
  case atStart => exact ⟨0, by omega, by rw [HP0.out], by rw [← HF0.out]⟩
  case round =>
    obtain ⟨j, hj, rfl, rfl⟩ := hrel
    by_cases hlt : j < 12
    · have m1 := HM.out j hlt
      have m2 := HQ.out j hlt
      have m3 := HA.out j hlt
      obtain ⟨f1, f2, f3⟩ := fk_facts j hlt
      have HMe : Hid (mesE (.float .f64 (fk (12 - (j + 1)))) < mesE (.float .f64 (fk (12 - j)))) := f1
      unfold w1 at f2 f3 m3
      generalize pE T j = p0 at *
      generalize hp1 : pE T (j + 1) = p1 at *
      have HP1 := Lib.hid hp1
      generalize fk (12 - j) = k0 at *
      generalize hk1 : fk (12 - (j + 1)) = k1 at *
      have HK1 := Lib.hid hk1
      generalize mW T p0 = u1 at *
      generalize dW u1 k0 = u2 at *
      have hop1 : ∀ t W, (binOp .mul t (.float .f64 T) (.float .f64 p0)).run Try.prog W = .ok (.float .f64 u1) W := fun t W => run_float_arith W .mul t .f64 _ _ _ m1
      have hop2 : ∀ t W, (binOp .quo t (.float .f64 u1) (.float .f64 k0)).run Try.prog W = .ok (.float .f64 u2) W := fun t W => run_float_arith W .quo t .f64 _ _ _ m2
      have hop3 : ∀ t W, (binOp .add t (.float .f64 4607182418800017408) (.float .f64 u2)).run Try.prog W = .ok (.float .f64 p1) W := fun t W => run_float_arith W .add t .f64 _ _ _ m3
      have hop4 : ∀ t W, (binOp .sub t (.float .f64 k0) (.float .f64 4607182418800017408)).run Try.prog W = .ok (.float .f64 k1) W := fun t W => run_float_arith W .sub t .f64 _ _ _ f3
      clear m1 m2 m3 f1 f3 hp1 hk1 HP0 HF0
      go_wp2_with (simp only [hop1, hop2, hop3, hop4])
      go_round
      case rel => exact ⟨j + 1, by omega, by rw [HP1.out], by rw [HK1.out]⟩
      case measure => exact HMe.out
    · obtain rfl : j = 12 := by omega
      have f2 := fk_end
      unfold w1 at f2
      generalize hk0 : fk (12 - 12) = k0 at *
      clear hk0 HM HQ HA HP0 HF0
      generalize pE T 12 = p at *
      go_wp2
      go_loop [4, 25] (fun vp vi => ∃ j : Nat, j ≤ 8 ∧ vp = .float .f64 (qE p j) ∧ vi = .int .i64 j) (fun _ vi => 8 - (intOf vi).toNat)
      case atStart => exact ⟨0, by omega, by rw [HS0.out], rfl⟩
      case round =>
        obtain ⟨j, hj, rfl, rfl⟩ := hrel
        by_cases hlt : j < 8
        · have m1 := HS.out j hlt
          generalize qE p j = s0 at *
          generalize hs1 : qE p (j + 1) = s1 at *
          have HS1 := Lib.hid hs1
          have hop1 : ∀ t W, (binOp .mul t (.float .f64 s0) (.float .f64 s0)).run Try.prog W = .ok (.float .f64 s1) W := fun t W => run_float_arith W .mul t .f64 _ _ _ m1
          clear m1 hs1
          go_wp2_with (simp only [hop1])
          go_round
          case rel => exact ⟨j + 1, by omega, by rw [HS1.out], by go_num⟩
          case measure => simp [intOf]; omega
        · obtain rfl : j = 8 := by omega
          have hT := HT.out
          rw [hT]
          clear hT
          go_wp2
          go_ret
          exact ⟨rfl, rfl⟩

set_option maxHeartbeats 1600000 in
theorem l01ExpWide_ops {x : Nat} (h : ExpOps x) (w : World) : Calls Try.prog 77 #[.float .f64 (cW x)] w (RetS w (.float .f64 (expW x))) := by
  have hfm : FloatKind.f64.format = Ieee.double := rfl
  obtain ⟨_, o0, o1, o2, d1, hm, hq, ha, hs, _⟩ := h
  unfold w200 at o1
  unfold wm200 at o2
  have hopD : ∀ t W, (binOp .quo t (.float .f64 (cW x)) (.float .f64 4643211215818981376)).run Try.prog W = .ok (.float .f64 (tE x)) W := fun t W => run_float_arith W .quo t .f64 _ _ _ d1
  have HM := Lib.hid hm
  have HQ := Lib.hid hq
  have HA := Lib.hid ha
  have HS := Lib.hid hs
  have HT : Hid (qE (pE (tE x) 12) 8 = expW x) := rfl
  have HP0 : Hid (pE (tE x) 0 = 4607182418800017408) := rfl
  have HS0 : Hid (∀ p, qE p 0 = p) := fun p => rfl
  clear d1 hm hq ha hs
  generalize expW x = E at *
  generalize tE x = T at *
  generalize cW x = y at *
  go_enter Try.func77, Try.ntmps77
  go_wp2_with (simp only [hopD])
  go_loop [4, 5] (fun vp vk => ∃ j : Nat, j ≤ 12 ∧ vp = .float .f64 (pE T j) ∧ vk = .int .i64 ((12 - j : Nat) : Int)) (fun _ vk => (intOf vk).toNat)
  case atStart => exact ⟨0, by omega, by rw [HP0.out], rfl⟩
  case round =>
    obtain ⟨j, hj, rfl, rfl⟩ := hrel
    by_cases hlt : j < 12
    · have m1 := HM.out j hlt
      have m2 := HQ.out j hlt
      have m3 := HA.out j hlt
      have hfk : floatOfInt .f64 ((12 - j : Nat) : Int) = fk (12 - j) := rfl
      unfold w1 at m3
      obtain ⟨K, hK⟩ : ∃ K, 12 - j = K := ⟨_, rfl⟩
      have hK1 : 1 ≤ K := by omega
      have hK2 : K ≤ 12 := by omega
      have HJ : Hid (12 - (j + 1) = K - 1) := by show _ = _; omega
      rw [hK] at hfk m2 m3 ⊢
      generalize pE T j = p0 at *
      generalize hp1 : pE T (j + 1) = p1 at *
      have HP1 := Lib.hid hp1
      generalize fk K = k0 at *
      generalize mW T p0 = u1 at *
      generalize dW u1 k0 = u2 at *
      have hop1 : ∀ t W, (binOp .mul t (.float .f64 T) (.float .f64 p0)).run Try.prog W = .ok (.float .f64 u1) W := fun t W => run_float_arith W .mul t .f64 _ _ _ m1
      have hop2 : ∀ t W, (binOp .quo t (.float .f64 u1) (.float .f64 (floatOfInt .f64 (K : Int)))).run Try.prog W = .ok (.float .f64 u2) W := fun t W => by rw [hfk]; exact run_float_arith W .quo t .f64 _ _ _ m2
      have hop3 : ∀ t W, (binOp .add t (.float .f64 4607182418800017408) (.float .f64 u2)).run Try.prog W = .ok (.float .f64 p1) W := fun t W => run_float_arith W .add t .f64 _ _ _ m3
      have hw1 : IntKind.i64.wrap ((K : Int) - 1) = ((K - 1 : Nat) : Int) := by rw [IntWalk.i64_in _ (by omega)]; omega
      clear m1 m2 m3 hp1 HP0 hfk hK
      go_wp2_with (simp only [hop1, hop2, hop3])
      go_round
      case rel => exact ⟨j + 1, by have := HJ.out; omega, by rw [HP1.out], by first | rw [HJ.out] | (rw [HJ.out]; go_num)⟩
      case measure => have := HJ.out; simp [intOf]; omega
    · obtain rfl : j = 12 := by omega
      clear HM HQ HA HP0
      generalize pE T 12 = p at *
      go_wp2
      go_loop [4, 6] (fun vp vi => ∃ j : Nat, j ≤ 8 ∧ vp = .float .f64 (qE p j) ∧ vi = .int .i64 j) (fun _ vi => 8 - (intOf vi).toNat)
      case atStart => exact ⟨0, by omega, by rw [HS0.out], rfl⟩
      case round =>
        obtain ⟨j, hj, rfl, rfl⟩ := hrel
        by_cases hlt : j < 8
        · have m1 := HS.out j hlt
          generalize qE p j = s0 at *
          generalize hs1 : qE p (j + 1) = s1 at *
          have HS1 := Lib.hid hs1
          have hop1 : ∀ t W, (binOp .mul t (.float .f64 s0) (.float .f64 s0)).run Try.prog W = .ok (.float .f64 s1) W := fun t W => run_float_arith W .mul t .f64 _ _ _ m1
          clear m1 hs1
          go_wp2_with (simp only [hop1])
          go_round
          case rel => exact ⟨j + 1, by omega, by rw [HS1.out], by go_num⟩
          case measure => simp [intOf]; omega
        · obtain rfl : j = 8 := by omega
          have hT := HT.out
          rw [hT]
          clear hT
          go_wp2
          go_ret
          exact ⟨rfl, rfl⟩

theorem expNumber_ops {x : Nat} (h : ExpOps x) (w : World) : Calls Try.prog 61 #[.float .f32 x] w (RetS w (.float .f32 (expS x))) := by
  have C := Lib.hid (fun W => exponential_ops h W)
  have hop1 : ∀ W, (convert 29 28 (.float .f32 x)).run Try.prog W = .ok (.float .f64 (cW x)) W := fun W => run_convert_float_float W _ _ .f32 .f64 _ _ rfl Try.underlying28 h.wide
  have hop2 : ∀ W, (convert 28 29 (.float .f64 (expW x))).run Try.prog W = .ok (.float .f32 (expS x)) W := fun W => run_convert_float_float W _ _ .f64 .f32 _ _ rfl Try.underlying29 h.nar
  clear h
  generalize expS x = E at *
  generalize expW x = F at *
  generalize cW x = y at *
  go_enter Try.func61, Try.ntmps61
  go_wp2_with (simp only [hop1])
  refine (C.out _).mono ?_
  rintro e w1 ⟨rfl, rfl⟩
  go_wp2_with (simp only [hop2])
  go_ret
  exact ⟨rfl, rfl⟩

theorem l01Exp_ops {x : Nat} (h : ExpOps x) (w : World) : Calls Try.prog 70 #[.float .f32 x] w (RetS w (.float .f32 (expS x))) := by
  have C := Lib.hid (fun W => l01ExpWide_ops h W)
  have hop1 : ∀ W, (convert 29 28 (.float .f32 x)).run Try.prog W = .ok (.float .f64 (cW x)) W := fun W => run_convert_float_float W _ _ .f32 .f64 _ _ rfl Try.underlying28 h.wide
  have hop2 : ∀ W, (convert 28 29 (.float .f64 (expW x))).run Try.prog W = .ok (.float .f32 (expS x)) W := fun W => run_convert_float_float W _ _ .f64 .f32 _ _ rfl Try.underlying29 h.nar
  clear h
  generalize expS x = E at *
  generalize expW x = F at *
  generalize cW x = y at *
  have CN : Hid (∀ w, Calls Try.prog 68 #[.float .f64 F] w (RetS w (.float .f32 E))) := by
    show ∀ w, _
    intro w
    clear C
    go_enter Try.func68, Try.ntmps68
    go_wp2_with (simp only [hop2])
    go_ret
    exact ⟨rfl, rfl⟩
  go_enter Try.func70, Try.ntmps70
  go_wp2_with (simp only [hop1])
  refine (C.out _).mono ?_
  rintro e w1 ⟨rfl, rfl⟩
  go_wp2_with (fail)
  refine (CN.out _).mono ?_
  rintro e w1 ⟨rfl, rfl⟩
  go_wp2
  go_ret
  exact ⟨rfl, rfl⟩

theorem expect_ops {a b : Nat} (h : ExpectOps a b) (w : World) : Calls Try.prog 37 #[.float .f32 a, .float .f32 b, .float .f32 1073741824] w (RetS w (.float .f32 (eW a b))) := by
  have C := Lib.hid (fun W => expNumber_ops h.exp W)
  obtain ⟨e1, e2, _, e3, e4, _, _, _⟩ := h
  unfold two32w at e2
  unfold one32w at e3 e4
  generalize eW a b = E at *
  generalize expS (qX a b) = F at *
  generalize qX a b = q at *
  generalize sS b a = s at *
  generalize aS 1065353216 F = t at *
  have hop1 : ∀ t W, (binOp .sub t (.float .f32 b) (.float .f32 a)).run Try.prog W = .ok (.float .f32 s) W := fun t W => run_float_arith W .sub t .f32 _ _ _ e1
  have hop2 : ∀ t W, (binOp .quo t (.float .f32 s) (.float .f32 1073741824)).run Try.prog W = .ok (.float .f32 q) W := fun t W => run_float_arith W .quo t .f32 _ _ _ e2
  have hop3 : ∀ T W, (binOp .add T (.float .f32 1065353216) (.float .f32 F)).run Try.prog W = .ok (.float .f32 t) W := fun T W => run_float_arith W .add T .f32 _ _ _ e3
  have hop4 : ∀ T W, (binOp .quo T (.float .f32 1065353216) (.float .f32 t)).run Try.prog W = .ok (.float .f32 E) W := fun T W => run_float_arith W .quo T .f32 _ _ _ e4
  clear e1 e2 e3 e4
  go_enter Try.func37, Try.ntmps37
  go_wp2_with (simp only [hop1, hop2])
  refine (C.out _).mono ?_
  rintro e w1 ⟨rfl, rfl⟩
  go_wp2_with (simp only [hop3, hop4])
  go_ret
  exact ⟨rfl, rfl⟩
theorem l07Expect_ops {a b : Nat} (h : ExpectOps a b) (w : World) : Calls Try.prog 57 #[.float .f32 a, .float .f32 b, .float .f32 1073741824] w (RetS w (.float .f32 (eW a b))) := by
  have C := Lib.hid (fun W => l01Exp_ops h.exp W)
  obtain ⟨e1, e2, _, e3, e4, _, _, _⟩ := h
  unfold two32w at e2
  unfold one32w at e3 e4
  generalize eW a b = E at *
  generalize expS (qX a b) = F at *
  generalize qX a b = q at *
  generalize sS b a = s at *
  generalize aS 1065353216 F = t at *
  have hop1 : ∀ t W, (binOp .sub t (.float .f32 b) (.float .f32 a)).run Try.prog W = .ok (.float .f32 s) W := fun t W => run_float_arith W .sub t .f32 _ _ _ e1
  have hop2 : ∀ t W, (binOp .quo t (.float .f32 s) (.float .f32 1073741824)).run Try.prog W = .ok (.float .f32 q) W := fun t W => run_float_arith W .quo t .f32 _ _ _ e2
  have hop3 : ∀ T W, (binOp .add T (.float .f32 1065353216) (.float .f32 F)).run Try.prog W = .ok (.float .f32 t) W := fun T W => run_float_arith W .add T .f32 _ _ _ e3
  have hop4 : ∀ T W, (binOp .quo T (.float .f32 1065353216) (.float .f32 t)).run Try.prog W = .ok (.float .f32 E) W := fun T W => run_float_arith W .quo T .f32 _ _ _ e4
  clear e1 e2 e3 e4
  go_enter Try.func57, Try.ntmps57
  go_wp2_with (simp only [hop1, hop2])
  refine (C.out _).mono ?_
  rintro e w1 ⟨rfl, rfl⟩
  go_wp2_with (simp only [hop3, hop4])
  go_ret
  exact ⟨rfl, rfl⟩

theorem posB_two : posB 1073741824 = true := by decide +kernel
theorem isScale_two (w : World) : Calls Try.prog 29 #[.float .f32 1073741824] w (Ret w (.bool true)) := by
  have hfm : FloatKind.f32.format = Ieee.single := rfl
  have h0 : Ieee.single.order 1073741824 0 = some .gt := by decide
  have C := Lib.hid (IsFinite_any 1073741824 w)
  rw [show finB 1073741824 = true by decide +kernel] at C
  go_enter Try.func29, Try.ntmps29
  go_wp2_with (fail)
  refine C.out.mono ?_
  rintro e w1 ⟨rfl, hb⟩
  have HB := Lib.hid hb
  clear hb
  go_wp2
  go_ret
  exact ⟨rfl, HB.out⟩
theorem floats_two (w : World) (x y : Nat) (T : TypeId) : Floats (w.alloc (.cells #[.float .f32 x, .float .f32 y] T)) (some ⟨w.heap.size, 0, none⟩) 2 2 [x, y] := by
  refine ⟨rfl, by omega, by omega, .inr ⟨w.heap.size, 0, rfl, by simp, fun j hj => ?_⟩⟩
  match j, hj with
  | 0, _ => simp
  | 1, _ => simp

theorem implExpectOf_ops {a b : Nat} (h : ExpectOps a b) (w : World) : Calls Try.prog 9 #[.float .f32 a, .float .f32 b, .float .f32 1073741824] w (Ret w (.tuple #[.float .f32 (eW a b), .bool true])) := by
  have C1 := Lib.hid (areFinite_any _ _ _ [a, b] _ (floats_two w a b 29))
  rw [show [a, b].all finB = true by simp [h.fa, h.fb]] at C1
  have C2 := Lib.hid (fun W => isScale_two W)
  have C3 := Lib.hid (fun W => expect_ops h W)
  have C4 := Lib.hid (fun W => checked_any (eW a b) W)
  rw [h.fe] at C4
  have HB0 : Hid (Below w.heap.size w (w.alloc (.cells #[.float .f32 a, .float .f32 b] 29))) := (Below.refl _ _).alloc (Nat.le_refl _) _
  clear h
  generalize eW a b = E at *
  go_enter Try.func9, Try.ntmps9
  go_wp2_with (fail)
  refine C1.out.mono ?_
  rintro e w1 ⟨rfl, hb1⟩
  have HB1 := Lib.hid (below_step HB0.out HB0.out.size hb1)
  clear hb1 HB0
  go_wp2_with (fail)
  refine (C2.out _).mono ?_
  rintro e w2 ⟨rfl, hb2⟩
  have HB2 := Lib.hid (below_step HB1.out HB1.out.size hb2)
  clear hb2 HB1
  go_wp2_with (fail)
  refine (C3.out _).mono ?_
  rintro e w3 ⟨rfl, rfl⟩
  go_wp2_with (fail)
  refine (C4.out _).mono ?_
  rintro e w3 ⟨rfl, hb3⟩
  have HB3 := Lib.hid (below_step HB2.out HB2.out.size hb3)
  clear hb3 HB2
  go_wp2
  go_ret2
  exact ⟨rfl, HB3.out⟩
theorem specExpectOf_ops {a b : Nat} (h : ExpectOps a b) (w : World) : Calls Try.prog 25 #[.float .f32 a, .float .f32 b, .float .f32 1073741824] w (Ret w (.tuple #[.float .f32 (eW a b), .bool true])) := by
  have CA := Lib.hid (fun W => l01Finite_any a W)
  rw [h.fa] at CA
  have CB := Lib.hid (fun W => l01Finite_any b W)
  rw [h.fb] at CB
  have C2 := Lib.hid (fun W => l02Above_any 1073741824 W)
  rw [posB_two] at C2
  have C3 := Lib.hid (fun W => l07Expect_ops h W)
  have C4 := Lib.hid (fun W => l02Number_any (eW a b) W)
  rw [h.fe] at C4
  clear h
  generalize eW a b = E at *
  go_enter Try.func25, Try.ntmps25
  go_wp2_with (fail)
  refine (CA.out _).mono ?_
  rintro e w1 ⟨rfl, hb1⟩
  have HB1 := Lib.hid hb1
  clear hb1
  go_wp2_with (fail)
  refine (CB.out _).mono ?_
  rintro e w2 ⟨rfl, hb2⟩
  have HB2 := Lib.hid (below_step HB1.out HB1.out.size hb2)
  clear hb2 HB1
  go_wp2_with (fail)
  refine (C2.out _).mono ?_
  rintro e w3 ⟨rfl, hb3⟩
  have HB3 := Lib.hid (below_step HB2.out HB2.out.size hb3)
  clear hb3 HB2
  go_wp2_with (fail)
  refine (C3.out _).mono ?_
  rintro e w4 ⟨rfl, rfl⟩
  go_wp2_with (fail)
  refine (C4.out _).mono ?_
  rintro e w5 ⟨rfl, hb5⟩
  have HB5 := Lib.hid (below_step HB3.out HB3.out.size hb5)
  clear hb5 HB3
  go_wp2
  go_ret2
  exact ⟨rfl, HB5.out⟩

end Go.Proofs.Ytcflgmjjomiejaa
