/- Floats as fractions: what a word is worth; the nearest word keeps the order of what the format has, and is near. -/
import Derived.Test.YtcflgmjjomiejaaVlB
import Derived.Test.YtcflgmjjomiejaaVlC
namespace Go.Proofs.Ytcflgmjjomiejaa
set_option linter.unusedVariables false
set_option linter.unusedSimpArgs false
open Ieee

/-- rounding keeps the order of what the format has -/
theorem rnd_le {F P U v q d kk qc C : Nat} (h : Rnd F P U v q d) (hk : U - P ≤ kk) (hq : qc ≤ 2 ^ (F + 1)) (hC : C = qc * 2 ^ kk) (hv : v ≤ C) : q * 2 ^ d ≤ C := by
  have hp := Nat.two_pow_pos d
  by_cases hkd : d ≤ kk
  · have hm : C % 2 ^ d = 0 := by rw [hC]; exact Nat.mod_eq_zero_of_dvd (Nat.dvd_mul_left_of_dvd (Nat.pow_dvd_pow 2 hkd) qc)
    by_cases hv0 : v % 2 ^ d = 0
    · rw [h.ex hv0]; exact hv
    · have hlt : v < C := by
        rcases Nat.lt_or_ge v C with h1 | h1
        · exact h1
        · exact absurd (by rw [show v = C by omega]; exact hm) hv0
      have h1 := h.hi
      have h2 : q * 2 ^ d < C + 2 ^ d := by omega
      obtain ⟨z, hz⟩ := Nat.dvd_of_mod_eq_zero hm
      rw [hz, Nat.mul_comm (2 ^ d) z] at h2 ⊢
      have h3 : q * 2 ^ d < (z + 1) * 2 ^ d := by rw [Nat.add_mul, Nat.one_mul]; exact h2
      have h4 := Nat.lt_of_mul_lt_mul_right h3
      exact Nat.mul_le_mul_right _ (by omega)
  · have hd := h.hd
    have hd2 : d = v.log2 - F := by omega
    by_cases hv0 : v = 0
    · have : Nat.log2 0 = 0 := rfl
      rw [hv0, this] at hd2
      omega
    · have h1 := Nat.log2_self_le hv0
      have h2 : C ≤ 2 ^ (F + d) := by
        rw [hC]
        refine Nat.le_trans (Nat.mul_le_mul_right _ hq) ?_
        rw [← Nat.pow_add]
        exact Nat.pow_le_pow_right (by omega) (by omega)
      have h3 : v.log2 = F + d := by omega
      rw [h3] at h1
      have h4 : v = 2 ^ (F + d) := by omega
      have h5 := h.ex (by rw [h4, Nat.pow_add]; exact Nat.mul_mod_left _ _)
      omega
theorem rnd_ge {F P U v q d kk qc C : Nat} (h : Rnd F P U v q d) (hk : U - P ≤ kk) (hq : qc ≤ 2 ^ (F + 1)) (hC : C = qc * 2 ^ kk) (hv : C ≤ v) : C ≤ q * 2 ^ d := by
  have hp := Nat.two_pow_pos d
  by_cases hkd : d ≤ kk
  · have hm : C % 2 ^ d = 0 := by rw [hC]; exact Nat.mod_eq_zero_of_dvd (Nat.dvd_mul_left_of_dvd (Nat.pow_dvd_pow 2 hkd) qc)
    by_cases hv0 : v % 2 ^ d = 0
    · rw [h.ex hv0]; exact hv
    · have h1 := h.lo
      have hne : v ≠ q * 2 ^ d + 2 ^ d := fun e => hv0 (by rw [e, show q * 2 ^ d + 2 ^ d = (q + 1) * 2 ^ d by rw [Nat.add_mul, Nat.one_mul]]; exact Nat.mul_mod_left _ _)
      have h2 : C < q * 2 ^ d + 2 ^ d := by omega
      obtain ⟨z, hz⟩ := Nat.dvd_of_mod_eq_zero hm
      rw [hz, Nat.mul_comm (2 ^ d) z] at h2 ⊢
      have h3 : z * 2 ^ d < (q + 1) * 2 ^ d := by rw [Nat.add_mul, Nat.one_mul]; exact h2
      have h4 := Nat.lt_of_mul_lt_mul_right h3
      exact Nat.mul_le_mul_right _ (by omega)
  · have hd := h.hd
    have h2 : C ≤ 2 ^ (F + d) := by
      rw [hC]
      refine Nat.le_trans (Nat.mul_le_mul_right _ hq) ?_
      rw [← Nat.pow_add]
      exact Nat.pow_le_pow_right (by omega) (by omega)
    have h3 := h.nz (by omega)
    refine Nat.le_trans h2 ?_
    rw [Nat.pow_add]
    exact Nat.mul_le_mul_right _ h3
/-- a unit of the last place is small -/
theorem rnd_unit {F P U v q d : Nat} (h : Rnd F P U v q d) : 2 ^ d * 2 ^ F ≤ v + 2 ^ (U - P) * 2 ^ F := by
  have hd := h.hd
  rcases Nat.le_total (v.log2 - F) (U - P) with h1 | h1
  · have : d = U - P := by omega
    rw [this]
    exact Nat.le_add_left _ _
  · have h2 : d = v.log2 - F := by omega
    by_cases hv0 : v = 0
    · have h0 : Nat.log2 0 = 0 := rfl
      rw [hv0, h0] at h2 h1
      have : d = U - P := by omega
      rw [this]
      exact Nat.le_add_left _ _
    · by_cases h3 : F ≤ v.log2
      · rw [← Nat.pow_add, show d + F = v.log2 by omega]
        exact Nat.le_trans (Nat.log2_self_le hv0) (Nat.le_add_right _ _)
      · have : d = U - P := by omega
        rw [this]
        exact Nat.le_add_left _ _

def sg (s : Bool) : Rat := if s then -1 else 1
theorem sg_t : sg true = -1 := rfl
theorem sg_f : sg false = 1 := rfl
/-- a number, worth v -/
def Vr (f : Format) (x : Nat) (v : Rat) : Prop := ∃ s m i, f.read x = .number s m i ∧ f.leastPlace ≤ i ∧ v = sg s * ((m : Rat) * (2 : Rat) ^ i)
/-- a number that the format has, unless it is too great -/
def Rep (f : Format) (c : Rat) : Prop := ∃ (s : Bool) (q : Nat) (k : Int), f.leastPlace ≤ k ∧ q ≤ 2 ^ (f.fractionBits + 1) ∧ c = sg s * ((q : Rat) * (2 : Rat) ^ k)
def uF (f : Format) : Rat := (2 : Rat) ^ (-(f.fractionBits : Int))
def tF (f : Format) : Rat := (2 : Rat) ^ f.leastPlace
/-- v is e, rounded once -/
structure FlA (f : Format) (e v : Rat) : Prop where
  le : ∀ c, Rep f c → e ≤ c → v ≤ c
  ge : ∀ c, Rep f c → c ≤ e → c ≤ v
  hi : ∀ b, e ≤ b → -e ≤ b → v ≤ e + (b * uF f + tF f)
  lo : ∀ b, e ≤ b → -e ≤ b → e ≤ v + (b * uF f + tF f)

theorem two_pos (i : Int) : (0 : Rat) < (2 : Rat) ^ i := Rat.zpow_pos (by decide)
theorem pw (i : Int) (U : Nat) (h : 0 ≤ i + U) : (2 : Rat) ^ i * ((2 ^ U : Nat) : Rat) = ((2 ^ (i + U).toNat : Nat) : Rat) := by
  rw [Rat.natCast_pow, Rat.natCast_pow, Rat.natCast_ofNat, ← Rat.zpow_natCast, ← Rat.zpow_natCast, ← Rat.zpow_add (by decide), Int.toNat_of_nonneg h]
theorem nat_pos (U : Nat) : (0 : Rat) < ((2 ^ U : Nat) : Rat) := by
  have := Nat.two_pow_pos U
  exact_mod_cast this

/-- the words of both signs -/
theorem nearest_sign (f : Format) (mag : Nat) (place : Int) : ∃ R, R ≤ f.infRung ∧ ∀ neg, f.nearest neg mag place = f.word neg R := by
  by_cases h : mag = 0
  · refine ⟨0, Nat.zero_le _, fun neg => ?_⟩
    unfold Format.nearest
    rw [if_pos h]
  · refine ⟨min ((max (place + (mag.log2 : Int) - f.fractionBits) f.leastPlace - f.leastPlace).toNat * f.binade + Toward.even.cut false (mag <<< (place - max (place + (mag.log2 : Int) - f.fractionBits) f.leastPlace).toNat) (max (place + (mag.log2 : Int) - f.fractionBits) f.leastPlace - place).toNat) f.infRung, Nat.min_le_right _ _, fun neg => ?_⟩
    unfold Format.nearest
    rw [if_neg h]
    rfl
theorem read_sign {f : Format} (hw : f.infRung < f.signWeight) {R : Nat} (hR : R ≤ f.infRung) {m : Nat} {i : Int} (h : f.read (f.word false R) = .number false m i) (neg : Bool) : f.read (f.word neg R) = .number neg m i := by
  have hs : 0 < f.signWeight := by omega
  have e1 : ∀ neg : Bool, f.word neg R / f.signWeight % 2 = neg.toNat := by
    intro neg
    unfold Format.word
    cases neg
    · simp [Nat.div_eq_of_lt (show R < f.signWeight by omega)]
    · simp only [if_true, Bool.toNat_true]
      rw [Nat.add_div_left _ hs, Nat.div_eq_of_lt (show R < f.signWeight by omega)]
  have e2 : ∀ neg : Bool, f.word neg R % f.signWeight = R := by
    intro neg
    unfold Format.word
    cases neg
    · simp [Nat.mod_eq_of_lt (show R < f.signWeight by omega)]
    · simp [Nat.mod_eq_of_lt (show R < f.signWeight by omega)]
  unfold Format.read at h ⊢
  simp only [e1, e2] at h ⊢
  have e3 : ∀ neg : Bool, (neg.toNat == 1) = neg := by intro neg; cases neg <;> rfl
  rw [e3] at h ⊢
  split at h
  · rename_i h1
    rw [if_pos h1]
    cases h; rfl
  · rename_i h1
    rw [if_neg h1]
    split at h
    · rename_i h2
      rw [if_pos h2]
      cases h; rfl
    · split at h <;> cases h

/-- rounding, of numbers that are not negative -/
theorem near_abs {f : Format} {P : Nat} (hf : Roomy f P) (mag : Nat) (place : Int) (hb : mag = 0 ∨ (mag.log2 : Int) + place ≤ 125) :
    ∃ m i, f.leastPlace ≤ i ∧ (∀ neg, f.read (f.nearest neg mag place) = .number neg m i) ∧
      (∀ (q : Nat) (k : Int), f.leastPlace ≤ k → q ≤ 2 ^ (f.fractionBits + 1) → (mag : Rat) * 2 ^ place ≤ (q : Rat) * 2 ^ k → (m : Rat) * 2 ^ i ≤ (q : Rat) * 2 ^ k) ∧
      (∀ (q : Nat) (k : Int), f.leastPlace ≤ k → q ≤ 2 ^ (f.fractionBits + 1) → (q : Rat) * 2 ^ k ≤ (mag : Rat) * 2 ^ place → (q : Rat) * 2 ^ k ≤ (m : Rat) * 2 ^ i) ∧
      (m : Rat) * 2 ^ i ≤ (mag : Rat) * 2 ^ place + ((mag : Rat) * 2 ^ place * uF f + tF f) ∧
      (mag : Rat) * 2 ^ place ≤ (m : Rat) * 2 ^ i + ((mag : Rat) * 2 ^ place * uF f + tF f) := by
  have hP := hf.hP
  obtain ⟨U, hU1, hU2⟩ : ∃ U : Nat, P ≤ U ∧ 0 ≤ place + U := ⟨max P (-place).toNat, by omega, by omega⟩
  obtain ⟨V, hV⟩ : ∃ V, mag * 2 ^ (place + U).toNat = V := ⟨_, rfl⟩
  have hlog : V.log2 ≤ U + 125 := by
    rcases hb with h | h
    · subst h
      rw [← hV, Nat.zero_mul]
      exact Nat.zero_le _
    · by_cases h0 : mag = 0
      · subst h0
        rw [← hV, Nat.zero_mul]
        exact Nat.zero_le _
      · rw [← hV, log2_up h0]
        omega
  obtain ⟨q, d, hr, m, i, h1, h2, h3⟩ := nearest_rnd hf mag place U V hU1 hU2 hV hlog
  obtain ⟨R, hR, hn⟩ := nearest_sign f mag place
  have hS := nat_pos U
  -- both in units of 2 ^ -U
  have eE : (mag : Rat) * 2 ^ place * ((2 ^ U : Nat) : Rat) = (V : Rat) := by
    rw [Rat.mul_assoc, pw place U hU2, ← Rat.natCast_mul, hV]
  have eA : (m : Rat) * 2 ^ i * ((2 ^ U : Nat) : Rat) = ((q * 2 ^ d : Nat) : Rat) := by
    rw [Rat.mul_assoc, pw i U (by omega), ← Rat.natCast_mul]
    have hd := hr.hd
    have : m * 2 ^ (i + (U : Int)).toNat = q * 2 ^ d := by
      rw [show (i + (U : Int)).toNat = (i - f.leastPlace).toNat + (U - P) by omega, Nat.pow_add, ← Nat.mul_assoc, h3, Nat.mul_assoc, ← Nat.pow_add, show d - (U - P) + (U - P) = d by omega]
    rw [this]
  have eC : ∀ (q : Nat) (k : Int), f.leastPlace ≤ k → (q : Rat) * 2 ^ k * ((2 ^ U : Nat) : Rat) = ((q * 2 ^ (k + (U : Int)).toNat : Nat) : Rat) := by
    intro q k hk
    rw [Rat.mul_assoc, pw k U (by omega), ← Rat.natCast_mul]
  refine ⟨m, i, h2, fun neg => by rw [hn neg]; rw [hn false] at h1; exact read_sign hf.hw hR h1 neg, fun qc k hk hq hle => ?_, fun qc k hk hq hle => ?_, ?_, ?_⟩
  · have g1 := Rat.mul_le_mul_of_nonneg_right hle (Rat.le_of_lt hS)
    rw [eE, eC qc k hk] at g1
    have g2 : V ≤ qc * 2 ^ (k + (U : Int)).toNat := by exact_mod_cast g1
    have g3 := rnd_le hr (by omega) hq rfl g2
    refine Rat.le_of_mul_le_mul_right ?_ hS
    rw [eA, eC qc k hk]
    exact_mod_cast g3
  · have g1 := Rat.mul_le_mul_of_nonneg_right hle (Rat.le_of_lt hS)
    rw [eE, eC qc k hk] at g1
    have g2 : qc * 2 ^ (k + (U : Int)).toNat ≤ V := by exact_mod_cast g1
    have g3 := rnd_ge hr (by omega) hq rfl g2
    refine Rat.le_of_mul_le_mul_right ?_ hS
    rw [eA, eC qc k hk]
    exact_mod_cast g3
  all_goals
    have g1 := rnd_unit hr
    have gh := hr.hi
    have gl := hr.lo
    have eu : uF f * ((2 ^ f.fractionBits : Nat) : Rat) = 1 := by
      have := pw (-(f.fractionBits : Int)) f.fractionBits (by omega)
      rw [show (-(f.fractionBits : Int) + (f.fractionBits : Int)).toNat = 0 by omega] at this
      exact this
    have et : tF f * ((2 ^ U : Nat) : Rat) = ((2 ^ (U - P) : Nat) : Rat) := by
      have := pw f.leastPlace U (by omega)
      rw [show (f.leastPlace + (U : Int)).toNat = U - P by omega] at this
      exact this
    have g1' : ((2 ^ d : Nat) : Rat) * ((2 ^ f.fractionBits : Nat) : Rat) ≤ (V : Rat) + ((2 ^ (U - P) : Nat) : Rat) * ((2 ^ f.fractionBits : Nat) : Rat) := by exact_mod_cast g1
    have gh' : ((q * 2 ^ d : Nat) : Rat) ≤ (V : Rat) + ((2 ^ d : Nat) : Rat) := by exact_mod_cast gh
    have gl' : (V : Rat) ≤ ((q * 2 ^ d : Nat) : Rat) + ((2 ^ d : Nat) : Rat) := by exact_mod_cast gl
    have hu : (0 : Rat) < uF f := two_pos _
    have g2 := Rat.mul_le_mul_of_nonneg_right g1' (Rat.le_of_lt hu)
    refine Rat.le_of_mul_le_mul_right ?_ hS
    have eE2 := eE
    have eA2 := eA
    generalize (mag : Rat) * 2 ^ place = E at *
    generalize (m : Rat) * 2 ^ i = A at *
    generalize ((2 ^ U : Nat) : Rat) = S at *
    generalize ((2 ^ d : Nat) : Rat) = D at *
    generalize ((q * 2 ^ d : Nat) : Rat) = Q at *
    generalize ((2 ^ f.fractionBits : Nat) : Rat) = T at *
    generalize ((2 ^ (U - P) : Nat) : Rat) = Z at *
    generalize (V : Rat) = W at *
    generalize uF f = u at *
    generalize tF f = t at *
    clear eC g1 gh gl hn h1 h2 h3 hr hlog hV hU1 hU2 hb hP hf hR
    have k1 : D * T * u = D := by grind
    have k2 : (W + Z * T) * u = W * u + Z := by grind
    rw [k1, k2] at g2
    have k3 : (E + (E * u + t)) * S = W + (W * u + Z) := by grind
    have k4 : (A + (E * u + t)) * S = Q + (W * u + Z) := by grind
    first
      | (rw [k3, eA]; grind)
      | (rw [k4, eE]; grind)

theorem sg_cases (s : Bool) : sg s = 1 ∨ sg s = -1 := by cases s; exact .inl rfl; exact .inr rfl
theorem mag_nonneg (m : Nat) (i : Int) : (0 : Rat) ≤ (m : Rat) * 2 ^ i := Rat.mul_nonneg Rat.natCast_nonneg (Rat.le_of_lt (two_pos i))
/-- twice the share by which rounding errs -/
def wF (f : Format) : Rat := 2 * uF f
/-- v is e, rounded -/
structure Fl (f : Format) (e v : Rat) : Prop where
  le : ∀ c, Rep f c → e ≤ c → v ≤ c
  ge : ∀ c, Rep f c → c ≤ e → c ≤ v
  hi : ∀ b, e ≤ b → -e ≤ b → v ≤ e + (b * wF f + tF f)
  lo : ∀ b, e ≤ b → -e ≤ b → e ≤ v + (b * wF f + tF f)
theorem FlA.fl {f : Format} {e v : Rat} (h : FlA f e v) : Fl f e v := by
  have hu : (0 : Rat) < uF f := two_pos _
  have key : ∀ b : Rat, e ≤ b → -e ≤ b → b * uF f ≤ b * wF f := fun b h1 h2 => by
    have := Rat.mul_nonneg (show (0 : Rat) ≤ b by grind) (Rat.le_of_lt hu)
    unfold wF
    grind
  exact ⟨h.le, h.ge, fun b h1 h2 => by have := h.hi b h1 h2; have := key b h1 h2; grind, fun b h1 h2 => by have := h.lo b h1 h2; have := key b h1 h2; grind⟩
theorem near_ratA {f : Format} {P : Nat} (hf : Roomy f P) (neg : Bool) (mag : Nat) (place : Int) (hb : mag = 0 ∨ (mag.log2 : Int) + place ≤ 125) :
    ∃ v, Vr f (f.nearest neg mag place) v ∧ FlA f (sg neg * ((mag : Rat) * 2 ^ place)) v := by
  obtain ⟨m, i, h1, h2, h3, h4, h5, h6⟩ := near_abs hf mag place hb
  refine ⟨sg neg * ((m : Rat) * 2 ^ i), ⟨neg, m, i, h2 neg, h1, rfl⟩, ?_⟩
  have hA := mag_nonneg m i
  have hE := mag_nonneg mag place
  have hu : (0 : Rat) < uF f := two_pos _
  have ht : (0 : Rat) < tF f := two_pos _
  generalize (m : Rat) * 2 ^ i = A at *
  generalize (mag : Rat) * 2 ^ place = E at *
  have hmul : ∀ b, E ≤ b → E * uF f ≤ b * uF f := fun b hb => Rat.mul_le_mul_of_nonneg_right hb (Rat.le_of_lt hu)
  refine ⟨fun c hc hle => ?_, fun c hc hle => ?_, fun b hb1 hb2 => ?_, fun b hb1 hb2 => ?_⟩
  · obtain ⟨s, q, k, hk, hq, rfl⟩ := hc
    have hC := mag_nonneg q k
    have g3 := h3 q k hk hq
    have g4 := h4 q k hk hq
    clear h2 h3 h4 h5 h6 hmul
    generalize (q : Rat) * 2 ^ k = C at *
    cases neg <;> cases s <;> simp only [sg_t, sg_f] at * <;> grind
  · obtain ⟨s, q, k, hk, hq, rfl⟩ := hc
    have hC := mag_nonneg q k
    have g3 := h3 q k hk hq
    have g4 := h4 q k hk hq
    clear h2 h3 h4 h5 h6 hmul
    generalize (q : Rat) * 2 ^ k = C at *
    cases neg <;> cases s <;> simp only [sg_t, sg_f] at * <;> grind
  · clear h2 h3 h4
    cases neg <;> simp only [sg_t, sg_f] at *
    · have := hmul b (by grind); grind
    · have := hmul b (by grind); grind
  · clear h2 h3 h4
    cases neg <;> simp only [sg_t, sg_f] at *
    · have := hmul b (by grind); grind
    · have := hmul b (by grind); grind

theorem near_rat {f : Format} {P : Nat} (hf : Roomy f P) (neg : Bool) (mag : Nat) (place : Int) (hb : mag = 0 ∨ (mag.log2 : Int) + place ≤ 125) :
    ∃ v, Vr f (f.nearest neg mag place) v ∧ Fl f (sg neg * ((mag : Rat) * 2 ^ place)) v := by
  obtain ⟨v, h1, h2⟩ := near_ratA hf neg mag place hb
  exact ⟨v, h1, h2.fl⟩
/-- a bound by a power of two is one of the digits' number -/
theorem mag_bound {m : Nat} {i : Int} {e : Int} (h : (m : Rat) * 2 ^ i ≤ 2 ^ e) : m = 0 ∨ (m.log2 : Int) + i ≤ e := by
  by_cases h0 : m = 0
  · exact .inl h0
  · right
    have h1 := Nat.log2_self_le h0
    rcases Int.lt_or_le e ((m.log2 : Int) + i) with h2 | h2
    · exfalso
      have h3 : ((2 ^ m.log2 : Nat) : Rat) ≤ (m : Rat) := by exact_mod_cast h1
      have h4 := Rat.mul_le_mul_of_nonneg_right h3 (Rat.le_of_lt (two_pos i))
      have h5 : ((2 ^ m.log2 : Nat) : Rat) * 2 ^ i = 2 ^ ((m.log2 : Int) + i) := by
        rw [Rat.zpow_add (by decide), Rat.zpow_natCast, Rat.natCast_pow, Rat.natCast_ofNat]
      rw [h5] at h4
      have h6 : (2 : Rat) ^ e < 2 ^ ((m.log2 : Int) + i) := by
        obtain ⟨n, hn⟩ : ∃ n : Nat, (m.log2 : Int) + i = e + ((n + 1 : Nat) : Int) := ⟨((m.log2 : Int) + i - e - 1).toNat, by omega⟩
        rw [hn, Rat.zpow_add (by decide), Rat.zpow_natCast]
        have h7 : (1 : Rat) < 2 ^ (n + 1) := by
          have : 1 < 2 ^ (n + 1) := Nat.one_lt_two_pow (by omega)
          have h8 : ((1 : Nat) : Rat) < ((2 ^ (n + 1) : Nat) : Rat) := by exact_mod_cast this
          rw [Rat.natCast_pow] at h8
          exact h8
        have h9 := Rat.mul_lt_mul_of_pos_left h7 (two_pos e)
        rw [Rat.mul_one] at h9
        exact h9
      grind
    · exact h2
theorem two_le {a b : Int} (h : a ≤ b) : (2 : Rat) ^ a ≤ 2 ^ b := by
  obtain ⟨n, hn⟩ : ∃ n : Nat, b = a + (n : Int) := ⟨(b - a).toNat, by omega⟩
  rw [hn, Rat.zpow_add (by decide), Rat.zpow_natCast]
  have h7 : (1 : Rat) ≤ 2 ^ n := by
    have : 1 ≤ 2 ^ n := Nat.one_le_two_pow
    have h8 : ((1 : Nat) : Rat) ≤ ((2 ^ n : Nat) : Rat) := by exact_mod_cast this
    rw [Rat.natCast_pow] at h8
    exact h8
  have h9 := Rat.mul_le_mul_of_nonneg_left h7 (Rat.le_of_lt (two_pos a))
  rw [Rat.mul_one] at h9
  exact h9

theorem vr_mul {f : Format} {P : Nat} (hf : Roomy f P) {x y : Nat} {a b : Rat} (hx : Vr f x a) (hy : Vr f y b) (h1 : a * b ≤ 2 ^ (125 : Int)) (h2 : -(a * b) ≤ 2 ^ (125 : Int)) :
    ∃ r v, f.mul x y = some r ∧ Vr f r v ∧ Fl f (a * b) v := by
  obtain ⟨s, m, i, k1, k2, rfl⟩ := hx
  obtain ⟨t, n, j, l1, l2, rfl⟩ := hy
  have e1 : sg s * ((m : Rat) * 2 ^ i) * (sg t * ((n : Rat) * 2 ^ j)) = sg (s ^^ t) * (((m * n : Nat) : Rat) * 2 ^ (i + j)) := by
    rw [Rat.natCast_mul, Rat.zpow_add (by decide)]
    cases s <;> cases t <;> simp only [sg_t, sg_f, Bool.xor_true, Bool.xor_false, Bool.not_true, Bool.not_false] <;> grind
  rw [e1] at h1 h2 ⊢
  obtain ⟨v, g1, g2⟩ := near_rat hf (s ^^ t) (m * n) (i + j) (mag_bound (by
    have := mag_nonneg (m * n) (i + j)
    cases s <;> cases t <;> simp only [sg_t, sg_f, Bool.xor_true, Bool.xor_false, Bool.not_true, Bool.not_false] at h1 h2 <;> grind))
  exact ⟨_, v, by unfold Format.mul; rw [k1, l1]; rfl, g1, g2⟩

theorem base_rat {base i : Int} (m : Nat) (h : base ≤ i) : ((m * 2 ^ (i - base).toNat : Nat) : Rat) * 2 ^ base = (m : Rat) * 2 ^ i := by
  rw [Rat.natCast_mul, Rat.natCast_pow, Rat.natCast_ofNat, ← Rat.zpow_natCast, Rat.mul_assoc, ← Rat.zpow_add (by decide), show (((i - base).toNat : Nat) : Int) + base = i by omega]
theorem signed_rat (s : Bool) {base i : Int} (m : Nat) (h : base ≤ i) : ((signed s m (i - base).toNat : Int) : Rat) * 2 ^ base = sg s * ((m : Rat) * 2 ^ i) := by
  have e := base_rat m h
  cases s
  · rw [signed_f, Rat.intCast_natCast, e, sg_f, Rat.one_mul]
  · rw [signed_t, Rat.intCast_neg, Rat.intCast_natCast, sg_t, Rat.neg_mul, e]
    grind
theorem total_rat (s t : Bool) (z : Int) : sg (if z = 0 then s && t else decide (z < 0)) * (z.natAbs : Rat) = (z : Rat) := by
  by_cases h0 : z = 0
  · subst h0
    show _ * ((0 : Nat) : Rat) = _
    grind
  · rw [if_neg h0]
    by_cases h : z < 0
    · rw [decide_eq_true h, sg_t]
      obtain ⟨n, rfl⟩ : ∃ n : Nat, z = -(n : Int) := ⟨z.natAbs, by omega⟩
      rw [Int.natAbs_neg, Int.natAbs_natCast, Rat.intCast_neg, Rat.intCast_natCast]
      grind
    · rw [decide_eq_false h, sg_f]
      obtain ⟨n, rfl⟩ : ∃ n : Nat, z = (n : Int) := ⟨z.natAbs, by omega⟩
      rw [Int.natAbs_natCast, Rat.intCast_natCast]
      grind
theorem vr_sum {f : Format} {P : Nat} (hf : Roomy f P) (s t : Bool) (m n : Nat) (i j : Int) (h1 : sg s * ((m : Rat) * 2 ^ i) + sg t * ((n : Rat) * 2 ^ j) ≤ 2 ^ (125 : Int)) (h2 : -(sg s * ((m : Rat) * 2 ^ i) + sg t * ((n : Rat) * 2 ^ j)) ≤ 2 ^ (125 : Int)) :
    ∃ r v, ((Datum.number s m i).sum (Datum.number t n j)).map f.write = some r ∧ Vr f r v ∧ Fl f (sg s * ((m : Rat) * 2 ^ i) + sg t * ((n : Rat) * 2 ^ j)) v := by
  have e1 := signed_rat s m (show min i j ≤ i by omega)
  have e2 := signed_rat t n (show min i j ≤ j by omega)
  obtain ⟨z, hz⟩ : ∃ z, signed s m (i - min i j).toNat + signed t n (j - min i j).toNat = z := ⟨_, rfl⟩
  have ez : (z : Rat) * 2 ^ (min i j) = sg s * ((m : Rat) * 2 ^ i) + sg t * ((n : Rat) * 2 ^ j) := by
    rw [← hz, Rat.intCast_add, Rat.add_mul, e1, e2]
  have er : ((Datum.number s m i).sum (Datum.number t n j)).map f.write = some (f.nearest (if z = 0 then s && t else decide (z < 0)) z.natAbs (min i j)) := by
    rw [← hz]
    rfl
  rw [← ez, ← total_rat s t z, Rat.mul_assoc] at h1 h2 ⊢
  obtain ⟨v, g1, g2⟩ := near_rat hf (if z = 0 then s && t else decide (z < 0)) z.natAbs (min i j) (mag_bound (by
    have := mag_nonneg z.natAbs (min i j)
    rcases sg_cases (if z = 0 then s && t else decide (z < 0)) with h | h <;> rw [h] at h1 h2 <;> grind))
  exact ⟨_, v, er, g1, g2⟩
theorem vr_add {f : Format} {P : Nat} (hf : Roomy f P) {x y : Nat} {a b : Rat} (hx : Vr f x a) (hy : Vr f y b) (h1 : a + b ≤ 2 ^ (125 : Int)) (h2 : -(a + b) ≤ 2 ^ (125 : Int)) :
    ∃ r v, f.add x y = some r ∧ Vr f r v ∧ Fl f (a + b) v := by
  obtain ⟨s, m, i, k1, k2, rfl⟩ := hx
  obtain ⟨t, n, j, l1, l2, rfl⟩ := hy
  obtain ⟨r, v, g1, g2, g3⟩ := vr_sum hf s t m n i j h1 h2
  exact ⟨r, v, by unfold Format.add; rw [k1, l1]; exact g1, g2, g3⟩
theorem sg_not (t : Bool) : sg (!t) = -sg t := by cases t <;> simp only [Bool.not_true, Bool.not_false, sg_t, sg_f] <;> grind
theorem vr_sub {f : Format} {P : Nat} (hf : Roomy f P) {x y : Nat} {a b : Rat} (hx : Vr f x a) (hy : Vr f y b) (h1 : a - b ≤ 2 ^ (125 : Int)) (h2 : -(a - b) ≤ 2 ^ (125 : Int)) :
    ∃ r v, f.sub x y = some r ∧ Vr f r v ∧ Fl f (a - b) v := by
  obtain ⟨s, m, i, k1, k2, rfl⟩ := hx
  obtain ⟨t, n, j, l1, l2, rfl⟩ := hy
  have e : sg s * ((m : Rat) * 2 ^ i) - sg t * ((n : Rat) * 2 ^ j) = sg s * ((m : Rat) * 2 ^ i) + sg (!t) * ((n : Rat) * 2 ^ j) := by
    rw [sg_not]
    grind
  rw [e] at h1 h2 ⊢
  obtain ⟨r, v, g1, g2, g3⟩ := vr_sum hf s (!t) m n i j h1 h2
  exact ⟨r, v, by unfold Format.sub; rw [k1, l1]; exact g1, g2, g3⟩

theorem vr_order {f : Format} {x y : Nat} {a b : Rat} (hx : Vr f x a) (hy : Vr f y b) : f.order x y = some (if a < b then .lt else if a = b then .eq else .gt) := by
  obtain ⟨s, m, i, k1, k2, rfl⟩ := hx
  obtain ⟨t, n, j, l1, l2, rfl⟩ := hy
  have e1 := signed_rat s m (show min i j ≤ i by omega)
  have e2 := signed_rat t n (show min i j ≤ j by omega)
  unfold Format.order
  rw [k1, l1]
  unfold Datum.order
  dsimp only
  rw [cmpI, ← e1, ← e2]
  generalize signed s m (i - min i j).toNat = z
  generalize signed t n (j - min i j).toNat = y
  have hp := two_pos (min i j)
  congr 1
  have c1 : (z < y) = ((z : Rat) * 2 ^ (min i j) < (y : Rat) * 2 ^ (min i j)) := by
    rw [Rat.mul_lt_mul_right hp, Rat.intCast_lt_intCast]
  have c2 : (z = y) = ((z : Rat) * 2 ^ (min i j) = (y : Rat) * 2 ^ (min i j)) := by
    apply propext
    constructor
    · rintro rfl; rfl
    · intro h
      have h1 : (z : Rat) = (y : Rat) := by
        refine Rat.le_antisymm (Rat.le_of_mul_le_mul_right ?_ hp) (Rat.le_of_mul_le_mul_right ?_ hp)
        · rw [h]; exact Rat.le_refl
        · rw [h]; exact Rat.le_refl
      exact_mod_cast h1
  simp only [c1, c2]

/-- The quotient with a sticky digit, between the same numbers of a format as the quotient. -/
theorem sticky {F X n Q : Nat} (hn : 0 < n) (hX : 2 ^ (F + 1) * n ≤ X) (hQ : Q = 2 * (X / n) + (X % n != 0).toNat) (qc : Nat) (hq : qc ≤ 2 ^ (F + 1)) (k : Int) :
    ((X : Rat) ≤ (qc : Rat) * 2 ^ k * (n : Rat) → (Q : Rat) ≤ 2 * ((qc : Rat) * 2 ^ k)) ∧ ((qc : Rat) * 2 ^ k * (n : Rat) ≤ (X : Rat) → 2 * ((qc : Rat) * 2 ^ k) ≤ (Q : Rat)) := by
  have h1 := Nat.div_add_mod X n
  have h2 := Nat.mod_lt X hn
  have h3 : 2 ^ (F + 1) ≤ X / n := (Nat.le_div_iff_mul_le hn).2 hX
  have hQ1 : 2 * (X / n) ≤ Q := by rw [hQ]; exact Nat.le_add_right _ _
  have hQ2 : Q ≤ 2 * (X / n) + 1 := by
    rw [hQ]
    exact Nat.add_le_add_left (more_le _) _
  have hnr : (0 : Rat) < (n : Rat) := by exact_mod_cast hn
  by_cases hk : 0 ≤ k
  · obtain ⟨j, rfl⟩ : ∃ j : Nat, k = j := ⟨k.toNat, by omega⟩
    have e : (qc : Rat) * 2 ^ (j : Int) = ((qc * 2 ^ j : Nat) : Rat) := by rw [Rat.zpow_natCast, Rat.natCast_mul, Rat.natCast_pow, Rat.natCast_ofNat]
    rw [e]
    generalize qc * 2 ^ j = C
    refine ⟨fun h => ?_, fun h => ?_⟩
    · have h5 : X ≤ C * n := by exact_mod_cast h
      have h6 : Q ≤ 2 * C := by
        by_cases hr : X % n = 0
        · have : Q = 2 * (X / n) := by rw [hQ, hr]; rfl
          have h7 : X / n ≤ C := by
            refine Nat.le_of_mul_le_mul_left ?_ hn
            rw [Nat.mul_comm n C]
            omega
          omega
        · have h7 : n * (X / n) < n * C := by rw [Nat.mul_comm n C]; omega
          have := Nat.lt_of_mul_lt_mul_left h7
          omega
      exact_mod_cast h6
    · have h5 : C * n ≤ X := by exact_mod_cast h
      have h6 : C ≤ X / n := (Nat.le_div_iff_mul_le hn).2 h5
      have h7 : 2 * C ≤ Q := by omega
      exact_mod_cast h7
  · -- what the format has at so low a place lies below
    have h4 : (qc : Rat) * 2 ^ k ≤ ((2 ^ F : Nat) : Rat) := by
      have g1 : (qc : Rat) ≤ ((2 ^ (F + 1) : Nat) : Rat) := by exact_mod_cast hq
      have g2 := Rat.mul_le_mul_of_nonneg_right g1 (Rat.le_of_lt (two_pos k))
      have g3 : (2 : Rat) ^ k ≤ 2 ^ (-1 : Int) := two_le (by omega)
      have g4 := Rat.mul_le_mul_of_nonneg_left g3 (show (0 : Rat) ≤ ((2 ^ (F + 1) : Nat) : Rat) from Rat.natCast_nonneg)
      have g5 : ((2 ^ (F + 1) : Nat) : Rat) * (2 : Rat) ^ (-1 : Int) = ((2 ^ F : Nat) : Rat) := by
        rw [Nat.pow_succ, Rat.natCast_mul]
        grind
      grind
    have hF : (2 : Nat) ^ (F + 1) = 2 * 2 ^ F := by rw [Nat.pow_succ, Nat.mul_comm]
    have hp := Nat.two_pow_pos F
    refine ⟨fun h => ?_, fun h => ?_⟩
    · exfalso
      have h5 := Rat.mul_le_mul_of_nonneg_right h4 (Rat.le_of_lt hnr)
      have h6 : X ≤ 2 ^ F * n := by
        have : (X : Rat) ≤ ((2 ^ F : Nat) : Rat) * (n : Rat) := Rat.le_trans h h5
        exact_mod_cast this
      rw [hF, Nat.mul_assoc] at hX
      have := Nat.mul_pos hp hn
      omega
    · have h5 : 2 * 2 ^ F ≤ Q := by omega
      have h6 : 2 * ((2 ^ F : Nat) : Rat) ≤ (Q : Rat) := by exact_mod_cast h5
      grind

theorem rep_sign {f : Format} {A E : Rat} (hA : 0 ≤ A) (hE : 0 ≤ E)
    (h3 : ∀ (q : Nat) (k : Int), f.leastPlace ≤ k → q ≤ 2 ^ (f.fractionBits + 1) → E ≤ (q : Rat) * 2 ^ k → A ≤ (q : Rat) * 2 ^ k)
    (h4 : ∀ (q : Nat) (k : Int), f.leastPlace ≤ k → q ≤ 2 ^ (f.fractionBits + 1) → (q : Rat) * 2 ^ k ≤ E → (q : Rat) * 2 ^ k ≤ A) (neg : Bool) :
    (∀ c, Rep f c → sg neg * E ≤ c → sg neg * A ≤ c) ∧ (∀ c, Rep f c → c ≤ sg neg * E → c ≤ sg neg * A) := by
  refine ⟨fun c hc hle => ?_, fun c hc hle => ?_⟩
  all_goals
    obtain ⟨s, q, k, hk, hq, rfl⟩ := hc
    have hC := mag_nonneg q k
    have g3 := h3 q k hk hq
    have g4 := h4 q k hk hq
    clear h3 h4
    generalize (q : Rat) * 2 ^ k = C at *
    cases neg <;> cases s <;> simp only [sg_t, sg_f] at * <;> grind

theorem uF_le (f : Format) : uF f ≤ 1 := by
  have := two_le (a := -(f.fractionBits : Int)) (b := 0) (by omega)
  exact this
set_option maxHeartbeats 1600000 in
theorem vr_div {f : Format} {P : Nat} (hf : Roomy f P) {x y : Nat} {a b : Rat} (hx : Vr f x a) (hy : Vr f y b) (hb0 : b ≠ 0) (h1 : a / b ≤ 2 ^ (124 : Int)) (h2 : -(a / b) ≤ 2 ^ (124 : Int)) :
    ∃ r v, f.div x y = some r ∧ Vr f r v ∧ Fl f (a / b) v := by
  obtain ⟨s, m, i, k1, k2, rfl⟩ := hx
  obtain ⟨t, n, j, l1, l2, rfl⟩ := hy
  have hn0 : n ≠ 0 := fun h => hb0 (by subst h; show sg t * (((0 : Nat) : Rat) * _) = 0; grind)
  have hn : 0 < n := by omega
  obtain ⟨more, hmore⟩ : ∃ more, f.fractionBits + 2 + n.log2 - m.log2 = more := ⟨_, rfl⟩
  obtain ⟨X, hXd⟩ : ∃ X, m * 2 ^ more = X := ⟨_, rfl⟩
  obtain ⟨Q, hQ⟩ : ∃ Q, 2 * (X / n) + (X % n != 0).toNat = Q := ⟨_, rfl⟩
  have hdiv : f.div x y = some (f.nearest (s ^^ t) Q (i - j - more - 1)) := by
    unfold Format.div
    rw [k1, l1]
    unfold Datum.quotient
    dsimp only
    rw [if_neg hn0, hmore, Nat.shiftLeft_eq, hXd, hQ]
    rfl
  -- the quotient without its sign
  have hnr : (0 : Rat) < (n : Rat) := by exact_mod_cast hn
  obtain ⟨Y, hY⟩ : ∃ Y : Rat, (2 : Rat) ^ (i - j - more) = Y := ⟨_, rfl⟩
  have hYp : 0 < Y := by rw [← hY]; exact two_pos _
  obtain ⟨R, hR⟩ : ∃ R : Rat, (X : Rat) / (n : Rat) = R := ⟨_, rfl⟩
  have hRn : R * (n : Rat) = X := by rw [← hR]; grind
  have hR0 : 0 ≤ R := by
    refine Rat.le_of_mul_le_mul_right ?_ hnr
    rw [hRn, Rat.zero_mul]
    exact Rat.natCast_nonneg
  have eabs : (m : Rat) * 2 ^ i = R * Y * ((n : Rat) * 2 ^ j) := by
    have g1 : (2 : Rat) ^ i = 2 ^ (i - j - more) * 2 ^ j * 2 ^ (more : Int) := by
      rw [← Rat.zpow_add (by decide), ← Rat.zpow_add (by decide)]
      congr 1
      omega
    have g2 : (X : Rat) = (m : Rat) * 2 ^ (more : Int) := by rw [← hXd, Rat.natCast_mul, Rat.natCast_pow, Rat.natCast_ofNat, Rat.zpow_natCast]
    rw [g1, hY]
    have : R * Y * ((n : Rat) * 2 ^ j) = (R * n) * Y * 2 ^ j := by grind
    rw [this, hRn, g2]
    grind
  have hB : (n : Rat) * 2 ^ j ≠ 0 := by
    have := Rat.mul_pos hnr (two_pos j)
    grind
  have eq1 : sg s * ((m : Rat) * 2 ^ i) / (sg t * ((n : Rat) * 2 ^ j)) = sg (s ^^ t) * (R * Y) := by
    rw [eabs]
    generalize (n : Rat) * 2 ^ j = B at *
    cases s <;> cases t <;> simp only [sg_t, sg_f, Bool.xor_true, Bool.xor_false, Bool.not_true, Bool.not_false] <;> grind
  rw [eq1] at h1 h2 ⊢
  have eQ : (Q : Rat) * 2 ^ (i - j - more - 1) = (Q : Rat) / 2 * Y := by
    have : (2 : Rat) ^ (i - j - more - 1) = 2 ^ (i - j - more) * 2 ^ (-1 : Int) := by rw [← Rat.zpow_add (by decide)]; congr 1
    rw [this, hY]
    grind
  by_cases hm : m = 0
  · subst hm
    have hX0 : X = 0 := by rw [← hXd, Nat.zero_mul]
    subst hX0
    have hQ0 : Q = 0 := by rw [← hQ, Nat.zero_div, Nat.zero_mod]; rfl
    subst hQ0
    have hR00 : R = 0 := by
      rw [← hR]
      show ((0 : Nat) : Rat) / _ = 0
      grind
    obtain ⟨v, g1, g2⟩ := near_rat hf (s ^^ t) 0 (i - j - more - 1) (.inl rfl)
    refine ⟨_, v, hdiv, g1, ?_⟩
    rw [eQ] at g2
    have e0 : sg (s ^^ t) * (((0 : Nat) : Rat) / 2 * Y) = sg (s ^^ t) * (R * Y) := by
      rw [hR00]
      show sg (s ^^ t) * ((0 : Rat) / 2 * Y) = _
      grind
    rw [e0] at g2
    exact g2
  · have hX : 2 ^ (f.fractionBits + 1) * n ≤ X := by
      have g1 : n < 2 ^ (n.log2 + 1) := Nat.lt_log2_self
      have g2 := Nat.log2_self_le hm
      have g3 : 2 ^ (f.fractionBits + 2 + n.log2) ≤ X := by
        rw [← hXd]
        refine Nat.le_trans ?_ (Nat.mul_le_mul_right _ g2)
        rw [← Nat.pow_add]
        exact Nat.pow_le_pow_right (by omega) (by omega)
      refine Nat.le_trans ?_ g3
      have e6 : 2 ^ (f.fractionBits + 2 + n.log2) = 2 ^ (f.fractionBits + 1) * 2 ^ (n.log2 + 1) := by
        rw [← Nat.pow_add]
        congr 1
        omega
      rw [e6]
      exact Nat.mul_le_mul_left _ (Nat.le_of_lt g1)
    have hst := fun qc hq k => sticky (F := f.fractionBits) hn hX hQ.symm qc hq k
    have hdm := Nat.div_add_mod X n
    have hml := Nat.mod_lt X hn
    -- the sticky quotient is near the quotient
    have hQn1 : (Q : Rat) ≤ 2 * R + 1 := by
      have g1 : Q * n ≤ 2 * X + n := by
        rw [← hQ, Nat.add_mul]
        have := Nat.mul_le_mul_right n (more_le (X % n != 0))
        have : 2 * (X / n) * n = 2 * (n * (X / n)) := by grind
        omega
      have g2 : (Q : Rat) * (n : Rat) ≤ 2 * (X : Rat) + (n : Rat) := by exact_mod_cast g1
      refine Rat.le_of_mul_le_mul_right ?_ hnr
      grind
    have hQn2 : 2 * R ≤ (Q : Rat) + 1 := by
      have g1 : 2 * X ≤ Q * n + n := by
        by_cases hr : X % n = 0
        · have : Q * n = 2 * (n * (X / n)) := by rw [← hQ, hr]; show (2 * (X / n) + 0) * n = _; grind
          omega
        · have : Q * n = 2 * (n * (X / n)) + n := by
            rw [← hQ]
            have : (X % n != 0) = true := by simpa using hr
            rw [this]
            show (2 * (X / n) + 1) * n = _
            grind
          omega
      have g2 : 2 * (X : Rat) ≤ (Q : Rat) * (n : Rat) + (n : Rat) := by exact_mod_cast g1
      refine Rat.le_of_mul_le_mul_right ?_ hnr
      grind
    have hbig : 2 ≤ R * uF f := by
      have g1 : (2 : Rat) * ((2 ^ f.fractionBits : Nat) : Rat) * (n : Rat) ≤ (X : Rat) := by
        rw [Nat.pow_succ, Nat.mul_comm (2 ^ f.fractionBits) 2] at hX
        exact_mod_cast hX
      have eu : uF f * ((2 ^ f.fractionBits : Nat) : Rat) = 1 := by
        have := pw (-(f.fractionBits : Int)) f.fractionBits (by omega)
        rw [show (-(f.fractionBits : Int) + (f.fractionBits : Int)).toNat = 0 by omega] at this
        exact this
      rw [← hRn] at g1
      have g2 := Rat.le_of_mul_le_mul_right g1 hnr
      have hu : (0 : Rat) < uF f := two_pos _
      have g3 := Rat.mul_le_mul_of_nonneg_right g2 (Rat.le_of_lt hu)
      generalize ((2 ^ f.fractionBits : Nat) : Rat) = T at *
      have : 2 * T * uF f = 2 := by grind
      rw [this] at g3
      exact g3
    have hE0 : 0 ≤ R * Y := Rat.mul_nonneg hR0 (Rat.le_of_lt hYp)
    have hQ0 : (0 : Rat) ≤ (Q : Rat) := Rat.natCast_nonneg
    have hA0 : 0 ≤ (Q : Rat) / 2 * Y := Rat.mul_nonneg (by grind) (Rat.le_of_lt hYp)
    have hu : (0 : Rat) < uF f := two_pos _
    have hu1 := uF_le f
    have hYR : Y * 2 ≤ R * Y * uF f := by
      have := Rat.mul_le_mul_of_nonneg_right hbig (Rat.le_of_lt hYp)
      have e : R * uF f * Y = R * Y * uF f := by grind
      rw [e] at this
      grind
    have hd1 : (Q : Rat) / 2 * Y ≤ R * Y + R * Y * uF f / 4 := by
      have := Rat.mul_le_mul_of_nonneg_right hQn1 (Rat.le_of_lt hYp)
      grind
    have hd2 : R * Y ≤ (Q : Rat) / 2 * Y + R * Y * uF f / 4 := by
      have := Rat.mul_le_mul_of_nonneg_right hQn2 (Rat.le_of_lt hYp)
      grind
    have hEu : R * Y * uF f ≤ R * Y := by
      have := Rat.mul_le_mul_of_nonneg_left hu1 hE0
      rw [Rat.mul_one] at this
      exact this
    have hup : R * Y ≤ 2 ^ (124 : Int) := by
      rcases sg_cases (s ^^ t) with h | h <;> rw [h] at h1 h2 <;> grind
    obtain ⟨v, g1, g2⟩ := near_ratA hf (s ^^ t) Q (i - j - more - 1) (mag_bound (by
      rw [eQ]
      have e5 : (2 : Rat) ^ (125 : Int) = 2 * 2 ^ (124 : Int) := by
        rw [show (125 : Int) = 1 + 124 by rfl, Rat.zpow_add (by decide)]
        rfl
      rw [e5]
      grind))
    refine ⟨_, v, hdiv, g1, ?_⟩
    rw [eQ] at g2
    -- what the format has lies on the same side of both
    have hrs := rep_sign (f := f) hA0 hE0 (fun q k hk hq hle => by
        have e : (q : Rat) * 2 ^ k = (q : Rat) * 2 ^ (k - (i - j - more)) * Y := by
          rw [Rat.mul_assoc, ← hY, ← Rat.zpow_add (by decide)]
          congr 2
          omega
        rw [e] at hle ⊢
        have g3 := Rat.le_of_mul_le_mul_right hle hYp
        have g4 := Rat.mul_le_mul_of_nonneg_right g3 (Rat.le_of_lt hnr)
        rw [hRn] at g4
        have g5 := (hst q hq _).1 g4
        refine Rat.mul_le_mul_of_nonneg_right ?_ (Rat.le_of_lt hYp)
        grind) (fun q k hk hq hle => by
        have e : (q : Rat) * 2 ^ k = (q : Rat) * 2 ^ (k - (i - j - more)) * Y := by
          rw [Rat.mul_assoc, ← hY, ← Rat.zpow_add (by decide)]
          congr 2
          omega
        rw [e] at hle ⊢
        have g3 := Rat.le_of_mul_le_mul_right hle hYp
        have g4 := Rat.mul_le_mul_of_nonneg_right g3 (Rat.le_of_lt hnr)
        rw [hRn] at g4
        have g5 := (hst q hq _).2 g4
        refine Rat.mul_le_mul_of_nonneg_right ?_ (Rat.le_of_lt hYp)
        grind) (s ^^ t)
    generalize (Q : Rat) / 2 * Y = A at *
    generalize R * Y = E at *
    clear hst hdm hml hQn1 hQn2 hbig hX hQ hdiv eQ eabs eq1 hR hRn hY hXd hmore
    refine ⟨fun c hc hle => g2.le c hc (hrs.1 c hc hle), fun c hc hle => g2.ge c hc (hrs.2 c hc hle), fun b' hb1 hb2 => ?_, fun b' hb1 hb2 => ?_⟩
    · have hEb : E ≤ b' := by
        rcases sg_cases (s ^^ t) with h | h <;> rw [h] at hb1 hb2 <;> grind
      have g3 := Rat.mul_le_mul_of_nonneg_right hEb (Rat.le_of_lt hu)
      have g4 := g2.hi (b' + b' * uF f / 4) (by rcases sg_cases (s ^^ t) with h | h <;> rw [h] <;> grind) (by rcases sg_cases (s ^^ t) with h | h <;> rw [h] <;> grind)
      have g5 : (b' + b' * uF f / 4) * uF f ≤ b' * uF f + b' * uF f / 4 := by
        have : b' * uF f * uF f ≤ b' * uF f := by
          have := Rat.mul_le_mul_of_nonneg_left hu1 (show 0 ≤ b' * uF f from Rat.mul_nonneg (by grind) (Rat.le_of_lt hu))
          rw [Rat.mul_one] at this
          exact this
        grind
      unfold wF
      rcases sg_cases (s ^^ t) with h | h <;> rw [h] at g4 ⊢ <;> grind
    · have hEb : E ≤ b' := by
        rcases sg_cases (s ^^ t) with h | h <;> rw [h] at hb1 hb2 <;> grind
      have g3 := Rat.mul_le_mul_of_nonneg_right hEb (Rat.le_of_lt hu)
      have g4 := g2.lo (b' + b' * uF f / 4) (by rcases sg_cases (s ^^ t) with h | h <;> rw [h] <;> grind) (by rcases sg_cases (s ^^ t) with h | h <;> rw [h] <;> grind)
      have g5 : (b' + b' * uF f / 4) * uF f ≤ b' * uF f + b' * uF f / 4 := by
        have : b' * uF f * uF f ≤ b' * uF f := by
          have := Rat.mul_le_mul_of_nonneg_left hu1 (show 0 ≤ b' * uF f from Rat.mul_nonneg (by grind) (Rat.le_of_lt hu))
          rw [Rat.mul_one] at this
          exact this
        grind
      unfold wF
      rcases sg_cases (s ^^ t) with h | h <;> rw [h] at g4 ⊢ <;> grind

theorem Fl.exact {f : Format} {e v : Rat} (h : Fl f e v) (hr : Rep f e) : v = e := Rat.le_antisymm (h.le e hr Rat.le_refl) (h.ge e hr Rat.le_refl)
theorem rep_of {f : Format} (s : Bool) (q : Nat) (k : Int) {c : Rat} (hk : f.leastPlace ≤ k) (hq : q ≤ 2 ^ (f.fractionBits + 1)) (h : c = sg s * ((q : Rat) * (2 : Rat) ^ k)) : Rep f c := ⟨s, q, k, hk, hq, h⟩
theorem rep_neg {f : Format} {c : Rat} (h : Rep f c) : Rep f (-c) := by
  obtain ⟨s, q, k, h1, h2, rfl⟩ := h
  exact ⟨!s, q, k, h1, h2, by rw [sg_not]; grind⟩
theorem rep_zero (f : Format) : Rep f 0 := ⟨false, 0, f.leastPlace, Int.le_refl _, Nat.zero_le _, by show (0 : Rat) = sg false * ((0 : Rat) * _); grind⟩
theorem Vr.rep {x : Nat} {v : Rat} (h : Vr single x v) : Rep single v := by
  obtain ⟨s, m, i, h1, h2, rfl⟩ := h
  exact ⟨s, m, i, h2, Nat.le_of_lt (read_digits h1), rfl⟩
/-- what 32 bits hold, 64 hold too -/
theorem Rep.wide {c : Rat} (h : Rep single c) : Rep double c := by
  obtain ⟨s, q, k, h1, h2, rfl⟩ := h
  have e1 : single.leastPlace = -149 := rfl
  have e2 : double.leastPlace = -1074 := rfl
  have e3 : single.fractionBits = 23 := rfl
  have e4 : double.fractionBits = 52 := rfl
  refine ⟨s, q, k, by rw [e1] at h1; rw [e2]; omega, ?_, rfl⟩
  rw [e3] at h2
  rw [e4]
  exact Nat.le_trans h2 (Nat.pow_le_pow_right (by omega) (by omega))

theorem vr_conv {src dst : FloatKind} (hne : src ≠ dst) {P : Nat} (hf : Roomy dst.format P) {x : Nat} {a : Rat} (hx : Vr src.format x a) (h1 : a ≤ 2 ^ (125 : Int)) (h2 : -a ≤ 2 ^ (125 : Int)) :
    ∃ y v, floatToFloatBits src x dst = some y ∧ Vr dst.format y v ∧ Fl dst.format a v := by
  obtain ⟨s, m, i, k1, k2, rfl⟩ := hx
  obtain ⟨v, g1, g2⟩ := near_rat hf s m i (mag_bound (by
    have := mag_nonneg m i
    rcases sg_cases s with h | h <;> rw [h] at h1 h2 <;> grind))
  refine ⟨dst.format.nearest s m i, v, ?_, g1, g2⟩
  obtain ⟨s', m', i', l1, _⟩ := g1
  unfold floatToFloatBits
  have e1 : src.decode x = .number s m i := k1
  have e2 : dst.decode (dst.encode (.number s m i)) = .number s' m' i' := l1
  rw [if_neg hne, e1]
  show (if (dst.decode (dst.encode (.number s m i))).isInfinity then none else some (dst.encode (.number s m i))) = _
  rw [e2]
  rfl
theorem vr_wide {x : Nat} {a : Rat} (hx : Vr single x a) (h1 : a ≤ 2 ^ (125 : Int)) (h2 : -a ≤ 2 ^ (125 : Int)) : ∃ y, floatToFloatBits .f32 x .f64 = some y ∧ Vr double y a := by
  obtain ⟨y, v, g1, g2, g3⟩ := vr_conv (src := .f32) (dst := .f64) (by decide) roomy2 hx h1 h2
  have := Fl.exact g3 hx.rep.wide
  subst this
  exact ⟨y, g1, g2⟩
theorem vr_narrow {x : Nat} {a : Rat} (hx : Vr double x a) (h1 : a ≤ 2 ^ (125 : Int)) (h2 : -a ≤ 2 ^ (125 : Int)) : ∃ y v, floatToFloatBits .f64 x .f32 = some y ∧ Vr single y v ∧ Fl single a v :=
  vr_conv (src := .f64) (dst := .f32) (by decide) roomy1 hx h1 h2

/-- a number is of fewer digits than its bound -/
theorem Vr.fb {x e : Nat} {v : Rat} (h : Vr single x v) (h1 : v ≤ 2 ^ (e : Int)) (h2 : -v ≤ 2 ^ (e : Int)) : FB (e + 1) x := by
  obtain ⟨s, m, i, k1, k2, rfl⟩ := h
  have := mag_bound (m := m) (i := i) (e := e) (by
    have := mag_nonneg m i
    rcases sg_cases s with h | h <;> rw [h] at h1 h2 <;> grind)
  exact ⟨s, m, i, k1, k2, by omega⟩
theorem vr_of {f : Format} {x : Nat} {v : Rat} (s : Bool) (m : Nat) (i : Int) (h : f.read x = .number s m i) (hi : f.leastPlace ≤ i) (hv : v = sg s * ((m : Rat) * (2 : Rat) ^ i)) : Vr f x v := ⟨s, m, i, h, hi, hv⟩
theorem one32 : Vr single 1065353216 1 := vr_of false 8388608 (-23) (by decide) (by decide) (by rw [sg_f]; grind)
theorem two32 : Vr single 1073741824 2 := vr_of false 8388608 (-22) (by decide) (by decide) (by rw [sg_f]; grind)
theorem half32 : Vr single 1056964608 (1 / 2) := vr_of false 8388608 (-24) (by decide) (by decide) (by rw [sg_f]; grind)
theorem zero32 : Vr single 0 0 := vr_of false 0 (-149) (by decide) (by decide) (by rw [sg_f]; show (0 : Rat) = 1 * ((0 : Rat) * _); grind)
theorem one64 : Vr double 4607182418800017408 1 := vr_of false 4503599627370496 (-52) (by decide) (by decide) (by rw [sg_f]; grind)
theorem zero64 : Vr double 0 0 := vr_of false 0 (-1074) (by decide) (by decide) (by rw [sg_f]; show (0 : Rat) = 1 * ((0 : Rat) * _); grind)
theorem c256 : Vr double 4643211215818981376 256 := vr_of false 4503599627370496 (-44) (by decide) (by decide) (by rw [sg_f]; grind)
theorem wF1 : wF single = 1 / 4194304 := by
  have e : single.fractionBits = 23 := rfl
  unfold wF uF
  rw [e]
  grind
theorem wF2 : wF double = 1 / 2251799813685248 := by
  have e : double.fractionBits = 52 := rfl
  unfold wF uF
  rw [e]
  grind
theorem tF1 : tF single ≤ 1 / 1000000000000000000000000000000 := by
  have e : single.leastPlace = -149 := rfl
  have h : (2 : Rat) ^ (-149 : Int) ≤ 2 ^ (-100 : Int) := two_le (by decide)
  have h2 : (2 : Rat) ^ (-100 : Int) ≤ 1 / 1000000000000000000000000000000 := by decide +kernel
  unfold tF
  rw [e]
  exact Rat.le_trans h h2
theorem tF2 : tF double ≤ 1 / 1000000000000000000000000000000 := by
  have e : double.leastPlace = -1074 := rfl
  have h : (2 : Rat) ^ (-1074 : Int) ≤ 2 ^ (-100 : Int) := two_le (by decide)
  have h2 : (2 : Rat) ^ (-100 : Int) ≤ 1 / 1000000000000000000000000000000 := by decide +kernel
  unfold tF
  rw [e]
  exact Rat.le_trans h h2

end Go.Proofs.Ytcflgmjjomiejaa
