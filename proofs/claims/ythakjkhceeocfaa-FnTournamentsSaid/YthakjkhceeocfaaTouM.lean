/- Floats: what a word is worth in units of its format's last place; the nearest word is near, and exact where it can be. -/
import Derived.Test.YthakjkhceeocfaaFlA
import Derived.Test.YthakjkhceeocfaaKcA
namespace Go.Proofs.Ythakjkhceeocfaa
set_option linter.unusedVariables false
set_option linter.unusedSimpArgs false
open Ieee

/-- a number that is not negative, worth v units of the last place -/
def Vl (f : Format) (x v : Nat) : Prop := ∃ m i, f.read x = .number false m i ∧ f.leastPlace ≤ i ∧ m * 2 ^ (i - f.leastPlace).toNat = v

theorem log2_up {m : Nat} (hm : m ≠ 0) (k : Nat) : (m * 2 ^ k).log2 = m.log2 + k := by
  have hne : m * 2 ^ k ≠ 0 := Nat.mul_ne_zero hm (Nat.pos_iff_ne_zero.1 (Nat.two_pow_pos _))
  rw [Nat.log2_eq_iff hne]
  refine ⟨?_, ?_⟩
  · rw [Nat.pow_add]
    exact Nat.mul_le_mul_right _ (Nat.log2_self_le hm)
  · rw [show m.log2 + k + 1 = (m.log2 + 1) + k by omega, Nat.pow_add]
    exact Nat.mul_lt_mul_of_pos_right Nat.lt_log2_self (Nat.two_pow_pos _)

theorem more_le (b : Bool) : b.toNat ≤ 1 := by cases b <;> decide
/-- a cut is near, and exact where nothing is dropped -/
theorem cut_near (neg : Bool) (n drop : Nat) : Toward.even.cut neg n drop * 2 ^ drop ≤ n + 2 ^ drop ∧ n ≤ Toward.even.cut neg n drop * 2 ^ drop + 2 ^ drop ∧ (n % 2 ^ drop = 0 → Toward.even.cut neg n drop * 2 ^ drop = n) ∧ (2 ^ drop * 2 ^ 0 ≤ n → ∀ K, 2 ^ K * 2 ^ drop ≤ n → 2 ^ K ≤ Toward.even.cut neg n drop) := by
  unfold Toward.cut
  rw [Nat.one_shiftLeft]
  dsimp only
  rcases Nat.le_total drop (n.log2 + 2) with hd | hd
  · rw [Nat.min_eq_left hd]
    generalize hG : (2 : Nat) ^ drop = G
    have hGp : 0 < G := by rw [← hG]; exact Nat.two_pow_pos _
    have h1 := Nat.div_add_mod n G
    have h2 := Nat.mod_lt n hGp
    generalize hb : (decide (G < 2 * (n % G)) || (G == 2 * (n % G) && n / G % 2 == 1)) = b
    have h3 := more_le b
    rw [Nat.mul_comm] at h1
    refine ⟨?_, ?_, ?_, ?_⟩
    · rw [Nat.add_mul]
      have : b.toNat * G ≤ 1 * G := Nat.mul_le_mul_right _ h3
      omega
    · rw [Nat.add_mul]
      omega
    · intro h0
      have hb0 : b = false := by
        rw [← hb, h0]
        have e2 : (G == 2 * 0) = false := by simp; omega
        rw [e2]
        simp
      rw [hb0]
      show (n / G + 0) * G = n
      rw [Nat.add_zero]
      omega
    · intro _ K hK
      have : 2 ^ K ≤ n / G := (Nat.le_div_iff_mul_le hGp).2 hK
      omega
  · rw [Nat.min_eq_right hd]
    have hlt : n < 2 ^ (n.log2 + 1) := Nat.lt_log2_self
    have hG2 : (2 : Nat) ^ (n.log2 + 2) = 2 * 2 ^ (n.log2 + 1) := by rw [Nat.pow_succ, Nat.mul_comm]
    have hle : (2 : Nat) ^ (n.log2 + 2) ≤ 2 ^ drop := Nat.pow_le_pow_right (by omega) hd
    have e1 : n / 2 ^ (n.log2 + 2) = 0 := Nat.div_eq_of_lt (by omega)
    have e2 : n % 2 ^ (n.log2 + 2) = n := Nat.mod_eq_of_lt (by omega)
    rw [e1, e2]
    have e3 : decide ((2 : Nat) ^ (n.log2 + 2) < 2 * n) = false := decide_eq_false (by omega)
    have e4 : ((2 : Nat) ^ (n.log2 + 2) == 2 * n) = false := by simp; omega
    rw [e3, e4]
    simp only [Bool.false_or, Bool.false_and, Bool.toNat_false, Nat.add_zero, Nat.zero_mul, Nat.zero_add]
    refine ⟨by omega, by omega, ?_, ?_⟩
    · intro h0
      rw [Nat.mod_eq_of_lt (by omega)] at h0
      omega
    · intro h0
      omega

/-- what is read of a rung -/
theorem read_val (f : Format) (hw : f.infRung < f.signWeight) (n q : Nat) (hq : (2 ^ f.fractionBits ≤ q ∧ q ≤ 2 ^ (f.fractionBits + 1)) ∨ (n = 0 ∧ q ≤ 2 ^ (f.fractionBits + 1))) (hR : n * f.binade + q < f.infRung) :
    Vl f (f.word false (n * f.binade + q)) (q * 2 ^ n) := by
  have hb : f.binade = 2 ^ f.fractionBits := rfl
  have hB : 0 < f.binade := Nat.two_pow_pos _
  have h2B : (2 : Nat) ^ (f.fractionBits + 1) = 2 * f.binade := by rw [Nat.pow_succ, Nat.mul_comm]; rfl
  rw [h2B, ← hb] at hq
  have e1 : f.word false (n * f.binade + q) / f.signWeight % 2 = 0 := by
    unfold Format.word
    simp [Nat.div_eq_of_lt (show n * f.binade + q < f.signWeight by omega)]
  have e2 : f.word false (n * f.binade + q) % f.signWeight = n * f.binade + q := by
    unfold Format.word
    simp [Nat.mod_eq_of_lt (show n * f.binade + q < f.signWeight by omega)]
  unfold Vl Format.read
  simp only [e1, e2]
  generalize f.binade = B at *
  by_cases hlo : n * B + q < B
  · have hn0 : n = 0 := by
      rcases Nat.eq_zero_or_pos n with h | h
      · exact h
      · have : 1 * B ≤ n * B := Nat.mul_le_mul_right _ h
        omega
    subst hn0
    rw [if_pos hlo]
    refine ⟨_, _, rfl, by omega, ?_⟩
    simp
  · rw [if_neg hlo, if_pos hR]
    have hq1 : B ≤ q := by
      rcases hq with h | ⟨rfl, h⟩
      · exact h.1
      · omega
    have hq2 : q ≤ 2 * B := by omega
    refine ⟨_, _, rfl, by omega, ?_⟩
    have e5 : (f.leastPlace + (((n * B + q) / B - 1 : Nat) : Int) - f.leastPlace).toNat = (n * B + q) / B - 1 := by omega
    rw [e5]
    by_cases hq3 : q = 2 * B
    · subst hq3
      have e6 : (n * B + 2 * B) / B = n + 2 := by rw [← Nat.add_mul, Nat.mul_div_cancel _ hB]
      have e7 : (n * B + 2 * B) % B = 0 := by rw [← Nat.add_mul, Nat.mul_mod_left]
      rw [e6, e7, show n + 2 - 1 = n + 1 by omega, Nat.pow_succ]
      grind
    · obtain ⟨p, rfl⟩ : ∃ p, q = B + p := ⟨q - B, by omega⟩
      have hp : p < B := by omega
      have e6 : (n * B + (B + p)) / B = n + 1 := by
        rw [show n * B + (B + p) = p + B * (n + 1) by grind, Nat.add_mul_div_left _ _ hB, Nat.div_eq_of_lt hp, Nat.zero_add]
      have e7 : (n * B + (B + p)) % B = p := by
        rw [show n * B + (B + p) = p + B * (n + 1) by grind, Nat.add_mul_mod_self_left, Nat.mod_eq_of_lt hp]
      rw [e6, e7, show n + 1 - 1 = n by omega]

/-- a format in which numbers below 2 ^ 100 do not run over; P: its last place -/
structure Roomy (f : Format) (P : Nat) : Prop where
  hw : f.infRung < f.signWeight
  hP : f.leastPlace = -(P : Int)
  hr : 100 + P + 2 < f.fractionBits + (2 ^ f.exponentBits - 1)
  hF : f.fractionBits ≤ P
  hF0 : 0 < f.fractionBits
theorem roomy1 : Roomy single 149 := ⟨by decide, by decide, by decide, by decide, by decide⟩
theorem roomy2 : Roomy double 1074 := ⟨by decide, by decide, by decide, by decide, by decide⟩

set_option maxHeartbeats 1600000 in
/-- The nearest word of v / 2 ^ U is near, and worth v / 2 ^ U where that can be. -/
theorem nearest_val {f : Format} {P : Nat} (hf : Roomy f P) (mag : Nat) (place : Int) (U v : Nat) (hPU : P ≤ U) (hpl : 0 ≤ place + U) (hv : mag * 2 ^ (place + U).toNat = v) (hb : v.log2 ≤ U + 100) :
    ∃ q d, d = max (v.log2 - f.fractionBits) (U - P) ∧ Vl f (f.nearest false mag place) (q * 2 ^ (d - (U - P))) ∧ q * 2 ^ d ≤ v + 2 ^ d ∧ v ≤ q * 2 ^ d + 2 ^ d ∧ (v % 2 ^ d = 0 → q * 2 ^ d = v) ∧ (U - P + f.fractionBits ≤ v.log2 → 2 ^ f.fractionBits ≤ q) := by
  obtain ⟨hw, hP, hr, hF, hF0⟩ := hf
  have hbin : f.binade = 2 ^ f.fractionBits := rfl
  by_cases hm : mag = 0
  · subst hm
    rw [Nat.zero_mul] at hv
    subst hv
    refine ⟨0, _, rfl, ?_, ?_⟩
    · have h := read_val f hw 0 0 (.inr ⟨rfl, Nat.zero_le _⟩) (by
        unfold Format.infRung
        rw [Nat.zero_mul, Nat.zero_add]
        exact Nat.mul_pos (by omega) (Nat.two_pow_pos _))
      have e : f.nearest false 0 place = f.word false 0 := by unfold Format.nearest; rw [if_pos rfl]
      rw [e]
      simpa using h
    · have h0 : Nat.log2 0 = 0 := rfl
      rw [Nat.zero_mul]
      exact ⟨Nat.zero_le _, Nat.zero_le _, fun _ => rfl, fun h => by rw [h0] at h; omega⟩
  · have hlv : v.log2 = mag.log2 + (place + U).toNat := by rw [← hv, log2_up hm]
    generalize hT : (place + U).toNat = T at *
    generalize hd : max (v.log2 - f.fractionBits) (U - P) = d
    have hlast : max (place + (mag.log2 : Int) - f.fractionBits) f.leastPlace = (d : Int) - U := by rw [hP]; omega
    generalize hn : d - (U - P) = n
    have hn2 : ((d : Int) - U - f.leastPlace).toNat = n := by rw [hP]; omega
    have hc := cut_near false (mag <<< (place - ((d : Int) - U)).toNat) ((d : Int) - U - place).toNat
    have hcle := cut_le false (mag <<< (place - ((d : Int) - U)).toNat) ((d : Int) - U - place).toNat (f.fractionBits + 1) (by
      rw [Nat.shiftLeft_eq, log2_up hm]
      omega) (by
      rw [Nat.shiftLeft_eq]
      exact Nat.mul_ne_zero hm (Nat.pos_iff_ne_zero.1 (Nat.two_pow_pos _)))
    have en : f.nearest false mag place = f.word false (min (n * f.binade + Toward.even.cut false (mag <<< (place - ((d : Int) - U)).toNat) ((d : Int) - U - place).toNat) f.infRung) := by
      unfold Format.nearest
      rw [if_neg hm]
      dsimp only
      rw [hlast, hn2]
    -- the shifted number, in units
    have hsh : (mag <<< (place - ((d : Int) - U)).toNat) * 2 ^ (min T d) = v ∧ ((d : Int) - U - place).toNat + min T d = d := by
      refine ⟨?_, by omega⟩
      rw [Nat.shiftLeft_eq, Nat.mul_assoc, ← Nat.pow_add, ← hv]
      congr 2
      omega
    have hlow : U - P + f.fractionBits ≤ v.log2 → 2 ^ f.fractionBits * 2 ^ ((d : Int) - U - place).toNat ≤ mag <<< (place - ((d : Int) - U)).toNat := by
      intro h
      rw [Nat.shiftLeft_eq, ← Nat.pow_add]
      have h1 := Nat.mul_le_mul_right (2 ^ (place - ((d : Int) - U)).toNat) (Nat.log2_self_le hm)
      rw [← Nat.pow_add] at h1
      refine Nat.le_trans (Nat.pow_le_pow_right (by omega) ?_) h1
      omega
    generalize hsm : mag <<< (place - ((d : Int) - U)).toNat = s at *
    generalize hdr : ((d : Int) - U - place).toNat = r at *
    generalize hq : Toward.even.cut false s r = q at *
    obtain ⟨c1, c2, c3, c4⟩ := hc
    obtain ⟨hs1, hs2⟩ := hsh
    generalize min T d = t at *
    have hqlo : U - P + f.fractionBits ≤ v.log2 → 2 ^ f.fractionBits ≤ q := fun h => by
      have h1 := hlow h
      refine c4 ?_ _ h1
      refine Nat.le_trans ?_ h1
      rw [Nat.pow_zero, Nat.mul_one]
      exact Nat.le_mul_of_pos_left _ (Nat.two_pow_pos _)
    have ed : (2 : Nat) ^ d = 2 ^ r * 2 ^ t := by rw [← Nat.pow_add, hs2]
    have hR : n * f.binade + q < f.infRung := by
      unfold Format.infRung
      have h1 : q ≤ 2 * f.binade := by rw [Nat.pow_succ, Nat.mul_comm] at hcle; exact hcle
      have hB : 0 < f.binade := Nat.two_pow_pos _
      have h2 : n + 3 ≤ 2 ^ f.exponentBits - 1 := by
        clear hlast hn2 hcle hlow hqlo en c1 c2 c3 c4 hs1 hs2 ed h1 hB hsm hdr hq
        generalize 2 ^ f.exponentBits - 1 = E at *
        generalize f.fractionBits = F at *
        subst hn
        subst hd
        omega
      have h3 := Nat.mul_le_mul_right f.binade h2
      rw [Nat.add_mul] at h3
      omega
    refine ⟨q, d, rfl, ?_, ?_, ?_, ?_, hqlo⟩
    · rw [en, Nat.min_eq_left (Nat.le_of_lt hR), hn]
      refine read_val f hw n q ?_ hR
      by_cases h : U - P + f.fractionBits ≤ v.log2
      · exact .inl ⟨hqlo h, hcle⟩
      · exact .inr ⟨by omega, hcle⟩
    · rw [ed, ← hs1, ← Nat.mul_assoc, ← Nat.add_mul]
      exact Nat.mul_le_mul_right _ c1
    · rw [ed, ← hs1, ← Nat.mul_assoc, ← Nat.add_mul]
      exact Nat.mul_le_mul_right _ c2
    · intro h
      rw [ed, ← hs1, ← Nat.mul_assoc]
      congr 1
      refine c3 ?_
      rw [ed, ← hs1] at h
      rw [Nat.mul_mod_mul_right] at h
      rcases Nat.mul_eq_zero.1 h with h | h
      · exact h
      · exact absurd h (Nat.pos_iff_ne_zero.1 (Nat.two_pow_pos _))

/-- what a rounded v / 2 ^ U is: q units of 2 ^ d -/
structure Rnd (F P U v q d : Nat) : Prop where
  hd : d = max (v.log2 - F) (U - P)
  hi : q * 2 ^ d ≤ v + 2 ^ d
  lo : v ≤ q * 2 ^ d + 2 ^ d
  ex : v % 2 ^ d = 0 → q * 2 ^ d = v
  nz : U - P + F ≤ v.log2 → 2 ^ F ≤ q

theorem nearest_rnd {f : Format} {P : Nat} (hf : Roomy f P) (mag : Nat) (place : Int) (U v : Nat) (hPU : P ≤ U) (hpl : 0 ≤ place + U) (hv : mag * 2 ^ (place + U).toNat = v) (hb : v.log2 ≤ U + 100) :
    ∃ q d, Rnd f.fractionBits P U v q d ∧ Vl f (f.nearest false mag place) (q * 2 ^ (d - (U - P))) := by
  obtain ⟨q, d, h1, h2, h3, h4, h5, h6⟩ := nearest_val hf mag place U v hPU hpl hv hb
  exact ⟨q, d, ⟨h1, h3, h4, h5, h6⟩, h2⟩

theorem vl_mul {f : Format} {P : Nat} (hf : Roomy f P) {x y a b : Nat} (hx : Vl f x a) (hy : Vl f y b) (hb : (a * b).log2 ≤ 2 * P + 100) :
    ∃ r q d, f.mul x y = some r ∧ Rnd f.fractionBits P (2 * P) (a * b) q d ∧ Vl f r (q * 2 ^ (d - P)) := by
  obtain ⟨m, i, h1, h2, h3⟩ := hx
  obtain ⟨n, j, k1, k2, k3⟩ := hy
  have hP := hf.hP
  obtain ⟨q, d, h4, h5⟩ := nearest_rnd hf (m * n) (i + j) (2 * P) (a * b) (by omega) (by omega) (by
    rw [← h3, ← k3, show (i + j + ((2 * P : Nat) : Int)).toNat = (i - f.leastPlace).toNat + (j - f.leastPlace).toNat by omega, Nat.pow_add]
    grind) hb
  refine ⟨_, q, d, by unfold Format.mul; rw [h1, k1]; rfl, h4, ?_⟩
  rw [show 2 * P - P = P by omega] at h5
  exact h5

theorem signed_f (m a : Nat) : signed false m a = ((m * 2 ^ a : Nat) : Int) := by unfold signed; rw [if_neg (by decide), Nat.shiftLeft_eq]
theorem signed_t (m a : Nat) : signed true m a = -((m * 2 ^ a : Nat) : Int) := by unfold signed; rw [if_pos rfl, Nat.shiftLeft_eq]
/-- both over one base -/
theorem base_units {L base i : Int} {m a : Nat} (h1 : L ≤ base) (h2 : base ≤ i) (h : m * 2 ^ (i - L).toNat = a) : m * 2 ^ (i - base).toNat * 2 ^ (base - L).toNat = a := by
  rw [Nat.mul_assoc, ← Nat.pow_add, ← h]
  congr 2
  omega

theorem vl_add {f : Format} {P : Nat} (hf : Roomy f P) {x y a b : Nat} (hx : Vl f x a) (hy : Vl f y b) (hb : (a + b).log2 ≤ P + 100) :
    ∃ r q d, f.add x y = some r ∧ Rnd f.fractionBits P P (a + b) q d ∧ Vl f r (q * 2 ^ d) := by
  obtain ⟨m, i, h1, h2, h3⟩ := hx
  obtain ⟨n, j, k1, k2, k3⟩ := hy
  have hP := hf.hP
  have e1 := base_units (base := min i j) (by omega) (by omega) h3
  have e2 := base_units (base := min i j) (by omega) (by omega) k3
  obtain ⟨q, d, h4, h5⟩ := nearest_rnd hf (m * 2 ^ (i - min i j).toNat + n * 2 ^ (j - min i j).toNat) (min i j) P (a + b) (by omega) (by omega) (by
    rw [show (min i j + (P : Int)).toNat = (min i j - f.leastPlace).toNat by omega, Nat.add_mul, e1, e2]) hb
  refine ⟨f.nearest false (m * 2 ^ (i - min i j).toNat + n * 2 ^ (j - min i j).toNat) (min i j), q, d, ?_, h4, ?_⟩
  · unfold Format.add
    rw [h1, k1]
    unfold Datum.sum
    dsimp only
    rw [signed_f, signed_f, ← Int.natCast_add]
    show some (f.write _) = _
    unfold Format.write
    dsimp only
    rw [Int.natAbs_natCast]
    congr 1
    split
    · rfl
    · rw [decide_eq_false (by omega)]
  · rw [show P - P = 0 by omega, Nat.sub_zero] at h5
    exact h5

theorem vl_sub {f : Format} {P : Nat} (hf : Roomy f P) {x y a b : Nat} (hx : Vl f x a) (hy : Vl f y b) (hab : b ≤ a) (hb : (a - b).log2 ≤ P + 100) :
    ∃ r q d, f.sub x y = some r ∧ Rnd f.fractionBits P P (a - b) q d ∧ Vl f r (q * 2 ^ d) := by
  obtain ⟨m, i, h1, h2, h3⟩ := hx
  obtain ⟨n, j, k1, k2, k3⟩ := hy
  have hP := hf.hP
  have e1 := base_units (base := min i j) (by omega) (by omega) h3
  have e2 := base_units (base := min i j) (by omega) (by omega) k3
  have hle : n * 2 ^ (j - min i j).toNat ≤ m * 2 ^ (i - min i j).toNat := by
    refine Nat.le_of_mul_le_mul_right ?_ (Nat.two_pow_pos (min i j - f.leastPlace).toNat)
    rw [e1, e2]
    exact hab
  obtain ⟨q, d, h4, h5⟩ := nearest_rnd hf (m * 2 ^ (i - min i j).toNat - n * 2 ^ (j - min i j).toNat) (min i j) P (a - b) (by omega) (by omega) (by
    rw [show (min i j + (P : Int)).toNat = (min i j - f.leastPlace).toNat by omega, Nat.sub_mul, e1, e2]) hb
  refine ⟨f.nearest false (m * 2 ^ (i - min i j).toNat - n * 2 ^ (j - min i j).toNat) (min i j), q, d, ?_, h4, ?_⟩
  · unfold Format.sub
    rw [h1, k1]
    unfold Datum.opposite Datum.sum
    dsimp only
    rw [Bool.not_false, signed_f, signed_t, show ((m * 2 ^ (i - min i j).toNat : Nat) : Int) + -((n * 2 ^ (j - min i j).toNat : Nat) : Int) = ((m * 2 ^ (i - min i j).toNat - n * 2 ^ (j - min i j).toNat : Nat) : Int) by omega]
    show some (f.write _) = _
    unfold Format.write
    dsimp only
    rw [Int.natAbs_natCast]
    congr 1
    split
    · rfl
    · rw [decide_eq_false (by omega)]
  · rw [show P - P = 0 by omega, Nat.sub_zero] at h5
    exact h5

theorem vl_order {f : Format} {x y a b : Nat} (hx : Vl f x a) (hy : Vl f y b) : f.order x y = some (if a < b then .lt else if a = b then .eq else .gt) := by
  obtain ⟨m, i, h1, h2, h3⟩ := hx
  obtain ⟨n, j, k1, k2, k3⟩ := hy
  have e1 := base_units (base := min i j) (by omega) (by omega) h3
  have e2 := base_units (base := min i j) (by omega) (by omega) k3
  unfold Format.order
  rw [h1, k1]
  unfold Datum.order
  dsimp only
  rw [signed_f, signed_f, cmpI]
  have hp := Nat.two_pow_pos (min i j - f.leastPlace).toNat
  generalize 2 ^ (min i j - f.leastPlace).toNat = G at *
  generalize m * 2 ^ (i - min i j).toNat = A at *
  generalize n * 2 ^ (j - min i j).toNat = B at *
  congr 1
  have c1 : ((A : Int) < (B : Int)) = (a < b) := by
    rw [Int.ofNat_lt, ← e1, ← e2, Nat.mul_lt_mul_right hp]
  have c2 : ((A : Int) = (B : Int)) = (a = b) := by
    rw [Int.natCast_inj, ← e1, ← e2, Nat.mul_left_inj (by omega)]
  simp only [c1, c2]
theorem vl_lt {f : Format} {x y a b : Nat} (hx : Vl f x a) (hy : Vl f y b) : (f.order x y == some .lt) = decide (a < b) := by
  rw [vl_order hx hy]
  by_cases h : a < b
  · rw [if_pos h, decide_eq_true h]; rfl
  · rw [if_neg h, decide_eq_false h]
    split <;> rfl
theorem vl_gt {f : Format} {x y a b : Nat} (hx : Vl f x a) (hy : Vl f y b) : (f.order x y == some .gt) = decide (b < a) := by
  rw [vl_order hx hy]
  by_cases h : a < b
  · rw [if_pos h, decide_eq_false (by omega)]; rfl
  · rw [if_neg h]
    by_cases h2 : a = b
    · rw [if_pos h2, decide_eq_false (by omega)]; rfl
    · rw [if_neg h2, decide_eq_true (by omega)]; rfl

/-- the digits of a word of 32 bits -/
theorem read_digits {x m : Nat} {i : Int} {s : Bool} (h : single.read x = .number s m i) : m < 2 ^ 24 := by
  have key : ∀ (neg : Bool) (rung : Nat), (if rung < single.binade then Datum.number neg rung single.leastPlace else if rung < single.infRung then Datum.number neg (single.binade + rung % single.binade) (single.leastPlace + (rung / single.binade - 1 : Nat)) else if rung = single.infRung then .infinity neg else .nan neg (rung - single.infRung)) = .number s m i → m < 2 ^ 24 := by
    intro neg rung h
    have hb : single.binade = 2 ^ 23 := rfl
    rw [hb] at h
    split at h
    · rename_i hr
      injection h with _ h5 _
      omega
    · split at h
      · injection h with _ h5 _
        have := Nat.mod_lt rung (show 0 < 2 ^ 23 by decide)
        omega
      · split at h <;> cases h
  exact key _ _ h

theorem log2_le_of {n k : Nat} (h : n < 2 ^ (k + 1)) : n.log2 ≤ k := by
  by_cases hn : n = 0
  · subst hn; exact Nat.zero_le _
  · have := (Nat.log2_lt hn).2 h
    omega

theorem pow_mod (m : Nat) {d t : Nat} (h : d ≤ t) : (m * 2 ^ t) % 2 ^ d = 0 := by
  rw [show t = (t - d) + d by omega, Nat.pow_add, ← Nat.mul_assoc, Nat.mul_mod_left]

/-- a number of 32 bits as one of 64 -/
theorem vl_wide {x a E : Nat} (h : Vl single x a) (ha : a.log2 ≤ 249) (hE : E = 925) : ∃ y, floatToFloatBits .f32 x .f64 = some y ∧ Vl double y (a * 2 ^ E) := by
  obtain ⟨m, i, h1, h2, h3⟩ := h
  have hd := read_digits h1
  have hP : single.leastPlace = -149 := rfl
  rw [hP] at h2 h3
  have hv : m * 2 ^ (i + ((1074 : Nat) : Int)).toNat = a * 2 ^ E := by
    rw [← h3, Nat.mul_assoc, ← Nat.pow_add]
    congr 2
    omega
  have hlog : (a * 2 ^ E).log2 ≤ a.log2 + E := by
    by_cases h0 : a = 0
    · rw [h0, Nat.zero_mul]
      show 0 ≤ _
      exact Nat.zero_le _
    · rw [log2_up h0]
      exact Nat.le_refl _
  obtain ⟨q, d, hr, hq⟩ := nearest_rnd roomy2 m i 1074 _ (Nat.le_refl _) (by omega) hv (by omega)
  have e0 : q * 2 ^ d = a * 2 ^ E := by
    refine hr.ex ?_
    rw [← hv]
    refine pow_mod _ ?_
    have h4 := hr.hd
    rw [← hv] at h4
    have hF : double.fractionBits = 52 := rfl
    rw [hF] at h4
    by_cases h0 : m = 0
    · rw [h0, Nat.zero_mul] at h4
      have : Nat.log2 0 = 0 := rfl
      rw [this] at h4
      omega
    · rw [log2_up h0] at h4
      have h5 : m.log2 ≤ 23 := log2_le_of hd
      omega
  rw [Nat.sub_self, Nat.sub_zero, e0] at hq
  have hq0 := hq
  obtain ⟨m', i', k1, _⟩ := hq
  refine ⟨double.nearest false m i, ?_, hq0⟩
  unfold floatToFloatBits
  have e1 : FloatKind.f32.decode x = .number false m i := h1
  have e2 : FloatKind.f64.decode (FloatKind.f64.encode (.number false m i)) = .number false m' i' := k1
  rw [if_neg (by decide), e1]
  show (if (FloatKind.f64.decode (FloatKind.f64.encode (.number false m i))).isInfinity then none else some (FloatKind.f64.encode (.number false m i))) = _
  rw [e2]
  rfl

/-- n / 2 ^ K in 32 bits, in 64 bits -/
def Dy (K n x : Nat) : Prop := Vl single x (n * 2 ^ (149 - K))
def Dd (K n x : Nat) : Prop := Vl double x (n * 2 ^ (1074 - K))

theorem log2_dy {n K P e : Nat} (h : n < 2 ^ (e + 1)) : (n * 2 ^ (P - K)).log2 ≤ e + (P - K) := by
  by_cases h0 : n = 0
  · rw [h0, Nat.zero_mul]
    show 0 ≤ _
    exact Nat.zero_le _
  · rw [log2_up h0]
    have := log2_le_of h
    omega

theorem Dy.wide {K n x : Nat} (h : Dy K n x) (hn : n < 2 ^ 40) (hK : K ≤ 149) : ∃ y, floatToFloatBits .f32 x .f64 = some y ∧ Dd K n y := by
  obtain ⟨E, hE⟩ : ∃ E, E = 925 := ⟨_, rfl⟩
  obtain ⟨y, h1, h2⟩ := vl_wide h (Nat.le_trans (log2_dy (e := 39) hn) (by omega)) hE
  refine ⟨y, h1, ?_⟩
  unfold Dd
  rw [show 1074 - K = (149 - K) + E by omega, Nat.pow_add, ← Nat.mul_assoc]
  exact h2

theorem Dy.mul {K L n m x y : Nat} (hx : Dy K n x) (hy : Dy L m y) (hnm : n * m < 2 ^ 24) (hK : K + L ≤ 126) : ∃ r, single.mul x y = some r ∧ Dy (K + L) (n * m) r := by
  have hF : single.fractionBits = 23 := rfl
  have ev : n * 2 ^ (149 - K) * (m * 2 ^ (149 - L)) = n * m * 2 ^ (298 - (K + L)) := by
    rw [show 298 - (K + L) = (149 - K) + (149 - L) by omega, Nat.pow_add]
    grind
  have hl := log2_dy (n := n * m) (K := K + L) (P := 298) (e := 23) hnm
  obtain ⟨r, q, d, h1, h2, h3⟩ := vl_mul roomy1 hx hy (by rw [ev]; omega)
  refine ⟨r, h1, ?_⟩
  rw [ev] at h2
  have hd := h2.hd
  rw [hF] at hd
  have hd2 : d ≤ 298 - (K + L) := by omega
  have e0 := h2.ex (pow_mod _ hd2)
  unfold Dy
  have e1 : q * 2 ^ (d - 149) = n * m * 2 ^ (149 - (K + L)) := by
    refine Nat.eq_of_mul_eq_mul_right (Nat.two_pow_pos 149) ?_
    rw [Nat.mul_assoc, ← Nat.pow_add, Nat.mul_assoc, ← Nat.pow_add, show d - 149 + 149 = d by omega, show 149 - (K + L) + 149 = 298 - (K + L) by omega]
    exact e0
  rw [← e1]
  exact h3

/-- a product of more digits: rounded by at most 1024 units -/
theorem Dy.mulR {K L n m x y : Nat} (hx : Dy K n x) (hy : Dy L m y) (hnm : n * m < 2 ^ 34) (hK : K + L = 28) : ∃ r v, single.mul x y = some r ∧ Dy 28 v r ∧ v ≤ n * m + 1024 ∧ n * m ≤ v + 1024 := by
  have hF : single.fractionBits = 23 := rfl
  obtain ⟨E, hE⟩ : ∃ E, E = 270 := ⟨_, rfl⟩
  have h5 : (1024 : Nat) = 2 ^ 10 := by decide
  have ev : n * 2 ^ (149 - K) * (m * 2 ^ (149 - L)) = n * m * 2 ^ E := by
    rw [show E = (149 - K) + (149 - L) by omega, Nat.pow_add]
    grind
  have hl := log2_dy (n := n * m) (K := 28) (P := 298) (e := 33) (by omega)
  rw [show 298 - 28 = E by omega] at hl
  obtain ⟨r, q, d, h1, h2, h3⟩ := vl_mul roomy1 hx hy (by rw [ev]; omega)
  rw [ev] at h2
  have hd := h2.hd
  rw [hF] at hd
  have hd2 : d ≤ 280 := by omega
  by_cases hd3 : d ≤ E
  · refine ⟨r, n * m, h1, ?_, by omega, by omega⟩
    have e0 := h2.ex (pow_mod _ hd3)
    unfold Dy
    have e1 : q * 2 ^ (d - 149) = n * m * 2 ^ (149 - 28) := by
      refine Nat.eq_of_mul_eq_mul_right (Nat.two_pow_pos 149) ?_
      rw [Nat.mul_assoc, ← Nat.pow_add, Nat.mul_assoc, ← Nat.pow_add, show d - 149 + 149 = d by omega, show 149 - 28 + 149 = E by omega]
      exact e0
    rw [← e1]
    exact h3
  · refine ⟨r, q * 2 ^ (d - E), h1, ?_, ?_, ?_⟩
    · unfold Dy
      rw [Nat.mul_assoc, ← Nat.pow_add, show d - E + (149 - 28) = d - 149 by omega]
      exact h3
    · refine Nat.le_of_mul_le_mul_right ?_ (Nat.two_pow_pos E)
      rw [Nat.mul_assoc, ← Nat.pow_add, show d - E + E = d by omega, Nat.add_mul]
      refine Nat.le_trans h2.hi (Nat.add_le_add_left ?_ _)
      rw [h5, ← Nat.pow_add]
      exact Nat.pow_le_pow_right (by omega) (by omega)
    · refine Nat.le_of_mul_le_mul_right ?_ (Nat.two_pow_pos E)
      rw [Nat.add_mul, Nat.mul_assoc q, ← Nat.pow_add, show d - E + E = d by omega]
      refine Nat.le_trans h2.lo (Nat.add_le_add_left ?_ _)
      rw [h5, ← Nat.pow_add]
      exact Nat.pow_le_pow_right (by omega) (by omega)

theorem Dy.add {K n m x y : Nat} (hx : Dy K n x) (hy : Dy K m y) (hnm : n + m < 2 ^ 24) (hK : K ≤ 126) : ∃ r, single.add x y = some r ∧ Dy K (n + m) r := by
  have hF : single.fractionBits = 23 := rfl
  have ev : n * 2 ^ (149 - K) + m * 2 ^ (149 - K) = (n + m) * 2 ^ (149 - K) := (Nat.add_mul _ _ _).symm
  have hl := log2_dy (n := n + m) (K := K) (P := 149) (e := 23) hnm
  obtain ⟨r, q, d, h1, h2, h3⟩ := vl_add roomy1 hx hy (by rw [ev]; omega)
  refine ⟨r, h1, ?_⟩
  rw [ev] at h2
  have hd := h2.hd
  rw [hF] at hd
  have e0 := h2.ex (pow_mod _ (by omega))
  unfold Dy
  rw [← e0]
  exact h3

theorem Dd.add {K n m x y : Nat} (hx : Dd K n x) (hy : Dd K m y) (hnm : n + m < 2 ^ 53) (hK : K ≤ 1000) : ∃ r, double.add x y = some r ∧ Dd K (n + m) r := by
  have hF : double.fractionBits = 52 := rfl
  have ev : n * 2 ^ (1074 - K) + m * 2 ^ (1074 - K) = (n + m) * 2 ^ (1074 - K) := (Nat.add_mul _ _ _).symm
  have hl := log2_dy (n := n + m) (K := K) (P := 1074) (e := 52) hnm
  obtain ⟨r, q, d, h1, h2, h3⟩ := vl_add roomy2 hx hy (by rw [ev]; omega)
  refine ⟨r, h1, ?_⟩
  rw [ev] at h2
  have hd := h2.hd
  rw [hF] at hd
  have e0 := h2.ex (pow_mod _ (by omega))
  unfold Dd
  rw [← e0]
  exact h3

theorem Dd.sub {K n m x y : Nat} (hx : Dd K n x) (hy : Dd K m y) (hm : m ≤ n) (hn : n < 2 ^ 53) (hK : K ≤ 1000) : ∃ r, double.sub x y = some r ∧ Dd K (n - m) r := by
  have hF : double.fractionBits = 52 := rfl
  have ev : n * 2 ^ (1074 - K) - m * 2 ^ (1074 - K) = (n - m) * 2 ^ (1074 - K) := (Nat.sub_mul _ _ _).symm
  have hl := log2_dy (n := n - m) (K := K) (P := 1074) (e := 52) (by omega)
  obtain ⟨r, q, d, h1, h2, h3⟩ := vl_sub roomy2 hx hy (Nat.mul_le_mul_right _ hm) (by rw [ev]; omega)
  refine ⟨r, h1, ?_⟩
  rw [ev] at h2
  have hd := h2.hd
  rw [hF] at hd
  have e0 := h2.ex (pow_mod _ (by omega))
  unfold Dd
  rw [← e0]
  exact h3

theorem Dd.lt {K n m x y : Nat} (hx : Dd K n x) (hy : Dd K m y) : (double.order x y == some .lt) = decide (n < m) := by
  rw [vl_lt hx hy]
  simp only [Nat.mul_lt_mul_right (Nat.two_pow_pos (1074 - K))]

theorem Dd.zero (K : Nat) : Dd K 0 0 := ⟨0, -1074, by decide, by decide, by simp⟩
theorem Dd.of {K n x m s : Nat} {i : Int} (h : double.read x = .number false m i) (hi : -1074 ≤ i) (h1 : m = n * 2 ^ s) (h2 : s + (i + 1074).toNat = 1074 - K) : Dd K n x := by
  refine ⟨m, i, h, hi, ?_⟩
  rw [h1, Nat.mul_assoc, ← Nat.pow_add]
  congr 2
theorem Dd.one28 : Dd 28 268435456 4607182418800017408 := Dd.of (m := 4503599627370496) (s := 24) (i := -52) (by decide) (by decide) (by decide) (by decide)
theorem Dy.zero (K : Nat) : Dy K 0 0 := ⟨0, -149, by decide, by decide, by simp⟩
theorem Dy.one : Dy 0 1 1065353216 := ⟨8388608, -23, by decide, by decide, by decide⟩

theorem Dy.fM {K L n m x y : Nat} (hx : Dy K n x) (hy : Dy L m y) (hnm : n * m < 2 ^ 24) (hK : K + L ≤ 126) : Dy (K + L) (n * m) (fM x y) := by
  obtain ⟨r, h1, h2⟩ := Dy.mul hx hy hnm hK
  unfold Proofs.Ythakjkhceeocfaa.fM
  rw [h1]
  exact h2
theorem Dy.fA {K n m x y : Nat} (hx : Dy K n x) (hy : Dy K m y) (hnm : n + m < 2 ^ 24) (hK : K ≤ 126) : Dy K (n + m) (fA x y) := by
  obtain ⟨r, h1, h2⟩ := Dy.add hx hy hnm hK
  unfold Proofs.Ythakjkhceeocfaa.fA
  rw [h1]
  exact h2

theorem Dy.more {K n x : Nat} (h : Dy K n x) (t : Nat) (hK : K + t ≤ 149) : Dy (K + t) (n * 2 ^ t) x := by
  unfold Dy at *
  rw [Nat.mul_assoc, ← Nat.pow_add, show t + (149 - (K + t)) = 149 - K by omega]
  exact h
theorem Dy.one4 : Dy 4 16 1065353216 := Dy.more Dy.one 4 (by decide)
/-- sixteenths are chances -/
theorem isCh_dy {m x : Nat} (h : Dy 4 m x) (hm : m ≤ 16) : isCh x = true := by
  have h1 := vl_order h (Dy.zero 4)
  have h2 := vl_order h Dy.one4
  unfold isCh
  rw [h1, h2]
  have hp := Nat.two_pow_pos (149 - 4)
  rw [Nat.zero_mul]
  generalize 2 ^ (149 - 4) = G at *
  have h3 : m * G ≤ 16 * G := Nat.mul_le_mul_right _ hm
  rw [if_neg (Nat.not_lt_zero _)]
  by_cases e1 : m * G = 0
  · rw [if_pos e1]
    by_cases e2 : m * G < 16 * G
    · rw [if_pos e2]; rfl
    · rw [if_neg e2, if_pos (by omega)]; rfl
  · rw [if_neg e1]
    by_cases e2 : m * G < 16 * G
    · rw [if_pos e2]; rfl
    · rw [if_neg e2, if_pos (by omega)]; rfl

/-- A table of chances in sixteenths: of two players, one's is what the other's leaves of 16. -/
structure Sixt (n : Nat) (M : Nat → Nat → Nat) (W : List Nat) : Prop where
  len : W.length = n * n
  dy : ∀ i k, i < n → k < n → Dy 4 (M i k) (W.getD (i * n + k) 0)
  le : ∀ i k, i < n → k < n → M i k ≤ 16
  two : ∀ i k, i < n → k < n → i ≠ k → M i k + M k i = 16

def sN (C : Nat → Nat) (M : Nat → Nat → Nat) (h i : Nat) : Nat → Nat
  | 0 => 0
  | k + 1 => if kc h i k = true then sN C M h i k + C k * M i k else sN C M h i k
theorem sN_succ (C : Nat → Nat) (M : Nat → Nat → Nat) (h i k : Nat) : sN C M h i (k + 1) = if kc h i k = true then sN C M h i k + C k * M i k else sN C M h i k := rfl
theorem sN_mono (C : Nat → Nat) (M : Nat → Nat → Nat) (h i : Nat) {j k : Nat} (hjk : j ≤ k) : sN C M h i j ≤ sN C M h i k := by
  induction k with
  | zero => have : j = 0 := by omega
            subst this; exact Nat.le_refl _
  | succ k ih =>
    by_cases e : j = k + 1
    · subst e; exact Nat.le_refl _
    · have h1 := ih (by omega)
      have h2 := sN_succ C M h i k
      by_cases e2 : kc h i k = true
      · rw [if_pos e2] at h2
        rw [h2]
        exact Nat.le_trans h1 (Nat.le_add_right _ _)
      · rw [if_neg e2] at h2
        rw [h2]
        exact h1
theorem sN_le (C : Nat → Nat) (M : Nat → Nat → Nat) (h i B n : Nat) (hi : i < n) (hC : ∀ k, k < n → C k ≤ B) (hM : ∀ i k, i < n → k < n → M i k ≤ 16) : ∀ k, k ≤ n → sN C M h i k ≤ kCnt h i k * (B * 16) := by
  intro k
  induction k with
  | zero => intro _; simp [sN]
  | succ k ih =>
    intro hk
    have h1 := ih (by omega)
    unfold sN kCnt
    by_cases e : kc h i k = true
    · rw [if_pos e, e]
      have h2 : C k * M i k ≤ B * 16 := Nat.mul_le_mul (hC k (by omega)) (hM i k hi (by omega))
      rw [Nat.add_mul]
      show _ ≤ _ + 1 * (B * 16)
      omega
    · rw [if_neg e]
      refine Nat.le_trans h1 (Nat.mul_le_mul_right _ (Nat.le_add_right _ _))

theorem kSum_dy {n h i K : Nat} {M : Nat → Nat → Nat} {W c : List Nat} {C : Nat → Nat} (hW : Sixt n M W) (hi : i < n) (hc : ∀ k, k < n → Dy K (C k) (c.getD k 0)) (hb : sN C M h i n < 2 ^ 24) (hK : K ≤ 100) :
    ∀ k, k ≤ n → Dy (K + 4) (sN C M h i k) (kSum W c n h i k) := by
  intro k
  induction k with
  | zero => intro _; exact Dy.zero _
  | succ k ih =>
    intro hk
    have h1 := ih (by omega)
    have h2 := sN_mono C M h i hk
    rw [sN_succ] at h2 ⊢
    unfold kSum
    by_cases e : kc h i k = true
    · rw [if_pos e] at h2 ⊢
      rw [if_pos e]
      exact Dy.fA h1 (Dy.fM (hc k (by omega)) (hW.dy i k hi (by omega)) (by omega) (by omega)) (by omega) (by omega)
    · rw [if_neg e, if_neg e]
      exact h1

/-- a round in whole numbers -/
def rN (C : Nat → Nat) (M : Nat → Nat → Nat) (n h : Nat) (i : Nat) : Nat := C i * sN C M h i n
theorem kRound_get {W c : List Nat} {n h i : Nat} (hi : i < n) : (kRound W c n h).getD i 0 = fM (c.getD i 0) (kSum W c n h i n) := by simp [kRound, hi]

theorem kRound_dy {n h K B : Nat} {M : Nat → Nat → Nat} {W c : List Nat} {C : Nat → Nat} (hW : Sixt n M W) (hn : n ≤ 8) (hh : h = 1 ∨ h = 2 ∨ h = 4) (hc : ∀ k, k < n → Dy K (C k) (c.getD k 0)) (hC : ∀ k, k < n → C k ≤ B) (hb : B * (h * (B * 16)) < 2 ^ 24) (hb2 : h * (B * 16) < 2 ^ 24) (hK : K ≤ 50) :
    ∀ i, i < n → Dy (K + (K + 4)) (rN C M n h i) ((kRound W c n h).getD i 0) ∧ rN C M n h i ≤ B * (h * (B * 16)) := by
  intro i hi
  have h1 : sN C M h i n ≤ h * (B * 16) := Nat.le_trans (sN_le C M h i B n hi hC hW.le n (Nat.le_refl _)) (Nat.mul_le_mul_right _ (kCnt_le h hh i (by omega) n hn))
  have h2 : rN C M n h i ≤ B * (h * (B * 16)) := Nat.mul_le_mul (hC i hi) h1
  refine ⟨?_, h2⟩
  rw [kRound_get hi]
  exact Dy.fM (hc i hi) (kSum_dy hW hi hc (by omega) (by omega) n (Nat.le_refl _)) (by unfold rN at h2; omega) (by omega)

theorem kRound_dyR {n h B : Nat} {M : Nat → Nat → Nat} {W c : List Nat} {C : Nat → Nat} (hW : Sixt n M W) (hn : n ≤ 8) (hh : h = 1 ∨ h = 2 ∨ h = 4) (hc : ∀ k, k < n → Dy 12 (C k) (c.getD k 0)) (hC : ∀ k, k < n → C k ≤ B) (hb : B * (h * (B * 16)) < 2 ^ 34) (hb2 : h * (B * 16) < 2 ^ 24) :
    ∀ i, i < n → ∃ v, Dy 28 v ((kRound W c n h).getD i 0) ∧ v ≤ rN C M n h i + 1024 ∧ rN C M n h i ≤ v + 1024 ∧ rN C M n h i < 2 ^ 34 := by
  intro i hi
  have h1 : sN C M h i n ≤ h * (B * 16) := Nat.le_trans (sN_le C M h i B n hi hC hW.le n (Nat.le_refl _)) (Nat.mul_le_mul_right _ (kCnt_le h hh i (by omega) n hn))
  have h2 : C i * sN C M h i n ≤ B * (h * (B * 16)) := Nat.mul_le_mul (hC i hi) h1
  rw [kRound_get hi]
  obtain ⟨r, v, e1, e2, e3, e4⟩ := Dy.mulR (hc i hi) (kSum_dy (C := C) (h := h) hW hi hc (by omega) (by omega) n (Nat.le_refl _)) (by omega) rfl
  refine ⟨v, ?_, e3, e4, ?_⟩
  · unfold fM
    rw [e1]
    exact e2
  · unfold rN
    omega

/-- the whole numbers of each round -/
def vN (M : Nat → Nat → Nat) (n : Nat) : Nat → Nat → Nat
  | 0 => fun _ => 1
  | j + 1 => rN (vN M n j) M n (2 ^ j)
def sumN (v : Nat → Nat) : Nat → Nat
  | 0 => 0
  | k + 1 => sumN v k + v k
theorem kTo_dy0 {n : Nat} {M : Nat → Nat → Nat} (W : List Nat) : ∀ k, k < n → Dy 0 (vN M n 0 k) ((kTo W n 0).getD k 0) ∧ vN M n 0 k ≤ 1 := fun k hk => by
  refine ⟨?_, Nat.le_refl _⟩
  show Dy 0 1 ((List.replicate n 1065353216).getD k 0)
  rw [List.getD_eq_getElem?_getD, List.getElem?_replicate, if_pos hk]
  exact Dy.one
theorem kTo_dy1 {n : Nat} {M : Nat → Nat → Nat} {W : List Nat} (hW : Sixt n M W) (hn : n ≤ 8) : ∀ k, k < n → Dy 4 (vN M n 1 k) ((kTo W n 1).getD k 0) ∧ vN M n 1 k ≤ 16 := fun k hk =>
  kRound_dy hW hn (.inl rfl) (fun j hj => (kTo_dy0 W j hj).1) (fun j hj => (kTo_dy0 (M := M) W j hj).2) (by decide) (by decide) (by decide) k hk
theorem kTo_dy2 {n : Nat} {M : Nat → Nat → Nat} {W : List Nat} (hW : Sixt n M W) (hn : n ≤ 8) : ∀ k, k < n → Dy 12 (vN M n 2 k) ((kTo W n 2).getD k 0) ∧ vN M n 2 k ≤ 8192 := fun k hk =>
  kRound_dy hW hn (.inr (.inl rfl)) (fun j hj => (kTo_dy1 hW hn j hj).1) (fun j hj => (kTo_dy1 hW hn j hj).2) (by decide) (by decide) (by decide) k hk
theorem kTo_dy3 {n : Nat} {M : Nat → Nat → Nat} {W : List Nat} (hW : Sixt n M W) (hn : n ≤ 8) : ∀ k, k < n → ∃ v, Dy 28 v ((kTo W n 3).getD k 0) ∧ v ≤ vN M n 3 k + 1024 ∧ vN M n 3 k ≤ v + 1024 ∧ vN M n 3 k < 2 ^ 34 := fun k hk =>
  kRound_dyR hW hn (.inr (.inr rfl)) (fun j hj => (kTo_dy2 hW hn j hj).1) (fun j hj => (kTo_dy2 hW hn j hj).2) (by decide) (by decide) k hk

theorem sum2 {M : Nat → Nat → Nat} (h : ∀ i k, i < 2 → k < 2 → i ≠ k → M i k + M k i = 16) : sumN (vN M 2 1) 2 = 16 := by
  have h1 := h 0 1 (by decide) (by decide) (by decide)
  simp [sumN, vN, rN, sN, kc]
  omega
theorem sum4 {M : Nat → Nat → Nat} (h : ∀ i k, i < 4 → k < 4 → i ≠ k → M i k + M k i = 16) : sumN (vN M 4 2) 4 = 4096 := by
  have a1 := h 0 1 (by decide) (by decide) (by decide)
  have a2 := h 2 3 (by decide) (by decide) (by decide)
  have b1 := h 0 2 (by decide) (by decide) (by decide)
  have b2 := h 0 3 (by decide) (by decide) (by decide)
  have b3 := h 1 2 (by decide) (by decide) (by decide)
  have b4 := h 1 3 (by decide) (by decide) (by decide)
  simp [sumN, vN, rN, sN, kc]
  clear h
  generalize M 0 1 = p at *
  generalize M 1 0 = q at *
  generalize M 2 3 = r at *
  generalize M 3 2 = s at *
  have e : 16 * ((p + q) * (r + s)) = 4096 := by rw [a1, a2]
  grind
theorem sum8 {M : Nat → Nat → Nat} (h : ∀ i k, i < 8 → k < 8 → i ≠ k → M i k + M k i = 16) : sumN (vN M 8 3) 8 = 268435456 := by
  have e3 : sumN (vN M 8 3) 8 = 16 * ((vN M 8 2 0 + vN M 8 2 1 + vN M 8 2 2 + vN M 8 2 3) * (vN M 8 2 4 + vN M 8 2 5 + vN M 8 2 6 + vN M 8 2 7)) := by
    have h1 := h 0 4 (by decide) (by decide) (by decide)
    have h2 := h 0 5 (by decide) (by decide) (by decide)
    have h3 := h 0 6 (by decide) (by decide) (by decide)
    have h4 := h 0 7 (by decide) (by decide) (by decide)
    have h5 := h 1 4 (by decide) (by decide) (by decide)
    have h6 := h 1 5 (by decide) (by decide) (by decide)
    have h7 := h 1 6 (by decide) (by decide) (by decide)
    have h8 := h 1 7 (by decide) (by decide) (by decide)
    have h9 := h 2 4 (by decide) (by decide) (by decide)
    have h10 := h 2 5 (by decide) (by decide) (by decide)
    have h11 := h 2 6 (by decide) (by decide) (by decide)
    have h12 := h 2 7 (by decide) (by decide) (by decide)
    have h13 := h 3 4 (by decide) (by decide) (by decide)
    have h14 := h 3 5 (by decide) (by decide) (by decide)
    have h15 := h 3 6 (by decide) (by decide) (by decide)
    have h16 := h 3 7 (by decide) (by decide) (by decide)
    clear h
    rw [show vN M 8 3 = rN (vN M 8 2) M 8 4 from rfl]
    generalize vN M 8 2 = C
    simp [sumN, rN, sN, kc]
    grind
  have e2 : (vN M 8 2 0 + vN M 8 2 1 + vN M 8 2 2 + vN M 8 2 3) = 16 * ((vN M 8 1 0 + vN M 8 1 1) * (vN M 8 1 2 + vN M 8 1 3)) := by
    have h1 := h 0 2 (by decide) (by decide) (by decide)
    have h2 := h 0 3 (by decide) (by decide) (by decide)
    have h3 := h 1 2 (by decide) (by decide) (by decide)
    have h4 := h 1 3 (by decide) (by decide) (by decide)
    clear h e3
    rw [show vN M 8 2 = rN (vN M 8 1) M 8 2 from rfl]
    generalize vN M 8 1 = C
    simp [rN, sN, kc]
    grind
  have e2' : (vN M 8 2 4 + vN M 8 2 5 + vN M 8 2 6 + vN M 8 2 7) = 16 * ((vN M 8 1 4 + vN M 8 1 5) * (vN M 8 1 6 + vN M 8 1 7)) := by
    have h1 := h 4 6 (by decide) (by decide) (by decide)
    have h2 := h 4 7 (by decide) (by decide) (by decide)
    have h3 := h 5 6 (by decide) (by decide) (by decide)
    have h4 := h 5 7 (by decide) (by decide) (by decide)
    clear h e3 e2
    rw [show vN M 8 2 = rN (vN M 8 1) M 8 2 from rfl]
    generalize vN M 8 1 = C
    simp [rN, sN, kc]
    grind
  have f1 : vN M 8 1 0 + vN M 8 1 1 = 16 := by
    have := h 0 1 (by decide) (by decide) (by decide)
    simp [vN, rN, sN, kc]; omega
  have f2 : vN M 8 1 2 + vN M 8 1 3 = 16 := by
    have := h 2 3 (by decide) (by decide) (by decide)
    simp [vN, rN, sN, kc]; omega
  have f3 : vN M 8 1 4 + vN M 8 1 5 = 16 := by
    have := h 4 5 (by decide) (by decide) (by decide)
    simp [vN, rN, sN, kc]; omega
  have f4 : vN M 8 1 6 + vN M 8 1 7 = 16 := by
    have := h 6 7 (by decide) (by decide) (by decide)
    simp [vN, rN, sN, kc]; omega
  rw [e3, e2, e2', f1, f2, f3, f4]

theorem sumN_scale (v : Nat → Nat) (c : Nat) : ∀ k, sumN (fun i => v i * c) k = sumN v k * c := by
  intro k
  induction k with
  | zero => simp [sumN]
  | succ k ih => show sumN (fun i => v i * c) k + v k * c = (sumN v k + v k) * c; rw [ih, Nat.add_mul]
/-- what is told of the chances: numbers over 2 ^ 28, whose sum is near 2 ^ 28 -/
structure Near (n : Nat) (c : List Nat) (v : Nat → Nat) : Prop where
  len : c.length = n
  dy : ∀ i, i < n → Dy 28 (v i) (c.getD i 0)
  lt : ∀ i, i < n → v i < 2 ^ 35
  lo : 268435456 ≤ sumN v n + 8192
  hi : sumN v n ≤ 268435456 + 8192
theorem choose_fn {n : Nat} {p : Nat → Nat → Prop} (h : ∀ i, i < n → ∃ v, p i v) : ∃ f : Nat → Nat, ∀ i, i < n → p i (f i) := by
  induction n with
  | zero => exact ⟨fun _ => 0, fun i hi => by omega⟩
  | succ n ih =>
    obtain ⟨f, hf⟩ := ih fun i hi => h i (by omega)
    obtain ⟨v, hv⟩ := h n (by omega)
    refine ⟨fun i => if i = n then v else f i, fun i hi => ?_⟩
    by_cases e : i = n
    · subst e; simpa using hv
    · simpa [e] using hf i (by omega)
theorem sumN_near {v u : Nat → Nat} {n : Nat} (h : ∀ i, i < n → v i ≤ u i + 1024 ∧ u i ≤ v i + 1024) : ∀ k, k ≤ n → sumN v k ≤ sumN u k + 1024 * k ∧ sumN u k ≤ sumN v k + 1024 * k := by
  intro k
  induction k with
  | zero => intro _; simp [sumN]
  | succ k ih =>
    intro hk
    have h1 := ih (by omega)
    have h2 := h k (by omega)
    simp only [sumN]
    omega
theorem near_all {n : Nat} {M : Nat → Nat → Nat} {W : List Nat} (hn : n = 2 ∨ n = 4 ∨ n = 8) (hW : Sixt n M W) : ∃ v, (kRes W).2 = true ∧ Near n (kRes W).1 v := by
  have hn8 : n ≤ 8 := by omega
  have hall : W.all isCh = true := by
    rw [List.all_eq_true]
    intro x hx
    obtain ⟨j, hj, rfl⟩ := List.getElem_of_mem hx
    have hl := hW.len
    have hn0 : 0 < n := by omega
    have h1 : j / n < n := Nat.div_lt_of_lt_mul (by omega)
    have h2 : j % n < n := Nat.mod_lt _ hn0
    have h3 := hW.dy (j / n) (j % n) h1 h2
    rw [Nat.mul_comm, Nat.div_add_mod, List.getD_eq_getElem?_getD, List.getElem?_eq_getElem hj] at h3
    exact isCh_dy h3 (hW.le _ _ h1 h2)
  have hk : kN W.length = n ∧ kRes W = (kTo W n (kL (n * n)), true) := by
    have h1 : kN W.length = n := by rw [hW.len]; rcases hn with rfl | rfl | rfl <;> rfl
    refine ⟨h1, ?_⟩
    unfold kRes
    rw [if_pos ⟨by rw [h1]; omega, hall⟩, h1, hW.len]
  rw [hk.2]
  rcases hn with rfl | rfl | rfl
  · refine ⟨fun i => vN M 2 1 i * 2 ^ 24, rfl, kTo_len _ _ _, fun i hi => (kTo_dy1 hW (by omega) i hi).1.more 24 (by omega), fun i hi => ?_, ?_, ?_⟩
    · have := (kTo_dy1 hW (by omega) i hi).2
      show vN M 2 1 i * 2 ^ 24 < 2 ^ 35
      omega
    · rw [sumN_scale, sum2 hW.two]; decide
    · rw [sumN_scale, sum2 hW.two]; decide
  · refine ⟨fun i => vN M 4 2 i * 2 ^ 16, rfl, kTo_len _ _ _, fun i hi => (kTo_dy2 hW (by omega) i hi).1.more 16 (by omega), fun i hi => ?_, ?_, ?_⟩
    · have := (kTo_dy2 hW (by omega) i hi).2
      show vN M 4 2 i * 2 ^ 16 < 2 ^ 35
      omega
    · rw [sumN_scale, sum4 hW.two]; decide
    · rw [sumN_scale, sum4 hW.two]; decide
  · obtain ⟨v, hv⟩ := choose_fn (kTo_dy3 hW (by omega))
    have hs := sumN_near (fun i hi => ⟨(hv i hi).2.1, (hv i hi).2.2.1⟩) 8 (Nat.le_refl _)
    rw [sum8 hW.two] at hs
    refine ⟨v, rfl, kTo_len _ _ _, fun i hi => (hv i hi).1, fun i hi => ?_, by omega, by omega⟩
    have := hv i hi
    omega

end Go.Proofs.Ythakjkhceeocfaa
