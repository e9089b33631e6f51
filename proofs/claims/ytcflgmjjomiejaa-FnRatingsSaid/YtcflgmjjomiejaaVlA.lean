/- Floats: what a word is worth in units of its format's last place; the nearest word is near, and exact where it can be. -/
import Derived.Test.YtcflgmjjomiejaaFlA
namespace Go.Proofs.Ytcflgmjjomiejaa
set_option linter.unusedVariables false
set_option linter.unusedSimpArgs false
open Ieee

/-- a number that is not negative, worth v units of the last place -/
def Vl (f : Format) (x v : Nat) : Prop := ∃ m i, f.read x = .number false m i ∧ f.leastPlace ≤ i ∧ m * 2 ^ (i - f.leastPlace).toNat = v

theorem log2_up {m : Nat} (hm : m ≠ 0) (k : Nat) : (m * 2 ^ k).log2 = m.log2 + k := by
  have hne : m * 2 ^ k ≠ 0 := Nat.mul_ne_zero hm (Nat.pos_iff_ne_zero.1 (Nat.two_pow_pos _))
  rw [Nat.log2_eq_iff hne]
  refine ⟨?_, ?_⟩
  · rw [Nat.pow_add]
    exact Nat.mul_le_mul_right _ (Nat.log2_self_le hm)
  · rw [show m.log2 + k + 1 = (m.log2 + 1) + k by omega, Nat.pow_add]
    exact Nat.mul_lt_mul_of_pos_right Nat.lt_log2_self (Nat.two_pow_pos _)

theorem more_le (b : Bool) : b.toNat ≤ 1 := by cases b <;> decide
/-- a cut is near, and exact where nothing is dropped -/
theorem cut_near (neg : Bool) (n drop : Nat) : Toward.even.cut neg n drop * 2 ^ drop ≤ n + 2 ^ drop ∧ n ≤ Toward.even.cut neg n drop * 2 ^ drop + 2 ^ drop ∧ (n % 2 ^ drop = 0 → Toward.even.cut neg n drop * 2 ^ drop = n) ∧ (2 ^ drop * 2 ^ 0 ≤ n → ∀ K, 2 ^ K * 2 ^ drop ≤ n → 2 ^ K ≤ Toward.even.cut neg n drop) := by
  unfold Toward.cut
  rw [Nat.one_shiftLeft]
  dsimp only
  rcases Nat.le_total drop (n.log2 + 2) with hd | hd
  · rw [Nat.min_eq_left hd]
    generalize hG : (2 : Nat) ^ drop = G
    have hGp : 0 < G := by rw [← hG]; exact Nat.two_pow_pos _
    have h1 := Nat.div_add_mod n G
    have h2 := Nat.mod_lt n hGp
    generalize hb : (decide (G < 2 * (n % G)) || (G == 2 * (n % G) && n / G % 2 == 1)) = b
    have h3 := more_le b
    rw [Nat.mul_comm] at h1
    refine ⟨?_, ?_, ?_, ?_⟩
    · rw [Nat.add_mul]
      have : b.toNat * G ≤ 1 * G := Nat.mul_le_mul_right _ h3
      omega
    · rw [Nat.add_mul]
      omega
    · intro h0
      have hb0 : b = false := by
        rw [← hb, h0]
        have e2 : (G == 2 * 0) = false := by simp; omega
        rw [e2]
        simp
      rw [hb0]
      show (n / G + 0) * G = n
      rw [Nat.add_zero]
      omega
    · intro _ K hK
      have : 2 ^ K ≤ n / G := (Nat.le_div_iff_mul_le hGp).2 hK
      omega
  · rw [Nat.min_eq_right hd]
    have hlt : n < 2 ^ (n.log2 + 1) := Nat.lt_log2_self
    have hG2 : (2 : Nat) ^ (n.log2 + 2) = 2 * 2 ^ (n.log2 + 1) := by rw [Nat.pow_succ, Nat.mul_comm]
    have hle : (2 : Nat) ^ (n.log2 + 2) ≤ 2 ^ drop := Nat.pow_le_pow_right (by omega) hd
    have e1 : n / 2 ^ (n.log2 + 2) = 0 := Nat.div_eq_of_lt (by omega)
    have e2 : n % 2 ^ (n.log2 + 2) = n := Nat.mod_eq_of_lt (by omega)
    rw [e1, e2]
    have e3 : decide ((2 : Nat) ^ (n.log2 + 2) < 2 * n) = false := decide_eq_false (by omega)
    have e4 : ((2 : Nat) ^ (n.log2 + 2) == 2 * n) = false := by simp; omega
    rw [e3, e4]
    simp only [Bool.false_or, Bool.false_and, Bool.toNat_false, Nat.add_zero, Nat.zero_mul, Nat.zero_add]
    refine ⟨by omega, by omega, ?_, ?_⟩
    · intro h0
      rw [Nat.mod_eq_of_lt (by omega)] at h0
      omega
    · intro h0
      omega

/-- what is read of a rung -/
theorem read_val (f : Format) (hw : f.infRung < f.signWeight) (n q : Nat) (hq : (2 ^ f.fractionBits ≤ q ∧ q ≤ 2 ^ (f.fractionBits + 1)) ∨ (n = 0 ∧ q ≤ 2 ^ (f.fractionBits + 1))) (hR : n * f.binade + q < f.infRung) :
    Vl f (f.word false (n * f.binade + q)) (q * 2 ^ n) := by
  have hb : f.binade = 2 ^ f.fractionBits := rfl
  have hB : 0 < f.binade := Nat.two_pow_pos _
  have h2B : (2 : Nat) ^ (f.fractionBits + 1) = 2 * f.binade := by rw [Nat.pow_succ, Nat.mul_comm]; rfl
  rw [h2B, ← hb] at hq
  have e1 : f.word false (n * f.binade + q) / f.signWeight % 2 = 0 := by
    unfold Format.word
    simp [Nat.div_eq_of_lt (show n * f.binade + q < f.signWeight by omega)]
  have e2 : f.word false (n * f.binade + q) % f.signWeight = n * f.binade + q := by
    unfold Format.word
    simp [Nat.mod_eq_of_lt (show n * f.binade + q < f.signWeight by omega)]
  unfold Vl Format.read
  simp only [e1, e2]
  generalize f.binade = B at *
  by_cases hlo : n * B + q < B
  · have hn0 : n = 0 := by
      rcases Nat.eq_zero_or_pos n with h | h
      · exact h
      · have : 1 * B ≤ n * B := Nat.mul_le_mul_right _ h
        omega
    subst hn0
    rw [if_pos hlo]
    refine ⟨_, _, rfl, by omega, ?_⟩
    simp
  · rw [if_neg hlo, if_pos hR]
    have hq1 : B ≤ q := by
      rcases hq with h | ⟨rfl, h⟩
      · exact h.1
      · omega
    have hq2 : q ≤ 2 * B := by omega
    refine ⟨_, _, rfl, by omega, ?_⟩
    have e5 : (f.leastPlace + (((n * B + q) / B - 1 : Nat) : Int) - f.leastPlace).toNat = (n * B + q) / B - 1 := by omega
    rw [e5]
    by_cases hq3 : q = 2 * B
    · subst hq3
      have e6 : (n * B + 2 * B) / B = n + 2 := by rw [← Nat.add_mul, Nat.mul_div_cancel _ hB]
      have e7 : (n * B + 2 * B) % B = 0 := by rw [← Nat.add_mul, Nat.mul_mod_left]
      rw [e6, e7, show n + 2 - 1 = n + 1 by omega, Nat.pow_succ]
      grind
    · obtain ⟨p, rfl⟩ : ∃ p, q = B + p := ⟨q - B, by omega⟩
      have hp : p < B := by omega
      have e6 : (n * B + (B + p)) / B = n + 1 := by
        rw [show n * B + (B + p) = p + B * (n + 1) by grind, Nat.add_mul_div_left _ _ hB, Nat.div_eq_of_lt hp, Nat.zero_add]
      have e7 : (n * B + (B + p)) % B = p := by
        rw [show n * B + (B + p) = p + B * (n + 1) by grind, Nat.add_mul_mod_self_left, Nat.mod_eq_of_lt hp]
      rw [e6, e7, show n + 1 - 1 = n by omega]

/-- a format in which numbers below 2 ^ 125 do not run over; P: its last place -/
structure Roomy (f : Format) (P : Nat) : Prop where
  hw : f.infRung < f.signWeight
  hP : f.leastPlace = -(P : Int)
  hr : 125 + P + 2 < f.fractionBits + (2 ^ f.exponentBits - 1)
  hF : f.fractionBits ≤ P
  hF0 : 0 < f.fractionBits
theorem roomy1 : Roomy single 149 := ⟨by decide, by decide, by decide, by decide, by decide⟩
theorem roomy2 : Roomy double 1074 := ⟨by decide, by decide, by decide, by decide, by decide⟩

set_option maxHeartbeats 1600000 in
/-- The nearest word of v / 2 ^ U is near, and worth v / 2 ^ U where that can be. -/
theorem nearest_val {f : Format} {P : Nat} (hf : Roomy f P) (mag : Nat) (place : Int) (U v : Nat) (hPU : P ≤ U) (hpl : 0 ≤ place + U) (hv : mag * 2 ^ (place + U).toNat = v) (hb : v.log2 ≤ U + 125) :
    ∃ q d, d = max (v.log2 - f.fractionBits) (U - P) ∧ Vl f (f.nearest false mag place) (q * 2 ^ (d - (U - P))) ∧ q * 2 ^ d ≤ v + 2 ^ d ∧ v ≤ q * 2 ^ d + 2 ^ d ∧ (v % 2 ^ d = 0 → q * 2 ^ d = v) ∧ (U - P + f.fractionBits ≤ v.log2 → 2 ^ f.fractionBits ≤ q) := by
  obtain ⟨hw, hP, hr, hF, hF0⟩ := hf
  have hbin : f.binade = 2 ^ f.fractionBits := rfl
  by_cases hm : mag = 0
  · subst hm
    rw [Nat.zero_mul] at hv
    subst hv
    refine ⟨0, _, rfl, ?_, ?_⟩
    · have h := read_val f hw 0 0 (.inr ⟨rfl, Nat.zero_le _⟩) (by
        unfold Format.infRung
        rw [Nat.zero_mul, Nat.zero_add]
        exact Nat.mul_pos (by omega) (Nat.two_pow_pos _))
      have e : f.nearest false 0 place = f.word false 0 := by unfold Format.nearest; rw [if_pos rfl]
      rw [e]
      simpa using h
    · have h0 : Nat.log2 0 = 0 := rfl
      rw [Nat.zero_mul]
      exact ⟨Nat.zero_le _, Nat.zero_le _, fun _ => rfl, fun h => by rw [h0] at h; omega⟩
  · have hlv : v.log2 = mag.log2 + (place + U).toNat := by rw [← hv, log2_up hm]
    generalize hT : (place + U).toNat = T at *
    generalize hd : max (v.log2 - f.fractionBits) (U - P) = d
    have hlast : max (place + (mag.log2 : Int) - f.fractionBits) f.leastPlace = (d : Int) - U := by rw [hP]; omega
    generalize hn : d - (U - P) = n
    have hn2 : ((d : Int) - U - f.leastPlace).toNat = n := by rw [hP]; omega
    have hc := cut_near false (mag <<< (place - ((d : Int) - U)).toNat) ((d : Int) - U - place).toNat
    have hcle := cut_le false (mag <<< (place - ((d : Int) - U)).toNat) ((d : Int) - U - place).toNat (f.fractionBits + 1) (by
      rw [Nat.shiftLeft_eq, log2_up hm]
      omega) (by
      rw [Nat.shiftLeft_eq]
      exact Nat.mul_ne_zero hm (Nat.pos_iff_ne_zero.1 (Nat.two_pow_pos _)))
    have en : f.nearest false mag place = f.word false (min (n * f.binade + Toward.even.cut false (mag <<< (place - ((d : Int) - U)).toNat) ((d : Int) - U - place).toNat) f.infRung) := by
      unfold Format.nearest
      rw [if_neg hm]
      dsimp only
      rw [hlast, hn2]
    -- the shifted number, in units
    have hsh : (mag <<< (place - ((d : Int) - U)).toNat) * 2 ^ (min T d) = v ∧ ((d : Int) - U - place).toNat + min T d = d := by
      refine ⟨?_, by omega⟩
      rw [Nat.shiftLeft_eq, Nat.mul_assoc, ← Nat.pow_add, ← hv]
      congr 2
      omega
    have hlow : U - P + f.fractionBits ≤ v.log2 → 2 ^ f.fractionBits * 2 ^ ((d : Int) - U - place).toNat ≤ mag <<< (place - ((d : Int) - U)).toNat := by
      intro h
      rw [Nat.shiftLeft_eq, ← Nat.pow_add]
      have h1 := Nat.mul_le_mul_right (2 ^ (place - ((d : Int) - U)).toNat) (Nat.log2_self_le hm)
      rw [← Nat.pow_add] at h1
      refine Nat.le_trans (Nat.pow_le_pow_right (by omega) ?_) h1
      omega
    generalize hsm : mag <<< (place - ((d : Int) - U)).toNat = s at *
    generalize hdr : ((d : Int) - U - place).toNat = r at *
    generalize hq : Toward.even.cut false s r = q at *
    obtain ⟨c1, c2, c3, c4⟩ := hc
    obtain ⟨hs1, hs2⟩ := hsh
    generalize min T d = t at *
    have hqlo : U - P + f.fractionBits ≤ v.log2 → 2 ^ f.fractionBits ≤ q := fun h => by
      have h1 := hlow h
      refine c4 ?_ _ h1
      refine Nat.le_trans ?_ h1
      rw [Nat.pow_zero, Nat.mul_one]
      exact Nat.le_mul_of_pos_left _ (Nat.two_pow_pos _)
    have ed : (2 : Nat) ^ d = 2 ^ r * 2 ^ t := by rw [← Nat.pow_add, hs2]
    have hR : n * f.binade + q < f.infRung := by
      unfold Format.infRung
      have h1 : q ≤ 2 * f.binade := by rw [Nat.pow_succ, Nat.mul_comm] at hcle; exact hcle
      have hB : 0 < f.binade := Nat.two_pow_pos _
      have h2 : n + 3 ≤ 2 ^ f.exponentBits - 1 := by
        clear hlast hn2 hcle hlow hqlo en c1 c2 c3 c4 hs1 hs2 ed h1 hB hsm hdr hq
        generalize 2 ^ f.exponentBits - 1 = E at *
        generalize f.fractionBits = F at *
        subst hn
        subst hd
        omega
      have h3 := Nat.mul_le_mul_right f.binade h2
      rw [Nat.add_mul] at h3
      omega
    refine ⟨q, d, rfl, ?_, ?_, ?_, ?_, hqlo⟩
    · rw [en, Nat.min_eq_left (Nat.le_of_lt hR), hn]
      refine read_val f hw n q ?_ hR
      by_cases h : U - P + f.fractionBits ≤ v.log2
      · exact .inl ⟨hqlo h, hcle⟩
      · exact .inr ⟨by omega, hcle⟩
    · rw [ed, ← hs1, ← Nat.mul_assoc, ← Nat.add_mul]
      exact Nat.mul_le_mul_right _ c1
    · rw [ed, ← hs1, ← Nat.mul_assoc, ← Nat.add_mul]
      exact Nat.mul_le_mul_right _ c2
    · intro h
      rw [ed, ← hs1, ← Nat.mul_assoc]
      congr 1
      refine c3 ?_
      rw [ed, ← hs1] at h
      rw [Nat.mul_mod_mul_right] at h
      rcases Nat.mul_eq_zero.1 h with h | h
      · exact h
      · exact absurd h (Nat.pos_iff_ne_zero.1 (Nat.two_pow_pos _))

end Go.Proofs.Ytcflgmjjomiejaa
