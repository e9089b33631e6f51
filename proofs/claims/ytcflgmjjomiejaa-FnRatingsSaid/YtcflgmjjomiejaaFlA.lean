/- Floats of 32 bits: sums and products of numbers that are not too great are such numbers. -/
import Derived.Laws.FloatArith
namespace Go.Proofs.Ytcflgmjjomiejaa
set_option linter.unusedVariables false
set_option linter.unusedSimpArgs false

open Ieee

/-- a format's word is a number of less than 2 ^ e -/
def FN (f : Format) (e : Int) (x : Nat) : Prop := ∃ s m i, f.read x = .number s m i ∧ f.leastPlace ≤ i ∧ (m = 0 ∨ (m.log2 : Int) + i < e)
theorem FN.more {f : Format} {e e' : Int} {x : Nat} (h : FN f e x) (he : e ≤ e') : FN f e' x := by
  obtain ⟨s, m, i, h1, h2, h3⟩ := h
  exact ⟨s, m, i, h1, h2, by omega⟩
theorem log2_lt' {n k : Nat} (h : n < 2 ^ k) (hn : n ≠ 0) : n.log2 < k := (Nat.log2_lt hn).2 h
theorem cut_le (neg : Bool) (n drop K : Nat) (h : n.log2 + 1 ≤ K + drop) (hn : n ≠ 0) : Toward.even.cut neg n drop ≤ 2 ^ K := by
  unfold Toward.cut
  have h0 : ∀ b : Bool, b.toNat ≤ 1 := by intro b; cases b <;> decide
  have hlt : n < 2 ^ (n.log2 + 1) := Nat.lt_log2_self
  suffices hs : n / (1 <<< min drop (n.log2 + 2)) < 2 ^ K by
    have := h0 (match Toward.even with
      | .even => (1 <<< min drop (n.log2 + 2)) < 2 * (n % (1 <<< min drop (n.log2 + 2))) || ((1 <<< min drop (n.log2 + 2)) == 2 * (n % (1 <<< min drop (n.log2 + 2))) && n / (1 <<< min drop (n.log2 + 2)) % 2 == 1)
      | .down => neg && n % (1 <<< min drop (n.log2 + 2)) != 0
      | .up => !neg && n % (1 <<< min drop (n.log2 + 2)) != 0
      | .zero => false)
    dsimp only at this ⊢
    omega
  rw [Nat.one_shiftLeft]
  rcases Nat.le_total drop (n.log2 + 2) with hd | hd
  · rw [Nat.min_eq_left hd, Nat.div_lt_iff_lt_mul (Nat.two_pow_pos _), ← Nat.pow_add]
    exact Nat.lt_of_lt_of_le hlt (Nat.pow_le_pow_right (by omega) h)
  · rw [Nat.min_eq_right hd, Nat.div_eq_of_lt]
    · exact Nat.two_pow_pos _
    · exact Nat.lt_of_lt_of_le hlt (Nat.pow_le_pow_right (by omega) (by omega))
/-- the rung of a number -/
theorem nearest_rung (f : Format) (neg : Bool) (m : Nat) (i : Int) (e : Int) (h : m = 0 ∨ (m.log2 : Int) + i < e) :
    ∃ R : Nat, f.nearest neg m i = f.word neg (min R f.infRung) ∧ (R = 0 ∨ ∃ last : Int, f.leastPlace ≤ last ∧ last ≤ max (e - 1 - f.fractionBits) f.leastPlace ∧ R ≤ ((last - f.leastPlace).toNat + 2) * f.binade) := by
  by_cases hm : m = 0
  · subst hm
    exact ⟨0, by unfold Format.nearest; rw [if_pos rfl, Nat.zero_min], .inl rfl⟩
  · have hL : (m.log2 : Int) + i < e := h.resolve_left hm
    refine ⟨(max (i + m.log2 - f.fractionBits) f.leastPlace - f.leastPlace).toNat * f.binade + Toward.even.cut neg (m <<< (i - max (i + m.log2 - f.fractionBits) f.leastPlace).toNat) (max (i + m.log2 - f.fractionBits) f.leastPlace - i).toNat, ?_, .inr ⟨max (i + m.log2 - f.fractionBits) f.leastPlace, by omega, by omega, ?_⟩⟩
    · unfold Format.nearest
      rw [if_neg hm]
    · generalize hl : max (i + (m.log2 : Int) - f.fractionBits) f.leastPlace = last
      have h1 : i + m.log2 - f.fractionBits ≤ last := by omega
      rw [Nat.add_mul]
      refine Nat.add_le_add_left ?_ _
      have e2 : 2 * f.binade = 2 ^ (f.fractionBits + 1) := by unfold Format.binade; rw [Nat.pow_succ]; omega
      rw [e2]
      have hne : m <<< (i - last).toNat ≠ 0 := by
        rw [Nat.shiftLeft_eq]
        exact Nat.mul_ne_zero hm (Nat.pos_iff_ne_zero.1 (Nat.two_pow_pos _))
      have hlg : (m <<< (i - last).toNat).log2 = m.log2 + (i - last).toNat := by
        rw [Nat.log2_eq_iff hne]
        rw [Nat.shiftLeft_eq]
        refine ⟨?_, ?_⟩
        · rw [Nat.pow_add]
          exact Nat.mul_le_mul_right _ (Nat.log2_self_le hm)
        · rw [show m.log2 + (i - last).toNat + 1 = (m.log2 + 1) + (i - last).toNat by omega, Nat.pow_add]
          exact Nat.mul_lt_mul_of_pos_right Nat.lt_log2_self (Nat.two_pow_pos _)
      exact cut_le _ _ _ _ (by rw [hlg]; omega) hne

/-- what is read of a rung -/
theorem read_word (f : Format) (neg : Bool) (R : Nat) (h : R < f.infRung) (hw : f.infRung < f.signWeight) (hb : f.binade = 2 ^ f.fractionBits) :
    ∃ m i, f.read (f.word neg R) = .number neg m i ∧ ((i = f.leastPlace ∧ m < 2 ^ f.fractionBits) ∨ (i = f.leastPlace + (R / f.binade - 1 : Nat) ∧ m < 2 ^ (f.fractionBits + 1))) := by
  have hs : 0 < f.signWeight := by omega
  have e1 : f.word neg R / f.signWeight % 2 = neg.toNat := by
    unfold Format.word
    cases neg
    · simp [Nat.div_eq_of_lt (show R < f.signWeight by omega)]
    · simp only [if_true, Bool.toNat_true]
      rw [Nat.add_div_left _ hs, Nat.div_eq_of_lt (show R < f.signWeight by omega)]
  have e2 : f.word neg R % f.signWeight = R := by
    unfold Format.word
    cases neg
    · simp [Nat.mod_eq_of_lt (show R < f.signWeight by omega)]
    · simp [Nat.mod_eq_of_lt (show R < f.signWeight by omega)]
  unfold Format.read
  simp only [e1, e2]
  have e3 : (neg.toNat == 1) = neg := by cases neg <;> rfl
  rw [e3]
  by_cases hR : R < f.binade
  · rw [if_pos hR]
    exact ⟨R, _, rfl, .inl ⟨rfl, by rw [← hb]; exact hR⟩⟩
  · rw [if_neg hR, if_pos h]
    refine ⟨_, _, rfl, .inr ⟨rfl, ?_⟩⟩
    rw [Nat.pow_succ, ← hb]
    have := Nat.mod_lt R (show 0 < f.binade by rw [hb]; exact Nat.two_pow_pos _)
    omega

/-- a number that is near enough is told -/
theorem nearest_fn (f : Format) (neg : Bool) (m : Nat) (i : Int) (e : Int) (h : m = 0 ∨ (m.log2 : Int) + i < e) (hw : f.infRung < f.signWeight) (hb : f.binade = 2 ^ f.fractionBits)
    (he : (max (e - 1 - f.fractionBits) f.leastPlace - f.leastPlace).toNat + 2 < 2 ^ f.exponentBits - 1) (h0 : f.leastPlace + f.fractionBits + 1 < e + 1) : FN f (e + 1) (f.nearest neg m i) := by
  obtain ⟨R, hR, hc⟩ := nearest_rung f neg m i e h
  have hbp : 0 < f.binade := by rw [hb]; exact Nat.two_pow_pos _
  have hlt : R < f.infRung := by
    rcases hc with rfl | ⟨last, h1, h2, h3⟩
    · unfold Format.infRung
      exact Nat.mul_pos (by omega) hbp
    · refine Nat.lt_of_le_of_lt h3 ?_
      unfold Format.infRung
      exact Nat.mul_lt_mul_of_pos_right (by omega) hbp
  rw [hR, Nat.min_eq_left (Nat.le_of_lt hlt)]
  obtain ⟨m', i', hr, hm⟩ := read_word f neg R hlt hw hb
  refine ⟨neg, m', i', hr, by rcases hm with ⟨rfl, _⟩ | ⟨rfl, _⟩ <;> omega, ?_⟩
  by_cases hz : m' = 0
  · exact .inl hz
  · right
    rcases hm with ⟨rfl, hm⟩ | ⟨rfl, hm⟩
    · have := log2_lt' hm hz
      omega
    · have h4 := log2_lt' hm hz
      rcases hc with rfl | ⟨last, h1, h2, h3⟩
      · rw [Nat.zero_div]; omega
      · have h5 : R / f.binade ≤ (last - f.leastPlace).toNat + 2 := (Nat.div_le_iff_le_mul_add_pred hbp).2 (by rw [Nat.mul_comm]; omega)
        omega

/-- a number of 32 bits, less than 2 ^ e -/
abbrev FB (e : Nat) (x : Nat) : Prop := FN single e x
theorem single_pow : (2 : Nat) ^ single.exponentBits - 1 = 255 := rfl
theorem single_frac : single.fractionBits = 23 := rfl
theorem single_least : single.leastPlace = -149 := rfl
theorem nearest_fb (neg : Bool) (m : Nat) (i : Int) (e : Nat) (h : m = 0 ∨ (m.log2 : Int) + i < e) (he : e ≤ 120) : FB (e + 1) (single.nearest neg m i) := by
  have := nearest_fn single neg m i e h (by decide) rfl (by rw [single_pow, single_frac, single_least]; omega) (by rw [single_frac, single_least]; omega)
  exact this
theorem log2_mul_le (a b : Nat) (ha : a ≠ 0) (hb : b ≠ 0) : (a * b).log2 ≤ a.log2 + b.log2 + 1 := by
  have h1 : a < 2 ^ (a.log2 + 1) := Nat.lt_log2_self
  have h2 : b < 2 ^ (b.log2 + 1) := Nat.lt_log2_self
  have h3 : a * b < 2 ^ (a.log2 + 1 + (b.log2 + 1)) := by
    rw [Nat.pow_add]
    exact Nat.mul_lt_mul_of_lt_of_lt h1 h2
  have := log2_lt' h3 (Nat.mul_ne_zero ha hb)
  omega
theorem FB.mul {e1 e2 x y : Nat} (hx : FB e1 x) (hy : FB e2 y) (he : e1 + e2 ≤ 120) : ∃ r, single.mul x y = some r ∧ FB (e1 + e2 + 1) r := by
  obtain ⟨s, m, i, h1, h2, h3⟩ := hx
  obtain ⟨t, n, j, k1, k2, k3⟩ := hy
  refine ⟨_, by unfold Format.mul; rw [h1, k1]; rfl, ?_⟩
  refine nearest_fb _ _ _ _ ?_ he
  by_cases hm : m = 0
  · left; rw [hm, Nat.zero_mul]
  · by_cases hn : n = 0
    · left; rw [hn, Nat.mul_zero]
    · right
      have := log2_mul_le m n hm hn
      have := h3.resolve_left hm
      have := k3.resolve_left hn
      omega
theorem shl_lt {m : Nat} {i base : Int} {E : Nat} (h : m = 0 ∨ (m.log2 : Int) + i < E + base) (hb : base ≤ i) : m <<< (i - base).toNat < 2 ^ E := by
  rw [Nat.shiftLeft_eq]
  rcases h with rfl | h
  · rw [Nat.zero_mul]; exact Nat.two_pow_pos _
  · refine Nat.lt_of_lt_of_le (Nat.mul_lt_mul_of_pos_right (Nat.lt_log2_self (n := m)) (Nat.two_pow_pos _)) ?_
    rw [← Nat.pow_add]
    exact Nat.pow_le_pow_right (by omega) (by omega)
theorem signed_abs (s : Bool) (m a : Nat) : (signed s m a).natAbs = m <<< a := by
  cases s
  · exact Int.natAbs_natCast _
  · show (-((m <<< a : Nat) : Int)).natAbs = _
    rw [Int.natAbs_neg]
    exact Int.natAbs_natCast _
theorem cmpI (a b : Int) : compare a b = if a < b then .lt else if a = b then .eq else .gt := rfl
theorem cmpI_lt {a b : Int} : compare a b = .lt ↔ a < b := by
  rw [cmpI]
  split
  · simp_all
  · split <;> simp_all
theorem cmpI_eq {a b : Int} : compare a b = .eq ↔ a = b := by
  rw [cmpI]
  split
  · simp; omega
  · split <;> simp_all
theorem cmpI_gt {a b : Int} : compare a b = .gt ↔ b < a := by
  rw [cmpI]
  split
  · simp; omega
  · split
    · simp; omega
    · simp; omega
theorem read_least {f : Format} {x : Nat} {s : Bool} {m : Nat} {i : Int} (h : f.read x = .number s m i) : f.leastPlace ≤ i := by
  have key : ∀ (neg : Bool) (rung : Nat), (if rung < f.binade then Datum.number neg rung f.leastPlace else if rung < f.infRung then Datum.number neg (f.binade + rung % f.binade) (f.leastPlace + (rung / f.binade - 1 : Nat)) else if rung = f.infRung then .infinity neg else .nan neg (rung - f.infRung)) = .number s m i → f.leastPlace ≤ i := by
    intro neg rung h
    split at h
    · injection h; omega
    · split at h
      · injection h; omega
      · split at h <;> cases h
  exact key _ _ h
theorem FB.add {e x y : Nat} (hx : FB e x) (hy : FB e y) (he : e ≤ 100) : ∃ r, single.add x y = some r ∧ FB (e + 2) r := by
  obtain ⟨s, m, i, h1, h2, h3⟩ := hx
  obtain ⟨t, n, j, k1, k2, k3⟩ := hy
  refine ⟨_, by unfold Format.add; rw [h1, k1]; rfl, ?_⟩
  refine nearest_fb _ _ _ (e + 1) ?_ (by omega)
  have hl : single.leastPlace = -149 := rfl
  rw [hl] at h2 k2
  obtain ⟨E, hE⟩ : ∃ E : Nat, (E : Int) = (e : Int) - min i j ∨ ((e : Int) < min i j ∧ E = 0) := by
    by_cases q : (e : Int) < min i j
    · exact ⟨0, .inr ⟨q, rfl⟩⟩
    · exact ⟨((e : Int) - min i j).toNat, .inl (by omega)⟩
  have a1 : m <<< (i - min i j).toNat < 2 ^ E := shl_lt (by omega) (by omega)
  have a2 : n <<< (j - min i j).toNat < 2 ^ E := shl_lt (by omega) (by omega)
  have b1 := signed_abs s m (i - min i j).toNat
  have b2 := signed_abs t n (j - min i j).toNat
  generalize signed s m (i - min i j).toNat = A at *
  generalize signed t n (j - min i j).toNat = B at *
  by_cases hz : (A + B).natAbs = 0
  · exact .inl hz
  · right
    have h5 : (A + B).natAbs < 2 ^ (E + 1) := by
      rw [Nat.pow_succ]
      omega
    have h6 := log2_lt' h5 hz
    rcases hE with hE | ⟨q, rfl⟩
    · omega
    · exfalso
      rw [Nat.pow_zero] at a1 a2
      omega
/-- the word of 0, the word of 1 -/
theorem FB.zero (e : Nat) : FB e 0 := ⟨false, 0, -149, by decide, by decide, .inl rfl⟩
theorem FB.one : FB 1 1065353216 := ⟨false, 8388608, -23, by decide, by decide, .inr (by decide)⟩
/-- a number from 0 to 1 -/
def isCh (x : Nat) : Bool := (single.order x 0 == some .gt || single.order x 0 == some .eq) && (single.order x 1065353216 == some .lt || single.order x 1065353216 == some .eq)
theorem isCh_fb {x : Nat} (h : isCh x = true) : FB 1 x := by
  unfold isCh Format.order at h
  have e0 : single.read 0 = .number false 0 (-149) := by decide
  have e1 : single.read 1065353216 = .number false 8388608 (-23) := by decide
  rw [e0, e1] at h
  rcases hr : single.read x with ⟨s, m, i⟩ | s | ⟨s, t⟩
  · rw [hr] at h
    refine ⟨s, m, i, hr, ?_, ?_⟩
    · exact read_least hr
    · by_cases hm : m = 0
      · exact .inl hm
      · right
        unfold Datum.order at h
        simp only [Bool.and_eq_true, Bool.or_eq_true, beq_iff_eq, Option.some.injEq, cmpI_gt, cmpI_eq, cmpI_lt] at h
        obtain ⟨h1, h2⟩ := h
        have k1 : (signed false 0 (-149 - min i (-149)).toNat) = 0 := by simp [signed]
        have k2 : (signed false 8388608 (-23 - min i (-23)).toNat) = ((8388608 <<< (-23 - min i (-23)).toNat : Nat) : Int) := rfl
        have k3 : ∀ a, 0 < m <<< a := fun a => by rw [Nat.shiftLeft_eq]; exact Nat.mul_pos (by omega) (Nat.two_pow_pos _)
        cases s
        · have k4 : signed false m (i - min i (-23)).toNat = ((m <<< (i - min i (-23)).toNat : Nat) : Int) := rfl
          rw [k4, k2] at h2
          have h3 : m <<< (i - min i (-23)).toNat ≤ 8388608 <<< (-23 - min i (-23)).toNat := by omega
          rw [Nat.shiftLeft_eq, Nat.shiftLeft_eq, show (8388608 : Nat) = 2 ^ 23 from rfl, ← Nat.pow_add] at h3
          have h4 : 2 ^ (m.log2 + (i - min i (-23)).toNat) ≤ 2 ^ (23 + (-23 - min i (-23)).toNat) := by
            refine Nat.le_trans ?_ h3
            rw [Nat.pow_add]
            exact Nat.mul_le_mul_right _ (Nat.log2_self_le hm)
          have h5 := (Nat.pow_le_pow_iff_right (by omega : 1 < 2)).1 h4
          omega
        · have k4 : signed true m (i - min i (-149)).toNat = -((m <<< (i - min i (-149)).toNat : Nat) : Int) := rfl
          rw [k1, k4] at h1
          have := k3 (i - min i (-149)).toNat
          omega
  · rw [hr] at h
    cases s <;> simp [Datum.order] at h
  · rw [hr] at h
    simp [Datum.order] at h

end Go.Proofs.Ytcflgmjjomiejaa
