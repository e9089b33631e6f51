/- Logarithms: what a float32 is in 64 bits; numbers of at most 2 ^ e. -/
import Derived.Test.YtocpahhpagkknaaLgA
namespace Go.Proofs.Ytocpahhpagkknaa
set_option linter.unusedVariables false
set_option linter.unusedSimpArgs false
open Ieee

/-- a positive number of 32 bits is a normal number of 64 -/
theorem conv_nrm {x : Nat} {m : Nat} {i : Int} (h : single.read x = .number false m i) (hm : m ≠ 0) :
    ∃ y q I, floatToFloatBits .f32 x .f64 = some y ∧ Nrm false q I y ∧ -201 ≤ I ∧ I ≤ 75 := by
  have h1 := read_bound h
  have h2 := read_least h
  have hl : single.leastPlace = -149 := rfl
  rw [hl] at h2
  have h3 : (m.log2 : Int) + i < 128 := h1.resolve_left hm
  have hm2 : m < 2 ^ 53 := by
    have key : ∀ (neg : Bool) (rung : Nat), (if rung < single.binade then Datum.number neg rung single.leastPlace else if rung < single.infRung then Datum.number neg (single.binade + rung % single.binade) (single.leastPlace + (rung / single.binade - 1 : Nat)) else if rung = single.infRung then .infinity neg else .nan neg (rung - single.infRung)) = .number false m i → m < 2 ^ 24 := by
      intro neg rung h
      have hb : single.binade = 2 ^ 23 := rfl
      rw [hb] at h
      split at h
      · rename_i hr
        injection h with _ h5 _
        omega
      · split at h
        · injection h with _ h5 _
          have := Nat.mod_lt rung (show 0 < 2 ^ 23 by decide)
          omega
        · split at h <;> cases h
    have := key _ _ h
    exact Nat.lt_trans this (by decide)
  obtain ⟨e1, e2, e3⟩ := nearest_small false m i hm hm2 (by omega) (by omega)
  refine ⟨double.nearest false m i, _, _, ?_, ⟨e1, e2, e3⟩, by omega, by omega⟩
  unfold floatToFloatBits
  have e4 : FloatKind.f32.decode x = .number false m i := h
  have e5 : FloatKind.f64.decode (FloatKind.f64.encode (.number false m i)) = .number false (m * 2 ^ (52 - m.log2)) (i + m.log2 - 52) := e1
  rw [if_neg (by decide), e4]
  show (if (FloatKind.f64.decode (FloatKind.f64.encode (.number false m i))).isInfinity then none else some (FloatKind.f64.encode (.number false m i))) = _
  rw [e5]
  rfl
/-- at most 2 ^ e -/
def Ub (e : Int) (m : Nat) (i : Int) : Prop := m = 0 ∨ (m.log2 : Int) + i < e ∨ ((m.log2 : Int) + i = e ∧ m = 2 ^ m.log2)
/-- a number of 64 bits, at most 2 ^ e -/
def BD (e : Int) (x : Nat) : Prop := ∃ s m i, double.read x = .number s m i ∧ Ub e m i
theorem Ub.more {e e' : Int} {m : Nat} {i : Int} (h : Ub e m i) (he : e ≤ e') : Ub e' m i := by
  rcases h with h | h | ⟨h, h'⟩
  · exact .inl h
  · exact .inr (.inl (by omega))
  · rcases Int.lt_or_eq_of_le he with q | q
    · exact .inr (.inl (by omega))
    · exact .inr (.inr ⟨by omega, h'⟩)
theorem BD.more {e e' : Int} {x : Nat} (h : BD e x) (he : e ≤ e') : BD e' x := by
  obtain ⟨s, m, i, h1, h2⟩ := h
  exact ⟨s, m, i, h1, h2.more he⟩
theorem log2_two_pow (k : Nat) : (2 ^ k : Nat).log2 = k := by
  rw [Nat.log2_eq_iff (Nat.pos_iff_ne_zero.1 (Nat.two_pow_pos _))]
  exact ⟨Nat.le_refl _, Nat.pow_lt_pow_right (by omega) (Nat.lt_succ_self _)⟩
/-- a power of two is kept -/
theorem nearest_pow (s : Bool) (L : Nat) (i : Int) (h1 : -1000 ≤ (L : Int) + i) (h2 : (L : Int) + i ≤ 900) : double.read (double.nearest s (2 ^ L) i) = .number s (2 ^ 52) ((L : Int) + i - 52) := by
  refine nearest_exactG s (2 ^ L) i (2 ^ 52) ((L : Int) + i - 52) (Nat.le_refl _) (Nat.pow_lt_pow_right (by omega) (by omega)) (by omega) (by omega) (Nat.pos_iff_ne_zero.1 (Nat.two_pow_pos _)) (by rw [log2_two_pow]; omega) ?_
  rw [Nat.shiftLeft_eq, ← Nat.pow_add, ← Nat.pow_add]
  congr 1
  omega
theorem cut_ge (neg : Bool) (n drop : Nat) (h : n.log2 = 52 + drop) (hn : n ≠ 0) : 2 ^ 52 ≤ Toward.even.cut neg n drop := by
  unfold Toward.cut
  rw [Nat.min_eq_left (by omega), Nat.one_shiftLeft]
  refine Nat.le_trans ?_ (Nat.le_add_right _ _)
  rw [Nat.le_div_iff_mul_le (Nat.two_pow_pos _), ← Nat.pow_add, ← h]
  exact Nat.log2_self_le hn

set_option maxRecDepth 100000 in
theorem read_rung (neg : Bool) (n q : Nat) (hq : 2 ^ 52 ≤ q) (hq2 : q < 2 ^ 53) (hR : n * 2 ^ 52 + q < 2047 * 2 ^ 52) : double.read (double.word neg (n * 2 ^ 52 + q)) = .number neg q ((n : Int) - 1074) := by
  have hP : double.leastPlace = -1074 := rfl
  have hB : double.binade = 2 ^ 52 := rfl
  have hI : double.infRung = 2047 * 2 ^ 52 := rfl
  have hS : double.signWeight = 2 ^ 63 := rfl
  have hRS : n * 2 ^ 52 + q < 2 ^ 63 := by omega
  have e2 : double.word neg (n * 2 ^ 52 + q) / double.signWeight % 2 = neg.toNat := by
    unfold Format.word
    rw [hS]
    cases neg
    · simp [Nat.div_eq_of_lt hRS]
    · simp only [if_true, Bool.toNat_true]
      rw [Nat.add_div_left _ (by decide), Nat.div_eq_of_lt hRS]
  have e3 : double.word neg (n * 2 ^ 52 + q) % double.signWeight = n * 2 ^ 52 + q := by
    unfold Format.word
    rw [hS]
    cases neg
    · simp [Nat.mod_eq_of_lt hRS]
    · simp [Nat.mod_eq_of_lt hRS]
  unfold Format.read
  simp only [e2, e3, hB, hI]
  have e4 : (neg.toNat == 1) = neg := by cases neg <;> rfl
  rw [e4, if_neg (by omega), if_pos hR]
  have e5 : (n * 2 ^ 52 + q) % 2 ^ 52 = q - 2 ^ 52 := by omega
  have e6 : (n * 2 ^ 52 + q) / 2 ^ 52 = n + 1 := by omega
  have e7 : 2 ^ 52 + (q - 2 ^ 52) = q := by omega
  have e8 : (-1074 : Int) + ((n + 1 - 1 : Nat) : Int) = (n : Int) - 1074 := by omega
  rw [e5, e6, hP, e7, e8]
/-- to round keeps the bound -/
theorem nearest_bd (s : Bool) (m : Nat) (i : Int) (e : Int) (h : Ub e m i) (he : -900 ≤ e) (he2 : e ≤ 900) : BD e (double.nearest s m i) := by
  rcases h with rfl | h | ⟨h, h'⟩
  · refine ⟨s, 0, -1074, ?_, .inl rfl⟩
    unfold Format.nearest
    rw [if_pos rfl]
    cases s <;> decide
  · by_cases hm : m = 0
    · subst hm
      refine ⟨s, 0, -1074, ?_, .inl rfl⟩
      unfold Format.nearest
      rw [if_pos rfl]
      cases s <;> decide
    · by_cases hn : (m.log2 : Int) + i < -1000
      · obtain ⟨s', m', i', h1, _, h3⟩ := nearest_fd s m i (-1000) (.inr hn) (by omega) (by omega)
        refine ⟨s', m', i', h1, ?_⟩
        rcases h3 with h3 | h3
        · exact .inl h3
        · exact .inr (.inl (by omega))
      · obtain ⟨last, hlast⟩ : ∃ last : Int, last = (m.log2 : Int) + i - 52 := ⟨_, rfl⟩
        obtain ⟨n, hn'⟩ : ∃ n : Nat, (n : Int) = last + 1074 := ⟨(last + 1074).toNat, by omega⟩
        have hlg : (m <<< (i - last).toNat).log2 = m.log2 + (i - last).toNat := by rw [Nat.shiftLeft_eq]; exact log2_shl hm _
        have hne : m <<< (i - last).toNat ≠ 0 := by rw [Nat.shiftLeft_eq]; exact Nat.mul_ne_zero hm (Nat.pos_iff_ne_zero.1 (Nat.two_pow_pos _))
        have k1 := cut_ge s (m <<< (i - last).toNat) (last - i).toNat (by rw [hlg]; omega) hne
        have k2 := cut_le s (m <<< (i - last).toNat) (last - i).toNat 53 (by rw [hlg]; omega) hne
        have hw : double.nearest s m i = double.word s (min (n * 2 ^ 52 + Toward.even.cut s (m <<< (i - last).toNat) (last - i).toNat) (2047 * 2 ^ 52)) := by
          have hF : double.fractionBits = 52 := rfl
          have hP : double.leastPlace = -1074 := rfl
          have hB : double.binade = 2 ^ 52 := rfl
          have hI : double.infRung = 2047 * 2 ^ 52 := rfl
          unfold Format.nearest
          rw [if_neg hm]
          have hmax : max (i + (m.log2 : Int) - (double.fractionBits : Int)) double.leastPlace = last := by rw [hF, hP]; omega
          dsimp only
          rw [hmax, hP, hB, hI]
          have h3 : (last - -1074).toNat = n := by omega
          rw [h3]
        generalize Toward.even.cut s (m <<< (i - last).toNat) (last - i).toNat = kept at *
        have hn2 : n ≤ 1930 := by omega
        have h5 : (n + 2) * 2 ^ 52 ≤ 1974 * 2 ^ 52 := Nat.mul_le_mul_right _ (by omega)
        rw [hw]
        by_cases hk : kept < 2 ^ 53
        · have h6 := rung_lt (Nat.mul_le_mul_right (2 ^ 52) (show n ≤ 1974 by omega)) hk
          rw [Nat.min_eq_left (Nat.le_of_lt h6)]
          refine ⟨s, kept, _, read_rung s n kept k1 hk h6, .inr (.inl ?_)⟩
          have h7 : kept.log2 < 53 := log2_lt' hk (by have : 0 < 2 ^ 52 := Nat.two_pow_pos _; omega)
          omega
        · have hk2 : kept = 2 ^ 53 := Nat.le_antisymm k2 (Nat.le_of_not_lt hk)
          have e53 : (2 : Nat) ^ 53 = 2 ^ 52 + 2 ^ 52 := by rw [Nat.pow_succ, Nat.mul_comm, Nat.two_mul]
          have h8 : n * 2 ^ 52 + kept = (n + 1) * 2 ^ 52 + 2 ^ 52 := by rw [hk2, e53, Nat.succ_mul, Nat.add_assoc]
          have h6 := rung_lt (q := 2 ^ 52) (Nat.mul_le_mul_right (2 ^ 52) (show n + 1 ≤ 1974 by omega)) (Nat.pow_lt_pow_right (by omega) (by omega))
          rw [h8, Nat.min_eq_left (Nat.le_of_lt h6)]
          refine ⟨s, 2 ^ 52, _, read_rung s (n + 1) (2 ^ 52) (Nat.le_refl _) (Nat.pow_lt_pow_right (by omega) (by omega)) h6, ?_⟩
          rcases Int.lt_or_eq_of_le (show (m.log2 : Int) + i + 1 ≤ e by omega) with q | q
          · exact .inr (.inl (by rw [log2_two_pow]; omega))
          · exact .inr (.inr ⟨by rw [log2_two_pow]; omega, by rw [log2_two_pow]⟩)
  · rw [h']
    by_cases hn : -1000 ≤ (m.log2 : Int) + i
    · refine ⟨s, 2 ^ 52, _, nearest_pow s m.log2 i hn (by omega), .inr (.inr ⟨by rw [log2_two_pow]; omega, by rw [log2_two_pow]⟩)⟩
    · omega

end Go.Proofs.Ytocpahhpagkknaa
