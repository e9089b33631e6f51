/- Logarithms: bounds of sums, products and quotients of 64 bits. -/
import Derived.Test.YtocpahhpagkknaaLgB
namespace Go.Proofs.Ytocpahhpagkknaa
set_option linter.unusedVariables false
set_option linter.unusedSimpArgs false
open Ieee

theorem Ub.mul {e1 e2 : Int} {m n : Nat} {i j : Int} (h : Ub e1 m i) (k : Ub e2 n j) : Ub (e1 + e2) (m * n) (i + j) := by
  by_cases hm : m = 0
  · left; rw [hm, Nat.zero_mul]
  by_cases hn : n = 0
  · left; rw [hn, Nat.mul_zero]
  right
  have h := h.resolve_left hm
  have k := k.resolve_left hn
  rcases h with h | ⟨h, h'⟩
  · rcases k with k | ⟨k, k'⟩
    · left
      have := log2_mul_le m n hm hn
      omega
    · left
      have e : (m * n).log2 = m.log2 + n.log2 := by conv => lhs; rw [k', log2_shl hm]
      omega
  · have e : (m * n).log2 = n.log2 + m.log2 := by conv => lhs; rw [h', Nat.mul_comm, log2_shl hn]
    rcases k with k | ⟨k, k'⟩
    · left; omega
    · right
      refine ⟨by omega, ?_⟩
      rw [e, Nat.pow_add, ← k', ← h', Nat.mul_comm]
theorem BD.mul {e1 e2 : Int} {x y : Nat} (hx : BD e1 x) (hy : BD e2 y) (h1 : -900 ≤ e1 + e2) (h2 : e1 + e2 ≤ 900) : ∃ r, double.mul x y = some r ∧ BD (e1 + e2) r := by
  obtain ⟨s, m, i, a1, a2⟩ := hx
  obtain ⟨t, n, j, b1, b2⟩ := hy
  exact ⟨_, by unfold Format.mul; rw [a1, b1]; rfl, nearest_bd _ _ _ _ (a2.mul b2) h1 h2⟩
theorem Ub.shl {e : Int} {m : Nat} {i base : Int} (h : Ub e m i) (hb : base ≤ i) {E : Nat} (hE : (E : Int) = e - base) : m <<< (i - base).toNat ≤ 2 ^ E := by
  rw [Nat.shiftLeft_eq]
  rcases h with rfl | h | ⟨h, h'⟩
  · rw [Nat.zero_mul]; exact Nat.zero_le _
  · refine Nat.le_trans (Nat.mul_le_mul_right _ (Nat.le_of_lt (Nat.lt_log2_self (n := m)))) ?_
    rw [← Nat.pow_add]
    exact Nat.pow_le_pow_right (by omega) (by omega)
  · rw [h', ← Nat.pow_add]
    exact Nat.pow_le_pow_right (by omega) (by omega)
theorem Ub.of_le {m : Nat} {base : Int} {E : Nat} (h : m ≤ 2 ^ E) : Ub (E + base) m base := by
  by_cases hm : m = 0
  · exact .inl hm
  · right
    by_cases e : m = 2 ^ E
    · right
      subst e
      rw [log2_two_pow]
      exact ⟨rfl, rfl⟩
    · left
      have := log2_lt' (show m < 2 ^ E by omega) hm
      omega
theorem Ub.zero_of {e : Int} {m : Nat} {i : Int} (h : Ub e m i) (he : e < i) : m = 0 := by
  rcases h with h | h | ⟨h, _⟩
  · exact h
  · omega
  · omega
theorem Ub.sum {e : Int} {m n : Nat} {i j : Int} (s t : Bool) (h : Ub e m i) (k : Ub e n j) : Ub (e + 1) (signed s m (i - min i j).toNat + signed t n (j - min i j).toNat).natAbs (min i j) := by
  have b1 := signed_abs s m (i - min i j).toNat
  have b2 := signed_abs t n (j - min i j).toNat
  by_cases hb : min i j ≤ e
  · obtain ⟨E, hE⟩ : ∃ E : Nat, (E : Int) = e - min i j := ⟨(e - min i j).toNat, by omega⟩
    have a1 := h.shl (base := min i j) (by omega) hE
    have a2 := k.shl (base := min i j) (by omega) hE
    have h3 : (signed s m (i - min i j).toNat + signed t n (j - min i j).toNat).natAbs ≤ 2 ^ (E + 1) := by
      rw [Nat.pow_succ]
      omega
    have := Ub.of_le (base := min i j) h3
    exact this.more (by omega)
  · have hm : m = 0 := h.zero_of (by omega)
    have hn : n = 0 := k.zero_of (by omega)
    subst hm; subst hn
    left
    rw [Nat.shiftLeft_eq, Nat.zero_mul] at b1 b2
    omega
theorem BD.add {e : Int} {x y : Nat} (hx : BD e x) (hy : BD e y) (h1 : -900 ≤ e + 1) (h2 : e + 1 ≤ 900) : ∃ r, double.add x y = some r ∧ BD (e + 1) r := by
  obtain ⟨s, m, i, a1, a2⟩ := hx
  obtain ⟨t, n, j, b1, b2⟩ := hy
  exact ⟨_, by unfold Format.add; rw [a1, b1]; rfl, nearest_bd _ _ _ _ (a2.sum s t b2) h1 h2⟩
theorem BD.sub {e : Int} {x y : Nat} (hx : BD e x) (hy : BD e y) (h1 : -900 ≤ e + 1) (h2 : e + 1 ≤ 900) : ∃ r, double.sub x y = some r ∧ BD (e + 1) r := by
  obtain ⟨s, m, i, a1, a2⟩ := hx
  obtain ⟨t, n, j, b1, b2⟩ := hy
  exact ⟨_, by unfold Format.sub; rw [a1, b1]; rfl, nearest_bd _ _ _ _ (a2.sum s (!t) b2) h1 h2⟩
/-- at least 2 ^ d -/
def LB (d : Int) (x : Nat) : Prop := ∃ s m i, double.read x = .number s m i ∧ m ≠ 0 ∧ d ≤ (m.log2 : Int) + i
theorem BD.div {e d : Int} {x y : Nat} (hx : BD e x) (hy : LB d y) (h1 : -900 ≤ e - d) (h2 : e - d ≤ 900) : ∃ r, double.div x y = some r ∧ BD (e - d) r := by
  obtain ⟨s, m, i, a1, a2⟩ := hx
  obtain ⟨t, n, j, b1, b2, b3⟩ := hy
  refine ⟨double.write (.number (s ^^ t) (2 * ((m <<< (double.fractionBits + 2 + n.log2 - m.log2)) / n) + ((m <<< (double.fractionBits + 2 + n.log2 - m.log2)) % n != 0).toNat) (i - j - (double.fractionBits + 2 + n.log2 - m.log2 : Nat) - 1)), by unfold Format.div; rw [a1, b1, quot_number _ _ _ _ _ _ _ b2]; rfl, ?_⟩
  refine nearest_bd _ _ _ _ ?_ h1 h2
  by_cases hm : m = 0
  · left
    subst hm
    rw [Nat.shiftLeft_eq, Nat.zero_mul, Nat.zero_div, Nat.zero_mod]
    rfl
  · have hei : (m.log2 : Int) + i ≤ e := by
      rcases a2.resolve_left hm with q | ⟨q, _⟩ <;> omega
    generalize hmo : double.fractionBits + 2 + n.log2 - m.log2 = more
    have hF : double.fractionBits = 52 := rfl
    rw [hF] at hmo
    obtain ⟨A, hA⟩ : ∃ A : Nat, (A : Int) = e - i + more - n.log2 := ⟨(e - i + more - n.log2).toNat, by omega⟩
    obtain ⟨E, hE⟩ : ∃ E : Nat, (E : Int) = e - i := ⟨(e - i).toNat, by omega⟩
    have k1 : m ≤ 2 ^ E := by
      have := a2.shl (base := i) (Int.le_refl _) hE
      rw [show (i - i).toNat = 0 by omega, Nat.shiftLeft_zero] at this
      exact this
    have k2 : m <<< more ≤ 2 ^ A * n := by
      rw [Nat.shiftLeft_eq]
      refine Nat.le_trans (Nat.mul_le_mul_right _ k1) (Nat.le_trans ?_ (Nat.mul_le_mul_left _ (Nat.log2_self_le b2)))
      rw [← Nat.pow_add, ← Nat.pow_add]
      exact Nat.pow_le_pow_right (by omega) (by omega)
    have hn : 0 < n := Nat.pos_of_ne_zero b2
    have k3 : 2 * (m <<< more / n) + (m <<< more % n != 0).toNat ≤ 2 ^ (A + 1) := by
      rw [Nat.pow_succ]
      have k4 : m <<< more / n ≤ 2 ^ A := Nat.div_le_of_le_mul (by rw [Nat.mul_comm]; exact k2)
      by_cases hz : m <<< more % n = 0
      · have : (m <<< more % n != 0) = false := by simp [hz]
        rw [this]
        show 2 * _ + 0 ≤ _
        omega
      · have k5 : m <<< more / n < 2 ^ A := by
          rcases Nat.lt_or_eq_of_le k4 with q | q
          · exact q
          · exfalso
            have k6 := Nat.div_add_mod (m <<< more) n
            rw [q, Nat.mul_comm n] at k6
            omega
        have : (m <<< more % n != 0) = true := by simp [hz]
        rw [this]
        show 2 * _ + 1 ≤ _
        omega
    exact (Ub.of_le (base := i - j - (more : Int) - 1) k3).more (by omega)

end Go.Proofs.Ytocpahhpagkknaa
