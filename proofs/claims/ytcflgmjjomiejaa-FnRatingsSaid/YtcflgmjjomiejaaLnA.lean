/- Logarithms told as fractions: of a number from 0 to 1 the logarithm is not above 0. -/
import Derived.Test.YtcflgmjjomiejaaLkM
import Derived.Test.YtcflgmjjomiejaaRbM
namespace Go.Proofs.Ytcflgmjjomiejaa
set_option linter.unusedVariables false
set_option linter.unusedSimpArgs false
open Ieee

theorem two64 : Vr double d2 2 := vr_of false 4503599627370496 (-51) (by decide) (by decide) (by rw [sg_f]; grind)
theorem one64' : Vr double d1 1 := one64
theorem lnC_vr : Vr double lnC (6243314768165359 / 9007199254740992) := vr_of false 6243314768165359 (-53) (by decide) (by decide) (by rw [sg_f]; grind)
theorem addD_vr {x y : Nat} {a b : Rat} (hx : Vr double x a) (hy : Vr double y b) (h1 : a + b ≤ big) (h2 : -(a + b) ≤ big) : ∃ v, Vr double (addD x y) v ∧ Fl double (a + b) v := (aW_ok hx hy h1 h2).2
theorem mulD_vr {x y : Nat} {a b : Rat} (hx : Vr double x a) (hy : Vr double y b) (h1 : a * b ≤ big) (h2 : -(a * b) ≤ big) : ∃ v, Vr double (mulD x y) v ∧ Fl double (a * b) v := (mW_ok hx hy h1 h2).2
theorem nrm_vr {q : Nat} {I : Int} {x : Nat} (h : Nrm false q I x) (hI : -1074 ≤ I) : Vr double x ((q : Rat) * (2 : Rat) ^ I) := vr_of false q I h.rd hI (by rw [sg_f]; grind)

/-- the quotient of the series -/
theorem sE_vr {x : Nat} {μ : Rat} (hx : Vr double x μ) (h1 : 3 / 4 ≤ μ) (h2 : μ ≤ 3 / 2) : ∃ s, Vr double (sE x) s ∧ -(1 / 4) ≤ s ∧ s ≤ 1 / 4 ∧ (μ ≤ 1 → s ≤ 0) := by
  obtain ⟨r1, a, e1, g1, f1⟩ := vr_sub roomy2 hx one64' (le125 (by unfold big; grind)) (le125 (by unfold big; grind))
  obtain ⟨r2, b, e2, g2, f2⟩ := vr_add roomy2 hx one64' (le125 (by unfold big; grind)) (le125 (by unfold big; grind))
  obtain ⟨n1, n2⟩ := f1.near2 1 (by grind) (by grind)
  obtain ⟨n3, n4⟩ := f2.near2 3 (by grind) (by grind)
  have hb : 1 ≤ b := by grind
  have hb0 : 0 < b := by grind
  have ea : a / b * b = a := by grind
  have d1' : a / b ≤ 1 / 4 := by
    refine Rat.le_of_mul_le_mul_right ?_ hb0
    rw [ea]; grind
  have d2' : -(1 / 4) ≤ a / b := by
    refine Rat.le_of_mul_le_mul_right ?_ hb0
    rw [ea]; grind
  obtain ⟨r3, s, e3, g3, f3⟩ := vr_div roomy2 g1 g2 (by grind) (le124 (by unfold big; grind)) (le124 (by unfold big; grind))
  have es : sE x = r3 := by
    show (double.div ((double.sub x d1).getD 0) ((double.add x d1).getD 0)).getD 0 = r3
    rw [e1, e2]
    show (double.div r1 r2).getD 0 = r3
    rw [e3]
    rfl
  rw [es]
  refine ⟨s, g3, f3.ge (-(1 / 4)) (rep2 (-1) (by decide) 2 (by omega) (by decide +kernel)) d2', f3.le (1 / 4) (rep2 1 (by decide) 2 (by omega) (by decide +kernel)) d1', fun hm => ?_⟩
  have ha : a ≤ 0 := f1.le 0 (rep_zero _) (by grind)
  refine f3.le 0 (rep_zero _) ?_
  refine Rat.le_of_mul_le_mul_right ?_ hb0
  rw [ea]; grind
/-- the series -/
theorem recD_vr {k : Nat} (h : k < 13) : ∃ c, Vr double (recD k) c ∧ 0 ≤ c ∧ c ≤ 1 := by
  have g0 : Vr double (fD (25 - 2 * (k : Int))) ((25 - 2 * (k : Int) : Int) : Rat) := vr_int2 _ (by omega)
  have hk : (1 : Rat) ≤ ((25 - 2 * (k : Int) : Int) : Rat) := by
    have : (1 : Int) ≤ 25 - 2 * (k : Int) := by omega
    exact_mod_cast this
  generalize ((25 - 2 * (k : Int) : Int) : Rat) = K at *
  obtain ⟨c1, c2⟩ := div_bd (a := 1) (A := 1) (by grind) (by grind) hk
  have c0 : 0 ≤ 1 / K := by
    have hK : 0 < K := by grind
    refine Rat.le_of_mul_le_mul_right ?_ hK
    have : 1 / K * K = 1 := by grind
    rw [this, Rat.zero_mul]; decide
  obtain ⟨r, v, e, g, f⟩ := vr_div roomy2 one64' g0 (by grind) (le124 (by unfold big; grind)) (le124 (by unfold big; grind))
  have er : recD k = r := by
    show (double.div d1 (fD (25 - 2 * (k : Int)))).getD 0 = r
    rw [e]; rfl
  rw [er]
  exact ⟨v, g, f.ge 0 (rep_zero _) c0, f.le 1 (rep2 1 (by decide) 0 (by omega) (by decide +kernel)) c1⟩
theorem serQ_vr {u : Nat} {υ : Rat} (hu : Vr double u υ) (h0 : 0 ≤ υ) (h1 : υ ≤ 1 / 8) : ∀ k, k ≤ 13 → ∃ q, Vr double (serQ u k) q ∧ 0 ≤ q ∧ q ≤ 5 / 4 := by
  intro k
  induction k with
  | zero => intro _; exact ⟨0, zero64, by decide, by decide +kernel⟩
  | succ k ih =>
    intro hk
    obtain ⟨q, g1, g2, g3⟩ := ih (by omega)
    obtain ⟨c, k1, k2, k3⟩ := recD_vr (show k < 13 by omega)
    obtain ⟨b1, b2⟩ := mul_bd h1 (show -υ ≤ 1 / 8 by grind) g3 (show -q ≤ 5 / 4 by grind)
    have b3 : 0 ≤ υ * q := Rat.mul_nonneg h0 g2
    obtain ⟨m, l1, f1⟩ := mulD_vr hu g1 (by unfold big; grind) (by unfold big; grind)
    obtain ⟨n1, n2⟩ := f1.near2 1 (by grind) (by grind)
    have m0 : 0 ≤ m := f1.ge 0 (rep_zero _) b3
    obtain ⟨s, l2, f2⟩ := addD_vr k1 l1 (by unfold big; grind) (by unfold big; grind)
    exact ⟨s, l2, f2.ge 0 (rep_zero _) (by grind), f2.le (5 / 4) (rep2 5 (by decide) 2 (by omega) (by decide +kernel)) (by grind)⟩
/-- the logarithm of a number that is not above 1 is not above 0 -/
theorem logE_vr {x : Nat} {μ : Rat} {e : Int} (hx : Vr double x μ) (h1 : 3 / 4 ≤ μ) (h2 : μ ≤ 3 / 2) (he : e.natAbs ≤ 2 ^ 8) (hneg : e ≤ -1 ∨ (e = 0 ∧ μ ≤ 1)) :
    ∃ l, Vr double (logE x e) l ∧ l ≤ 0 ∧ -l ≤ 300 := by
  obtain ⟨s, gs, s1, s2, s3⟩ := sE_vr hx h1 h2
  have ss : 0 ≤ s * s := by
    rcases Rat.le_total (a := 0) (b := s) with h | h
    · exact Rat.mul_nonneg h h
    · have := Rat.mul_nonneg (show 0 ≤ -s by grind) (show 0 ≤ -s by grind)
      grind
  obtain ⟨b1, _⟩ := mul_bd s2 (show -s ≤ 1 / 4 by grind) s2 (show -s ≤ 1 / 4 by grind)
  obtain ⟨u, gu, fu⟩ := mulD_vr gs gs (by unfold big; grind) (by unfold big; grind)
  have u0 : 0 ≤ u := fu.ge 0 (rep_zero _) ss
  have u1 : u ≤ 1 / 8 := fu.le (1 / 8) (rep2 1 (by decide) 3 (by omega) (by decide +kernel)) (by grind)
  obtain ⟨q, gq, q0, q1⟩ := serQ_vr gu u0 u1 13 (Nat.le_refl _)
  obtain ⟨b2, b3⟩ := mul_bd s2 (show -s ≤ 1 / 4 by grind) q1 (show -q ≤ 5 / 4 by grind)
  obtain ⟨p, gp, fp⟩ := mulD_vr gs gq (by unfold big; grind) (by unfold big; grind)
  have p1 : p ≤ 5 / 16 := fp.le (5 / 16) (rep2 5 (by decide) 4 (by omega) (by decide +kernel)) (by grind)
  have p2 : -(5 / 16) ≤ p := fp.ge (-(5 / 16)) (rep2 (-5) (by decide) 4 (by omega) (by decide +kernel)) (by grind)
  obtain ⟨t, gt, ft⟩ := mulD_vr two64 gp (by unfold big; grind) (by unfold big; grind)
  have t1 : t ≤ 5 / 8 := ft.le (5 / 8) (rep2 5 (by decide) 3 (by omega) (by decide +kernel)) (by grind)
  have t2 : -(5 / 8) ≤ t := ft.ge (-(5 / 8)) (rep2 (-5) (by decide) 3 (by omega) (by decide +kernel)) (by grind)
  have ge : Vr double (fD e) ((e : Int) : Rat) := vr_int2 e (by omega)
  have e1 : ((e : Int) : Rat) ≤ 256 := by
    have h : ((e : Int) : Rat) ≤ ((256 : Int) : Rat) := Rat.intCast_le_intCast.2 (by omega)
    have h2 : ((256 : Int) : Rat) = 256 := rfl
    rw [h2] at h
    exact h
  have e2 : -256 ≤ ((e : Int) : Rat) := by
    have h : ((-256 : Int) : Rat) ≤ ((e : Int) : Rat) := Rat.intCast_le_intCast.2 (by omega)
    have h2 : ((-256 : Int) : Rat) = -256 := rfl
    rw [h2] at h
    exact h
  obtain ⟨c, gc, fc⟩ := mulD_vr ge lnC_vr (by unfold big; grind) (by unfold big; grind)
  obtain ⟨n1, n2⟩ := fc.near2 200 (by grind) (by grind)
  obtain ⟨l, gl, fl⟩ := addD_vr gt gc (by unfold big; grind) (by unfold big; grind)
  obtain ⟨n3, n4⟩ := fl.near2 250 (by grind) (by grind)
  refine ⟨l, gl, ?_, by grind⟩
  refine fl.le 0 (rep_zero _) ?_
  rcases hneg with h | ⟨h, hm⟩
  · have h5 : ((e : Int) : Rat) ≤ ((-1 : Int) : Rat) := Rat.intCast_le_intCast.2 h
    have h6 : ((-1 : Int) : Rat) = -1 := rfl
    rw [h6] at h5
    grind
  · subst h
    have hs0 := s3 hm
    have hsq : s * q ≤ 0 := by
      have := Rat.mul_nonneg (show 0 ≤ -s by grind) q0
      grind
    have hp0 : p ≤ 0 := fp.le 0 (rep_zero _) hsq
    have ht0 : t ≤ 0 := ft.le 0 (rep_zero _) (by grind)
    have hc0 : c ≤ 0 := fc.le 0 (rep_zero _) (by
      show ((0 : Int) : Rat) * _ ≤ 0
      have : ((0 : Int) : Rat) = 0 := rfl
      rw [this]; grind)
    grind
/-- both logarithms of a number from 0 to 1 -/
theorem logN_vr {x : Nat} {ξ : Rat} (hX : LogX x) (hx : Vr single x ξ) (h0 : 0 < ξ) (h1 : ξ ≤ 1) : ∃ β, Vr single (logN x) β ∧ β ≤ 0 ∧ -β ≤ 400 := by
  have hP := logN_p hX
  obtain ⟨s, m, i, k1, k2, rfl⟩ := hx
  have hs : s = false := by
    cases s
    · rfl
    · exfalso
      have := mag_nonneg m i
      rw [sg_t] at h0
      grind
  subst hs
  have hm : m ≠ 0 := fun h => by
    subst h
    rw [sg_f] at h0
    have : ((0 : Nat) : Rat) = 0 := rfl
    rw [this] at h0
    grind
  obtain ⟨y, q, I, c1, hy, b1, b2, hb⟩ := hP m i k1 hm
  -- the wide number is the same
  have hx1 : Vr single x (sg false * ((m : Rat) * 2 ^ i)) := ⟨false, m, i, k1, k2, rfl⟩
  generalize sg false * ((m : Rat) * 2 ^ i) = ξ at *
  have gy : Vr double y ξ := by
    obtain ⟨y', d1', d2'⟩ := vr_wide hx1 (le125 (by unfold big; grind)) (le125 (by unfold big; grind))
    rw [c1] at d1'
    cases d1'
    exact d2'
  have gq := nrm_vr hy (by omega)
  have eξ : ξ = (q : Rat) * 2 ^ I := vr_uni gy gq
  obtain ⟨hk1, hk2⟩ := kh_bd (q := q) b1 b2
  obtain ⟨hm1, hm2⟩ := kh_mid (I := I) hy.lo
  have hK := dblN_nrm hy b1 (up75 q I) (by omega)
  have hE := hlvN_nrm hK (by omega) (dn15 q I) (by omega)
  have hmid := mid_two hm1 hm2
  have gE : Vr double (yE q I y) ((q : Rat) * (2 : Rat) ^ (I + (up75 q I : Int) - (dn15 q I : Int))) := nrm_vr hE (by omega)
  obtain ⟨e, he⟩ : ∃ e : Int, (dn15 q I : Int) - (up75 q I : Int) = e := ⟨_, rfl⟩
  rw [he] at hb
  have eI : I + (up75 q I : Int) - (dn15 q I : Int) = I - e := by omega
  rw [eI] at gE hmid
  have hq1 := hy.lo
  have hq2 := hy.hi
  have hq1' : ((2 ^ 52 : Nat) : Rat) ≤ (q : Rat) := by exact_mod_cast hq1
  have hq2' : (q : Rat) ≤ ((2 ^ 53 : Nat) : Rat) := by exact_mod_cast Nat.le_of_lt hq2
  have hμ : 3 / 4 ≤ (q : Rat) * (2 : Rat) ^ (I - e) ∧ (q : Rat) * (2 : Rat) ^ (I - e) ≤ 3 / 2 := by
    rcases hmid with ⟨h, h'⟩ | ⟨h, h'⟩
    · rw [h]
      have : ((3 * 2 ^ 51 : Nat) : Rat) ≤ (q : Rat) := by exact_mod_cast h'
      exact ⟨by grind, by grind⟩
    · rw [h]
      have : (q : Rat) ≤ ((3 * 2 ^ 51 : Nat) : Rat) := by exact_mod_cast Nat.le_of_lt h'
      exact ⟨by grind, by grind⟩
  have eμ : ξ = (q : Rat) * (2 : Rat) ^ (I - e) * 2 ^ e := by
    rw [eξ, Rat.mul_assoc, ← Rat.zpow_add (by decide)]
    congr 2
    omega
  generalize (q : Rat) * (2 : Rat) ^ (I - e) = μ at *
  have hneg : e ≤ -1 ∨ (e = 0 ∧ μ ≤ 1) := by
    by_cases h : e ≤ -1
    · exact .inl h
    · right
      by_cases h3 : e = 0
      · subst h3
        have : (2 : Rat) ^ (0 : Int) = 1 := rfl
        rw [this] at eμ
        exact ⟨rfl, by grind⟩
      · exfalso
        have h5 : (2 : Rat) ^ (1 : Int) ≤ 2 ^ e := two_le (by omega)
        have h6 := Rat.mul_le_mul_of_nonneg_left h5 (show 0 ≤ μ by grind)
        have h7 : (2 : Rat) ^ (1 : Int) = 2 := rfl
        rw [h7, ← eμ] at h6
        grind
  obtain ⟨l, gl, l0, l1⟩ := logE_vr gE hμ.1 hμ.2 (by omega) hneg
  obtain ⟨b, β, hb', gb, fb⟩ := vr_narrow gl (le125 (by unfold big; grind)) (le125 (by unfold big; grind))
  rw [hb] at hb'
  cases hb'
  obtain ⟨n1, n2⟩ := fb.near1 300 (by grind) l1
  exact ⟨β, gb, fb.le 0 (rep_zero _) l0, by grind⟩

end Go.Proofs.Ytcflgmjjomiejaa
