/- Likelihoods told as fractions: they are not above 0. -/
import Derived.Test.YtcflgmjjomiejaaFnM
import Derived.Test.YtcflgmjjomiejaaLnA
namespace Go.Proofs.Ytcflgmjjomiejaa
set_option linter.unusedVariables false
set_option linter.unusedSimpArgs false
open Ieee

theorem vz_add {r q : Option Nat} {a b : Rat} (hx : VO r a) (hy : VO q b) (h1 : a + b ≤ big) (h2 : -(a + b) ≤ big) : ∃ v, VO (opO .add r q) v ∧ Fl single (a + b) v := by
  obtain ⟨x, rfl, gx⟩ := hx
  obtain ⟨y, rfl, gy⟩ := hy
  obtain ⟨e, v, g, f⟩ := aS_ok gx gy h1 h2
  exact ⟨v, ⟨_, e, g⟩, f⟩
theorem vz_mul {r q : Option Nat} {a b : Rat} (hx : VO r a) (hy : VO q b) (h1 : a * b ≤ big) (h2 : -(a * b) ≤ big) : ∃ v, VO (opO .mul r q) v ∧ Fl single (a * b) v := by
  obtain ⟨x, rfl, gx⟩ := hx
  obtain ⟨y, rfl, gy⟩ := hy
  obtain ⟨e, v, g, f⟩ := mS_ok gx gy h1 h2
  exact ⟨v, ⟨_, e, g⟩, f⟩
theorem vz_sub {r q : Option Nat} {a b : Rat} (hx : VO r a) (hy : VO q b) (h1 : a - b ≤ big) (h2 : -(a - b) ≤ big) : ∃ v, VO (opO .sub r q) v ∧ Fl single (a - b) v := by
  obtain ⟨x, rfl, gx⟩ := hx
  obtain ⟨y, rfl, gy⟩ := hy
  obtain ⟨e, v, g, f⟩ := sS_ok gx gy h1 h2
  exact ⟨v, ⟨_, e, g⟩, f⟩
theorem vr_posB {x : Nat} {v : Rat} (h : Vr single x v) (h0 : 0 < v) (h1 : v ≤ big) : posB x = true := by
  unfold posB
  rw [vr_fin h h1 (by unfold big; grind), vr_gt h zero32 h0]
  rfl
/-- sums of numbers that are not both nought do not mind the order -/
theorem sum_swap (s t : Bool) (m n : Nat) (i j : Int) : (Datum.number s m i).sum (Datum.number t n j) = (Datum.number t n j).sum (Datum.number s m i) := by
  unfold Datum.sum
  dsimp only
  rw [Int.min_comm j i, Int.add_comm (signed t n _), Bool.and_comm t s]
theorem add_swap {a b : Nat} {α β : Rat} (ha : Vr single a α) (hb : Vr single b β) : opO .add (some a) (some b) = opO .add (some b) (some a) := by
  obtain ⟨s, m, i, h1, _, _⟩ := ha
  obtain ⟨t, n, j, k1, _, _⟩ := hb
  show single.add a b = single.add b a
  unfold Format.add
  rw [h1, k1, sum_swap]
/-- a share's logarithm -/
theorem share_log {a b : Nat} {α β : Rat} (ha : Vr single a α) (hb : Vr single b β) (a0 : (2 : Rat) ^ (-120 : Int) ≤ α) (b0 : 0 < β) (a1 : α ≤ 1000) (b1 : β ≤ 1000) (hX : ∀ r x, floatBits .add .f32 a b = some r → floatBits .quo .f32 a r = some x → LogX x) :
    ∃ x l, opO .quo (some a) (opO .add (some a) (some b)) = some x ∧ Vr single (logN x) l ∧ l ≤ 0 ∧ -l ≤ 400 := by
  have ht := two_pos (-120)
  obtain ⟨e1, s, g1, f1⟩ := aS_ok ha hb (by unfold big; grind) (by unfold big; grind)
  have s1 : α ≤ s := f1.ge _ ha.rep (by grind)
  have s2 : s ≤ 2048 := f1.le 2048 (rep1 2048 (by decide) 0 (by omega) (by decide +kernel)) (by grind)
  have s0 : 0 < s := by grind
  have q1 : α / s ≤ 1 := div_le' s0 (by grind)
  have q2 : (2 : Rat) ^ (-131 : Int) ≤ α / s := by
    refine le_div' s0 ?_
    have h1 : (2 : Rat) ^ (-131 : Int) * 2048 = 2 ^ (-120 : Int) := by
      rw [show (-120 : Int) = -131 + 11 by rfl, Rat.zpow_add (by decide)]
      have : (2 : Rat) ^ (11 : Int) = 2048 := by decide +kernel
      rw [this]
    have h2 := Rat.mul_le_mul_of_nonneg_left s2 (Rat.le_of_lt (two_pos (-131)))
    rw [h1] at h2
    exact Rat.le_trans h2 a0
  have hq0 := two_pos (-131)
  obtain ⟨e2, x, g2, f2⟩ := dS_ok ha g1 (by grind) (by unfold big; grind) (by unfold big; grind)
  have x1 : x ≤ 1 := f2.le 1 (rep1 1 (by decide) 0 (by omega) (by decide +kernel)) q1
  have x0 : (2 : Rat) ^ (-131 : Int) ≤ x := f2.ge _ ⟨false, 1, -131, by decide, by decide, by rw [sg_f]; show _ = 1 * ((1 : Rat) * _); generalize (2 : Rat) ^ (-131 : Int) = E; grind⟩ q2
  have e3 : opO .quo (some a) (opO .add (some a) (some b)) = some (dS a (aS a b)) := by
    show (floatBits .add .f32 a b).bind (fun y => floatBits .quo .f32 a y) = _
    rw [e1]
    exact e2
  obtain ⟨l, g3, l0, l1⟩ := logN_vr (hX _ _ e1 e2) g2 (by generalize (2 : Rat) ^ (-131 : Int) = E at *; grind) x1
  exact ⟨_, l, e3, g3, l0, l1⟩
theorem half_vo {r : Int} (h0 : 0 ≤ r) (h2 : r ≤ 2) : ∃ h, VO (opO .mul (some fHalf) (some (fI r))) h ∧ 0 ≤ h ∧ h ≤ 1 := by
  obtain ⟨e, h, g, g0, g1⟩ := half_r h0 h2
  exact ⟨h, ⟨_, e, g⟩, g0, g1⟩
/-- one game's part is not above 0 -/
theorem one_vo {p : Nat} {L : List Nat} {s : Nat → Rat} (hS : StrV p L s) {g : Int × Int × Int} (hg : okGame (p : Int) g = true) : ∃ l, VO (oneO L g) l ∧ l ≤ 0 ∧ -l ≤ 900 := by
  obtain ⟨i, j, e1, e2, hi, hj, hij, hr0, hr2⟩ := okGame_nat hg
  have hi' : i < p := by omega
  have hj' : j < p := by omega
  have pi := vr_posB (hS.vr i hi') (hS.pos i hi') (by have := hS.top i hi'; unfold big; grind)
  have pj := vr_posB (hS.vr j hj') (hS.pos j hj') (by have := hS.top j hj'; unfold big; grind)
  obtain ⟨r, x, y, a1, a2, a3, X1, X2⟩ := shares pi pj
  obtain ⟨x1, l1, b1, v1, c1, c2⟩ := share_log (hS.vr i hi') (hS.vr j hj') (hS.low i hi') (hS.pos j hj') (hS.top i hi') (hS.top j hj') (fun r' x' h1 h2 => by
    rw [a1] at h1; cases h1
    rw [a2] at h2; cases h2
    exact X1)
  have hsw : opO .add (some (L.getD j 0)) (some (L.getD i 0)) = opO .add (some (L.getD i 0)) (some (L.getD j 0)) := add_swap (hS.vr j hj') (hS.vr i hi')
  obtain ⟨y1, l2, b2, v2, d1, d2⟩ := share_log (hS.vr j hj') (hS.vr i hi') (hS.low j hj') (hS.pos i hi') (hS.top j hj') (hS.top i hi') (fun r' x' h1 h2 => by
    have h3 : floatBits .add .f32 (L.getD i 0) (L.getD j 0) = some r' := by
      have : floatBits .add .f32 (L.getD j 0) (L.getD i 0) = floatBits .add .f32 (L.getD i 0) (L.getD j 0) := hsw
      rw [← this]; exact h1
    rw [a1] at h3; cases h3
    rw [a3] at h2; cases h2
    exact X2)
  rw [hsw] at b2
  obtain ⟨h, vh, h0, h1⟩ := half_vo hr0 hr2
  obtain ⟨o, vo, Fo⟩ := vz_sub vo_one vh (by unfold big; grind) (by unfold big; grind)
  have o0 : 0 ≤ o := Fo.ge 0 (rep_zero _) (by grind)
  have o1 : o ≤ 1 := Fo.le 1 (rep1 1 (by decide) 0 (by omega) (by decide +kernel)) (by grind)
  have k1 := Rat.mul_nonneg h0 (show 0 ≤ -l1 by grind)
  have k2 := Rat.mul_nonneg o0 (show 0 ≤ -l2 by grind)
  have k3 := (mul_bd (a := h) (b := -l1) (A := 1) (B := 400) h1 (by grind) c2 (by grind)).1
  have k4 := (mul_bd (a := o) (b := -l2) (A := 1) (B := 400) o1 (by grind) d2 (by grind)).1
  obtain ⟨m1, w1, F1⟩ := vz_mul vh ⟨_, rfl, v1⟩ (by unfold big; grind) (by unfold big; grind)
  obtain ⟨m2, w2, F2⟩ := vz_mul vo ⟨_, rfl, v2⟩ (by unfold big; grind) (by unfold big; grind)
  have m10 : m1 ≤ 0 := F1.le 0 (rep_zero _) (by grind)
  have m20 : m2 ≤ 0 := F2.le 0 (rep_zero _) (by grind)
  obtain ⟨n1, n2⟩ := F1.near1 400 (by grind) (by grind)
  obtain ⟨n3, n4⟩ := F2.near1 400 (by grind) (by grind)
  obtain ⟨l, w3, F3⟩ := vz_add w1 w2 (by unfold big; grind) (by unfold big; grind)
  obtain ⟨n5, n6⟩ := F3.near1 850 (by grind) (by grind)
  refine ⟨l, ?_, F3.le 0 (rep_zero _) (by grind), by grind⟩
  unfold oneO
  rw [e1, e2, Int.toNat_natCast, Int.toNat_natCast, b1, b2]
  exact w3
theorem lik_vo {p : Nat} {L : List Nat} {s : Nat → Rat} (hS : StrV p L s) {gs : List (Int × Int × Int)} (hg : ∀ g ∈ gs, okGame (p : Int) g = true) (hl : gs.length ≤ 8) : ∀ k, k ≤ gs.length → ∃ l, VO (likO L gs k) l ∧ l ≤ 0 ∧ -l ≤ 1000 * (k : Rat) := by
  intro k
  induction k with
  | zero => intro _; exact ⟨0, vo_zero, Rat.le_refl, by have : ((0 : Nat) : Rat) = 0 := rfl; rw [this]; grind⟩
  | succ k ih =>
    intro hk
    obtain ⟨l, v, l0, l1⟩ := ih (by omega)
    obtain ⟨o, w, o0, o1⟩ := one_vo hS (hg _ (getD_mem (d := (0, 0, 0)) (k := k) (by omega)))
    have k8 : (k : Rat) ≤ ((8 : Nat) : Rat) := nat_le_rat (by omega)
    have e8 : ((8 : Nat) : Rat) = 8 := rfl
    rw [e8] at k8
    obtain ⟨m, u, F⟩ := vz_add v w (by unfold big; grind) (by unfold big; grind)
    obtain ⟨n1, n2⟩ := F.near1 10000 (by grind) (by grind)
    have ek : ((k + 1 : Nat) : Rat) = (k : Rat) + 1 := by grind
    exact ⟨m, u, F.le 0 (rep_zero _) (by grind), by rw [ek]; grind⟩
theorem likRes_ok {p : Nat} {L : List Nat} {s : Nat → Rat} (hS : StrV p L s) {gs : List (Int × Int × Int)} (hg : ∀ g ∈ gs, okGame (p : Int) g = true) (hl : gs.length ≤ 8) (h2 : 2 ≤ p) (h6 : p ≤ 6) :
    ∃ x l, likRes L gs = (x, true) ∧ Vr single x l ∧ l ≤ 0 ∧ -l ≤ 10000 := by
  obtain ⟨l, ⟨x, e, g⟩, l0, l1⟩ := lik_vo hS hg hl gs.length (Nat.le_refl _)
  have k8 : (gs.length : Rat) ≤ ((8 : Nat) : Rat) := nat_le_rat hl
  have e8 : ((8 : Nat) : Rat) = 8 := rfl
  rw [e8] at k8
  have hok : okGames (L.length : Int) gs = true := by
    rw [hS.len]
    simp only [okGames, Bool.and_eq_true, inB_iff, decide_eq_true_eq, List.all_eq_true]
    exact ⟨⟨⟨by omega, by omega⟩, by omega⟩, hg⟩
  have hall : L.all posB = true := by
    rw [List.all_eq_true]
    intro z hz
    obtain ⟨i, hi, rfl⟩ := List.getElem_of_mem hz
    have hi' : i < p := by rw [← hS.len]; exact hi
    have gv := hS.vr i hi'
    rw [List.getD_eq_getElem?_getD, List.getElem?_eq_getElem hi] at gv
    exact vr_posB gv (hS.pos i hi') (by have := hS.top i hi'; unfold big; grind)
  refine ⟨x, l, ?_, g, l0, by grind⟩
  unfold likRes
  rw [hok, hall, if_pos (by decide), e, if_pos (show finO (some x) = true from vr_fin g (by unfold big; grind) (by unfold big; grind))]
  rfl

def lnH : Nat := 3207688728
theorem lnH_vr : Vr single lnH (-(11629080 / 16777216)) := vr_of true 11629080 (-24) (by decide) (by decide) (by rw [sg_t]; grind)
theorem half_wide : floatToFloatBits .f32 1056964608 .f64 = some 4602678819172646912 := by decide
theorem half_read : double.read 4602678819172646912 = .number false (2 ^ 52) (-53) := by decide
theorem half_log : floatToFloatBits .f64 (logE (yE (2 ^ 52) (-53) 4602678819172646912) ((dn15 (2 ^ 52) (-53) : Int) - (up75 (2 ^ 52) (-53) : Int))) .f32 = some lnH := by decide +kernel
theorem half_num : single.read 1056964608 = .number false 8388608 (-24) := by decide
theorem logN_half : logN 1056964608 = lnH := by
  have hX : LogX 1056964608 := .inr (.inl ⟨8388608, -24, half_num, by decide⟩)
  obtain ⟨y, q, I, c1, hy, _, _, hb⟩ := logN_p hX 8388608 (-24) half_num (by decide)
  rw [half_wide] at c1
  cases c1
  have hr := hy.rd
  rw [half_read] at hr
  cases hr
  rw [half_log] at hb
  exact (Option.some.inj hb).symm
theorem ones_share : opO .quo (some fOne) (opO .add (some fOne) (some fOne)) = some 1056964608 := by decide +kernel
theorem ones_parts : ∀ r : Nat, r < 3 → opO .add (opO .mul (opO .mul (some fHalf) (some (fI (r : Int)))) (some lnH)) (opO .mul (opO .sub (some fOne) (opO .mul (some fHalf) (some (fI (r : Int))))) (some lnH)) = some lnH := by decide +kernel
theorem oneO_ones {p : Nat} {g : Int × Int × Int} (hg : okGame (p : Int) g = true) : oneO (List.replicate p fOne) g = some lnH := by
  obtain ⟨i, j, e1, e2, hi, hj, hij, hr0, hr2⟩ := okGame_nat hg
  have h1 : (List.replicate p fOne).getD i 0 = fOne := by simp [show i < p by omega]
  have h2 : (List.replicate p fOne).getD j 0 = fOne := by simp [show j < p by omega]
  obtain ⟨r, hr⟩ : ∃ r : Nat, g.2.2 = (r : Int) := ⟨g.2.2.toNat, by omega⟩
  unfold oneO
  rw [e1, e2, Int.toNat_natCast, Int.toNat_natCast, h1, h2, hr, ones_share]
  show opO .add (opO .mul _ (some (logN 1056964608))) (opO .mul _ (some (logN 1056964608))) = _
  rw [logN_half]
  exact ones_parts r (by omega)
theorem likO_ones {p : Nat} {gs : List (Int × Int × Int)} (hg : ∀ g ∈ gs, okGame (p : Int) g = true) (hl : gs.length ≤ 8) : ∀ k, k ≤ gs.length → ∃ l, VO (likO (List.replicate p fOne) gs k) l ∧ l ≤ (k : Rat) * -(11629080 / 16777216) + (k : Rat) / 10000 ∧ (k : Rat) * -(11629080 / 16777216) ≤ l + (k : Rat) / 10000 := by
  intro k
  induction k with
  | zero => intro _; exact ⟨0, vo_zero, by have : ((0 : Nat) : Rat) = 0 := rfl; rw [this]; grind, by have : ((0 : Nat) : Rat) = 0 := rfl; rw [this]; grind⟩
  | succ k ih =>
    intro hk
    obtain ⟨l, v, l0, l1⟩ := ih (by omega)
    have k0 : (0 : Rat) ≤ (k : Rat) := Rat.natCast_nonneg
    have k8 : (k : Rat) ≤ ((8 : Nat) : Rat) := nat_le_rat (by omega)
    have e8 : ((8 : Nat) : Rat) = 8 := rfl
    rw [e8] at k8
    obtain ⟨m, u, F⟩ := vz_add v ⟨_, rfl, lnH_vr⟩ (by unfold big; grind) (by unfold big; grind)
    obtain ⟨n1, n2⟩ := F.near1 10 (by grind) (by grind)
    have ek : ((k + 1 : Nat) : Rat) = (k : Rat) + 1 := by grind
    refine ⟨m, ?_, by rw [ek]; grind, by rw [ek]; grind⟩
    show VO (opO .add (likO (List.replicate p fOne) gs k) (oneO (List.replicate p fOne) (gs.getD k (0, 0, 0)))) m
    rw [oneO_ones (hg _ (getD_mem (d := (0, 0, 0)) (k := k) (by omega)))]
    exact u
theorem likRes_ones {p : Nat} {gs : List (Int × Int × Int)} (hg : ∀ g ∈ gs, okGame (p : Int) g = true) (hl : gs.length ≤ 8) (h2 : 2 ≤ p) (h6 : p ≤ 6) :
    ∃ x l, likRes (List.replicate p fOne) gs = (x, true) ∧ Vr single x l ∧ l ≤ (gs.length : Rat) * -(11629080 / 16777216) + (gs.length : Rat) / 10000 ∧ (gs.length : Rat) * -(11629080 / 16777216) ≤ l + (gs.length : Rat) / 10000 := by
  obtain ⟨l, ⟨x, e, g⟩, l0, l1⟩ := likO_ones hg hl gs.length (Nat.le_refl _)
  have k0 : (0 : Rat) ≤ (gs.length : Rat) := Rat.natCast_nonneg
  have k8 : (gs.length : Rat) ≤ ((8 : Nat) : Rat) := nat_le_rat hl
  have e8 : ((8 : Nat) : Rat) = 8 := rfl
  rw [e8] at k8
  have hok : okGames ((List.replicate p fOne).length : Int) gs = true := by
    rw [List.length_replicate]
    simp only [okGames, Bool.and_eq_true, inB_iff, decide_eq_true_eq, List.all_eq_true]
    exact ⟨⟨⟨by omega, by omega⟩, by omega⟩, hg⟩
  have hall : (List.replicate p fOne).all posB = true := by
    rw [List.all_eq_true]
    intro z hz
    rw [(List.mem_replicate.1 hz).2]
    exact vr_posB one32 (by decide) (by unfold big; grind)
  refine ⟨x, l, ?_, g, l0, l1⟩
  unfold likRes
  rw [hok, hall, if_pos (by decide), e, if_pos (show finO (some x) = true from vr_fin g (by unfold big; grind) (by unfold big; grind))]
  rfl

end Go.Proofs.Ytcflgmjjomiejaa
