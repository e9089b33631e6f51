/- Expectations at near ratings are near: the exponential of near numbers. -/
import Derived.Test.YtcflgmjjomiejaaRbM
import Derived.Test.YtcflgmjjomiejaaFnM
namespace Go.Proofs.Ytcflgmjjomiejaa
set_option linter.unusedVariables false
set_option linter.unusedSimpArgs false
open Ieee

/-- a and b are not further apart than d -/
def Nr (a b d : Rat) : Prop := a ≤ b + d ∧ b ≤ a + d
theorem Nr.symm {a b d : Rat} (h : Nr a b d) : Nr b a d := ⟨h.2, h.1⟩
theorem mul_nr {a b a' b' d e A B : Rat} (h1 : Nr a a' d) (h2 : Nr b b' e) (hb : b ≤ B) (hb' : -b ≤ B) (ha : a' ≤ A) (ha' : -a' ≤ A) : Nr (a * b) (a' * b') (d * B + A * e) := by
  have k1 := mul_bd (a := a - a') (b := b) (A := d) (B := B) (by have := h1.1; grind) (by have := h1.2; grind) hb hb'
  have k2 := mul_bd (a := a') (b := b - b') (A := A) (B := e) ha ha' (by have := h2.1; grind) (by have := h2.2; grind)
  exact ⟨by grind, by grind⟩
theorem div_nr {a a' d k : Rat} (h : Nr a a' d) (hk : 1 ≤ k) : Nr (a / k) (a' / k) d := by
  have k1 := div_bd (a := a - a') (A := d) (by have := h.1; grind) (by have := h.2; grind) hk
  have e : (a - a') / k = a / k - a' / k := by grind
  rw [e] at k1
  exact ⟨by grind, by grind⟩
theorem pE_near {t t' : Nat} {τ τ' : Rat} (ht : Vr double t τ) (ht' : Vr double t' τ') (h1 : τ ≤ 1 / 20) (h2 : -τ ≤ 1 / 20) (h1' : τ' ≤ 1 / 20) (h2' : -τ' ≤ 1 / 20) (hd : Nr τ τ' (1 / 5000000)) :
    ∀ j, j ≤ 12 → ∃ π π', Vr double (pE t j) π ∧ Vr double (pE t' j) π' ∧ 15 / 16 ≤ π ∧ π ≤ 17 / 16 ∧ 15 / 16 ≤ π' ∧ π' ≤ 17 / 16 ∧ Nr π π' (3 / 10000000) := by
  intro j
  induction j with
  | zero => intro _; exact ⟨1, 1, one64, one64, by grind, by grind, by grind, by grind, ⟨by grind, by grind⟩⟩
  | succ j ih =>
    intro hj
    obtain ⟨π, π', g1, g1', a1, a2, a3, a4, hn⟩ := ih (by omega)
    obtain ⟨_, _, _, ρ, k1, k2, k3, k4, k5⟩ := pE_step ht h1 h2 g1 a1 a2 (by omega)
    obtain ⟨_, _, _, ρ', l1, l2, l3, l4, l5⟩ := pE_step ht' h1' h2' g1' a3 a4 (by omega)
    have hk : (1 : Rat) ≤ ((12 - j : Nat) : Rat) := by
      have : 1 ≤ 12 - j := by omega
      exact_mod_cast this
    have m := div_nr (mul_nr hd hn a2 (by grind) h1' h2') hk
    generalize ((12 - j : Nat) : Rat) = K at *
    obtain ⟨m1, m2⟩ := m
    exact ⟨ρ, ρ', k1, l1, k2, k3, l2, l3, ⟨by grind, by grind⟩⟩
/-- squares of near numbers -/
theorem sq_near {σ σ' s s' r : Rat} (hs : Fl double (σ * σ) s) (hs' : Fl double (σ' * σ') s') (h0 : 1 / 100000000 ≤ σ) (h1 : σ' ≤ σ + r * σ) (h2 : σ ≤ σ' + r * σ) (h0' : 0 ≤ σ') (r0 : 0 ≤ r) (r1 : r ≤ 1 / 1000) :
    s' ≤ s + (2 * r + r * r + 1 / 100000000000) * s ∧ s ≤ s' + (2 * r + r * r + 1 / 100000000000) * s := by
  have q0 : 1 / 10000000000000000 ≤ σ * σ := by
    have := (mul_bd (a := 1 / 100000000) (b := 1 / 100000000) (A := σ) (B := σ) h0 (by grind) h0 (by grind)).1
    grind
  have q0' : 0 ≤ σ' * σ' := Rat.mul_nonneg h0' h0'
  obtain ⟨n1, n2⟩ := hs.near2 (σ * σ) Rat.le_refl (by grind)
  obtain ⟨n3, n4⟩ := hs'.near2 (σ' * σ') Rat.le_refl (by grind)
  -- the squares
  have rσ : 0 ≤ r * σ := Rat.mul_nonneg r0 (by grind)
  have e1 : σ' * σ' ≤ σ * σ + (2 * r + r * r) * (σ * σ) := by
    have := (mul_bd (a := σ') (b := σ') (A := σ + r * σ) (B := σ + r * σ) h1 (by grind) h1 (by grind)).1
    grind
  have e2 : σ * σ ≤ σ' * σ' + 2 * r * (σ * σ) := by
    have k1 : σ - r * σ ≤ σ' := by grind
    have k0 : 0 ≤ σ - r * σ := by
      have := Rat.mul_le_mul_of_nonneg_right r1 (show 0 ≤ σ by grind)
      grind
    have := (mul_bd (a := σ - r * σ) (b := σ - r * σ) (A := σ') (B := σ') k1 (by grind) k1 (by grind)).1
    have k2 := Rat.mul_nonneg rσ rσ
    grind
  have rr : r * r ≤ 1 / 1000 * (1 / 1000) := (mul_bd r1 (by grind) r1 (by grind)).1
  generalize hQ : σ * σ = Q at *
  generalize σ' * σ' = Q' at *
  have rQ : r * Q ≤ 1 / 1000 * Q := Rat.mul_le_mul_of_nonneg_right r1 (by grind)
  have rQ0 : 0 ≤ r * Q := Rat.mul_nonneg r0 (by grind)
  have rrQ : r * r * Q ≤ 1 / 1000 * (1 / 1000) * Q := Rat.mul_le_mul_of_nonneg_right rr (by grind)
  have rr0 : 0 ≤ r * r := Rat.mul_nonneg r0 r0
  have rrQ0 : 0 ≤ r * r * Q := Rat.mul_nonneg rr0 (by grind)
  -- s is near Q
  have sQ : Q ≤ s + Q / 1000000000000 := by grind
  have w1 : (2 * r + r * r) * Q ≤ (2 * r + r * r) * s + (2 * r + r * r) * (Q / 1000000000000) := by
    have := Rat.mul_le_mul_of_nonneg_left sQ (show 0 ≤ 2 * r + r * r by grind)
    grind
  have w2 : (2 * r + r * r) * (Q / 1000000000000) ≤ Q / 1000000000000 := by grind
  have w3 : 2 * r * Q ≤ 2 * r * s + 2 * r * (Q / 1000000000000) := by
    have := Rat.mul_le_mul_of_nonneg_left sQ (show 0 ≤ 2 * r by grind)
    grind
  have w4 : 2 * r * (Q / 1000000000000) ≤ Q / 1000000000000 := by grind
  have rrs : 0 ≤ r * r * s := Rat.mul_nonneg rr0 (by grind)
  exact ⟨by grind, by grind⟩
def rRow : List Rat := [4 / 10000000, 9 / 10000000, 19 / 10000000, 40 / 10000000, 82 / 10000000, 166 / 10000000, 334 / 10000000, 670 / 10000000, 1345 / 10000000]
structure RowsR (L : Nat → Rat) : Prop where
  pos : ∀ j, j < 9 → 0 ≤ L j ∧ L j ≤ 1 / 1000
  st : ∀ j, j < 8 → 2 * L j + L j * L j + 1 / 100000000000 ≤ L (j + 1)
theorem rowsR : RowsR (rowOf rRow) := by
  refine ⟨?_, ?_⟩ <;> decide +kernel
theorem loA_ge : ∀ j, j < 9 → (1 : Rat) / 100000000 ≤ rowOf loA j := by decide +kernel
theorem qE_near {p p' : Nat} {σ σ' : Rat} (hp : Vr double p σ) (hp' : Vr double p' σ') (a1 : 15 / 16 ≤ σ) (a2 : σ ≤ 17 / 16) (a3 : 15 / 16 ≤ σ') (a4 : σ' ≤ 17 / 16) (hn : Nr σ σ' (3 / 10000000)) :
    ∀ j, j ≤ 8 → ∃ s s', Vr double (qE p j) s ∧ Vr double (qE p' j) s' ∧ rowOf loA j ≤ s ∧ s ≤ rowOf hiA j ∧ rowOf loA j ≤ s' ∧ s' ≤ rowOf hiA j ∧ s' ≤ s + rowOf rRow j * s ∧ s ≤ s' + rowOf rRow j * s := by
  intro j
  induction j with
  | zero =>
    intro _
    have e1 : rowOf loA 0 = 15 / 16 := rfl
    have e2 : rowOf hiA 0 = 17 / 16 := rfl
    have e3 : rowOf rRow 0 = 4 / 10000000 := rfl
    rw [e1, e2, e3]
    obtain ⟨n1, n2⟩ := hn
    exact ⟨σ, σ', hp, hp', a1, a2, a3, a4, by grind, by grind⟩
  | succ j ih =>
    intro hj
    obtain ⟨s, s', g1, g2, b1, b2, b3, b4, c1, c2⟩ := ih (by omega)
    obtain ⟨_, t, k1, F1, l1, l2⟩ := sq_step g1 (rowsA.pos j (by omega)) b1 b2 (rowsA.top j (by omega))
    obtain ⟨_, t', k2, F2, m1, m2⟩ := sq_step g2 (rowsA.pos j (by omega)) b3 b4 (rowsA.top j (by omega))
    have hge := loA_ge j (by omega)
    obtain ⟨r0, r1⟩ := rowsR.pos j (by omega)
    obtain ⟨d1, d2⟩ := sq_near F1 F2 (Rat.le_trans hge b1) c1 c2 (by grind) r0 r1
    have hst := rowsR.st j (by omega)
    have t0 : rowOf loA (j + 1) ≤ t := Rat.le_trans (rowsA.lo j (by omega)) l1
    have tp : 0 ≤ t := by
      have := loA_ge (j + 1) (by omega)
      grind
    have w := Rat.mul_le_mul_of_nonneg_right hst tp
    exact ⟨t, t', k1, k2, t0, Rat.le_trans l2 (rowsA.hi j (by omega)), Rat.le_trans (rowsA.lo j (by omega)) m1, Rat.le_trans m2 (rowsA.hi j (by omega)), by grind, by grind⟩

theorem div_le1 {s : Rat} (h : 1 ≤ s) : 1 / s ≤ 1 := div_le' (by grind) (by grind)
theorem div_ge0 {s : Rat} (h : 1 ≤ s) : 0 ≤ 1 / s := le_div' (by grind) (by grind)
/-- the parts of an expectation -/
structure EP (a b : Nat) (δ : Rat) (ξ τ σ ε s v : Rat) : Prop where
  gt : Vr double (tE (qX a b)) τ
  t1 : τ ≤ 1 / 20
  t2 : -τ ≤ 1 / 20
  tx : Nr τ (ξ / 256) (1 / 10000000000000000)
  xd : Nr ξ (δ / 2) (1 / 100000)
  gs : Vr double (expW (qX a b)) σ
  s1 : rowOf loA 8 ≤ σ
  s2 : σ ≤ rowOf hiA 8
  fe : Fl single σ ε
  ge : Vr single (expS (qX a b)) ε
  fs : Fl single (1 + ε) s
  sl : 1 ≤ s
  fv : Fl single (1 / s) v
  gv : Vr single (eW a b) v
theorem ep_ok {a b : Nat} {α β : Rat} (ha : Vr single a α) (hb : Vr single b β) (h1 : β - α ≤ 23) (h2 : α - β ≤ 23) (h3 : α ≤ big) (h4 : -α ≤ big) (h5 : β ≤ big) (h6 : -β ≤ big) :
    ∃ ξ τ σ ε s v, EP a b (β - α) ξ τ σ ε s v := by
  obtain ⟨_, _, ξ, g2, b1, b2, b3, b4⟩ := qX_ok ha hb h1 h2
  obtain ⟨_, g1, _, τ, gt, t1, t2, t3, t4⟩ := tE_ok g2 b1 b2
  obtain ⟨_, ε, v, ge, e0, e1, gv, _, _, s, fs, s1, fv⟩ := eW_ok ha hb h1 h2 h3 h4 h5 h6
  obtain ⟨π, p1, p2, p3⟩ := pE_bd gt t1 t2 12 (Nat.le_refl _)
  have hl0 : rowOf loA 0 = 15 / 16 := rfl
  have hh0 : rowOf hiA 0 = 17 / 16 := rfl
  obtain ⟨σ, q1, q2, q3⟩ := qE_bd rowsA p1 (by rw [hl0]; exact p2) (by rw [hh0]; exact p3) 8 (Nat.le_refl _)
  have hl8 : rowOf loA 8 = 4 / 100000000 := rfl
  have hh8 : rowOf hiA 8 = 8509000 := rfl
  obtain ⟨_, ε', ge', fe'⟩ := cS_ok q1 (by rw [hh8] at q3; unfold big; grind) (by rw [hl8] at q2; unfold big; grind)
  have : ε' = ε := vr_uni ge' ge
  subst this
  exact ⟨ξ, τ, σ, ε', s, v, ⟨gt, t1, t2, ⟨t3, t4⟩, ⟨b3, b4⟩, q1, q2, q3, fe', ge, fs, s1, fv, gv⟩⟩

theorem eW_near {a a' b : Nat} {α α' β v v' : Rat} (ha : Vr single a α) (ha' : Vr single a' α') (hb : Vr single b β) (h1 : β - α ≤ 23) (h2 : α - β ≤ 23) (h1' : β - α' ≤ 23) (h2' : α' - β ≤ 23)
    (k1 : α ≤ big) (k2 : -α ≤ big) (k3 : α' ≤ big) (k4 : -α' ≤ big) (k5 : β ≤ big) (k6 : -β ≤ big) (hn : Nr α α' (1 / 40000)) (gv : Vr single (eW a b) v) (gv' : Vr single (eW a' b) v') : Nr v v' (1 / 1000) := by
  obtain ⟨ξ, τ, σ, ε, s, w, E⟩ := ep_ok ha hb h1 h2 k1 k2 k5 k6
  obtain ⟨ξ', τ', σ', ε', s', w', E'⟩ := ep_ok ha' hb h1' h2' k3 k4 k5 k6
  have ew : w = v := vr_uni E.gv gv
  have ew' : w' = v' := vr_uni E'.gv gv'
  subst ew ew'
  obtain ⟨n1, n2⟩ := hn
  have hτ : Nr τ τ' (1 / 5000000) := by
    obtain ⟨x1, x2⟩ := E.xd
    obtain ⟨x3, x4⟩ := E'.xd
    obtain ⟨y1, y2⟩ := E.tx
    obtain ⟨y3, y4⟩ := E'.tx
    exact ⟨by grind, by grind⟩
  obtain ⟨π, π', p1, p1', c1, c2, c3, c4, hp⟩ := pE_near E.gt E'.gt E.t1 E.t2 E'.t1 E'.t2 hτ 12 (Nat.le_refl _)
  obtain ⟨ρ, ρ', q1, q1', d1, d2, d3, d4, d5, d6⟩ := qE_near p1 p1' c1 c2 c3 c4 hp 8 (Nat.le_refl _)
  have eσ : ρ = σ := vr_uni q1 E.gs
  have eσ' : ρ' = σ' := vr_uni q1' E'.gs
  subst eσ eσ'
  have e1 : rowOf loA 8 = 4 / 100000000 := rfl
  have e2 : rowOf hiA 8 = 8509000 := rfl
  have e3 : rowOf rRow 8 = 1345 / 10000000 := rfl
  rw [e1, e2] at *
  rw [e3] at d5 d6
  obtain ⟨m1, m2⟩ := E.fe.near1 ρ Rat.le_refl (by grind)
  obtain ⟨m3, m4⟩ := E'.fe.near1 ρ' Rat.le_refl (by grind)
  obtain ⟨m5, m6⟩ := E.fs.near1 (1 + ε) Rat.le_refl (by grind)
  obtain ⟨m7, m8⟩ := E'.fs.near1 (1 + ε') Rat.le_refl (by grind)
  have hs := E.sl
  have hs' := E'.sl
  have z1 : s' ≤ s + s / 2000 := by grind
  have z2 : s ≤ s' + s / 2000 := by grind
  have hsp : 0 < s := by grind
  have hsp' : 0 < s' := by grind
  have ss : s ≤ s * s' := by
    have := Rat.mul_le_mul_of_nonneg_left hs' (show 0 ≤ s by grind)
    grind
  have hpp := Rat.mul_pos hsp hsp'
  have r1 : 1 / s ≤ 1 / s' + 1 / 2000 := by
    refine Rat.le_of_mul_le_mul_right ?_ hpp
    have f1 : 1 / s * (s * s') = s' := by grind
    have f2 : (1 / s' + 1 / 2000) * (s * s') = s + s * s' / 2000 := by grind
    rw [f1, f2]; grind
  have r2 : 1 / s' ≤ 1 / s + 1 / 2000 := by
    refine Rat.le_of_mul_le_mul_right ?_ hpp
    have f1 : 1 / s' * (s * s') = s := by grind
    have f2 : (1 / s + 1 / 2000) * (s * s') = s' + s * s' / 2000 := by grind
    rw [f1, f2]; grind
  have o1 : 1 / s ≤ 1 := div_le1 hs
  have o2 : 1 / s' ≤ 1 := div_le1 hs'
  have o3 : 0 ≤ 1 / s := div_ge0 hs
  have o4 : 0 ≤ 1 / s' := div_ge0 hs'
  obtain ⟨m9, m10⟩ := E.fv.near1 1 o1 (by grind)
  obtain ⟨m11, m12⟩ := E'.fv.near1 1 o2 (by grind)
  generalize 1 / s = u at *
  generalize 1 / s' = u' at *
  exact ⟨by grind, by grind⟩

def hiB : List Rat := [971 / 1000, 943 / 1000, 8893 / 10000, 791 / 1000, 626 / 1000, 392 / 1000, 154 / 1000, 238 / 10000, 6 / 10000]
theorem rowsB : Rows8 (rowOf loA) (rowOf hiB) := by
  refine ⟨?_, ?_, ?_, ?_⟩ <;> decide +kernel
def loC : List Rat := [10292 / 10000, 10592 / 10000, 11218 / 10000, 12584 / 10000, 15835 / 10000, 2507 / 1000, 6284 / 1000, 3948 / 100, 1558]
theorem rowsC : Rows8 (rowOf loC) (rowOf hiA) := by
  refine ⟨?_, ?_, ?_, ?_⟩ <;> decide +kernel
/-- far above, it's nearly 1 -/
theorem eW_high {a b : Nat} {α β v : Rat} (ha : Vr single a α) (hb : Vr single b β) (h1 : 1599 / 100 ≤ α - β) (h2 : α - β ≤ 23)
    (k1 : α ≤ big) (k2 : -α ≤ big) (k5 : β ≤ big) (k6 : -β ≤ big) (gv : Vr single (eW a b) v) : 999 / 1000 ≤ v := by
  obtain ⟨ξ, τ, σ, ε, s, w, E⟩ := ep_ok ha hb (by grind) h2 k1 k2 k5 k6
  have ew : w = v := vr_uni E.gv gv
  subst ew
  obtain ⟨x1, x2⟩ := E.xd
  obtain ⟨y1, y2⟩ := E.tx
  have hτ : τ ≤ -(312 / 10000) := by grind
  obtain ⟨π, p1, p2, p3⟩ := pE_bd E.gt E.t1 E.t2 11 (by omega)
  obtain ⟨_, _, _, ρ, r1, r2, r3, r4, r5⟩ := pE_step E.gt E.t1 E.t2 p1 p2 p3 (by omega)
  have e1 : ((12 - 11 : Nat) : Rat) = 1 := rfl
  rw [e1] at r4 r5
  have hτπ : τ * π ≤ -(312 / 10000) * (15 / 16) := by
    have := (mul_bd (a := 312 / 10000) (b := 15 / 16) (A := -τ) (B := π) (by grind) (by grind) p2 (by grind)).1
    grind
  have hρ : ρ ≤ 971 / 1000 := by grind
  have hl0 : rowOf loA 0 = 15 / 16 := rfl
  have hh0 : rowOf hiB 0 = 971 / 1000 := rfl
  obtain ⟨σ', q1, q2, q3⟩ := qE_bd rowsB r1 (by rw [hl0]; exact r2) (by rw [hh0]; exact hρ) 8 (Nat.le_refl _)
  have eσ : σ' = σ := vr_uni q1 E.gs
  subst eσ
  have hh8 : rowOf hiB 8 = 6 / 10000 := rfl
  rw [hh8] at q3
  have hl8 : rowOf loA 8 = 4 / 100000000 := rfl
  rw [hl8] at q2
  obtain ⟨m1, m2⟩ := E.fe.near1 1 (by grind) (by grind)
  have e0 : 0 ≤ ε := E.fe.ge 0 (rep_zero _) (by grind)
  obtain ⟨m3, m4⟩ := E.fs.near1 2 (by grind) (by grind)
  have hs := E.sl
  have hsp : 0 < s := by grind
  have u1 : 9992 / 10000 ≤ 1 / s := le_div' hsp (by grind)
  obtain ⟨m5, m6⟩ := E.fv.near1 1 (div_le1 hs) (by have := div_ge0 hs; grind)
  generalize 1 / s = u at *
  grind
/-- far below, it's nearly 0 -/
theorem eW_low {a b : Nat} {α β v : Rat} (ha : Vr single a α) (hb : Vr single b β) (h1 : 1599 / 100 ≤ β - α) (h2 : β - α ≤ 23)
    (k1 : α ≤ big) (k2 : -α ≤ big) (k5 : β ≤ big) (k6 : -β ≤ big) (gv : Vr single (eW a b) v) : v ≤ 1 / 1000 := by
  obtain ⟨ξ, τ, σ, ε, s, w, E⟩ := ep_ok ha hb h2 (by grind) k1 k2 k5 k6
  have ew : w = v := vr_uni E.gv gv
  subst ew
  obtain ⟨x1, x2⟩ := E.xd
  obtain ⟨y1, y2⟩ := E.tx
  have hτ : 312 / 10000 ≤ τ := by grind
  obtain ⟨π, p1, p2, p3⟩ := pE_bd E.gt E.t1 E.t2 11 (by omega)
  obtain ⟨_, _, _, ρ, r1, r2, r3, r4, r5⟩ := pE_step E.gt E.t1 E.t2 p1 p2 p3 (by omega)
  have e1 : ((12 - 11 : Nat) : Rat) = 1 := rfl
  rw [e1] at r4 r5
  have hτπ : 312 / 10000 * (15 / 16) ≤ τ * π := (mul_bd (a := 312 / 10000) (b := 15 / 16) (A := τ) (B := π) hτ (by grind) p2 (by grind)).1
  have hρ : 10292 / 10000 ≤ ρ := by grind
  have hl0 : rowOf loC 0 = 10292 / 10000 := rfl
  have hh0 : rowOf hiA 0 = 17 / 16 := rfl
  obtain ⟨σ', q1, q2, q3⟩ := qE_bd rowsC r1 (by rw [hl0]; exact hρ) (by rw [hh0]; exact r3) 8 (Nat.le_refl _)
  have eσ : σ' = σ := vr_uni q1 E.gs
  subst eσ
  have hh8 : rowOf hiA 8 = 8509000 := rfl
  rw [hh8] at q3
  have hl8 : rowOf loC 8 = 1558 := rfl
  rw [hl8] at q2
  have e15 : 1500 ≤ ε := E.fe.ge 1500 (rep1 1500 (by decide) 0 (by omega) (by decide +kernel)) (by grind)
  have s15 : 1500 ≤ s := E.fs.ge 1500 (rep1 1500 (by decide) 0 (by omega) (by decide +kernel)) (by grind)
  have hs := E.sl
  have hsp : 0 < s := by grind
  have u1 : 1 / s ≤ 1 / 1500 := div_le' hsp (by grind)
  obtain ⟨m5, m6⟩ := E.fv.near1 1 (div_le1 hs) (by have := div_ge0 hs; grind)
  generalize 1 / s = u at *
  grind

end Go.Proofs.Ytcflgmjjomiejaa
