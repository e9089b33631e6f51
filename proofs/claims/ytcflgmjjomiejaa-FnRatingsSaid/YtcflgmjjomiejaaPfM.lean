/- Performances: the halving of a range, told as fractions. -/
import Derived.Test.YtcflgmjjomiejaaPfL
import Derived.Test.YtcflgmjjomiejaaFnM
import Derived.Test.YtcflgmjjomiejaaRbM
import Derived.Test.YtcflgmjjomiejaaRrM
namespace Go.Proofs.Ytcflgmjjomiejaa
set_option linter.unusedVariables false
set_option linter.unusedSimpArgs false
open Ieee

def minF (x y : Nat) : Nat := match single.order x y with
  | some .lt => x
  | some .gt => y
  | _ => if (single.read x).neg = true then x else y
def maxF (x y : Nat) : Nat := match single.order x y with
  | some .lt => y
  | some .gt => x
  | _ => if (single.read x).neg = true then y else x
theorem minF_self (x : Nat) {v : Rat} (h : Vr single x v) : minF x x = x := by
  unfold minF
  rw [vr_eq h h rfl]
  dsimp only
  split <;> rfl
theorem maxF_self (x : Nat) {v : Rat} (h : Vr single x v) : maxF x x = x := by
  unfold maxF
  rw [vr_eq h h rfl]
  dsimp only
  split <;> rfl
theorem vr_min {x y : Nat} {a b : Rat} (hx : Vr single x a) (hy : Vr single y b) : ∃ c, Vr single (minF x y) c ∧ c ≤ a ∧ c ≤ b ∧ (c = a ∨ c = b) := by
  unfold minF
  by_cases h1 : a < b
  · rw [vr_lt hx hy h1]; exact ⟨a, hx, Rat.le_refl, Rat.le_of_lt h1, .inl rfl⟩
  · by_cases h2 : a = b
    · rw [vr_eq hx hy h2]
      subst h2
      dsimp only
      split
      · exact ⟨a, hx, Rat.le_refl, Rat.le_refl, .inl rfl⟩
      · exact ⟨a, hy, Rat.le_refl, Rat.le_refl, .inl rfl⟩
    · have h3 : b < a := by grind
      rw [vr_gt hx hy h3]; exact ⟨b, hy, Rat.le_of_lt h3, Rat.le_refl, .inr rfl⟩
theorem vr_max {x y : Nat} {a b : Rat} (hx : Vr single x a) (hy : Vr single y b) : ∃ c, Vr single (maxF x y) c ∧ a ≤ c ∧ b ≤ c ∧ (c = a ∨ c = b) := by
  unfold maxF
  by_cases h1 : a < b
  · rw [vr_lt hx hy h1]; exact ⟨b, hy, Rat.le_of_lt h1, Rat.le_refl, .inr rfl⟩
  · by_cases h2 : a = b
    · rw [vr_eq hx hy h2]
      subst h2
      dsimp only
      split
      · exact ⟨a, hy, Rat.le_refl, Rat.le_refl, .inl rfl⟩
      · exact ⟨a, hx, Rat.le_refl, Rat.le_refl, .inl rfl⟩
    · have h3 : b < a := by grind
      rw [vr_gt hx hy h3]; exact ⟨a, hx, Rat.le_refl, Rat.le_of_lt h3, .inl rfl⟩
/-- the least and the greatest of the first k, the first one among them -/
def mnL (R : List Nat) : Nat → Nat
  | 0 => R.getD 0 0
  | k + 1 => minF (mnL R k) (R.getD k 0)
def mxL (R : List Nat) : Nat → Nat
  | 0 => R.getD 0 0
  | k + 1 => maxF (mxL R k) (R.getD k 0)
theorem mnL_ok {n : Nat} {B : Rat} {R : List Nat} {v : Nat → Rat} (hR : RV n B R v) (hn : 0 < n) : ∀ k, k ≤ n → ∃ c, Vr single (mnL R k) c ∧ c ≤ B ∧ -c ≤ B ∧ ∀ i, i < k → c ≤ v i := by
  intro k
  induction k with
  | zero => intro _; exact ⟨v 0, hR.vr 0 hn, hR.hi 0 hn, hR.lo 0 hn, fun i hi => by omega⟩
  | succ k ih =>
    intro hk
    obtain ⟨c, g, b1, b2, b3⟩ := ih (by omega)
    obtain ⟨d, g2, d1, d2, d3⟩ := vr_min g (hR.vr k (by omega))
    have a1 := hR.hi k (by omega)
    have a2 := hR.lo k (by omega)
    refine ⟨d, g2, by grind, by rcases d3 with rfl | rfl <;> assumption, fun i hi => ?_⟩
    by_cases e : i = k
    · subst e; exact d2
    · exact Rat.le_trans d1 (b3 i (by omega))
theorem mxL_ok {n : Nat} {B : Rat} {R : List Nat} {v : Nat → Rat} (hR : RV n B R v) (hn : 0 < n) : ∀ k, k ≤ n → ∃ c, Vr single (mxL R k) c ∧ c ≤ B ∧ -c ≤ B ∧ ∀ i, i < k → v i ≤ c := by
  intro k
  induction k with
  | zero => intro _; exact ⟨v 0, hR.vr 0 hn, hR.hi 0 hn, hR.lo 0 hn, fun i hi => by omega⟩
  | succ k ih =>
    intro hk
    obtain ⟨c, g, b1, b2, b3⟩ := ih (by omega)
    obtain ⟨d, g2, d1, d2, d3⟩ := vr_max g (hR.vr k (by omega))
    have a1 := hR.hi k (by omega)
    have a2 := hR.lo k (by omega)
    refine ⟨d, g2, by rcases d3 with rfl | rfl <;> assumption, by grind, fun i hi => ?_⟩
    by_cases e : i = k
    · subst e; exact d2
    · exact Rat.le_trans (b3 i (by omega)) d1

def w16f : Nat := 1098907648
theorem w16f_vr : Vr single w16f 16 := vr_of false 8388608 (-19) (by decide) (by decide) (by rw [sg_f]; grind)
def lo0 (R : List Nat) : Nat := sS (mnL R R.length) w16f
def hi0 (R : List Nat) : Nat := aS (mxL R R.length) w16f
/-- what is expected of x against all -/
def sumE (R : List Nat) (x : Nat) : Nat → Nat
  | 0 => 0
  | k + 1 => aS (sumE R x k) (eW x (R.getD k 0))
def midF (p : Nat × Nat) : Nat := mS fHalf (aS p.1 p.2)
def pfS (R : List Nat) (score : Nat) : Nat → Nat × Nat
  | 0 => (lo0 R, hi0 R)
  | t + 1 => if single.order (sumE R (midF (pfS R score t)) R.length) score = some .lt then (midF (pfS R score t), (pfS R score t).2) else ((pfS R score t).1, midF (pfS R score t))

/-- every sum of expectations answers -/
structure SumOps (R : List Nat) (n x : Nat) : Prop where
  ex : ∀ k, k < n → ExpectOps x (R.getD k 0)
  ad : ∀ k, k < n → floatBits .add .f32 (sumE R x k) (eW x (R.getD k 0)) = some (sumE R x (k + 1))
/-- the expectations, and their sum -/
structure SumV (R : List Nat) (n x : Nat) (e : Nat → Rat) (S : Rat) : Prop where
  ev : ∀ k, k < n → Vr single (eW x (R.getD k 0)) (e k)
  e0 : ∀ k, k < n → 0 ≤ e k
  e1 : ∀ k, k < n → e k ≤ 1
  sv : Vr single (sumE R x n) S
  sn : Nr S (ratSum e n) (1 / 10000)
theorem sumE_ok {n : Nat} {R : List Nat} {v : Nat → Rat} (hR : RV n 2 R v) (hn : n ≤ 6) {x : Nat} {ξ : Rat} (hx : Vr single x ξ) (h1 : ξ ≤ 145 / 8) (h2 : -ξ ≤ 145 / 8) : SumOps R n x ∧ ∃ e S, SumV R n x e S := by
  have hE : ∀ k, k < n → ∃ e, ExpectOps x (R.getD k 0) ∧ Vr single (eW x (R.getD k 0)) e ∧ 0 ≤ e ∧ e ≤ 1 := fun k hk => by
    have a1 := hR.hi k hk
    have a2 := hR.lo k hk
    obtain ⟨ho, ε, e, _, _, _, g, e0, e1, _⟩ := eW_ok hx (hR.vr k hk) (by grind) (by grind) (by unfold big; grind) (by unfold big; grind) (by unfold big; grind) (by unfold big; grind)
    exact ⟨e, ho, g, e0, e1⟩
  obtain ⟨e, he⟩ := choose_rat hE
  have hS : ∀ k, k ≤ n → ∃ S, Vr single (sumE R x k) S ∧ 0 ≤ S ∧ S ≤ (k : Rat) + (k : Rat) / 60000 ∧ Nr S (ratSum e k) ((k : Rat) / 60000) := by
    intro k
    induction k with
    | zero => intro _; have h0 : ((0 : Nat) : Rat) = 0 := rfl; rw [h0]; exact ⟨0, zero32, Rat.le_refl, by grind, ⟨by show (0 : Rat) ≤ 0 + 0 / 60000; grind, by show (0 : Rat) ≤ 0 + 0 / 60000; grind⟩⟩
    | succ k ih =>
      intro hk
      obtain ⟨S, g, s0, s1, n1, n2⟩ := ih (by omega)
      obtain ⟨_, ge, e0, e1⟩ := he k (by omega)
      have k6 : (k : Rat) ≤ ((6 : Nat) : Rat) := nat_le_rat (by omega)
      have e6 : ((6 : Nat) : Rat) = 6 := rfl
      rw [e6] at k6
      obtain ⟨_, S', g', F⟩ := aS_ok g ge (by unfold big; grind) (by unfold big; grind)
      obtain ⟨m1, m2⟩ := F.near1 8 (by grind) (by grind)
      have ek : ((k + 1 : Nat) : Rat) = (k : Rat) + 1 := by grind
      have eSg : ratSum e (k + 1) = ratSum e k + e k := rfl
      exact ⟨S', g', F.ge 0 (rep_zero _) (by grind), by rw [ek]; grind, ⟨by rw [ek, eSg]; grind, by rw [ek, eSg]; grind⟩⟩
  refine ⟨⟨fun k hk => (he k hk).1, fun k hk => ?_⟩, e, ?_⟩
  · obtain ⟨S, g, s0, s1, _⟩ := hS k (by omega)
    obtain ⟨_, ge, e0, e1⟩ := he k hk
    have k6 : (k : Rat) ≤ ((6 : Nat) : Rat) := nat_le_rat (by omega)
    have e6 : ((6 : Nat) : Rat) = 6 := rfl
    rw [e6] at k6
    exact (aS_ok g ge (by unfold big; grind) (by unfold big; grind)).1
  · obtain ⟨S, g, s0, s1, n1, n2⟩ := hS n (Nat.le_refl _)
    have k6 : (n : Rat) ≤ ((6 : Nat) : Rat) := nat_le_rat hn
    have e6 : ((6 : Nat) : Rat) = 6 := rfl
    rw [e6] at k6
    exact ⟨S, fun k hk => (he k hk).2.1, fun k hk => (he k hk).2.2.1, fun k hk => (he k hk).2.2.2, g, ⟨by grind, by grind⟩⟩

def wd : Nat → Rat
  | 0 => 40
  | t + 1 => wd t / 2 + 1 / 100000
theorem wd_end : wd 24 ≤ 1 / 40000 := by decide +kernel
/-- a range behind t rounds -/
structure Rng (R : List Nat) (n t : Nat) (q : Rat) (p : Nat × Nat) (l h : Rat) : Prop where
  gl : Vr single p.1 l
  gh : Vr single p.2 h
  l1 : l ≤ 145 / 8
  l2 : -l ≤ 145 / 8
  h1 : h ≤ 145 / 8
  h2 : -h ≤ 145 / 8
  w : Nr l h (wd t)
  cl : p.1 = lo0 R ∨ ∃ e S, SumV R n p.1 e S ∧ S < q
  ch : p.2 = hi0 R ∨ ∃ e S, SumV R n p.2 e S ∧ q ≤ S
/-- every operation of a round answers -/
structure RngOps (R : List Nat) (n : Nat) (score : Nat) (p : Nat × Nat) : Prop where
  ad : floatBits .add .f32 p.1 p.2 = some (aS p.1 p.2)
  mu : floatBits .mul .f32 fHalf (aS p.1 p.2) = some (midF p)
  su : SumOps R n (midF p)
  or : single.order (sumE R (midF p) n) score = some .lt ∨ single.order (sumE R (midF p) n) score = some .eq ∨ single.order (sumE R (midF p) n) score = some .gt
theorem mid_ok {p : Nat × Nat} {l h : Rat} (gl : Vr single p.1 l) (gh : Vr single p.2 h) (l1 : l ≤ 145 / 8) (l2 : -l ≤ 145 / 8) (h1 : h ≤ 145 / 8) (h2 : -h ≤ 145 / 8) :
    floatBits .add .f32 p.1 p.2 = some (aS p.1 p.2) ∧ floatBits .mul .f32 fHalf (aS p.1 p.2) = some (midF p) ∧ ∃ m, Vr single (midF p) m ∧ m ≤ 145 / 8 ∧ -m ≤ 145 / 8 ∧ Nr m ((l + h) / 2) (1 / 100000) := by
  obtain ⟨e1, s, g1, f1⟩ := aS_ok gl gh (by unfold big; grind) (by unfold big; grind)
  have s1 : s ≤ 145 / 4 := f1.le _ (rep1 145 (by decide) 2 (by omega) (by decide +kernel)) (by grind)
  have s2 : -(145 / 4) ≤ s := f1.ge _ (rep1 (-145) (by decide) 2 (by omega) (by decide +kernel)) (by grind)
  obtain ⟨n1, n2⟩ := f1.near1 (145 / 4) (by grind) (by grind)
  obtain ⟨e2, m, g2, f2⟩ := mS_ok half32 g1 (by unfold big; grind) (by unfold big; grind)
  have m1 : m ≤ 145 / 8 := f2.le _ (rep1 145 (by decide) 3 (by omega) (by decide +kernel)) (by grind)
  have m2 : -(145 / 8) ≤ m := f2.ge _ (rep1 (-145) (by decide) 3 (by omega) (by decide +kernel)) (by grind)
  obtain ⟨n3, n4⟩ := f2.near1 (145 / 8) (by grind) (by grind)
  exact ⟨e1, e2, m, g2, m1, by grind, ⟨by grind, by grind⟩⟩
theorem rng_step {R : List Nat} {n t score : Nat} {q : Rat} {p : Nat × Nat} {l h : Rat} {v : Nat → Rat} (hR : RV n 2 R v) (hn : n ≤ 6) (hq : Vr single score q) (hp : Rng R n t q p l h) :
    RngOps R n score p ∧ (single.order (sumE R (midF p) n) score = some .lt → ∃ m, Rng R n (t + 1) q (midF p, p.2) m h) ∧ (single.order (sumE R (midF p) n) score ≠ some .lt → ∃ m, Rng R n (t + 1) q (p.1, midF p) l m) := by
  obtain ⟨e1, e2, m, gm, m1, m2, n1, n2⟩ := mid_ok hp.gl hp.gh hp.l1 hp.l2 hp.h1 hp.h2
  obtain ⟨hso, e, S, hS⟩ := sumE_ok hR hn gm m1 m2
  have ho := vr_order hS.sv hq
  obtain ⟨w1, w2⟩ := hp.w
  have ew : wd (t + 1) = wd t / 2 + 1 / 100000 := rfl
  refine ⟨⟨e1, e2, hso, ?_⟩, fun hlt => ⟨m, gm, hp.gh, m1, m2, hp.h1, hp.h2, ⟨by rw [ew]; grind, by rw [ew]; grind⟩, .inr ⟨e, S, hS, ?_⟩, hp.ch⟩, fun hge => ⟨m, hp.gl, gm, hp.l1, hp.l2, m1, m2, ⟨by rw [ew]; grind, by rw [ew]; grind⟩, hp.cl, .inr ⟨e, S, hS, ?_⟩⟩⟩
  · rw [ho]
    by_cases h1 : S < q
    · exact .inl (by rw [if_pos h1])
    · by_cases h2 : S = q
      · exact .inr (.inl (by rw [if_neg h1, if_pos h2]))
      · exact .inr (.inr (by rw [if_neg h1, if_neg h2]))
  · rw [ho] at hlt
    by_cases h1 : S < q
    · exact h1
    · rw [if_neg h1] at hlt
      split at hlt <;> cases hlt
  · rw [ho] at hge
    by_cases h1 : S < q
    · rw [if_pos h1] at hge; exact absurd rfl hge
    · grind

theorem ratSum_near {a b : Nat → Rat} {d : Rat} {n : Nat} (h : ∀ i, i < n → Nr (a i) (b i) d) : Nr (ratSum a n) (ratSum b n) ((n : Rat) * d) := by
  induction n with
  | zero => have h0 : ((0 : Nat) : Rat) = 0 := rfl; rw [h0]; exact ⟨by show (0 : Rat) ≤ 0 + 0 * d; grind, by show (0 : Rat) ≤ 0 + 0 * d; grind⟩
  | succ n ih =>
    obtain ⟨h1, h2⟩ := ih fun i hi => h i (by omega)
    obtain ⟨h3, h4⟩ := h n (by omega)
    have ek : ((n + 1 : Nat) : Rat) = (n : Rat) + 1 := by grind
    rw [ek]
    exact ⟨by show ratSum a n + a n ≤ ratSum b n + b n + _; grind, by show ratSum b n + b n ≤ ratSum a n + a n + _; grind⟩
theorem ratSum_ge {a : Nat → Rat} {c : Rat} {n : Nat} (h : ∀ i, i < n → c ≤ a i) : (n : Rat) * c ≤ ratSum a n := by
  rw [← ratSum_const]
  exact ratSum_le h
theorem ratSum_lec {a : Nat → Rat} {c : Rat} {n : Nat} (h : ∀ i, i < n → a i ≤ c) : ratSum a n ≤ (n : Rat) * c := by
  rw [← ratSum_const]
  exact ratSum_le h

/-- the range at the beginning -/
theorem start_ok {n : Nat} {R : List Nat} {v : Nat → Rat} (hR : RV n 2 R v) (hn0 : 0 < n) (q : Rat) :
    floatBits .sub .f32 (mnL R n) w16f = some (lo0 R) ∧ floatBits .add .f32 (mxL R n) w16f = some (hi0 R) ∧ ∃ l h, Rng R n 0 q (lo0 R, hi0 R) l h ∧ (∀ i, i < n → 1599 / 100 ≤ v i - l) ∧ (∀ i, i < n → 1599 / 100 ≤ h - v i) := by
  obtain ⟨c, gc, c1, c2, c3⟩ := mnL_ok hR hn0 n (Nat.le_refl _)
  obtain ⟨d, gd, d1, d2, d3⟩ := mxL_ok hR hn0 n (Nat.le_refl _)
  obtain ⟨e1, l, gl, fl⟩ := sS_ok gc w16f_vr (by unfold big; grind) (by unfold big; grind)
  obtain ⟨e2, h, gh, fh⟩ := aS_ok gd w16f_vr (by unfold big; grind) (by unfold big; grind)
  obtain ⟨n1, n2⟩ := fl.near1 18 (by grind) (by grind)
  obtain ⟨n3, n4⟩ := fh.near1 18 (by grind) (by grind)
  have el : lo0 R = sS (mnL R n) w16f := by unfold lo0; rw [hR.len]
  have eh : hi0 R = aS (mxL R n) w16f := by unfold hi0; rw [hR.len]
  have w0 : wd 0 = 40 := rfl
  rw [el, eh]
  refine ⟨e1, e2, l, h, ⟨gl, gh, by grind, by grind, by grind, by grind, ⟨by rw [w0]; grind, by rw [w0]; grind⟩, .inl el.symm, .inl eh.symm⟩, fun i hi => ?_, fun i hi => ?_⟩
  · have := c3 i hi
    grind
  · have := d3 i hi
    grind
theorem rng_all {n score : Nat} {R : List Nat} {v : Nat → Rat} {q : Rat} (hR : RV n 2 R v) (hn0 : 0 < n) (hn : n ≤ 6) (hq : Vr single score q) : ∀ t, ∃ l h, Rng R n t q (pfS R score t) l h := by
  intro t
  induction t with
  | zero => obtain ⟨_, _, l, h, hr, _⟩ := start_ok hR hn0 q; exact ⟨l, h, hr⟩
  | succ t ih =>
    obtain ⟨l, h, hr⟩ := ih
    obtain ⟨_, h1, h2⟩ := rng_step hR hn hq hr
    have e : pfS R score (t + 1) = if single.order (sumE R (midF (pfS R score t)) R.length) score = some .lt then (midF (pfS R score t), (pfS R score t).2) else ((pfS R score t).1, midF (pfS R score t)) := rfl
    rw [e, hR.len]
    by_cases hc : single.order (sumE R (midF (pfS R score t)) n) score = some .lt
    · rw [if_pos hc]
      obtain ⟨m, hm⟩ := h1 hc
      exact ⟨m, h, hm⟩
    · rw [if_neg hc]
      obtain ⟨m, hm⟩ := h2 hc
      exact ⟨l, m, hm⟩
theorem rng_ops {n score : Nat} {R : List Nat} {v : Nat → Rat} {q : Rat} (hR : RV n 2 R v) (hn0 : 0 < n) (hn : n ≤ 6) (hq : Vr single score q) (t : Nat) : RngOps R n score (pfS R score t) := by
  obtain ⟨l, h, hr⟩ := rng_all hR hn0 hn hq t
  exact (rng_step hR hn hq hr).1
/-- the middle that is told behind t + 1 rounds is an end of the range -/
theorem mid_end (R : List Nat) (score t : Nat) : midF (pfS R score t) = (pfS R score (t + 1)).1 ∨ midF (pfS R score t) = (pfS R score (t + 1)).2 := by
  have e : pfS R score (t + 1) = if single.order (sumE R (midF (pfS R score t)) R.length) score = some .lt then (midF (pfS R score t), (pfS R score t).2) else ((pfS R score t).1, midF (pfS R score t)) := rfl
  rw [e]
  split
  · exact .inl rfl
  · exact .inr rfl
/-- near ratings are expected to have near sums -/
theorem sums_near {n : Nat} {R : List Nat} {v : Nat → Rat} (hR : RV n 2 R v) {x x' : Nat} {ξ ξ' S S' : Rat} {e e' : Nat → Rat} (gx : Vr single x ξ) (gx' : Vr single x' ξ') (a1 : ξ ≤ 145 / 8) (a2 : -ξ ≤ 145 / 8) (a3 : ξ' ≤ 145 / 8) (a4 : -ξ' ≤ 145 / 8) (hn : Nr ξ ξ' (1 / 40000))
    (h : SumV R n x e S) (h' : SumV R n x' e' S') : Nr (ratSum e n) (ratSum e' n) ((n : Rat) * (1 / 1000)) :=
  ratSum_near fun i hi => by
    have b1 := hR.hi i hi
    have b2 := hR.lo i hi
    exact eW_near gx gx' (hR.vr i hi) (by grind) (by grind) (by grind) (by grind) (by unfold big; grind) (by unfold big; grind) (by unfold big; grind) (by unfold big; grind) (by unfold big; grind) (by unfold big; grind) hn (h.ev i hi) (h'.ev i hi)
/-- what is expected behind all rounds is near the score -/
theorem perf_near {n score : Nat} {R : List Nat} {v : Nat → Rat} {q : Rat} (hR : RV n 2 R v) (hn0 : 0 < n) (hn : n ≤ 6) (hq : Vr single score q) (q1 : 1 / 2 ≤ q) (q2 : q ≤ (n : Rat) - 1 / 2) :
    ∃ m e S, Vr single (midF (pfS R score 23)) m ∧ m ≤ 145 / 8 ∧ -m ≤ 145 / 8 ∧ SumOps R n (midF (pfS R score 23)) ∧ SumV R n (midF (pfS R score 23)) e S ∧ Nr (ratSum e n) q ((n : Rat) / 100) := by
  obtain ⟨l, h, hr⟩ := rng_all hR hn0 hn hq 24
  obtain ⟨_, _, l0, h0, hr0, x1, x2⟩ := start_ok hR hn0 q
  have n1 : (1 : Rat) ≤ (n : Rat) := by
    have : 1 ≤ n := hn0
    exact_mod_cast this
  have n6 : (n : Rat) ≤ ((6 : Nat) : Rat) := nat_le_rat hn
  have e6 : ((6 : Nat) : Rat) = 6 := rfl
  rw [e6] at n6
  obtain ⟨_, el, Sl, vl⟩ := sumE_ok hR hn hr.gl hr.l1 hr.l2
  obtain ⟨_, eh, Sh, vh⟩ := sumE_ok hR hn hr.gh hr.h1 hr.h2
  have hw : Nr l h (1 / 40000) := ⟨by have := hr.w.1; have := wd_end; grind, by have := hr.w.2; have := wd_end; grind⟩
  have hnear := sums_near hR hr.gl hr.gh hr.l1 hr.l2 hr.h1 hr.h2 hw vl vh
  obtain ⟨y1, y2⟩ := hnear
  -- at the lower end not much more is expected
  have hlow : ratSum el n ≤ q + 1 / 1000 := by
    rcases hr.cl with e | ⟨e, S, hS, hlt⟩
    · have hl : l = l0 := vr_uni (by have := hr.gl; rw [e] at this; exact this) hr0.gl
      have hle : ∀ i, i < n → el i ≤ 1 / 1000 := fun i hi => by
        have b1 := hR.hi i hi
        have b2 := hR.lo i hi
        have b3 := x1 i hi
        have b4 := hr.l1
        have b5 := hr.l2
        rw [← hl] at b3
        exact eW_low hr.gl (hR.vr i hi) b3 (by grind) (by unfold big; grind) (by unfold big; grind) (by unfold big; grind) (by unfold big; grind) (vl.ev i hi)
      have := ratSum_lec hle
      grind
    · have hSS : S = Sl := vr_uni hS.sv vl.sv
      subst hSS
      obtain ⟨z1, z2⟩ := vl.sn
      grind
  -- at the upper end not much less
  have hhigh : q ≤ ratSum eh n + 1 / 1000 := by
    rcases hr.ch with e | ⟨e, S, hS, hle⟩
    · have hh : h = h0 := vr_uni (by have := hr.gh; rw [e] at this; exact this) hr0.gh
      have hge : ∀ i, i < n → 999 / 1000 ≤ eh i := fun i hi => by
        have b1 := hR.hi i hi
        have b2 := hR.lo i hi
        have b3 := x2 i hi
        have b4 := hr.h1
        have b5 := hr.h2
        rw [← hh] at b3
        exact eW_high hr.gh (hR.vr i hi) b3 (by grind) (by unfold big; grind) (by unfold big; grind) (by unfold big; grind) (by unfold big; grind) (vh.ev i hi)
      have := ratSum_ge hge
      grind
    · have hSS : S = Sh := vr_uni hS.sv vh.sv
      subst hSS
      obtain ⟨z1, z2⟩ := vh.sn
      grind
  rcases mid_end R score 23 with e | e
  · rw [e]
    obtain ⟨ho, _⟩ := sumE_ok hR hn hr.gl hr.l1 hr.l2
    exact ⟨l, el, Sl, hr.gl, hr.l1, hr.l2, ho, vl, ⟨by grind, by grind⟩⟩
  · rw [e]
    obtain ⟨ho, _⟩ := sumE_ok hR hn hr.gh hr.h1 hr.h2
    exact ⟨h, eh, Sh, hr.gh, hr.h1, hr.h2, ho, vh, ⟨by grind, by grind⟩⟩

open Go.RowKit

theorem run_min_f {W : World} (ts : Array TypeId) (t : TypeId) (x y : Nat) {o : Ordering} (h : Ieee.single.order x y = some o) : (Builtin.min_ ts t #[.float .f32 x, .float .f32 y]).run Try.prog W = .ok (.float .f32 (minF x y)) W := by
  have h' : (FloatKind.f32.format).order x y = some o := h
  have hd : FloatKind.f32.decode x = Ieee.single.read x := rfl
  cases o <;> simp [Builtin.min_, Builtin.min2, minF, h, h', hd]
theorem run_max_f {W : World} (ts : Array TypeId) (t : TypeId) (x y : Nat) {o : Ordering} (h : Ieee.single.order x y = some o) : (Builtin.max_ ts t #[.float .f32 x, .float .f32 y]).run Try.prog W = .ok (.float .f32 (maxF x y)) W := by
  have h' : (FloatKind.f32.format).order x y = some o := h
  have hd : FloatKind.f32.decode x = Ieee.single.read x := rfl
  cases o <;> simp [Builtin.max_, Builtin.max2, maxF, h, h', hd]
theorem vr_ord {x y : Nat} {a b : Rat} (hx : Vr Ieee.single x a) (hy : Vr Ieee.single y b) : ∃ o, Ieee.single.order x y = some o := by
  rw [vr_order hx hy]
  split
  · exact ⟨_, rfl⟩
  · split <;> exact ⟨_, rfl⟩

theorem slicesMin_ops (a : Option Addr) (n c : Nat) (R : List Nat) (v : Nat → Rat) (w : World) (h : Floats w a n c R) (hR : RV n 2 R v) (hn0 : 0 < n) (hn : n ≤ 6) :
    Calls Try.prog 55 #[.slice a n c] w (RetS w (.float .f32 (mnL R n))) := by
  obtain ⟨hc, hb, hcell⟩ := h.at 0
  have HCe := Lib.hid hcell
  have HO := Lib.hid (fun k (hk : k < n) => by
    obtain ⟨d, g, _⟩ := mnL_ok hR hn0 k (by omega)
    exact vr_ord g (hR.vr k hk))
  have H1 : Hid (mnL R 1 = R.getD 0 0) := minF_self _ (hR.vr 0 hn0)
  clear h hcell hR
  obtain ⟨b, off, rfl, hlb, hx⟩ := HCe.out 0 hn0
  have h0 := hx 0 hn0
  clear hx
  simp only [Nat.add_zero] at h0
  generalize hr0 : R.getD 0 0 = r0 at *
  go_enter Try.func55, Try.ntmps55
  go_wp2
  go_loopw [3, 4] (fun vm vi wr => ∃ k : Nat, 1 ≤ k ∧ k ≤ n ∧ vi = .int .i64 k ∧ vm = .float .f32 (mnL R k) ∧ wr = w) (fun _ vi _ => n - (intOf vi).toNat)
  case atStart => exact ⟨1, by omega, by omega, rfl, by rw [H1.out], rfl⟩
  case round =>
    obtain ⟨k, hk1, hk, rfl, rfl, rfl⟩ := hrel
    by_cases hlt : k < n
    · obtain ⟨b', off', e', hlb', hx⟩ := HCe.out k hlt
      cases e'
      have h1 := hx k hlt
      obtain ⟨o, ho⟩ := HO.out k hlt
      have HM : Hid (mnL R (k + 1) = minF (mnL R k) (R.getD k 0)) := rfl
      have hop := fun (W : World) ts t => run_min_f (W := W) ts t _ _ ho
      clear hx ho
      generalize mnL R k = m at *
      generalize R.getD k 0 = x at *
      go_wp2_with (simp only [hop])
      go_roundw
      case rel => exact ⟨k + 1, by omega, by omega, by go_num, by rw [HM.out], trivial⟩
      case measure => simp [intOf]; omega
    · obtain rfl : k = n := by omega
      go_wp2
      go_ret
      exact ⟨rfl, rfl⟩
theorem slicesMax_ops (a : Option Addr) (n c : Nat) (R : List Nat) (v : Nat → Rat) (w : World) (h : Floats w a n c R) (hR : RV n 2 R v) (hn0 : 0 < n) (hn : n ≤ 6) :
    Calls Try.prog 56 #[.slice a n c] w (RetS w (.float .f32 (mxL R n))) := by
  obtain ⟨hc, hb, hcell⟩ := h.at 0
  have HCe := Lib.hid hcell
  have HO := Lib.hid (fun k (hk : k < n) => by
    obtain ⟨d, g, _⟩ := mxL_ok hR hn0 k (by omega)
    exact vr_ord g (hR.vr k hk))
  have H1 : Hid (mxL R 1 = R.getD 0 0) := maxF_self _ (hR.vr 0 hn0)
  clear h hcell hR
  obtain ⟨b, off, rfl, hlb, hx⟩ := HCe.out 0 hn0
  have h0 := hx 0 hn0
  clear hx
  simp only [Nat.add_zero] at h0
  generalize hr0 : R.getD 0 0 = r0 at *
  go_enter Try.func56, Try.ntmps56
  go_wp2
  go_loopw [3, 4] (fun vm vi wr => ∃ k : Nat, 1 ≤ k ∧ k ≤ n ∧ vi = .int .i64 k ∧ vm = .float .f32 (mxL R k) ∧ wr = w) (fun _ vi _ => n - (intOf vi).toNat)
  case atStart => exact ⟨1, by omega, by omega, rfl, by rw [H1.out], rfl⟩
  case round =>
    obtain ⟨k, hk1, hk, rfl, rfl, rfl⟩ := hrel
    by_cases hlt : k < n
    · obtain ⟨b', off', e', hlb', hx⟩ := HCe.out k hlt
      cases e'
      have h1 := hx k hlt
      obtain ⟨o, ho⟩ := HO.out k hlt
      have HM : Hid (mxL R (k + 1) = maxF (mxL R k) (R.getD k 0)) := rfl
      have hop := fun (W : World) ts t => run_max_f (W := W) ts t _ _ ho
      clear hx ho
      generalize mxL R k = m at *
      generalize R.getD k 0 = x at *
      go_wp2_with (simp only [hop])
      go_roundw
      case rel => exact ⟨k + 1, by omega, by omega, by go_num, by rw [HM.out], trivial⟩
      case measure => simp [intOf]; omega
    · obtain rfl : k = n := by omega
      go_wp2
      go_ret
      exact ⟨rfl, rfl⟩

/-- the middle behind k rounds -/
def midB (R : List Nat) (score : Nat) : Nat → Nat
  | 0 => 0
  | k + 1 => midF (pfS R score k)
theorem scale16 : floatBits .mul .f32 1090519040 1073741824 = some w16f := by decide +kernel

set_option maxHeartbeats 3200000 in
set_option maxRecDepth 100000 in
theorem implPerformanceOf_ops (a : Option Addr) (n c : Nat) (R : List Nat) (v : Nat → Rat) (score : Nat) (q : Rat) (w : World) (h : Floats w a n c R) (hR : RV n 2 R v) (hn0 : 0 < n) (hn : n ≤ 6) (hq : Vr Ieee.single score q) (q1 : 1 / 2 ≤ q) (q2 : q ≤ (n : Rat) - 1 / 2) :
    Calls Try.prog 23 #[.slice a n c, .float .f32 score, .float .f32 1073741824, .int .i64 24] w (Ret w (.tuple #[.float .f32 (midB R score 24), .bool true])) := by
  have hn6 : (n : Rat) ≤ ((6 : Nat) : Rat) := nat_le_rat hn
  have e6 : ((6 : Nat) : Rat) = 6 := rfl
  rw [e6] at hn6
  have hs0 : Ieee.single.order score 0 = some .gt := vr_gt hq zero32 (by grind)
  have hsn : Ieee.single.order score (floatOfInt .f32 n) = some .lt := vr_lt hq (vr_int1 (n : Int) (by omega)) (by rw [show (((n : Int)) : Rat) = (n : Rat) from rfl]; grind)
  have C1 := Lib.hid (areFinite_any a n c R w h)
  rw [rv_fin hR (by grind)] at C1
  have C2 := Lib.hid (fun W => IsFinite_any score W)
  rw [vr_fin hq (by unfold big; grind) (by unfold big; grind)] at C2
  have C3 := Lib.hid (fun W => isScale_two W)
  have C4 := Lib.hid (fun W => within_any 24 1 32 W)
  rw [show inB 24 1 32 = true from rfl] at C4
  have C5 := Lib.hid (fun W (hW : Below w.heap.size w W) => slicesMin_ops a n c R v W (Row.mono h hW) hR hn0 hn)
  have C6 := Lib.hid (fun W (hW : Below w.heap.size w W) => slicesMax_ops a n c R v W (Row.mono h hW) hR hn0 hn)
  obtain ⟨es, ea, _⟩ := start_ok hR hn0 q
  have HOps := Lib.hid (fun t => rng_ops hR hn0 hn hq t)
  have CF : Hid (∀ W, Calls Try.prog 36 #[.float .f32 (midB R score 24)] W (Ret W (.tuple #[.float .f32 (midB R score 24), .bool true]))) := by
    show ∀ W, _
    intro W
    have := checked_any (midB R score 24) W
    obtain ⟨m, e, S, gm, m1, m2, _⟩ := perf_near hR hn0 hn hq q1 q2
    rw [show finB (midB R score 24) = true from vr_fin gm (by unfold big; grind) (by unfold big; grind)] at this
    exact this
  have HSt : Hid (∀ t, pfS R score (t + 1) = if Ieee.single.order (sumE R (midF (pfS R score t)) n) score = some .lt then (midF (pfS R score t), (pfS R score t).2) else ((pfS R score t).1, midF (pfS R score t))) := by
    show ∀ t, _
    intro t
    rw [← hR.len]; rfl
  have HMid : Hid (∀ t, midB R score (t + 1) = midF (pfS R score t)) := Lib.hid fun t => rfl
  have HS0 : Hid (lo0 R = (pfS R score 0).1 ∧ hi0 R = (pfS R score 0).2) := ⟨rfl, rfl⟩
  obtain ⟨hc, hb, hcell⟩ := h.at 0
  have HCe := Lib.hid hcell
  have hfm : FloatKind.f32.format = Ieee.single := rfl
  clear h hR hq q1 q2 hn6 hcell e6
  have hop0 : ∀ t W, (binOp .mul t (.float .f32 1090519040) (.float .f32 1073741824)).run Try.prog W = .ok (.float .f32 w16f) W := fun t W => run_float_arith W .mul t .f32 _ _ _ scale16
  generalize w16f = x16 at *
  have hop1 : ∀ t W, (binOp .sub t (.float .f32 (mnL R n)) (.float .f32 x16)).run Try.prog W = .ok (.float .f32 (lo0 R)) W := fun t W => run_float_arith W .sub t .f32 _ _ _ es
  have hop2 : ∀ t W, (binOp .add t (.float .f32 (mxL R n)) (.float .f32 x16)).run Try.prog W = .ok (.float .f32 (hi0 R)) W := fun t W => run_float_arith W .add t .f32 _ _ _ ea
  clear es ea
  generalize mnL R n = mn at *
  generalize mxL R n = mx at *
  generalize lo0 R = L0 at *
  generalize hi0 R = H0 at *
  go_enter Try.func23, Try.ntmps23
  go_wp2_with (fail)
  refine C1.out.mono ?_
  rintro e w1 ⟨rfl, hb1⟩
  have HB1 := Lib.hid hb1
  clear hb1 C1
  go_wp2_with (fail)
  refine (C2.out _).mono ?_
  rintro e w2 ⟨rfl, hb2⟩
  have HB2 := Lib.hid (below_step HB1.out HB1.out.size hb2)
  clear hb2 HB1 C2
  go_wp2_with (fail)
  refine (C3.out _).mono ?_
  rintro e w3 ⟨rfl, hb3⟩
  have HB3 := Lib.hid (below_step HB2.out HB2.out.size hb3)
  clear hb3 HB2 C3
  go_wp2_with (fail)
  refine (C4.out _).mono ?_
  rintro e w4 ⟨rfl, rfl⟩
  clear C4
  go_wp2_with (fail)
  refine (C5.out _ HB3.out).mono ?_
  rintro e w4 ⟨rfl, rfl⟩
  clear C5
  go_wp2_with (simp only [hop0, hop1, hop2])
  refine (C6.out _ HB3.out).mono ?_
  rintro e w4 ⟨rfl, rfl⟩
  clear C6
  go_wp2_with (simp only [hop0, hop1, hop2])
  go_loopw [11, 12, 13, 68] (fun vl vh vm vi wr => ∃ k : Nat, k ≤ 24 ∧ vi = .int .i64 k ∧ vl = .float .f32 (pfS R score k).1 ∧ vh = .float .f32 (pfS R score k).2 ∧ vm = .float .f32 (midB R score k) ∧ Below w.heap.size w wr) (fun _ _ _ vi _ => 24 - (intOf vi).toNat)
  case atStart => exact ⟨0, by omega, rfl, by rw [HS0.out.1], by rw [HS0.out.2], rfl, HB3.out⟩
  case round =>
    clear HB3
    obtain ⟨k, hk, rfl, rfl, rfl, rfl, hb⟩ := hrel
    have HB := Lib.hid hb
    have hsz := hb.size
    clear hb hop0 hop1 hop2
    by_cases hlt : k < 24
    · obtain ⟨ad, mu, su, hor⟩ := HOps.out k
      have hSt := HSt.out k
      have hMid := HMid.out k
      unfold fHalf at mu
      have HEx := Lib.hid su.ex
      have HAd := Lib.hid su.ad
      have HZ : Hid (sumE R (midF (pfS R score k)) 0 = 0) := rfl
      clear su HOps HSt HMid
      generalize midF (pfS R score k) = m at *
      have hop1 : ∀ t W, (binOp .add t (.float .f32 (pfS R score k).1) (.float .f32 (pfS R score k).2)).run Try.prog W = .ok (.float .f32 (aS (pfS R score k).1 (pfS R score k).2)) W := fun t W => run_float_arith W .add t .f32 _ _ _ ad
      have hop2 : ∀ t W, (binOp .mul t (.float .f32 1056964608) (.float .f32 (aS (pfS R score k).1 (pfS R score k).2))).run Try.prog W = .ok (.float .f32 m) W := fun t W => run_float_arith W .mul t .f32 _ _ _ mu
      clear ad mu
      have HStN := Lib.hid hSt
      have HMidN := Lib.hid hMid
      clear hSt hMid
      generalize aS (pfS R score k).1 (pfS R score k).2 = s at *
      generalize pfS R score k = P0 at *
      generalize midB R score k = M0 at *
      obtain ⟨p0, p1⟩ := P0
      dsimp only at *
      go_wp2_with (simp only [hop1, hop2])
      clear hop1 hop2
      go_loopw [14, 76] (fun vs vi wr => ∃ i : Nat, i ≤ n ∧ vi = .int .i64 i ∧ vs = .float .f32 (sumE R m i) ∧ Below w.heap.size w wr) (fun _ vi _ => n - (intOf vi).toNat)
      case atStart => exact ⟨0, by omega, rfl, by rw [HZ.out], HB.out⟩
      case round =>
        clear HB
        obtain ⟨i, hi, rfl, rfl, hb⟩ := hrel
        have HB := Lib.hid hb
        have hsz := hb.size
        by_cases hli : i < n
        · obtain ⟨b, off, rfl, hlb, hx⟩ := HCe.out i hli
          have h0 := cell_on (hb.mono (Nat.le_refl _)) (hx i hli)
          have CE := Lib.hid (fun W => implExpectOf_ops (HEx.out i hli) W)
          have had := HAd.out i hli
          clear hx hb
          generalize R.getD i 0 = x at *
          generalize sumE R m i = S0 at *
          generalize eW m x = E at *
          have hop : ∀ t W, (binOp .add t (.float .f32 S0) (.float .f32 E)).run Try.prog W = .ok (.float .f32 (sumE R m (i + 1))) W := fun t W => run_float_arith W .add t .f32 _ _ _ had
          clear had
          go_wp2_with (fail)
          refine (CE.out _).mono ?_
          rintro e w6 ⟨rfl, hb6⟩
          have HB6 := Lib.hid (below_step HB.out HB.out.size hb6)
          clear hb6 HB CE
          go_wp2_with (simp only [hop])
          go_roundw
          case rel => exact ⟨i + 1, by omega, by go_num, rfl, HB6.out⟩
          case measure => simp [intOf]; omega
        · obtain rfl : i = n := by omega
          clear hb
          rcases hor with hor | hor | hor
          · have hP := Lib.hid (HStN.out.trans (if_pos hor))
            generalize sumE R m i = S0 at *
            go_wp2
            go_roundw
            case rel => exact ⟨k + 1, by omega, by go_num, by rw [hP.out], by rw [hP.out], by rw [HMidN.out], HB.out⟩
            case measure => simp [intOf]; omega
          · have hP := Lib.hid (HStN.out.trans (if_neg (by rw [hor]; intro e; cases e)))
            generalize sumE R m i = S0 at *
            go_wp2
            go_roundw
            case rel => exact ⟨k + 1, by omega, by go_num, by rw [hP.out], by rw [hP.out], by rw [HMidN.out], HB.out⟩
            case measure => simp [intOf]; omega
          · have hP := Lib.hid (HStN.out.trans (if_neg (by rw [hor]; intro e; cases e)))
            generalize sumE R m i = S0 at *
            go_wp2
            go_roundw
            case rel => exact ⟨k + 1, by omega, by go_num, by rw [hP.out], by rw [hP.out], by rw [HMidN.out], HB.out⟩
            case measure => simp [intOf]; omega
    · obtain rfl : k = 24 := by omega
      clear HOps HSt HMid HS0
      generalize pfS R score 24 = P0 at *
      generalize midB R score 24 = M0 at *
      go_wp2_with (fail)
      refine (CF.out _).mono ?_
      rintro e w6 ⟨rfl, hb6⟩
      have HB6 := Lib.hid (below_step HB.out HB.out.size hb6)
      clear hb6 HB
      go_wp2
      go_ret2
      exact ⟨rfl, HB6.out⟩

set_option maxHeartbeats 3200000 in
set_option maxRecDepth 100000 in
theorem specPerformanceOf_ops (a : Option Addr) (n c : Nat) (R : List Nat) (v : Nat → Rat) (score : Nat) (q : Rat) (w : World) (h : Floats w a n c R) (hR : RV n 2 R v) (hn0 : 0 < n) (hn : n ≤ 6) (hq : Vr Ieee.single score q) (q1 : 1 / 2 ≤ q) (q2 : q ≤ (n : Rat) - 1 / 2) :
    Calls Try.prog 24 #[.slice a n c, .float .f32 score, .float .f32 1073741824, .int .i64 24] w (Ret w (.tuple #[.float .f32 (midB R score 24), .bool true])) := by
  have hn6 : (n : Rat) ≤ ((6 : Nat) : Rat) := nat_le_rat hn
  have e6 : ((6 : Nat) : Rat) = 6 := rfl
  rw [e6] at hn6
  have hs0 : Ieee.single.order score 0 = some .gt := vr_gt hq zero32 (by grind)
  have hsn : Ieee.single.order score (floatOfInt .f32 n) = some .lt := vr_lt hq (vr_int1 (n : Int) (by omega)) (by rw [show (((n : Int)) : Rat) = (n : Rat) from rfl]; grind)
  have C1 := Lib.hid (l02Finite_any a n c R w h)
  rw [rv_fin hR (by grind)] at C1
  have C3 := Lib.hid (fun W => l02Above_any 1073741824 W)
  rw [posB_two] at C3
  have C4 := Lib.hid (fun W => l00In_any 24 1 32 W)
  rw [show inB 24 1 32 = true from rfl] at C4
  have HMn := Lib.hid (fun k (hk : k < n) => by
    obtain ⟨d, g, _⟩ := mnL_ok hR hn0 k (by omega)
    exact vr_ord g (hR.vr k hk))
  have HMx := Lib.hid (fun k (hk : k < n) => by
    obtain ⟨d, g, _⟩ := mxL_ok hR hn0 k (by omega)
    exact vr_ord g (hR.vr k hk))
  obtain ⟨es, ea, _⟩ := start_ok hR hn0 q
  have HOps := Lib.hid (fun t => rng_ops hR hn0 hn hq t)
  have CF : Hid (∀ W, Calls Try.prog 54 #[.float .f32 (midB R score 24)] W (Ret W (.tuple #[.float .f32 (midB R score 24), .bool true]))) := by
    show ∀ W, _
    intro W
    have := l02Number_any (midB R score 24) W
    obtain ⟨m, e, S, gm, m1, m2, _⟩ := perf_near hR hn0 hn hq q1 q2
    rw [show finB (midB R score 24) = true from vr_fin gm (by unfold big; grind) (by unfold big; grind)] at this
    exact this
  have HSt : Hid (∀ t, pfS R score (t + 1) = if Ieee.single.order (sumE R (midF (pfS R score t)) n) score = some .lt then (midF (pfS R score t), (pfS R score t).2) else ((pfS R score t).1, midF (pfS R score t))) := by
    show ∀ t, _
    intro t
    rw [← hR.len]; rfl
  have HMid : Hid (∀ t, midB R score (t + 1) = midF (pfS R score t)) := Lib.hid fun t => rfl
  have HS0 : Hid (lo0 R = (pfS R score 0).1 ∧ hi0 R = (pfS R score 0).2) := ⟨rfl, rfl⟩
  obtain ⟨hc, hb, hcell⟩ := h.at 0
  have HCe := Lib.hid hcell
  have hfm : FloatKind.f32.format = Ieee.single := rfl
  clear h hR hq q1 q2 hn6 hcell e6
  have hop0 : ∀ t W, (binOp .mul t (.float .f32 1090519040) (.float .f32 1073741824)).run Try.prog W = .ok (.float .f32 w16f) W := fun t W => run_float_arith W .mul t .f32 _ _ _ scale16
  generalize w16f = x16 at *
  have hop1 : ∀ t W, (binOp .sub t (.float .f32 (mnL R n)) (.float .f32 x16)).run Try.prog W = .ok (.float .f32 (lo0 R)) W := fun t W => run_float_arith W .sub t .f32 _ _ _ es
  have hop2 : ∀ t W, (binOp .add t (.float .f32 (mxL R n)) (.float .f32 x16)).run Try.prog W = .ok (.float .f32 (hi0 R)) W := fun t W => run_float_arith W .add t .f32 _ _ _ ea
  clear es ea
  generalize lo0 R = L0 at *
  generalize hi0 R = H0 at *
  have HM0 : Hid (mnL R 0 = R.getD 0 0) := rfl
  have HM1 : Hid (mxL R 0 = R.getD 0 0) := rfl
  obtain ⟨b, off, rfl, hlb, hx⟩ := HCe.out 0 hn0
  have HX := Lib.hid hx
  clear hx
  go_enter Try.func24, Try.ntmps24
  go_wp2_with (fail)
  refine C1.out.mono ?_
  rintro e w1 ⟨rfl, hb1⟩
  have HB1 := Lib.hid hb1
  clear hb1 C1
  go_wp2_with (fail)
  refine (C3.out _).mono ?_
  rintro e w3 ⟨rfl, hb3⟩
  have HB3 := Lib.hid (below_step HB1.out HB1.out.size hb3)
  clear hb3 HB1 C3
  go_wp2_with (fail)
  refine (C4.out _).mono ?_
  rintro e w4 ⟨rfl, rfl⟩
  clear C4
  have h0 := cell_on HB3.out (HX.out 0 hn0)
  simp only [Nat.add_zero] at h0
  generalize R.getD 0 0 = r0 at *
  go_wp2
  clear h0
  go_loopw [11, 12, 61] (fun vl vh vi wr => ∃ k : Nat, k ≤ n ∧ vi = .int .i64 k ∧ vl = .float .f32 (mnL R k) ∧ vh = .float .f32 (mxL R k) ∧ Below w.heap.size w wr) (fun _ _ vi _ => n - (intOf vi).toNat)
  case atStart => exact ⟨0, by omega, rfl, by rw [HM0.out], by rw [HM1.out], HB3.out⟩
  case round =>
   clear HB3
   obtain ⟨k, hk, rfl, rfl, rfl, hb⟩ := hrel
   have HB := Lib.hid hb
   by_cases hlt : k < n
   · have h0 := cell_on hb (HX.out k hlt)
     obtain ⟨o1, ho1⟩ := HMn.out k hlt
     obtain ⟨o2, ho2⟩ := HMx.out k hlt
     have E1 : Hid (mnL R (k + 1) = minF (mnL R k) (R.getD k 0)) := rfl
     have E2 : Hid (mxL R (k + 1) = maxF (mxL R k) (R.getD k 0)) := rfl
     have hop3 := fun (W : World) ts t => run_min_f (W := W) ts t _ _ ho1
     have hop4 := fun (W : World) ts t => run_max_f (W := W) ts t _ _ ho2
     clear ho1 ho2 hb hop0 hop1 hop2
     generalize mnL R k = m1 at *
     generalize mxL R k = m2 at *
     generalize R.getD k 0 = x at *
     go_wp2_with (simp only [hop3, hop4])
     go_roundw
     case rel => exact ⟨k + 1, by omega, by go_num, by rw [E1.out], by rw [E2.out], HB.out⟩
     case measure => simp [intOf]; omega
   · obtain rfl : k = n := by omega
     have HB3 := Lib.hid hb
     clear hb HB HMn HMx HM0 HM1
     generalize mnL R k = mn at *
     generalize mxL R k = mx at *
     go_wp2_with (simp only [hop0, hop1, hop2])
     go_loopw [3, 11, 12, 14] (fun vi vl vh vm wr => ∃ K : Nat, K ≤ 24 ∧ vi = .int .i64 ((24 - K : Nat) : Int) ∧ vl = .float .f32 (pfS R score K).1 ∧ vh = .float .f32 (pfS R score K).2 ∧ vm = .float .f32 (midB R score K) ∧ Below w.heap.size w wr) (fun vi _ _ _ _ => (intOf vi).toNat)
     case atStart => exact ⟨0, by omega, rfl, by rw [HS0.out.1], by rw [HS0.out.2], rfl, HB3.out⟩
     case round =>
       clear HB3
       obtain ⟨K, hk, rfl, rfl, rfl, rfl, hb⟩ := hrel
       have HB := Lib.hid hb
       have hsz := hb.size
       clear hb hop0 hop1 hop2
       by_cases hlt : K < 24
       · obtain ⟨ad, mu, su, hor⟩ := HOps.out K
         have hSt := HSt.out K
         have hMid := HMid.out K
         unfold fHalf at mu
         have HEx := Lib.hid su.ex
         have HAd := Lib.hid su.ad
         have HZ : Hid (sumE R (midF (pfS R score K)) 0 = 0) := rfl
         clear su HOps HSt HMid
         generalize midF (pfS R score K) = m at *
         have hop1 : ∀ t W, (binOp .add t (.float .f32 (pfS R score K).1) (.float .f32 (pfS R score K).2)).run Try.prog W = .ok (.float .f32 (aS (pfS R score K).1 (pfS R score K).2)) W := fun t W => run_float_arith W .add t .f32 _ _ _ ad
         have hop2 : ∀ t W, (binOp .mul t (.float .f32 1056964608) (.float .f32 (aS (pfS R score K).1 (pfS R score K).2))).run Try.prog W = .ok (.float .f32 m) W := fun t W => run_float_arith W .mul t .f32 _ _ _ mu
         clear ad mu
         have HStN := Lib.hid hSt
         have HMidN := Lib.hid hMid
         clear hSt hMid
         generalize aS (pfS R score K).1 (pfS R score K).2 = s at *
         generalize pfS R score K = P0 at *
         generalize midB R score K = M0 at *
         obtain ⟨p0, p1⟩ := P0
         dsimp only at *
         go_wp2_with (simp only [hop1, hop2])
         clear hop1 hop2
         go_loopw [15, 95] (fun vs vi wr => ∃ i : Nat, i ≤ k ∧ vi = .int .i64 i ∧ vs = .float .f32 (sumE R m i) ∧ Below w.heap.size w wr) (fun _ vi _ => k - (intOf vi).toNat)
         case atStart => exact ⟨0, by omega, rfl, by rw [HZ.out], HB.out⟩
         case round =>
           clear HB
           obtain ⟨i, hi, rfl, rfl, hb⟩ := hrel
           have HB := Lib.hid hb
           have hsz := hb.size
           by_cases hli : i < k
           · have h0 := cell_on (hb.mono (Nat.le_refl _)) (HX.out i hli)
             have CE := Lib.hid (fun W => specExpectOf_ops (HEx.out i hli) W)
             have had := HAd.out i hli
             clear hb
             generalize R.getD i 0 = x at *
             generalize sumE R m i = S0 at *
             generalize eW m x = E at *
             have hop : ∀ t W, (binOp .add t (.float .f32 S0) (.float .f32 E)).run Try.prog W = .ok (.float .f32 (sumE R m (i + 1))) W := fun t W => run_float_arith W .add t .f32 _ _ _ had
             clear had
             go_wp2_with (fail)
             refine (CE.out _).mono ?_
             rintro e w6 ⟨rfl, hb6⟩
             have HB6 := Lib.hid (below_step HB.out HB.out.size hb6)
             clear hb6 HB CE
             go_wp2_with (simp only [hop])
             go_roundw
             case rel => exact ⟨i + 1, by omega, by go_num, rfl, HB6.out⟩
             case measure => simp [intOf]; omega
           · obtain rfl : i = k := by omega
             clear hb
             rcases hor with hor | hor | hor
             · have hP := Lib.hid (HStN.out.trans (if_pos hor))
               generalize sumE R m i = S0 at *
               go_wp2
               go_roundw
               case rel => exact ⟨K + 1, by omega, by congr 1; omega, by rw [hP.out], by rw [hP.out], by rw [HMidN.out], HB.out⟩
               case measure => simp [intOf]; omega
             · have hP := Lib.hid (HStN.out.trans (if_neg (by rw [hor]; intro e; cases e)))
               generalize sumE R m i = S0 at *
               go_wp2
               go_roundw
               case rel => exact ⟨K + 1, by omega, by congr 1; omega, by rw [hP.out], by rw [hP.out], by rw [HMidN.out], HB.out⟩
               case measure => simp [intOf]; omega
             · have hP := Lib.hid (HStN.out.trans (if_neg (by rw [hor]; intro e; cases e)))
               generalize sumE R m i = S0 at *
               go_wp2
               go_roundw
               case rel => exact ⟨K + 1, by omega, by congr 1; omega, by rw [hP.out], by rw [hP.out], by rw [HMidN.out], HB.out⟩
               case measure => simp [intOf]; omega
       · obtain rfl : K = 24 := by omega
         clear HOps HSt HMid HS0
         generalize pfS R score 24 = P0 at *
         generalize midB R score 24 = M0 at *
         go_wp2_with (fail)
         refine (CF.out _).mono ?_
         rintro e w6 ⟨rfl, hb6⟩
         have HB6 := Lib.hid (below_step HB.out HB.out.size hb6)
         clear hb6 HB
         go_wp2
         go_ret2
         exact ⟨rfl, HB6.out⟩

end Go.Proofs.Ytcflgmjjomiejaa
