/- HasTour, plain facts: trails, Euler. -/
import Derived.Test.YtnagmeeoeilbcaaLongA
namespace Go.Proofs.Ytnagmeeoeilbcaa
open Go.RowKit
set_option linter.unusedVariables false

def one (a v : Nat) : Nat := if a = v then 1 else 0
def deg (A B : Nat → Nat) (S : List Nat) (v : Nat) : Nat := (S.map fun i => one (A i) v + one (B i) v).sum
/-- a walk over tiles, each at most once -/
def Trail (A B : Nat → Nat) (n : Nat) : Nat → List Nat → Nat → Prop
  | b, [], e => b = e
  | b, i :: S, e => i < n ∧ i ∉ S ∧ ((A i = b ∧ Trail A B n (B i) S e) ∨ (B i = b ∧ Trail A B n (A i) S e))
theorem deg_nil (A B : Nat → Nat) (v : Nat) : deg A B [] v = 0 := rfl
theorem deg_cons (A B : Nat → Nat) (i : Nat) (S : List Nat) (v : Nat) : deg A B (i :: S) v = one (A i) v + one (B i) v + deg A B S v := by simp [deg]
theorem deg_append (A B : Nat → Nat) (S T : List Nat) (v : Nat) : deg A B (S ++ T) v = deg A B S v + deg A B T v := by simp [deg]
theorem deg_succ (A B : Nat → Nat) (k v : Nat) : deg A B (List.range (k + 1)) v = deg A B (List.range k) v + (one (A k) v + one (B k) v) := by
  rw [List.range_succ, deg_append, deg_cons, deg_nil]; omega

section
variable {A B : Nat → Nat} {n : Nat}
theorem Trail.lt : ∀ {S : List Nat} {b e : Nat}, Trail A B n b S e → ∀ i ∈ S, i < n := by
  intro S
  induction S with
  | nil => intro b e _ i hi; cases hi
  | cons j S ih =>
    intro b e h i hi
    obtain ⟨h1, h2, h3⟩ := h
    rcases List.mem_cons.1 hi with q | q
    · subst q; exact h1
    · rcases h3 with ⟨_, h3⟩ | ⟨_, h3⟩ <;> exact ih h3 i q
theorem Trail.nodup : ∀ {S : List Nat} {b e : Nat}, Trail A B n b S e → S.Nodup := by
  intro S
  induction S with
  | nil => intro b e _; exact List.nodup_nil
  | cons j S ih =>
    intro b e h
    obtain ⟨h1, h2, h3⟩ := h
    refine List.nodup_cons.2 ⟨h2, ?_⟩
    rcases h3 with ⟨_, h3⟩ | ⟨_, h3⟩ <;> exact ih h3
theorem Trail.deg : ∀ {S : List Nat} {b e : Nat}, Trail A B n b S e → ∀ v, (deg A B S v) % 2 = (one b v + one e v) % 2 := by
  intro S
  induction S with
  | nil => intro b e h v; obtain rfl : b = e := h; rw [deg_nil]; omega
  | cons j S ih =>
    intro b e h v
    obtain ⟨h1, h2, h3⟩ := h
    rw [deg_cons]
    rcases h3 with ⟨q, h3⟩ | ⟨q, h3⟩
    · have := ih h3 v; subst q; omega
    · have := ih h3 v; subst q; omega
theorem Trail.append : ∀ {S T : List Nat} {b m e : Nat}, Trail A B n b S m → Trail A B n m T e → (∀ i ∈ S, i ∉ T) → Trail A B n b (S ++ T) e := by
  intro S
  induction S with
  | nil => intro T b m e h k _; obtain rfl : b = m := h; exact k
  | cons j S ih =>
    intro T b m e h k hd
    obtain ⟨h1, h2, h3⟩ := h
    have hd' : ∀ i ∈ S, i ∉ T := fun i hi => hd i (List.mem_cons_of_mem _ hi)
    refine ⟨h1, fun q => ?_, ?_⟩
    · rcases List.mem_append.1 q with q | q
      · exact h2 q
      · exact hd j List.mem_cons_self q
    · rcases h3 with ⟨q, h3⟩ | ⟨q, h3⟩
      · exact .inl ⟨q, ih h3 k hd'⟩
      · exact .inr ⟨q, ih h3 k hd'⟩
theorem Trail.append_inv : ∀ {S T : List Nat} {b e : Nat}, Trail A B n b (S ++ T) e → ∃ m, Trail A B n b S m ∧ Trail A B n m T e ∧ (∀ i ∈ S, i ∉ T) := by
  intro S
  induction S with
  | nil => intro T b e h; exact ⟨b, rfl, h, fun i hi => by cases hi⟩
  | cons j S ih =>
    intro T b e h
    obtain ⟨h1, h2, h3⟩ := h
    have g1 : j ∉ S := fun q => h2 (List.mem_append_left _ q)
    have g2 : j ∉ T := fun q => h2 (List.mem_append_right _ q)
    rcases h3 with ⟨q, h3⟩ | ⟨q, h3⟩
    · obtain ⟨m, k1, k2, k3⟩ := ih h3
      exact ⟨m, ⟨h1, g1, .inl ⟨q, k1⟩⟩, k2, fun i hi => by
        rcases List.mem_cons.1 hi with r | r
        · subst r; exact g2
        · exact k3 i r⟩
    · obtain ⟨m, k1, k2, k3⟩ := ih h3
      exact ⟨m, ⟨h1, g1, .inr ⟨q, k1⟩⟩, k2, fun i hi => by
        rcases List.mem_cons.1 hi with r | r
        · subst r; exact g2
        · exact k3 i r⟩
def Touch (A B : Nat → Nat) (S : List Nat) (b v : Nat) : Prop := v = b ∨ ∃ i ∈ S, A i = v ∨ B i = v
theorem Trail.split : ∀ {S : List Nat} {b e : Nat}, Trail A B n b S e → ∀ v, Touch A B S b v → ∃ S1 S2, S = S1 ++ S2 ∧ Trail A B n b S1 v ∧ Trail A B n v S2 e := by
  intro S
  induction S with
  | nil =>
    intro b e h v hv
    rcases hv with q | ⟨i, hi, _⟩
    · subst q; exact ⟨[], [], rfl, rfl, h⟩
    · cases hi
  | cons j S ih =>
    intro b e h v hv
    by_cases hvb : v = b
    · subst hvb; exact ⟨[], j :: S, rfl, rfl, h⟩
    · have h0 := h
      obtain ⟨h1, h2, h3⟩ := h
      rcases hv with q | ⟨i, hi, hiv⟩
      · exact absurd q hvb
      · rcases h3 with ⟨q, h3⟩ | ⟨q, h3⟩
        · have ht : Touch A B S (B j) v := by
            rcases List.mem_cons.1 hi with r | r
            · subst r
              rcases hiv with r | r
              · exact absurd (r.symm.trans q) hvb
              · exact .inl r.symm
            · exact .inr ⟨i, r, hiv⟩
          obtain ⟨S1, S2, e1, k1, k2⟩ := ih h3 v ht
          exact ⟨j :: S1, S2, by rw [e1]; rfl, ⟨h1, fun r => h2 (by rw [e1]; exact List.mem_append_left _ r), .inl ⟨q, k1⟩⟩, k2⟩
        · have ht : Touch A B S (A j) v := by
            rcases List.mem_cons.1 hi with r | r
            · subst r
              rcases hiv with r | r
              · exact .inl r.symm
              · exact absurd (r.symm.trans q) hvb
            · exact .inr ⟨i, r, hiv⟩
          obtain ⟨S1, S2, e1, k1, k2⟩ := ih h3 v ht
          exact ⟨j :: S1, S2, by rw [e1]; rfl, ⟨h1, fun r => h2 (by rw [e1]; exact List.mem_append_left _ r), .inr ⟨q, k1⟩⟩, k2⟩
end

theorem nodup_len : ∀ (n : Nat) (l : List Nat), l.Nodup → (∀ x ∈ l, x < n) → l.length ≤ n := by
  intro n
  induction n with
  | zero => intro l _ h; cases l with
    | nil => exact Nat.le_refl _
    | cons a l => exact absurd (h a List.mem_cons_self) (Nat.not_lt_zero _)
  | succ n ih =>
    intro l hd h
    have h1 := ih (l.erase n) (hd.erase n) (fun x hx => by
      have h2 := h x (List.mem_of_mem_erase hx)
      have h3 : x ≠ n := fun q => by subst q; exact (List.Nodup.not_mem_erase hd) hx
      omega)
    have h2 : l.length - 1 ≤ (l.erase n).length := by rw [List.length_erase]; split <;> omega
    omega
theorem nodup_full {n : Nat} {l : List Nat} (hd : l.Nodup) (h : ∀ x ∈ l, x < n) (hl : l.length = n) : ∀ j, j < n → j ∈ l := by
  intro j hj
  by_cases q : j ∈ l
  · exact q
  · have := nodup_len n (j :: l) (List.nodup_cons.2 ⟨q, hd⟩) (fun x hx => by
      rcases List.mem_cons.1 hx with r | r
      · subst r; exact hj
      · exact h x r)
    rw [List.length_cons] at this
    omega
theorem nodup_miss {n : Nat} {l : List Nat} (hl : l.length < n) : ∃ j, j < n ∧ j ∉ l := by
  apply Classical.byContradiction
  intro hc
  have h1 : ∀ j, j < n → j ∈ l := fun j hj => Classical.byContradiction fun q => hc ⟨j, hj, q⟩
  have h2 : ∀ (m : Nat) (l : List Nat), (∀ j, j < m → j ∈ l) → m ≤ l.length := by
    intro m
    induction m with
    | zero => intro l _; exact Nat.zero_le _
    | succ m ih =>
      intro l h
      have h3 := ih (l.erase m) (fun j hj => (List.mem_erase_of_ne (by omega)).2 (h j (by omega)))
      have h4 := h m (by omega)
      rw [List.length_erase_of_mem h4] at h3
      have := List.length_pos_of_mem h4
      omega
  have := h2 n l h1
  omega
theorem deg_perm {A B : Nat → Nat} {S T : List Nat} (h : S.Perm T) (v : Nat) : deg A B S v = deg A B T v := by
  unfold deg
  exact (h.map _).sum_nat
theorem deg_filter (A B : Nat → Nat) (p : Nat → Bool) (v : Nat) : ∀ (l : List Nat), deg A B (l.filter p) v + deg A B (l.filter fun x => !p x) v = deg A B l v := by
  intro l
  induction l with
  | nil => rfl
  | cons a l ih =>
    rw [deg_cons, List.filter_cons, List.filter_cons]
    cases h : p a
    · simp only [Bool.not_false, if_true, if_false, Bool.false_eq_true]; rw [deg_cons]; omega
    · simp only [Bool.not_true, if_true, if_false, Bool.false_eq_true]; rw [deg_cons]; omega
theorem nodup_perm {S T : List Nat} (h1 : S.Nodup) (h2 : T.Nodup) (h : ∀ x, x ∈ S ↔ x ∈ T) : S.Perm T := by
  rw [List.perm_iff_count]
  intro a
  rw [h1.count, h2.count]
  simp only [h a]
/-- the degree of what lies and of what does not -/
theorem deg_part {A B : Nat → Nat} {n : Nat} {S : List Nat} (hd : S.Nodup) (hl : ∀ x ∈ S, x < n) (v : Nat) (h : ∀ i, i < n → i ∉ S → A i ≠ v ∧ B i ≠ v) : deg A B (List.range n) v = deg A B S v := by
  rw [← deg_filter A B (fun i => decide (i ∈ S)) v (List.range n)]
  have e1 : deg A B ((List.range n).filter fun i => decide (i ∈ S)) v = deg A B S v := deg_perm (nodup_perm (List.nodup_range.filter _) hd fun x => by
    simp only [List.mem_filter, List.mem_range, decide_eq_true_eq]
    exact ⟨fun q => q.2, fun q => ⟨hl x q, q⟩⟩) v
  have e2 : ∀ (l : List Nat), (∀ i ∈ l, A i ≠ v ∧ B i ≠ v) → deg A B l v = 0 := by
    intro l
    induction l with
    | nil => intro _; rfl
    | cons a l ih =>
      intro g
      rw [deg_cons, ih fun i hi => g i (List.mem_cons_of_mem _ hi), one, one, if_neg (g a List.mem_cons_self).1, if_neg (g a List.mem_cons_self).2]
  have e3 := e2 ((List.range n).filter fun x => !decide (x ∈ S)) (fun i hi => by
    simp only [List.mem_filter, List.mem_range, Bool.not_eq_true', decide_eq_false_iff_not] at hi
    exact h i hi.1 hi.2)
  omega
theorem last_one (P : Nat → Prop) (h0 : P 0) (n : Nat) (hn : ¬ P (n + 1)) : ∃ k, P k ∧ ¬ P (k + 1) := by
  apply Classical.byContradiction
  intro hc
  have h1 : ∀ k, P k := by
    intro k
    induction k with
    | zero => exact h0
    | succ k ih => exact Classical.byContradiction fun q => hc ⟨k, ih, q⟩
  exact hn (h1 _)
theorem Trail.len {A B : Nat → Nat} {n : Nat} {S : List Nat} {b e : Nat} (h : Trail A B n b S e) : S.length ≤ n := nodup_len n S h.nodup h.lt
theorem Trail.single {A B : Nat → Nat} {n i : Nat} (h : i < n) : Trail A B n (A i) [i] (B i) := ⟨h, by simp, .inl ⟨rfl, rfl⟩⟩
theorem Trail.single' {A B : Nat → Nat} {n i : Nat} (h : i < n) : Trail A B n (B i) [i] (A i) := ⟨h, by simp, .inr ⟨rfl, rfl⟩⟩
theorem Trail.rot {A B : Nat → Nat} {n b v : Nat} {S1 S2 : List Nat} (h : Trail A B n b (S1 ++ S2) b) (h1 : Trail A B n b S1 v) (h2 : Trail A B n v S2 b) : Trail A B n v (S2 ++ S1) v :=
  h2.append h1 fun i hi q => by
    have := List.nodup_append.1 h.nodup
    exact this.2.2 i q i hi rfl

/-- EULER: all degrees even. -/
theorem euler_even {A B : Nat → Nat} {n : Nat} (hn : 0 < n) (heven : ∀ v, deg A B (List.range n) v % 2 = 0) (hconn : ∀ Q : Nat → Prop, (∀ i, i < n → (Q (A i) ↔ Q (B i))) → ∀ i j, i < n → j < n → Q (A i) → Q (A j)) : ∃ b S, Trail A B n b S b ∧ S.length = n := by
  obtain ⟨k, ⟨b, S, e, hT, hk⟩, hmax⟩ := last_one (fun k => ∃ b S e, Trail A B n b S e ∧ S.length = k) ⟨0, [], 0, rfl, rfl⟩ n (by
    rintro ⟨b, S, e, h, hl⟩
    have := h.len
    omega)
  have hbe : b = e := by
    apply Classical.byContradiction
    intro hne
    have h1 := hT.deg e
    have h2 : one b e = 0 := if_neg hne
    have h3 : one e e = 1 := if_pos rfl
    rw [h2, h3] at h1
    by_cases hu : ∀ i, i < n → i ∉ S → A i ≠ e ∧ B i ≠ e
    · have := deg_part hT.nodup hT.lt e hu
      have := heven e
      omega
    · obtain ⟨i, hi⟩ := Classical.not_forall.1 hu
      obtain ⟨hin, hi⟩ := Classical.not_imp.1 hi
      obtain ⟨hiS, hi⟩ := Classical.not_imp.1 hi
      have hd : ∀ j ∈ S, j ∉ [i] := fun j hj q => hiS (by rw [← List.mem_singleton.1 q]; exact hj)
      by_cases ha : A i = e
      · exact hmax ⟨b, S ++ [i], B i, hT.append (by rw [← ha]; exact Trail.single hin) hd, by simp [hk]⟩
      · have hb : B i = e := Classical.byContradiction fun q => hi ⟨ha, q⟩
        exact hmax ⟨b, S ++ [i], A i, hT.append (by rw [← hb]; exact Trail.single' hin) hd, by simp [hk]⟩
  subst hbe
  refine ⟨b, S, hT, ?_⟩
  apply Classical.byContradiction
  intro hlen
  have hlt : S.length < n := by have := hT.len; omega
  obtain ⟨i0, hi0, hi0S⟩ := nodup_miss hlt
  have hun : ∀ i, i < n → i ∉ S → ¬ Touch A B S b (A i) ∧ ¬ Touch A B S b (B i) := by
    intro i hi hiS
    refine ⟨fun ht => ?_, fun ht => ?_⟩
    · obtain ⟨S1, S2, e1, k1, k2⟩ := hT.split _ ht
      have hr := Trail.rot (by rw [← e1]; exact hT) k1 k2
      refine hmax ⟨B i, i :: (S2 ++ S1), A i, ⟨hi, fun q => hiS ?_, .inr ⟨rfl, hr⟩⟩, ?_⟩
      · rw [e1]; rcases List.mem_append.1 q with q | q
        · exact List.mem_append_right _ q
        · exact List.mem_append_left _ q
      · rw [← hk, e1]; simp; omega
    · obtain ⟨S1, S2, e1, k1, k2⟩ := hT.split _ ht
      have hr := Trail.rot (by rw [← e1]; exact hT) k1 k2
      refine hmax ⟨A i, i :: (S2 ++ S1), B i, ⟨hi, fun q => hiS ?_, .inl ⟨rfl, hr⟩⟩, ?_⟩
      · rw [e1]; rcases List.mem_append.1 q with q | q
        · exact List.mem_append_right _ q
        · exact List.mem_append_left _ q
      · rw [← hk, e1]; simp; omega
  have hcl : ∀ i, i < n → (Touch A B S b (A i) ↔ Touch A B S b (B i)) := by
    intro i hi
    by_cases hiS : i ∈ S
    · exact ⟨fun _ => .inr ⟨i, hiS, .inr rfl⟩, fun _ => .inr ⟨i, hiS, .inl rfl⟩⟩
    · have := hun i hi hiS
      exact ⟨fun q => absurd q this.1, fun q => absurd q this.2⟩
  cases hS : S with
  | nil =>
    subst hS
    exact hmax ⟨A i0, [i0], B i0, Trail.single hi0, by rw [← hk]; rfl⟩
  | cons j S' =>
    have hjS : j ∈ S := by rw [hS]; exact List.mem_cons_self
    exact (hun i0 hi0 hi0S).1 (hconn (Touch A B S b) hcl j i0 (hT.lt j hjS) hi0 (.inr ⟨j, hjS, .inl rfl⟩))

theorem Trail.congr {A B A' B' : Nat → Nat} {n m : Nat} : ∀ {S : List Nat} {b e : Nat}, Trail A' B' m b S e → (∀ i ∈ S, i < n ∧ A' i = A i ∧ B' i = B i) → Trail A B n b S e := by
  intro S
  induction S with
  | nil => intro b e h _; exact h
  | cons j S ih =>
    intro b e h g
    obtain ⟨h1, h2, h3⟩ := h
    obtain ⟨g1, g2, g3⟩ := g j List.mem_cons_self
    refine ⟨g1, h2, ?_⟩
    have g' := fun i hi => g i (List.mem_cons_of_mem j hi)
    rcases h3 with ⟨q, h3⟩ | ⟨q, h3⟩
    · exact .inl ⟨g2 ▸ q, ih (g3 ▸ h3) g'⟩
    · exact .inr ⟨g3 ▸ q, ih (g2 ▸ h3) g'⟩

/-- EULER: two places are odd. -/
theorem euler_two {A B : Nat → Nat} {n x y : Nat} (hodd : ∀ v, deg A B (List.range n) v % 2 = (one x v + one y v) % 2) (hxy : x ≠ y) (hconn : ∀ Q : Nat → Prop, (∀ i, i < n → (Q (A i) ↔ Q (B i))) → ∀ i j, i < n → j < n → Q (A i) → Q (A j)) : ∃ b S e, Trail A B n b S e ∧ S.length = n := by
  have hsup : ∀ v, deg A B (List.range n) v % 2 = 1 → ∃ i, i < n ∧ (A i = v ∨ B i = v) := by
    intro v hv
    apply Classical.byContradiction
    intro hc
    have := deg_part (A := A) (B := B) (n := n) (S := []) List.nodup_nil (fun x hx => by cases hx) v (fun i hi _ => ⟨fun q => hc ⟨i, hi, .inl q⟩, fun q => hc ⟨i, hi, .inr q⟩⟩)
    rw [this, deg_nil] at hv
    omega
  obtain ⟨ix, hix, hx⟩ := hsup x (by rw [hodd, one, one, if_pos rfl, if_neg (Ne.symm hxy)])
  obtain ⟨iy, hiy, hy⟩ := hsup y (by rw [hodd, one, one, if_pos rfl, if_neg hxy])
  let A' : Nat → Nat := fun i => if i = n then x else A i
  let B' : Nat → Nat := fun i => if i = n then y else B i
  have eA : ∀ i, i < n → A' i = A i := fun i hi => if_neg (by omega)
  have eB : ∀ i, i < n → B' i = B i := fun i hi => if_neg (by omega)
  have eAn : A' n = x := if_pos rfl
  have eBn : B' n = y := if_pos rfl
  have edeg : ∀ (v k : Nat), k ≤ n → deg A' B' (List.range k) v = deg A B (List.range k) v := by
    intro v k
    induction k with
    | zero => intro _; rfl
    | succ k ih => intro hk; rw [deg_succ, deg_succ, ih (by omega), eA k (by omega), eB k (by omega)]
  obtain ⟨b, S, hT, hl⟩ := euler_even (A := A') (B := B') (n := n + 1) (by omega) (fun v => by
      rw [deg_succ, edeg v n (Nat.le_refl _), eAn, eBn]
      have := hodd v
      omega) (fun Q hQ => by
      have hQ' : ∀ i, i < n → (Q (A i) ↔ Q (B i)) := fun i hi => by
        have := hQ i (by omega)
        rw [eA i hi, eB i hi] at this
        exact this
      have key := hconn Q hQ'
      have qx : Q (A ix) ↔ Q x := by
        rcases hx with e | e
        · rw [e]
        · rw [hQ' ix hix, e]
      intro i j hi hj hq
      have h1 : Q (A ix) := by
        by_cases hin : i = n
        · subst hin; rw [eAn] at hq; exact qx.2 hq
        · rw [eA i (by omega)] at hq; exact key i ix (by omega) hix hq
      by_cases hjn : j = n
      · subst hjn; rw [eAn]; exact qx.1 h1
      · rw [eA j (by omega)]; exact key ix j hix (by omega) h1)
  have hnS : n ∈ S := nodup_full hT.nodup hT.lt hl n (by omega)
  obtain ⟨S1, S2, rfl⟩ := List.append_of_mem hnS
  obtain ⟨m, k1, k2, k3⟩ := hT.append_inv
  obtain ⟨_, k4, k5⟩ := k2
  have hdis : ∀ i ∈ S2, i ∉ S1 := fun i hi q => k3 i q (List.mem_cons_of_mem _ hi)
  have hnS1 : n ∉ S1 := fun q => k3 n q List.mem_cons_self
  have hall : ∀ i ∈ S2 ++ S1, i < n ∧ A' i = A i ∧ B' i = B i := by
    intro i hi
    have h1 : i < n + 1 := hT.lt i (by
      rcases List.mem_append.1 hi with q | q
      · exact List.mem_append_right _ (List.mem_cons_of_mem _ q)
      · exact List.mem_append_left _ q)
    have h2 : i ≠ n := fun q => by
      subst q
      rcases List.mem_append.1 hi with q | q
      · exact k4 q
      · exact hnS1 q
    exact ⟨by omega, eA i (by omega), eB i (by omega)⟩
  have hlen : (S2 ++ S1).length = n := by
    rw [List.length_append, List.length_cons] at hl
    rw [List.length_append]
    omega
  rcases k5 with ⟨q, k5⟩ | ⟨q, k5⟩
  · exact ⟨_, _, _, (k5.append k1 hdis).congr hall, hlen⟩
  · exact ⟨_, _, _, (k5.append k1 hdis).congr hall, hlen⟩

end Go.Proofs.Ytnagmeeoeilbcaa
