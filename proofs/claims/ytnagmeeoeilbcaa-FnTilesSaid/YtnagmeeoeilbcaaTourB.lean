/- HasTour, plain facts: both tell the same. -/
import Derived.Test.YtnagmeeoeilbcaaTourA
import Derived.Test.YtnagmeeoeilbcaaLongB
import Derived.Test.YtnagmeeoeilbcaaTally
namespace Go.Proofs.Ytnagmeeoeilbcaa
open Go.RowKit
set_option linter.unusedVariables false

def hasL (ts : List (Int × Int)) (ring : Bool) (b : Nat) (l : List Int × Nat) : Bool := decide (l.1.length = ts.length) && (!ring || l.2.testBit b)
def tourTo (ts : List (Int × Int)) (ring : Bool) (k : Nat) : Bool := (List.range k).any fun b => (preL ts (ts.length + 1) [] (2 ^ b)).any (hasL ts ring b)
def relTo (pl : List Int) (f t : Int) (j : Nat) : List Int := (List.range 7).map fun i => if i < j ∧ pl.getD i 0 = f then t else pl.getD i 0
def plTo (ts : List (Int × Int)) : Nat → List Int
  | 0 => (List.range 7).map fun (i : Nat) => (i : Int)
  | k + 1 => relTo (plTo ts k) ((plTo ts k).getD (tA ts k) 0) ((plTo ts k).getD (tB ts k) 0) 7
def dgTo (ts : List (Int × Int)) : Nat → List Int
  | 0 => List.replicate 7 0
  | k + 1 => addAt (addAt (dgTo ts k) (tA ts k) 1) (tB ts k) 1
def oddTo (dl : List Int) (k : Nat) : Int := ((List.range k).map fun j => dl.getD j 0 % 2).sum
def apart (dl pl : List Int) (p0 : Int) (k : Nat) : Bool := decide (0 < dl.getD k 0) && decide (pl.getD k 0 ≠ p0)
def tourS (ts : List (Int × Int)) (ring : Bool) : Bool :=
  !((List.range 7).any (apart (dgTo ts ts.length) (plTo ts ts.length) ((plTo ts ts.length).getD (tA ts 0) 0))) && (decide (oddTo (dgTo ts ts.length) 7 = 0) || (decide (oddTo (dgTo ts ts.length) 7 = 2) && !ring))

theorem preL_fwd (ts : List (Int × Int)) : ∀ (f : Nat) (line : List Int) (E0 : Nat) (l : List Int × Nat), l ∈ preL ts f line E0 → ∀ e, l.2.testBit e = true → ∃ (S : List Nat) (b : Nat), E0.testBit b = true ∧ l.1 = line ++ S.map (fun (i : Nat) => (i : Int)) ∧ Trail (tA ts) (tB ts) ts.length b S e ∧ ∀ i ∈ S, (i : Int) ∉ line := by
  intro f
  induction f with
  | zero =>
    intro line E0 l h e he
    rw [List.mem_singleton.1 h] at he ⊢
    exact ⟨[], e, he, by simp, rfl, fun i hi => by cases hi⟩
  | succ f ih =>
    intro line E0 l h e he
    unfold preL at h
    rcases List.mem_cons.1 h with q | q
    · rw [q] at he ⊢
      exact ⟨[], e, he, by simp, rfl, fun i hi => by cases hi⟩
    · obtain ⟨i, hi, hl⟩ := List.mem_flatMap.1 q
      rw [List.mem_range] at hi
      split at hl
      · simp at hl
      · rename_i hc
        have hc1 : (i : Int) ∉ line := fun q => hc (.inl q)
        obtain ⟨S, b, hb, e1, hT, hd⟩ := ih _ _ _ hl e he
        have hiS : i ∉ S := fun q => hd i q (List.mem_append_right _ List.mem_cons_self)
        have hd' : ∀ j ∈ i :: S, (j : Int) ∉ line := fun j hj => by
          rcases List.mem_cons.1 hj with r | r
          · subst r; exact hc1
          · exact fun q => hd j r (List.mem_append_left _ q)
        rcases (nextE_bit ts E0 i b).1 hb with ⟨g, rfl⟩ | ⟨g, rfl⟩
        · exact ⟨i :: S, tA ts i, g, by rw [e1]; simp, ⟨hi, hiS, .inl ⟨rfl, hT⟩⟩, hd'⟩
        · exact ⟨i :: S, tB ts i, g, by rw [e1]; simp, ⟨hi, hiS, .inr ⟨rfl, hT⟩⟩, hd'⟩
theorem preL_here (ts : List (Int × Int)) (f : Nat) (line : List Int) (E : Nat) : (line, E) ∈ preL ts f line E := by
  cases f <;> simp [preL]
theorem preL_bwd (ts : List (Int × Int)) : ∀ (S : List Nat) (f : Nat) (line : List Int) (E0 b e : Nat), Trail (tA ts) (tB ts) ts.length b S e → E0.testBit b = true → (∀ i ∈ S, (i : Int) ∉ line) → S.length ≤ f → ∃ E, (line ++ S.map (fun (i : Nat) => (i : Int)), E) ∈ preL ts f line E0 ∧ E.testBit e = true := by
  intro S
  induction S with
  | nil =>
    intro f line E0 b e hT hb _ _
    obtain rfl : b = e := hT
    exact ⟨E0, by rw [List.map_nil, List.append_nil]; exact preL_here ts f line E0, hb⟩
  | cons i S ih =>
    intro f line E0 b e hT hb hd hf
    obtain ⟨f, rfl⟩ : ∃ k, f = k + 1 := ⟨f - 1, by rw [List.length_cons] at hf; omega⟩
    obtain ⟨hi, hiS, hT⟩ := hT
    have hc : (i : Int) ∉ line := hd i List.mem_cons_self
    have hd' : ∀ j ∈ S, (j : Int) ∉ line ++ [(i : Int)] := fun j hj q => by
      rcases List.mem_append.1 q with q | q
      · exact hd j (List.mem_cons_of_mem _ hj) q
      · have : j = i := by have := List.mem_singleton.1 q; omega
        subst this
        exact hiS hj
    have hf' : S.length ≤ f := by rw [List.length_cons] at hf; omega
    have go : ∀ b', (nextE ts E0 i).testBit b' = true → Trail (tA ts) (tB ts) ts.length b' S e → ∃ E, (line ++ (i :: S).map (fun (i : Nat) => (i : Int)), E) ∈ preL ts (f + 1) line E0 ∧ E.testBit e = true := by
      intro b' hb' hT'
      obtain ⟨E, h1, h2⟩ := ih f (line ++ [(i : Int)]) (nextE ts E0 i) b' e hT' hb' hd' hf'
      refine ⟨E, ?_, h2⟩
      unfold preL
      refine List.mem_cons_of_mem _ (List.mem_flatMap.2 ⟨i, List.mem_range.2 hi, ?_⟩)
      rw [if_neg (by rintro (q | q); exact hc q; exact bit_ne_zero hb' q)]
      simpa using h1
    rcases hT with ⟨q, hT⟩ | ⟨q, hT⟩
    · exact go _ ((nextE_bit ts E0 i _).2 (.inl ⟨by rw [q]; exact hb, rfl⟩)) hT
    · exact go _ ((nextE_bit ts E0 i _).2 (.inr ⟨by rw [q]; exact hb, rfl⟩)) hT
theorem preL_ne (ts : List (Int × Int)) : ∀ (f : Nat) (line : List Int) (E0 : Nat), E0 ≠ 0 → ∀ l ∈ preL ts f line E0, l.2 ≠ 0 := by
  intro f
  induction f with
  | zero => intro line E0 h l hl; rw [List.mem_singleton.1 hl]; exact h
  | succ f ih =>
    intro line E0 h l hl
    unfold preL at hl
    rcases List.mem_cons.1 hl with q | q
    · rw [q]; exact h
    · obtain ⟨i, hi, hl⟩ := List.mem_flatMap.1 q
      split at hl
      · simp at hl
      · rename_i hc
        exact ih _ _ (fun q => hc (.inr q)) l hl
theorem bit_pow {b e : Nat} (h : (2 ^ b).testBit e = true) : e = b := by
  rw [Nat.testBit_two_pow] at h
  exact (of_decide_eq_true h).symm
/-- the program's answer in words -/
theorem tour_iff (ts : List (Int × Int)) (ring : Bool) : tourTo ts ring 7 = true ↔ ∃ b, b < 7 ∧ ∃ S e, Trail (tA ts) (tB ts) ts.length b S e ∧ S.length = ts.length ∧ (ring = false ∨ e = b) := by
  unfold tourTo
  simp only [List.any_eq_true, List.mem_range, hasL, Bool.and_eq_true, decide_eq_true_eq, Bool.or_eq_true, Bool.not_eq_true']
  constructor
  · rintro ⟨b, hb, l, hl, h1, h2⟩
    refine ⟨b, hb, ?_⟩
    rcases h2 with h2 | h2
    · obtain ⟨e, he⟩ := ne_zero_bit (preL_ne ts _ _ _ (Nat.pos_iff_ne_zero.1 (Nat.two_pow_pos b)) l hl)
      obtain ⟨S, b', hb', e1, hT, _⟩ := preL_fwd ts _ _ _ _ hl e he
      obtain rfl := bit_pow hb'
      exact ⟨S, e, hT, by rw [← h1, e1]; simp, .inl h2⟩
    · obtain ⟨S, b', hb', e1, hT, _⟩ := preL_fwd ts _ _ _ _ hl b h2
      obtain rfl := bit_pow hb'
      exact ⟨S, _, hT, by rw [← h1, e1]; simp, .inr rfl⟩
  · rintro ⟨b, hb, S, e, hT, h1, h2⟩
    obtain ⟨E, h3, h4⟩ := preL_bwd ts S (ts.length + 1) [] (2 ^ b) b e hT (by rw [Nat.testBit_two_pow]; simp) (fun i _ => List.not_mem_nil) (by omega)
    refine ⟨b, hb, _, h3, by simpa using h1, ?_⟩
    rcases h2 with h2 | h2
    · exact .inl h2
    · subst h2; exact .inr h4

theorem relTo_len (pl : List Int) (f t : Int) (j : Nat) : (relTo pl f t j).length = 7 := by simp [relTo]
theorem relTo_get (pl : List Int) (f t : Int) (j i : Nat) (h : i < 7) : (relTo pl f t j).getD i 0 = if i < j ∧ pl.getD i 0 = f then t else pl.getD i 0 := by simp [relTo, h]
theorem relTo_all (pl : List Int) (f t : Int) (i : Nat) (h : i < 7) : (relTo pl f t 7).getD i 0 = if pl.getD i 0 = f then t else pl.getD i 0 := by
  rw [relTo_get _ _ _ _ _ h]; simp [h]
theorem plTo_one (ts : List (Int × Int)) : ∀ (k : Nat), (∀ i, i < k → tA ts i < 7 ∧ tB ts i < 7) → ∀ i, i < k → (plTo ts k).getD (tA ts i) 0 = (plTo ts k).getD (tB ts i) 0 := by
  intro k
  induction k with
  | zero => intro _ i hi; omega
  | succ k ih =>
    intro hr i hi
    obtain ⟨a7, b7⟩ := hr i hi
    obtain ⟨ka, kb⟩ := hr k (by omega)
    show (relTo _ _ _ 7).getD _ 0 = (relTo _ _ _ 7).getD _ 0
    rw [relTo_all _ _ _ _ a7, relTo_all _ _ _ _ b7]
    by_cases hik : i = k
    · subst hik
      rw [if_pos rfl]
      split <;> rfl
    · rw [ih (fun j hj => hr j (by omega)) i (by omega)]
theorem plTo_two (ts : List (Int × Int)) : ∀ (k : Nat), (∀ i, i < k → tA ts i < 7 ∧ tB ts i < 7) → ∀ Q : Nat → Prop, (∀ i, i < k → (Q (tA ts i) ↔ Q (tB ts i))) → ∀ u v, u < 7 → v < 7 → (plTo ts k).getD u 0 = (plTo ts k).getD v 0 → (Q u ↔ Q v) := by
  intro k
  induction k with
  | zero =>
    intro _ Q _ u v hu hv h
    have e : ∀ x, x < 7 → (plTo ts 0).getD x 0 = (x : Int) := fun x hx => by simp [plTo, hx]
    rw [e u hu, e v hv] at h
    have : u = v := by omega
    rw [this]
  | succ k ih =>
    intro hr Q hQ u v hu hv h
    obtain ⟨ka, kb⟩ := hr k (by omega)
    have h' : (relTo (plTo ts k) ((plTo ts k).getD (tA ts k) 0) ((plTo ts k).getD (tB ts k) 0) 7).getD u 0 = (relTo (plTo ts k) ((plTo ts k).getD (tA ts k) 0) ((plTo ts k).getD (tB ts k) 0) 7).getD v 0 := h
    rw [relTo_all _ _ _ _ hu, relTo_all _ _ _ _ hv] at h'
    have key := ih (fun j hj => hr j (by omega)) Q (fun i hi => hQ i (by omega))
    have hk := hQ k (by omega)
    by_cases c1 : (plTo ts k).getD u 0 = (plTo ts k).getD (tA ts k) 0
    · by_cases c2 : (plTo ts k).getD v 0 = (plTo ts k).getD (tA ts k) 0
      · exact key u v hu hv (c1.trans c2.symm)
      · rw [if_pos c1, if_neg c2] at h'
        exact ((key u _ hu ka c1).trans hk).trans (key _ v kb hv h')
    · by_cases c2 : (plTo ts k).getD v 0 = (plTo ts k).getD (tA ts k) 0
      · rw [if_neg c1, if_pos c2] at h'
        exact (key u _ hu kb h').trans (hk.symm.trans (key _ v ka hv c2.symm))
      · rw [if_neg c1, if_neg c2] at h'
        exact key u v hu hv h'
theorem dgTo_len (ts : List (Int × Int)) (k : Nat) : (dgTo ts k).length = 7 := by
  induction k with
  | zero => simp [dgTo]
  | succ k ih => simp [dgTo, addAt_len, ih]
theorem addAt_get (out : List Int) (i j : Nat) (h : i < out.length) : (addAt out i 1).getD j 0 = out.getD j 0 + (one i j : Nat) := by
  by_cases e : i = j
  · subst e
    have : one i i = 1 := if_pos rfl
    rw [this]
    simp [addAt, h]
  · have : one i j = 0 := if_neg e
    rw [this, addAt_getD_ne _ _ _ _ e]
    simp
theorem dgTo_get (ts : List (Int × Int)) (v : Nat) : ∀ (k : Nat), (∀ i, i < k → tA ts i < 7 ∧ tB ts i < 7) → (dgTo ts k).getD v 0 = (deg (tA ts) (tB ts) (List.range k) v : Nat) := by
  intro k
  induction k with
  | zero =>
    intro _
    show (List.replicate 7 (0 : Int)).getD v 0 = _
    rw [List.getD_eq_getElem?_getD, List.getElem?_replicate]
    split <;> rfl
  | succ k ih =>
    intro hr
    obtain ⟨ka, kb⟩ := hr k (by omega)
    show (addAt (addAt (dgTo ts k) (tA ts k) 1) (tB ts k) 1).getD v 0 = _
    rw [addAt_get _ _ _ (by rw [addAt_len, dgTo_len]; exact kb), addAt_get _ _ _ (by rw [dgTo_len]; exact ka), ih fun i hi => hr i (by omega), deg_succ]
    omega

theorem sum_zero (f : Nat → Nat) : ∀ (l : List Nat), (l.map f).sum = 0 → ∀ v ∈ l, f v = 0 := by
  intro l
  induction l with
  | nil => intro _ v hv; cases hv
  | cons a l ih =>
    intro h v hv
    rw [List.map_cons, List.sum_cons] at h
    rcases List.mem_cons.1 hv with q | q
    · subst q; omega
    · exact ih (by omega) v q
theorem sum_one (f : Nat → Nat) : ∀ (l : List Nat), l.Nodup → (l.map f).sum = 1 → ∃ x ∈ l, ∀ v ∈ l, f v = one x v := by
  intro l
  induction l with
  | nil => intro _ h; simp at h
  | cons a l ih =>
    intro hd h
    obtain ⟨h1, h2⟩ := List.nodup_cons.1 hd
    rw [List.map_cons, List.sum_cons] at h
    by_cases ha : f a = 0
    · obtain ⟨x, hx, hv⟩ := ih h2 (by omega)
      refine ⟨x, List.mem_cons_of_mem _ hx, fun v hvl => ?_⟩
      rcases List.mem_cons.1 hvl with q | q
      · subst q
        have n1 : x ≠ v := fun e => h1 (e ▸ hx)
        rw [ha, one, if_neg n1]
      · exact hv v q
    · have h0 := sum_zero f l (by omega)
      refine ⟨a, List.mem_cons_self, fun v hvl => ?_⟩
      rcases List.mem_cons.1 hvl with q | q
      · subst q
        rw [one, if_pos rfl]; omega
      · have n1 : a ≠ v := fun e => h1 (e ▸ q)
        rw [h0 v q, one, if_neg n1]
theorem sum_two (f : Nat → Nat) : ∀ (l : List Nat), l.Nodup → (∀ v ∈ l, f v ≤ 1) → (l.map f).sum = 2 → ∃ x ∈ l, ∃ y ∈ l, x ≠ y ∧ ∀ v ∈ l, f v = one x v + one y v := by
  intro l
  induction l with
  | nil => intro _ _ h; simp at h
  | cons a l ih =>
    intro hd hb h
    obtain ⟨h1, h2⟩ := List.nodup_cons.1 hd
    rw [List.map_cons, List.sum_cons] at h
    have ha1 := hb a List.mem_cons_self
    by_cases ha : f a = 0
    · obtain ⟨x, hx, y, hy, hxy, hv⟩ := ih h2 (fun v hv => hb v (List.mem_cons_of_mem _ hv)) (by omega)
      refine ⟨x, List.mem_cons_of_mem _ hx, y, List.mem_cons_of_mem _ hy, hxy, fun v hvl => ?_⟩
      rcases List.mem_cons.1 hvl with q | q
      · subst q
        have n1 : x ≠ v := fun e => h1 (e ▸ hx)
        have n2 : y ≠ v := fun e => h1 (e ▸ hy)
        rw [ha, one, one, if_neg n1, if_neg n2]
      · exact hv v q
    · obtain ⟨y, hy, hv⟩ := sum_one f l h2 (by omega)
      refine ⟨a, List.mem_cons_self, y, List.mem_cons_of_mem _ hy, fun e => h1 (e ▸ hy), fun v hvl => ?_⟩
      rcases List.mem_cons.1 hvl with q | q
      · subst q
        have n2 : y ≠ v := fun e => h1 (e ▸ hy)
        rw [one, one, if_pos rfl, if_neg n2]; omega
      · have n1 : a ≠ v := fun e => h1 (e ▸ q)
        have : one a v = 0 := if_neg n1
        rw [hv v q, this]; omega

theorem odd_ends : ∀ b, b < 7 → ∀ e, e < 7 → ((List.range 7).map fun k => (one b k + one e k) % 2).sum = if b = e then 0 else 2 := by decide
theorem oddTo_cast (dl : List Int) (d : Nat → Nat) (h : ∀ v, dl.getD v 0 = (d v : Nat)) : ∀ k, oddTo dl k = (((List.range k).map fun j => d j % 2).sum : Nat) := by
  intro k
  induction k with
  | zero => rfl
  | succ k ih =>
    unfold oddTo at ih ⊢
    rw [List.range_succ, List.map_append, List.map_append, List.sum_append, List.sum_append, ih]
    have := h k
    simp only [List.map_cons, List.map_nil, List.sum_cons, List.sum_nil, this]
    omega
theorem Trail.same {A B : Nat → Nat} {n : Nat} (p : Nat → Int) (hp : ∀ i, i < n → p (A i) = p (B i)) : ∀ {S : List Nat} {b e : Nat}, Trail A B n b S e → ∀ i ∈ S, p (A i) = p b := by
  intro S
  induction S with
  | nil => intro b e _ i hi; cases hi
  | cons j S ih =>
    intro b e h i hi
    obtain ⟨h1, h2, h3⟩ := h
    have hj := hp j h1
    rcases h3 with ⟨q, h3⟩ | ⟨q, h3⟩
    · rcases List.mem_cons.1 hi with r | r
      · subst r; rw [q]
      · rw [ih h3 i r, ← hj, q]
    · rcases List.mem_cons.1 hi with r | r
      · subst r; rw [hj, q]
      · rw [ih h3 i r, hj, q]
theorem Trail.ends {A B : Nat → Nat} {n : Nat} (hr : ∀ i, i < n → A i < 7 ∧ B i < 7) : ∀ {S : List Nat} {b e : Nat}, Trail A B n b S e → b < 7 → e < 7 := by
  intro S
  induction S with
  | nil => intro b e h hb; obtain rfl : b = e := h; exact hb
  | cons j S ih =>
    intro b e h hb
    obtain ⟨h1, h2, h3⟩ := h
    rcases h3 with ⟨_, h3⟩ | ⟨_, h3⟩
    · exact ih h3 (hr j h1).2
    · exact ih h3 (hr j h1).1
theorem Trail.begins {A B : Nat → Nat} {n : Nat} (hr : ∀ i, i < n → A i < 7 ∧ B i < 7) {S : List Nat} {b e : Nat} (h : Trail A B n b S e) (hS : 0 < S.length) : b < 7 := by
  cases S with
  | nil => simp at hS
  | cons j S =>
    obtain ⟨h1, h2, h3⟩ := h
    have := hr j h1
    rcases h3 with ⟨q, _⟩ | ⟨q, _⟩ <;> omega
theorem deg_pos {A B : Nat → Nat} {n v : Nat} (h : 0 < deg A B (List.range n) v) : ∃ i, i < n ∧ (A i = v ∨ B i = v) := by
  apply Classical.byContradiction
  intro hc
  have := deg_part (A := A) (B := B) (n := n) (S := []) List.nodup_nil (fun x hx => by cases hx) v (fun i hi _ => ⟨fun q => hc ⟨i, hi, .inl q⟩, fun q => hc ⟨i, hi, .inr q⟩⟩)
  rw [this, deg_nil] at h
  omega
theorem pos_deg {A B : Nat → Nat} {n v i : Nat} (hi : i < n) (h : A i = v ∨ B i = v) : 0 < deg A B (List.range n) v := by
  induction n with
  | zero => omega
  | succ n ih =>
    rw [deg_succ]
    by_cases e : i = n
    · subst e
      rcases h with q | q
      · have : one (A i) v = 1 := if_pos q
        omega
      · have : one (B i) v = 1 := if_pos q
        omega
    · have := ih (by omega)
      omega
/-- BOTH TELL THE SAME. -/
theorem tour_same (ts : List (Int × Int)) (ring : Bool) (h : okTiles ts = true) : tourTo ts ring 7 = tourS ts ring := by
  obtain ⟨hn1, _, hts⟩ := (okTiles_iff ts).1 h
  have hr : ∀ i, i < ts.length → tA ts i < 7 ∧ tB ts i < 7 := fun i hi => by have := tA_lt hts hi; exact ⟨this.1, this.2.1⟩
  have hdg : ∀ v, (dgTo ts ts.length).getD v 0 = (deg (tA ts) (tB ts) (List.range ts.length) v : Nat) := fun v => dgTo_get ts v ts.length hr
  have hodd := oddTo_cast (dgTo ts ts.length) _ hdg 7
  have h1 := plTo_one ts ts.length hr
  have h2 := plTo_two ts ts.length hr
  have hS : tourS ts ring = true ↔ (∀ k, k < 7 → 0 < deg (tA ts) (tB ts) (List.range ts.length) k → (plTo ts ts.length).getD k 0 = (plTo ts ts.length).getD (tA ts 0) 0) ∧ (((List.range 7).map fun j => deg (tA ts) (tB ts) (List.range ts.length) j % 2).sum = 0 ∨ ((List.range 7).map fun j => deg (tA ts) (tB ts) (List.range ts.length) j % 2).sum = 2 ∧ ring = false) := by
    unfold tourS
    rw [hodd, Bool.and_eq_true, Bool.not_eq_true', Bool.or_eq_true, Bool.and_eq_true, Bool.not_eq_true', decide_eq_true_eq, decide_eq_true_eq, List.any_eq_false]
    refine and_congr ⟨fun g k hk hd => ?_, fun g k hk q => ?_⟩ (or_congr (by omega) (and_congr (by omega) Iff.rfl))
    · have := g k (List.mem_range.2 hk)
      unfold apart at this
      rw [hdg] at this
      apply Classical.byContradiction
      intro hc
      exact this (by simp only [Bool.and_eq_true, decide_eq_true_eq]; exact ⟨by omega, hc⟩)
    · unfold apart at q
      rw [hdg] at q
      simp only [Bool.and_eq_true, decide_eq_true_eq] at q
      exact q.2 (g k (List.mem_range.1 hk) (by omega))
  rw [Bool.eq_iff_iff, tour_iff, hS]
  generalize ts.length = n at *
  generalize plTo ts n = pl at *
  constructor
  · rintro ⟨b, hb, S, e, hT, hl, hre⟩
    have hfull := nodup_full hT.nodup hT.lt hl
    have hsame := hT.same (fun v => pl.getD v 0) h1
    refine ⟨fun k hk hd => ?_, ?_⟩
    · obtain ⟨i, hi, q⟩ := deg_pos hd
      have e1 := hsame i (hfull i hi)
      have e0 := hsame 0 (hfull 0 (by omega))
      have e2 := h1 i hi
      rcases q with q | q
      · rw [← q, e1, e0]
      · rw [← q, ← e2, e1, e0]
    · have he := hT.ends hr hb
      have e1 : ((List.range 7).map fun j => deg (tA ts) (tB ts) (List.range n) j % 2).sum = if b = e then 0 else 2 := by
        rw [← odd_ends b hb e he]
        congr 1
        refine List.map_congr_left fun k _ => ?_
        rw [deg_part hT.nodup hT.lt k fun i hi q => absurd (hfull i hi) q, hT.deg k]
      rw [e1]
      by_cases q : b = e
      · rw [if_pos q]; exact .inl rfl
      · rw [if_neg q]
        rcases hre with g | g
        · exact .inr ⟨rfl, g⟩
        · exact absurd g.symm q
  · rintro ⟨hc, ho⟩
    have hconn : ∀ Q : Nat → Prop, (∀ i, i < n → (Q (tA ts i) ↔ Q (tB ts i))) → ∀ i j, i < n → j < n → Q (tA ts i) → Q (tA ts j) := by
      intro Q hQ i j hi hj hq
      have e1 := hc (tA ts i) (hr i hi).1 (pos_deg hi (.inl rfl))
      have e2 := hc (tA ts j) (hr j hj).1 (pos_deg hj (.inl rfl))
      exact (h2 Q hQ _ _ (hr i hi).1 (hr j hj).1 (e1.trans e2.symm)).1 hq
    have hbig : ∀ v, ¬ v < 7 → deg (tA ts) (tB ts) (List.range n) v = 0 := by
      intro v hv
      apply Classical.byContradiction
      intro q
      obtain ⟨i, hi, g⟩ := deg_pos (by omega : 0 < deg (tA ts) (tB ts) (List.range n) v)
      have := hr i hi
      rcases g with g | g <;> omega
    rcases ho with ho | ⟨ho, hring⟩
    · have hz := sum_zero _ _ ho
      obtain ⟨b, S, hT, hl⟩ := euler_even (A := tA ts) (B := tB ts) (n := n) (by omega) (fun v => by
        by_cases hv : v < 7
        · exact hz v (List.mem_range.2 hv)
        · rw [hbig v hv]) hconn
      exact ⟨b, hT.begins hr (by omega), S, b, hT, hl, .inr rfl⟩
    · obtain ⟨x, hx, y, hy, hxy, hv⟩ := sum_two _ _ List.nodup_range (fun v _ => by omega) ho
      rw [List.mem_range] at hx hy
      obtain ⟨b, S, e, hT, hl⟩ := euler_two (A := tA ts) (B := tB ts) (n := n) (x := x) (y := y) (fun v => by
        by_cases hv7 : v < 7
        · have := hv v (List.mem_range.2 hv7)
          omega
        · rw [hbig v hv7, one, one, if_neg (by omega), if_neg (by omega)]) hxy hconn
      exact ⟨b, hT.begins hr (by omega), S, e, hT, hl, .inl hring⟩

end Go.Proofs.Ytnagmeeoeilbcaa
