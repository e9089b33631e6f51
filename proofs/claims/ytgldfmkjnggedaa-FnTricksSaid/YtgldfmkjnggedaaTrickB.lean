/- Tricks: the best lines, in plain terms. -/
import Derived.Test.YtgldfmkjnggedaaTrickA
namespace Go.Proofs.Ytgldfmkjnggedaa
open Go.RowKit
set_option linter.unusedVariables false

def maxL (xs : List Int) : Int := xs.foldl max (-1)
def minL (xs : List Int) : Int := xs.foldl min 6
theorem maxL_snoc (xs : List Int) (x : Int) : maxL (xs ++ [x]) = max (maxL xs) x := by simp [maxL, List.foldl_append]
theorem minL_snoc (xs : List Int) (x : Int) : minL (xs ++ [x]) = min (minL xs) x := by simp [minL, List.foldl_append]
theorem foldl_max (xs : List Int) : ∀ a, a ≤ xs.foldl max a ∧ (∀ x ∈ xs, x ≤ xs.foldl max a) ∧ (xs.foldl max a = a ∨ xs.foldl max a ∈ xs) := by
  induction xs with
  | nil => intro a; simp
  | cons x xs ih =>
    intro a
    obtain ⟨h1, h2, h3⟩ := ih (max a x)
    rw [List.foldl_cons]
    refine ⟨by omega, fun y hy => ?_, ?_⟩
    · rcases List.mem_cons.1 hy with e | e
      · subst e; omega
      · exact h2 y e
    · rcases h3 with e | e
      · by_cases hax : x ≤ a
        · exact .inl (by rw [e]; omega)
        · exact .inr (by rw [e, show max a x = x by omega]; exact List.mem_cons_self)
      · exact .inr (List.mem_cons_of_mem _ e)
theorem foldl_min (xs : List Int) : ∀ a, xs.foldl min a ≤ a ∧ (∀ x ∈ xs, xs.foldl min a ≤ x) ∧ (xs.foldl min a = a ∨ xs.foldl min a ∈ xs) := by
  induction xs with
  | nil => intro a; simp
  | cons x xs ih =>
    intro a
    obtain ⟨h1, h2, h3⟩ := ih (min a x)
    rw [List.foldl_cons]
    refine ⟨by omega, fun y hy => ?_, ?_⟩
    · rcases List.mem_cons.1 hy with e | e
      · subst e; omega
      · exact h2 y e
    · rcases h3 with e | e
      · by_cases hax : a ≤ x
        · exact .inl (by rw [e]; omega)
        · exact .inr (by rw [e, show min a x = x by omega]; exact List.mem_cons_self)
      · exact .inr (List.mem_cons_of_mem _ e)
theorem maxL_perm {xs ys : List Int} (h : xs.Perm ys) : maxL xs = maxL ys := by
  obtain ⟨a1, a2, a3⟩ := foldl_max xs (-1)
  obtain ⟨b1, b2, b3⟩ := foldl_max ys (-1)
  show xs.foldl max (-1) = ys.foldl max (-1)
  have h1 : xs.foldl max (-1) ≤ ys.foldl max (-1) := by
    rcases a3 with e | e
    · rw [e]; exact b1
    · exact b2 _ (h.mem_iff.1 e)
  have h2 : ys.foldl max (-1) ≤ xs.foldl max (-1) := by
    rcases b3 with e | e
    · rw [e]; exact a1
    · exact a2 _ (h.mem_iff.2 e)
  omega
theorem maxL_bd {xs : List Int} {b : Int} (h : ∀ x ∈ xs, 0 ≤ x ∧ x ≤ b) (hn : xs ≠ []) : 0 ≤ maxL xs ∧ maxL xs ≤ b := by
  obtain ⟨a1, a2, a3⟩ := foldl_max xs (-1)
  show 0 ≤ xs.foldl max (-1) ∧ xs.foldl max (-1) ≤ b
  obtain ⟨x, hx⟩ := List.exists_mem_of_ne_nil xs hn
  have h1 := h x hx
  have h2 := a2 x hx
  rcases a3 with e | e
  · omega
  · have := h _ e; omega
theorem minL_bd {xs : List Int} {b : Int} (h : ∀ x ∈ xs, 0 ≤ x ∧ x ≤ b) (hn : xs ≠ []) : 0 ≤ minL xs ∧ minL xs ≤ b := by
  obtain ⟨a1, a2, a3⟩ := foldl_min xs 6
  show 0 ≤ xs.foldl min 6 ∧ xs.foldl min 6 ≤ b
  obtain ⟨x, hx⟩ := List.exists_mem_of_ne_nil xs hn
  have h1 := h x hx
  have h2 := a2 x hx
  rcases a3 with e | e
  · omega
  · have := h _ e; omega

/-- how many tricks the hand that leads wins -/
def bestF (t : Int) : Nat → List Int → List Int → Int
  | 0, _, _ => 0
  | f + 1, lead, other => maxL (lead.map fun card => minL ((legalL other card).map fun a => if winsL card a t = true then 1 + bestF t f (lessL lead card) (lessL other a) else (f : Int) - bestF t f (lessL other a) (lessL lead card)))
def repF (t : Int) (f : Nat) (lead other : List Int) (card a : Int) : Int := if winsL card a t = true then 1 + bestF t f (lessL lead card) (lessL other a) else (f : Int) - bestF t f (lessL other a) (lessL lead card)
def aftF (t : Int) (f : Nat) (lead other : List Int) (card : Int) : Int := minL ((legalL other card).map (repF t f lead other card))
theorem bestF_succ (t : Int) (f : Nat) (lead other : List Int) : bestF t (f + 1) lead other = maxL (lead.map (aftF t f lead other)) := rfl
theorem legalL_ne {hand : List Int} (led : Int) (h : hand ≠ []) : legalL hand led ≠ [] := by
  unfold legalL
  intro e
  split at e
  · apply h
    apply List.eq_nil_of_length_eq_zero
    rw [← isort_len, e]
    rfl
  · rename_i h2
    apply h2
    have : (hand.filter (suit led)).length = 0 := by rw [← isort_len, e]; rfl
    rw [List.eq_nil_of_length_eq_zero this]
    rfl
theorem Hand.ne {f : Nat} {xs : List Int} (h : Hand (f + 1) xs) : xs ≠ [] := by
  intro e
  have := h.len
  rw [e] at this
  simp at this
theorem bestF_bd (t : Int) : ∀ (f : Nat) (lead other : List Int), Hand f lead → Hand f other → 0 ≤ bestF t f lead other ∧ bestF t f lead other ≤ f := by
  intro f
  induction f with
  | zero => intro lead other _ _; simp [bestF]
  | succ f ih =>
    intro lead other h1 h2
    rw [bestF_succ]
    refine maxL_bd (fun x hx => ?_) (by simpa using h1.ne)
    obtain ⟨card, hc, rfl⟩ := List.mem_map.1 hx
    refine minL_bd (fun y hy => ?_) (by simpa using legalL_ne card h2.ne)
    obtain ⟨a, ha, rfl⟩ := List.mem_map.1 hy
    have k1 := h1.less hc
    have k2 := h2.less (legalL_mem ha)
    unfold repF
    have := ih _ _ k1 k2
    have := ih _ _ k2 k1
    split <;> omega
theorem repF_bd {t : Int} {f : Nat} {lead other : List Int} {card a : Int} (h1 : Hand (f + 1) lead) (h2 : Hand (f + 1) other) (hc : card ∈ lead) (ha : a ∈ legalL other card) : 0 ≤ repF t f lead other card a ∧ repF t f lead other card a ≤ (f : Int) + 1 := by
  have k1 := h1.less hc
  have k2 := h2.less (legalL_mem ha)
  unfold repF
  have := bestF_bd t f _ _ k1 k2
  have := bestF_bd t f _ _ k2 k1
  split <;> omega
theorem aftF_bd {t : Int} {f : Nat} {lead other : List Int} {card : Int} (h1 : Hand (f + 1) lead) (h2 : Hand (f + 1) other) (hc : card ∈ lead) : 0 ≤ aftF t f lead other card ∧ aftF t f lead other card ≤ (f : Int) + 1 := by
  refine minL_bd (fun y hy => ?_) (by simpa using legalL_ne card h2.ne)
  obtain ⟨a, ha, rfl⟩ := List.mem_map.1 hy
  exact repF_bd h1 h2 hc ha
theorem isort_of_perm {xs ys : List Int} (h : xs.Perm ys) : isort xs = isort ys := isort_eq _ _ ((isort_perm xs).trans h) (isort_sorted xs)
theorem legalL_perm {xs ys : List Int} (h : xs.Perm ys) (led : Int) : legalL xs led = legalL ys led := by
  rw [legalL_spec, legalL_spec, isort_of_perm h]
theorem lessL_perm {xs ys : List Int} (h : xs.Perm ys) (x : Int) : (lessL xs x).Perm (lessL ys x) := h.filter _
theorem bestF_perm (t : Int) : ∀ (f : Nat) (a a' b b' : List Int), a.Perm a' → b.Perm b' → bestF t f a b = bestF t f a' b' := by
  intro f
  induction f with
  | zero => intro a a' b b' _ _; rfl
  | succ f ih =>
    intro a a' b b' h k
    have e : ∀ card, aftF t f a b card = aftF t f a' b' card := by
      intro card
      unfold aftF
      rw [legalL_perm k]
      congr 1
      apply List.map_congr_left
      intro x _
      unfold repF
      rw [ih _ _ _ _ (lessL_perm h card) (lessL_perm k x), ih _ _ _ _ (lessL_perm k x) (lessL_perm h card)]
    rw [bestF_succ, bestF_succ]
    rw [show aftF t f a b = aftF t f a' b' from funext e]
    exact maxL_perm (h.map _)
theorem maxL_take (g : Int → Int) (xs : List Int) (k : Nat) (h : k < xs.length) : maxL ((xs.take (k + 1)).map g) = max (maxL ((xs.take k).map g)) (g (xs.getD k 0)) := by
  rw [List.take_succ_eq_append_getElem h, List.map_append, List.map_cons, List.map_nil, maxL_snoc]
  simp [h]
theorem minL_take (g : Int → Int) (xs : List Int) (k : Nat) (h : k < xs.length) : minL ((xs.take (k + 1)).map g) = min (minL ((xs.take k).map g)) (g (xs.getD k 0)) := by
  rw [List.take_succ_eq_append_getElem h, List.map_append, List.map_cons, List.map_nil, minL_snoc]
  simp [h]
theorem take_ge (xs : List Int) (g : Int → Int) (k j : Nat) (hj : j < k) (hk : k ≤ xs.length) : g (xs.getD j 0) ≤ maxL ((xs.take k).map g) := by
  refine (foldl_max _ (-1)).2.1 _ (List.mem_map.2 ⟨xs.getD j 0, ?_, rfl⟩)
  have e : xs.getD j 0 = xs[j]'(by omega) := by simp [show j < xs.length by omega]
  rw [e]
  exact List.mem_take_iff_getElem.2 ⟨j, by omega, rfl⟩
theorem take_le (xs : List Int) (g : Int → Int) (k j : Nat) (hj : j < k) (hk : k ≤ xs.length) : minL ((xs.take k).map g) ≤ g (xs.getD j 0) := by
  refine (foldl_min _ 6).2.1 _ (List.mem_map.2 ⟨xs.getD j 0, ?_, rfl⟩)
  have e : xs.getD j 0 = xs[j]'(by omega) := by simp [show j < xs.length by omega]
  rw [e]
  exact List.mem_take_iff_getElem.2 ⟨j, by omega, rfl⟩
/-- the first of those whose g is v -/
def firstOf (g : Int → Int) (v : Int) (xs : List Int) : Int := xs.getD (firstIdx (fun c => g c == v) xs).toNat 0
theorem firstOf_at {g : Int → Int} {v : Int} {xs : List Int} {i : Nat} (hi : i < xs.length) (h1 : g (xs.getD i 0) = v) (h2 : ∀ j, j < i → g (xs.getD j 0) ≠ v) : firstOf g v xs = xs.getD i 0 := by
  unfold firstOf
  rw [firstIdx_at (d := 0) (k := i) (fun j hj => by simpa using h2 j hj) (by simpa using h1) hi]
  rfl
/-- b is the greatest of the first k, c the first that has it -/
def FirstMax (g : Int → Int) (xs : List Int) (k : Nat) (b c : Int) : Prop :=
  b = maxL ((xs.take k).map g) ∧ ((c = -1 ∧ k = 0) ∨ ∃ i, i < k ∧ c = xs.getD i 0 ∧ g c = b ∧ ∀ j, j < i → g (xs.getD j 0) < b)
theorem FirstMax.zero (g : Int → Int) (xs : List Int) : FirstMax g xs 0 (-1) (-1) := ⟨by simp [maxL], .inl ⟨rfl, rfl⟩⟩
theorem FirstMax.more {g : Int → Int} {xs : List Int} {k : Nat} {b c : Int} (h : FirstMax g xs k b c) (hk : k < xs.length) (hb : b < g (xs.getD k 0)) : FirstMax g xs (k + 1) (g (xs.getD k 0)) (xs.getD k 0) := by
  obtain ⟨rfl, h2⟩ := h
  refine ⟨by rw [maxL_take _ _ _ hk]; omega, .inr ⟨k, by omega, rfl, rfl, fun j hj => ?_⟩⟩
  have := take_ge xs g k j hj (by omega)
  omega
theorem FirstMax.less {g : Int → Int} {xs : List Int} {k : Nat} {b c : Int} (h : FirstMax g xs k b c) (hk : k < xs.length) (hb : ¬ b < g (xs.getD k 0)) (h0 : 0 ≤ g (xs.getD k 0)) : FirstMax g xs (k + 1) b c := by
  obtain ⟨rfl, h2⟩ := h
  refine ⟨by rw [maxL_take _ _ _ hk]; omega, ?_⟩
  rcases h2 with ⟨_, rfl⟩ | ⟨i, h3, h4⟩
  · generalize g (xs.getD 0 0) = v at *
    simp [maxL] at hb
    omega
  · exact .inr ⟨i, by omega, h4⟩
theorem FirstMax.done {g : Int → Int} {xs : List Int} {b c : Int} (h : FirstMax g xs xs.length b c) (hn : 0 < xs.length) : b = maxL (xs.map g) ∧ c = firstOf g b xs := by
  obtain ⟨h1, h2⟩ := h
  rw [List.take_length] at h1
  refine ⟨h1, ?_⟩
  rcases h2 with ⟨_, h2⟩ | ⟨i, h3, rfl, h5, h6⟩
  · omega
  · exact (firstOf_at h3 h5 (fun j hj => by have := h6 j hj; omega)).symm
/-- b is the least of the first k, c the first that has it -/
def FirstMin (g : Int → Int) (xs : List Int) (k : Nat) (b c : Int) : Prop :=
  (k = 0 ∧ b = -1 ∧ c = -1) ∨ (b = minL ((xs.take k).map g) ∧ 0 ≤ b ∧ ∃ i, i < k ∧ c = xs.getD i 0 ∧ g c = b ∧ ∀ j, j < i → b < g (xs.getD j 0))
theorem FirstMin.zero (g : Int → Int) (xs : List Int) : FirstMin g xs 0 (-1) (-1) := .inl ⟨rfl, rfl, rfl⟩
theorem FirstMin.more {g : Int → Int} {xs : List Int} {k : Nat} {b c : Int} (h : FirstMin g xs k b c) (hk : k < xs.length) (hb : b < 0 ∨ g (xs.getD k 0) < b) (h0 : 0 ≤ g (xs.getD k 0)) (h6 : g (xs.getD k 0) ≤ 6) : FirstMin g xs (k + 1) (g (xs.getD k 0)) (xs.getD k 0) := by
  rcases h with ⟨rfl, rfl, rfl⟩ | ⟨rfl, hb0, _⟩
  · refine .inr ⟨?_, h0, 0, by omega, rfl, rfl, fun j hj => by omega⟩
    rw [minL_take _ _ _ hk]
    generalize g (xs.getD 0 0) = v at *
    simp [minL]
    omega
  · refine .inr ⟨by rw [minL_take _ _ _ hk]; omega, h0, k, by omega, rfl, rfl, fun j hj => ?_⟩
    have := take_le xs g k j hj (by omega)
    omega
theorem FirstMin.less {g : Int → Int} {xs : List Int} {k : Nat} {b c : Int} (h : FirstMin g xs k b c) (hk : k < xs.length) (hb : ¬ (b < 0 ∨ g (xs.getD k 0) < b)) : FirstMin g xs (k + 1) b c := by
  rcases h with ⟨rfl, rfl, rfl⟩ | ⟨rfl, hb0, i, h3, h4⟩
  · omega
  · exact .inr ⟨by rw [minL_take _ _ _ hk]; omega, hb0, i, by omega, h4⟩
theorem FirstMin.done {g : Int → Int} {xs : List Int} {b c : Int} (h : FirstMin g xs xs.length b c) (hn : 0 < xs.length) : b = minL (xs.map g) ∧ c = firstOf g b xs := by
  rcases h with ⟨h1, _, _⟩ | ⟨h1, _, i, h3, rfl, h5, h6⟩
  · omega
  · rw [List.take_length] at h1
    exact ⟨h1, (firstOf_at h3 h5 (fun j hj => by have := h6 j hj; omega)).symm⟩

/-- the first card with which as many tricks are won as can be -/
def leadC (t : Int) (f : Nat) (lead other : List Int) : Int := firstOf (aftF t f lead other) (bestF t (f + 1) lead other) (isort lead)
/-- the first answer behind which as few as can be are won -/
def ansC (t : Int) (f : Nat) (lead other : List Int) (card : Int) : Int := firstOf (repF t f lead other card) (aftF t f lead other card) (legalL other card)
theorem bestF_isort (t : Int) (f : Nat) (lead other : List Int) : maxL ((isort lead).map (aftF t f lead other)) = bestF t (f + 1) lead other := maxL_perm ((isort_perm lead).map _)
theorem firstIdx_flt {α : Type} (p : α → Bool) (d : α) (xs : List α) : (xs.filter p = [] ∧ firstIdx p xs = -1) ∨ ∃ (i : Nat) (rest : List α), firstIdx p xs = (i : Int) ∧ i < xs.length ∧ xs.filter p = xs.getD i d :: rest := by
  induction xs with
  | nil => exact .inl ⟨rfl, rfl⟩
  | cons x xs ih =>
    by_cases hx : p x = true
    · refine .inr ⟨0, xs.filter p, ?_, by simp, ?_⟩
      · simp [firstIdx, hx]
      · simp [hx]
    · have hx' : p x = false := by simpa using hx
      rcases ih with ⟨h1, h2⟩ | ⟨i, rest, h1, h2, h3⟩
      · refine .inl ⟨by simp [hx', h1], by simp [firstIdx, hx', h2]⟩
      · refine .inr ⟨i + 1, rest, ?_, by simpa using h2, by simp [hx', h3]⟩
        simp only [firstIdx, hx', h1, Bool.false_eq_true, if_false]
        rw [if_neg (by omega)]
        omega
theorem firstOf_mem {g : Int → Int} {v : Int} {xs : List Int} (h : ∃ x ∈ xs, g x = v) : firstOf g v xs ∈ xs ∧ g (firstOf g v xs) = v ∧ ∃ i : Nat, firstIdx (fun c => g c == v) xs = (i : Int) ∧ i < xs.length := by
  have ha : xs.any (fun c => g c == v) = true := by
    rw [List.any_eq_true]
    obtain ⟨x, hx, e⟩ := h
    exact ⟨x, hx, by simpa using e⟩
  rcases firstIdx_flt (fun c => g c == v) (0 : Int) xs with ⟨h1, h2⟩ | ⟨i, rest, h1, h2, h3⟩
  · have := (firstIdx_any (fun c => g c == v) xs).1 ha; omega
  · have hm : xs.getD i 0 ∈ xs.filter (fun c => g c == v) := by rw [h3]; exact List.mem_cons_self
    rw [List.mem_filter] at hm
    have e : firstOf g v xs = xs.getD i 0 := by unfold firstOf; rw [h1]; rfl
    rw [e]
    exact ⟨hm.1, by simpa using hm.2, i, h1, h2⟩
theorem maxL_mem {xs : List Int} (h : ∀ x ∈ xs, 0 ≤ x) (hn : xs ≠ []) : maxL xs ∈ xs := by
  obtain ⟨a1, a2, a3⟩ := foldl_max xs (-1)
  rcases a3 with e | e
  · obtain ⟨x, hx⟩ := List.exists_mem_of_ne_nil xs hn
    have h1 := h x hx
    have h2 := a2 x hx
    omega
  · exact e
theorem minL_mem {xs : List Int} (h : ∀ x ∈ xs, x ≤ 6) (hn : xs ≠ []) : minL xs ∈ xs := by
  obtain ⟨a1, a2, a3⟩ := foldl_min xs 6
  rcases a3 with e | e
  · obtain ⟨x, hx⟩ := List.exists_mem_of_ne_nil xs hn
    have h1 := h x hx
    have h2 := a2 x hx
    have h3 : x = 6 := by omega
    have e2 : minL xs = x := by show xs.foldl min 6 = x; omega
    rw [e2]; exact hx
  · exact e
theorem leadC_mem {t : Int} {f : Nat} {lead other : List Int} (h1 : Hand (f + 1) lead) (h2 : Hand (f + 1) other) : leadC t f lead other ∈ lead := by
  have hm : maxL (lead.map (aftF t f lead other)) ∈ lead.map (aftF t f lead other) := maxL_mem (fun x hx => by
    obtain ⟨c, hc, rfl⟩ := List.mem_map.1 hx
    exact (aftF_bd h1 h2 hc).1) (by simpa using h1.ne)
  obtain ⟨c, hc, e⟩ := List.mem_map.1 hm
  exact (isort_perm lead).mem_iff.1 (firstOf_mem ⟨c, (isort_perm lead).mem_iff.2 hc, e⟩).1
theorem ansC_mem {t : Int} {f : Nat} {lead other : List Int} {card : Int} (hf : f ≤ 5) (h1 : Hand (f + 1) lead) (h2 : Hand (f + 1) other) (hc : card ∈ lead) : ansC t f lead other card ∈ legalL other card := by
  have hm : minL ((legalL other card).map (repF t f lead other card)) ∈ (legalL other card).map (repF t f lead other card) := minL_mem (fun x hx => by
    obtain ⟨a, ha, rfl⟩ := List.mem_map.1 hx
    have := (repF_bd (t := t) h1 h2 hc ha).2
    omega) (by simpa using legalL_ne card h2.ne)
  obtain ⟨a, ha, e⟩ := List.mem_map.1 hm
  exact (firstOf_mem ⟨a, ha, e⟩).1

end Go.Proofs.Ytgldfmkjnggedaa
