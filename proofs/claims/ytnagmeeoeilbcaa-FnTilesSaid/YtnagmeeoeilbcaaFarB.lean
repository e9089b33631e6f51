/- FarFromFull, plain facts: both searches tell the same. -/
import Derived.Test.YtnagmeeoeilbcaaFarA
namespace Go.Proofs.Ytnagmeeoeilbcaa
open Go.RowKit
set_option linter.unusedVariables false

theorem kindOf_lt {c : Nat} (h : c < 16) : kindOf c < 9 := by
  unfold kindOf
  split <;> omega
theorem kind_cases {c i : Nat} (h : c < 16) (e : kindOf c = i) : (c = i ∧ i < 9) ∨ (c = 9 + i ∧ i + 2 < 9) := by
  unfold kindOf at e
  split at e
  · left; omega
  · right; omega
theorem con_three {i : Nat} (h : i < 9) : con i i = 3 := by unfold con; rw [if_pos h, if_pos rfl]
theorem con_row {i j : Nat} (h : j = i ∨ j = i + 1 ∨ j = i + 2) : con (9 + i) j = 1 := by
  unfold con
  rw [if_neg (by omega), if_pos (by omega)]
theorem conL_mem {l : List Nat} {c : Nat} (h : c ∈ l) (j : Nat) : conL l j = con c j + conL (l.erase c) j := by
  rw [conL_perm (List.perm_cons_erase h) j, conL_cons]

theorem near_up (cs : List Int) : ∀ (f : Nat) (u : List Int) (i g : Nat) (p : Bool), (9 - i) + g + (if p = true then 0 else 1) ≤ f → i ≤ 9 → u.length = 9 → ∀ x, Hit u i g p x → valF cs x ≤ nearF cs f u i g p := by
  intro f
  induction f with
  | zero =>
    intro u i g p hm hi hu x hx
    have hp : p = true := by cases p; simp at hm; rfl
    subst hp
    have hg : g = 0 := by simp at hm; omega
    subst hg
    obtain ⟨l, k, h1, _, _, h4, _, h6⟩ := hx
    have hl : l = [] := List.eq_nil_of_length_eq_zero h1
    subst hl
    have e : x = u := ext9 h4 hu fun j hj => by rw [h6 j hj]; simp [conL]
    subst e
    simp [nearF]
  | succ f ih =>
    intro u i g p hm hi hu x hx
    unfold nearF
    by_cases hd : g = 0 ∧ p = true
    · rw [if_pos hd]
      obtain ⟨hg, hp⟩ := hd
      subst hg hp
      obtain ⟨l, k, h1, _, _, h4, _, h6⟩ := hx
      have hl : l = [] := List.eq_nil_of_length_eq_zero h1
      subst hl
      have e : x = u := ext9 h4 hu fun j hj => by rw [h6 j hj]; simp [conL]
      subst e
      exact Int.le_refl _
    · rw [if_neg hd]
      obtain ⟨l, k, h1, h2, h3, h4, h5, h6⟩ := hx
      by_cases hi9 : i = 9
      · exfalso
        subst hi9
        have hl : l = [] := by
          cases l with
          | nil => rfl
          | cons c l => have := h2 c List.mem_cons_self; have := kindOf_lt this.1; omega
        subst hl
        cases p
        · have := h3 rfl; omega
        · exact hd ⟨h1.symm, rfl⟩
      · rw [if_neg hi9]
        have hi8 : i < 9 := by omega
        dsimp only
        by_cases hc : ∃ c ∈ l, kindOf c = i
        · obtain ⟨c, hcl, hck⟩ := hc
          have hg : 0 < g := by rw [← h1]; exact List.length_pos_of_mem hcl
          have hsub : Hit (addC u c) i (g - 1) p x := ⟨l.erase c, k, by rw [List.length_erase_of_mem hcl, h1], fun d hd' => h2 d (List.mem_of_mem_erase hd'), h3, h4, h5, fun j hj => by
            rw [h6 j hj, addC_get _ _ _ hj, conL_mem hcl]; omega⟩
          have hle := ih (addC u c) i (g - 1) p (by omega) hi (addC_len _ _) x hsub
          have hpl : ∀ j, j < 9 → u.getD j 0 + con c j ≤ 4 := fun j hj => by
            have a1 := h5 j hj
            rw [h6 j hj, conL_mem hcl] at a1
            have a2 := conL_nonneg (l.erase c) j
            have a3 : (0 : Int) ≤ (if p = true then 0 else if j = k then 2 else 0) := by split; exact Int.le_refl _; split <;> omega
            omega
          rcases kind_cases (h2 c hcl).1 hck with ⟨rfl, _⟩ | ⟨rfl, hi2⟩
          · have b1 : u.getD c 0 + 3 ≤ 4 := by have := hpl c hi8; rw [con_three hi8] at this; exact this
            rw [if_pos (⟨hg, b1⟩ : 0 < g ∧ u.getD c 0 + 3 ≤ 4)]
            split <;> split <;> omega
          · have b1 : u.getD i 0 < 4 := by have := hpl i hi8; rw [con_row (.inl rfl)] at this; omega
            have b2 : u.getD (i + 1) 0 < 4 := by have := hpl (i + 1) (by omega); rw [con_row (.inr (.inl rfl))] at this; omega
            have b3 : u.getD (i + 2) 0 < 4 := by have := hpl (i + 2) (by omega); rw [con_row (.inr (.inr rfl))] at this; omega
            rw [if_pos (⟨hg, hi2, b1, b2, b3⟩ : 0 < g ∧ i + 2 < 9 ∧ u.getD i 0 < 4 ∧ u.getD (i + 1) 0 < 4 ∧ u.getD (i + 2) 0 < 4)]
            split <;> split <;> omega
        · have hn : ∀ c ∈ l, c < 16 ∧ i + 1 ≤ kindOf c := fun c hcl => by
            have a := h2 c hcl
            refine ⟨a.1, ?_⟩
            rcases Nat.lt_or_ge i (kindOf c) with q | q
            · exact q
            · exact absurd ⟨c, hcl, by omega⟩ hc
          by_cases hpk : p = false ∧ k = i
          · obtain ⟨hp, hk⟩ := hpk
            subst hp hk
            have hsub : Hit (addP u k) k g true x := ⟨l, 0, h1, h2, (fun q => (by cases q)), h4, h5, fun j hj => by
              rw [h6 j hj, addP_get _ _ _ hj]
              simp only [Bool.false_eq_true, if_false, if_true]
              omega⟩
            have hle := ih (addP u k) k g true (by simp at hm ⊢; omega) hi (addP_len _ _) x hsub
            have b1 : u.getD k 0 + 2 ≤ 4 := by
              have a1 := h5 k hi8
              rw [h6 k hi8] at a1
              simp only [Bool.false_eq_true, if_false, if_true] at a1
              have a2 := conL_nonneg l k
              omega
            rw [if_pos (⟨rfl, b1⟩ : false = false ∧ u.getD k 0 + 2 ≤ 4)]
            split <;> split <;> omega
          · have hsub : Hit u (i + 1) g p x := ⟨l, k, h1, hn, fun q => by
              have a := h3 q
              refine ⟨?_, a.2⟩
              rcases Nat.lt_or_ge i k with r | r
              · exact r
              · exact absurd ⟨q, by omega⟩ hpk, h4, h5, h6⟩
            have hle := ih u (i + 1) g p (by omega) (by omega) hu x hsub
            split <;> split <;> split <;> omega

theorem le4_addC {u : List Int} {c : Nat} (h : le4 u) (k : ∀ j, j < 9 → con c j ≠ 0 → u.getD j 0 + con c j ≤ 4) : le4 (addC u c) := fun j hj => by
  rw [addC_get _ _ _ hj]
  by_cases e : con c j = 0
  · rw [e]; have := h j hj; omega
  · exact k j hj e
theorem con_three_ne {i j : Nat} (h : i < 9) (e : con i j ≠ 0) : j = i ∧ con i j = 3 := by
  unfold con at *
  rw [if_pos h] at e ⊢
  by_cases q : j = i
  · rw [if_pos q]; exact ⟨q, rfl⟩
  · rw [if_neg q] at e; exact absurd rfl e
theorem con_row_ne {i j : Nat} (e : con (9 + i) j ≠ 0) : (j = i ∨ j = i + 1 ∨ j = i + 2) ∧ con (9 + i) j = 1 := by
  unfold con at *
  rw [if_neg (show ¬ 9 + i < 9 by omega)] at e ⊢
  by_cases q : 9 + i ≤ j + 9 ∧ j + 9 < 9 + i + 3
  · rw [if_pos q]; exact ⟨by omega, rfl⟩
  · rw [if_neg q] at e; exact absurd rfl e
theorem kindOf_three {i : Nat} (h : i < 9) : kindOf i = i := by unfold kindOf; rw [if_pos h]
theorem kindOf_row (i : Nat) : kindOf (9 + i) = i := by unfold kindOf; rw [if_neg (by omega)]; omega
theorem Hit.weak {u : List Int} {i g : Nat} {p : Bool} {x : List Int} (h : Hit u (i + 1) g p x) : Hit u i g p x := by
  obtain ⟨l, k, h1, h2, h3, h4⟩ := h
  exact ⟨l, k, h1, fun c hc => ⟨(h2 c hc).1, by have := (h2 c hc).2; omega⟩, fun q => by have := h3 q; omega, h4⟩
theorem Hit.more {u : List Int} {i g c : Nat} {p : Bool} {x : List Int} (h : Hit (addC u c) i (g - 1) p x) (hg : 0 < g) (hc : c < 16) (hk : kindOf c = i) : Hit u i g p x := by
  obtain ⟨l, k, h1, h2, h3, h4, h5, h6⟩ := h
  refine ⟨c :: l, k, by simp [h1]; omega, fun d hd => ?_, h3, h4, h5, fun j hj => ?_⟩
  · rcases List.mem_cons.1 hd with e | e
    · subst e; exact ⟨hc, by omega⟩
    · exact h2 d e
  · rw [h6 j hj, addC_get _ _ _ hj, conL_cons]; omega
theorem Hit.pair {u : List Int} {i g : Nat} {x : List Int} (h : Hit (addP u i) i g true x) (hi : i < 9) : Hit u i g false x := by
  obtain ⟨l, k, h1, h2, h3, h4, h5, h6⟩ := h
  refine ⟨l, i, h1, h2, fun _ => ⟨Nat.le_refl _, hi⟩, h4, h5, fun j hj => ?_⟩
  rw [h6 j hj, addP_get _ _ _ hj]
  simp only [Bool.false_eq_true, if_false, if_true]
  omega
theorem near_hit (cs : List Int) : ∀ (f : Nat) (u : List Int) (i g : Nat) (p : Bool), le4 u → u.length = 9 → i ≤ 9 → nearF cs f u i g p = -1 ∨ ∃ x, Hit u i g p x ∧ nearF cs f u i g p = valF cs x := by
  intro f
  induction f with
  | zero =>
    intro u i g p h4 hu hi
    unfold nearF
    by_cases hd : g = 0 ∧ p = true
    · rw [if_pos hd]
      obtain ⟨hg, hp⟩ := hd
      subst hg hp
      exact .inr ⟨u, ⟨[], 0, rfl, by simp, by simp, hu, h4, by simp [conL]⟩, rfl⟩
    · rw [if_neg hd]; exact .inl rfl
  | succ f ih =>
    intro u i g p h4 hu hi
    unfold nearF
    by_cases hd : g = 0 ∧ p = true
    · rw [if_pos hd]
      obtain ⟨hg, hp⟩ := hd
      subst hg hp
      exact .inr ⟨u, ⟨[], 0, rfl, by simp, by simp, hu, h4, by simp [conL]⟩, rfl⟩
    · rw [if_neg hd]
      by_cases hi9 : i = 9
      · rw [if_pos hi9]; exact .inl rfl
      · rw [if_neg hi9]
        have hi8 : i < 9 := by omega
        dsimp only
        have k0 : nearF cs f u (i + 1) g p = -1 ∨ ∃ x, Hit u i g p x ∧ nearF cs f u (i + 1) g p = valF cs x := by
          rcases ih u (i + 1) g p h4 hu (by omega) with e | ⟨x, hx, e⟩
          · exact .inl e
          · exact .inr ⟨x, hx.weak, e⟩
        generalize nearF cs f u (i + 1) g p = b0 at *
        have k1 : (if 0 < g ∧ u.getD i 0 + 3 ≤ 4 then max b0 (nearF cs f (addC u i) i (g - 1) p) else b0) = -1 ∨ ∃ x, Hit u i g p x ∧ (if 0 < g ∧ u.getD i 0 + 3 ≤ 4 then max b0 (nearF cs f (addC u i) i (g - 1) p) else b0) = valF cs x := by
          by_cases q : 0 < g ∧ u.getD i 0 + 3 ≤ 4
          · rw [if_pos q]
            have := ih (addC u i) i (g - 1) p (le4_addC h4 fun j hj e => by obtain ⟨rfl, e2⟩ := con_three_ne hi8 e; rw [e2]; exact q.2) (addC_len _ _) hi
            by_cases r : b0 ≤ nearF cs f (addC u i) i (g - 1) p
            · rw [show max b0 (nearF cs f (addC u i) i (g - 1) p) = nearF cs f (addC u i) i (g - 1) p by omega]
              rcases this with e | ⟨x, hx, e⟩
              · exact .inl e
              · exact .inr ⟨x, hx.more q.1 (by omega) (kindOf_three hi8), e⟩
            · rw [show max b0 (nearF cs f (addC u i) i (g - 1) p) = b0 by omega]; exact k0
          · rw [if_neg q]; exact k0
        generalize (if 0 < g ∧ u.getD i 0 + 3 ≤ 4 then max b0 (nearF cs f (addC u i) i (g - 1) p) else b0) = b1 at *
        have k2 : (if 0 < g ∧ i + 2 < 9 ∧ u.getD i 0 < 4 ∧ u.getD (i + 1) 0 < 4 ∧ u.getD (i + 2) 0 < 4 then max b1 (nearF cs f (addC u (9 + i)) i (g - 1) p) else b1) = -1 ∨ ∃ x, Hit u i g p x ∧ (if 0 < g ∧ i + 2 < 9 ∧ u.getD i 0 < 4 ∧ u.getD (i + 1) 0 < 4 ∧ u.getD (i + 2) 0 < 4 then max b1 (nearF cs f (addC u (9 + i)) i (g - 1) p) else b1) = valF cs x := by
          by_cases q : 0 < g ∧ i + 2 < 9 ∧ u.getD i 0 < 4 ∧ u.getD (i + 1) 0 < 4 ∧ u.getD (i + 2) 0 < 4
          · rw [if_pos q]
            have := ih (addC u (9 + i)) i (g - 1) p (le4_addC h4 fun j hj e => by
              obtain ⟨e1, e2⟩ := con_row_ne e
              rw [e2]
              rcases e1 with e1 | e1 | e1 <;> subst e1
              · have := q.2.2.1; omega
              · have := q.2.2.2.1; omega
              · have := q.2.2.2.2; omega) (addC_len _ _) hi
            by_cases r : b1 ≤ nearF cs f (addC u (9 + i)) i (g - 1) p
            · rw [show max b1 (nearF cs f (addC u (9 + i)) i (g - 1) p) = nearF cs f (addC u (9 + i)) i (g - 1) p by omega]
              rcases this with e | ⟨x, hx, e⟩
              · exact .inl e
              · exact .inr ⟨x, hx.more q.1 (by have := q.2.1; omega) (kindOf_row i), e⟩
            · rw [show max b1 (nearF cs f (addC u (9 + i)) i (g - 1) p) = b1 by omega]; exact k1
          · rw [if_neg q]; exact k1
        generalize (if 0 < g ∧ i + 2 < 9 ∧ u.getD i 0 < 4 ∧ u.getD (i + 1) 0 < 4 ∧ u.getD (i + 2) 0 < 4 then max b1 (nearF cs f (addC u (9 + i)) i (g - 1) p) else b1) = b2 at *
        by_cases q : p = false ∧ u.getD i 0 + 2 ≤ 4
        · rw [if_pos q]
          have := ih (addP u i) i g true (fun j hj => by
            rw [addP_get _ _ _ hj]
            have := h4 j hj
            by_cases e : j = i
            · subst e; rw [if_pos rfl]; exact q.2
            · rw [if_neg e]; omega) (addP_len _ _) hi
          by_cases r : b2 ≤ nearF cs f (addP u i) i g true
          · rw [show max b2 (nearF cs f (addP u i) i g true) = nearF cs f (addP u i) i g true by omega]
            rcases this with e | ⟨x, hx, e⟩
            · exact .inl e
            · exact .inr ⟨x, by rw [q.1]; exact hx.pair hi8, e⟩
          · rw [show max b2 (nearF cs f (addP u i) i g true) = b2 by omega]; exact k2
        · rw [if_neg q]; exact k2

def zero9 : List Int := List.replicate 9 0
theorem zero9_get (j : Nat) : zero9.getD j 0 = 0 := by
  unfold zero9
  rw [List.getD_eq_getElem?_getD, List.getElem?_replicate]
  split <;> rfl
theorem hit_some (G : Nat) (h : G ≤ 4) : ∃ x, Hit zero9 0 G false x := by
  refine ⟨addL (addP zero9 8) (List.range G), List.range G, 8, by simp, fun c hc => ⟨by have := List.mem_range.1 hc; omega, by omega⟩, fun _ => by omega, addL_len _ _ (addP_len _ _), ?_, fun j hj => ?_⟩
  · intro j hj
    rw [addL_get _ _ _ hj, addP_get _ _ _ hj, zero9_get]
    have : ∀ G, G ≤ 4 → ∀ j, j < 9 → 0 + (if j = 8 then (2 : Int) else 0) + conL (List.range G) j ≤ 4 := by decide
    exact this G h j hj
  · rw [addL_get _ _ _ hj, addP_get _ _ _ hj]
    simp only [Bool.false_eq_true, if_false]
    omega
/-- the program's answer -/
def farAll (cs : List Int) (G : Nat) : Int := (List.range 9).foldl (fun m k => min m (farF cs G (addP zero9 k) 0)) 100
theorem foldl_min2 (f : Nat → Int) : ∀ (l : List Nat) (m : Int), l.foldl (fun m k => min m (f k)) m ≤ m ∧ (∀ k ∈ l, l.foldl (fun m k => min m (f k)) m ≤ f k) ∧ (l.foldl (fun m k => min m (f k)) m = m ∨ ∃ k ∈ l, l.foldl (fun m k => min m (f k)) m = f k) := by
  intro l
  induction l with
  | nil => intro m; simp
  | cons x l ih =>
    intro m
    rw [List.foldl_cons]
    obtain ⟨h1, h2, h3⟩ := ih (min m (f x))
    refine ⟨by omega, fun k hk => ?_, ?_⟩
    · rcases List.mem_cons.1 hk with e | e
      · subst e; omega
      · exact h2 k e
    · rcases h3 with e | ⟨k, hk, e⟩
      · by_cases hm : m ≤ f x
        · exact .inl (by rw [e]; omega)
        · exact .inr ⟨x, List.mem_cons_self, by rw [e]; omega⟩
      · exact .inr ⟨k, List.mem_cons_of_mem _ hk, e⟩
theorem hit_form {G : Nat} {x : List Int} (h : Hit zero9 0 G false x) : ∃ (l : List Nat) (k : Nat), l.length = G ∧ (∀ c ∈ l, c < 16) ∧ k < 9 ∧ x = addL (addP zero9 k) l ∧ le4 x := by
  obtain ⟨l, k, h1, h2, h3, h4, h5, h6⟩ := h
  refine ⟨l, k, h1, fun c hc => (h2 c hc).1, (h3 rfl).2, ext9 h4 (addL_len _ _ (addP_len _ _)) fun j hj => ?_, h5⟩
  rw [h6 j hj, addL_get _ _ _ hj, addP_get _ _ _ hj]
  simp only [Bool.false_eq_true, if_false]
  omega
theorem form_hit {l : List Nat} {k : Nat} (h2 : ∀ c ∈ l, c < 16) (hk : k < 9) (h5 : le4 (addL (addP zero9 k) l)) : Hit zero9 0 l.length false (addL (addP zero9 k) l) := by
  refine ⟨l, k, rfl, fun c hc => ⟨h2 c hc, by omega⟩, fun _ => ⟨by omega, hk⟩, addL_len _ _ (addP_len _ _), h5, fun j hj => ?_⟩
  rw [addL_get _ _ _ hj, addP_get _ _ _ hj]
  simp only [Bool.false_eq_true, if_false]
  omega
theorem tot_form {l : List Nat} {k : Nat} (h2 : ∀ c ∈ l, c < 16) (hk : k < 9) : tot (addL (addP zero9 k) l) = 2 + 3 * l.length := by
  rw [tot_addL _ _ h2, tot_addP _ _ hk]
  have : tot zero9 = 0 := by decide
  omega
/-- BOTH TELL THE SAME. -/
theorem far_same (cs : List Int) (hcs : ∀ j, 0 ≤ cs.getD j 0) (G : Nat) (hG : G ≤ 4) (f : Nat) (hf : 10 + G ≤ f) : farAll cs G = 2 + 3 * (G : Int) - nearF cs f zero9 0 G false ∧ 0 ≤ nearF cs f zero9 0 G false := by
  have hz : le4 zero9 := fun j _ => by rw [zero9_get]; omega
  have up := near_up cs f zero9 0 G false (by simp; omega) (by omega) (by rfl)
  have hv0 : ∀ x, Hit zero9 0 G false x → 0 ≤ valF cs x := fun x hx => by
    obtain ⟨l, k, _, _, _, e, _⟩ := hit_form hx
    refine val_nonneg hcs fun j hj => ?_
    rw [e, addL_get _ _ _ hj, addP_get _ _ _ hj, zero9_get]
    have := conL_nonneg l j
    split <;> omega
  obtain ⟨x0, hx0⟩ := hit_some G hG
  have hA0 : 0 ≤ nearF cs f zero9 0 G false := Int.le_trans (hv0 x0 hx0) (up x0 hx0)
  refine ⟨?_, hA0⟩
  rcases near_hit cs f zero9 0 G false hz rfl (by omega) with e | ⟨x, hx, e⟩
  · omega
  · obtain ⟨l, k, h1, h2, hk, ex, h4⟩ := hit_form hx
    obtain ⟨m1, m2, m3⟩ := foldl_min2 (fun k => farF cs G (addP zero9 k) 0) (List.range 9) 100
    have hp : (l.mergeSort (fun a b => decide (a ≤ b))).Perm l := List.mergeSort_perm _ _
    have hs : (l.mergeSort (fun a b => decide (a ≤ b))).Pairwise (fun a b => a ≤ b) := by
      have := List.pairwise_mergeSort (le := fun (a b : Nat) => decide (a ≤ b)) (by intro a b c; simp; omega) (by intro a b; simp; omega) l
      exact this.imp (by simp)
    have hlen : (l.mergeSort (fun a b => decide (a ≤ b))).length = G := by rw [hp.length_eq, h1]
    have heq : addL (addP zero9 k) (l.mergeSort (fun a b => decide (a ≤ b))) = x := by rw [ex]; exact addL_perm (addP_len _ _) hp
    have low := farF_low cs (l.mergeSort (fun a b => decide (a ≤ b))) (addP zero9 k) 0 (fun c hc => ⟨h2 c (hp.mem_iff.1 hc), Nat.zero_le _⟩) hs (by rw [heq]; exact h4)
    rw [hlen, heq] at low
    have t1 : tot x = 2 + 3 * (G : Int) := by rw [ex, tot_form h2 hk, h1]
    have l1 := lack_val cs x
    have m2' := m2 k (List.mem_range.2 hk)
    have hle : farAll cs G ≤ 2 + 3 * (G : Int) - nearF cs f zero9 0 G false := by
      show (List.range 9).foldl _ _ ≤ _
      rw [e]
      omega
    refine Int.le_antisymm hle ?_
    rcases m3 with q | ⟨k2, hk2, q⟩
    · have : farAll cs G = 100 := q
      have hGi : (G : Int) ≤ 4 := by omega
      omega
    · have q' : farAll cs G = farF cs G (addP zero9 k2) 0 := q
      rcases farF_hit cs G (addP zero9 k2) 0 with r | ⟨l2, r1, r2, r3, r4⟩
      · have hGi : (G : Int) ≤ 4 := by omega
        omega
      · have hh := form_hit r2 (List.mem_range.1 hk2) r3
        rw [r1] at hh
        have u2 := up _ hh
        have l2' := lack_val cs (addL (addP zero9 k2) l2)
        have t2 := tot_form r2 (List.mem_range.1 hk2)
        rw [r1] at t2
        omega

end Go.Proofs.Ytnagmeeoeilbcaa
