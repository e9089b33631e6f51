/- FarFromFull, plain facts. -/
import Derived.Test.YtnagmeeoeilbcaaViews
import Derived.Test.YtnagmeeoeilbcaaProg
namespace Go.Proofs.Ytnagmeeoeilbcaa
open Go.RowKit
set_option linter.unusedVariables false

/-- what group c holds of kind j: 0 to 8 three of a kind, 9 to 15 a row of three kinds -/
def con (c j : Nat) : Int := if c < 9 then (if j = c then 3 else 0) else (if c ≤ j + 9 ∧ j + 9 < c + 3 then 1 else 0)
def kindOf (c : Nat) : Nat := if c < 9 then c else c - 9
def addC (u : List Int) (c : Nat) : List Int := (List.range 9).map fun j => u.getD j 0 + con c j
def addP (u : List Int) (k : Nat) : List Int := (List.range 9).map fun j => u.getD j 0 + (if j = k then 2 else 0)
theorem addC_get (u : List Int) (c j : Nat) (h : j < 9) : (addC u c).getD j 0 = u.getD j 0 + con c j := by simp [addC, h]
theorem addP_get (u : List Int) (k j : Nat) (h : j < 9) : (addP u k).getD j 0 = u.getD j 0 + (if j = k then 2 else 0) := by simp [addP, h]
theorem addC_len (u : List Int) (c : Nat) : (addC u c).length = 9 := by simp [addC]
theorem addP_len (u : List Int) (k : Nat) : (addP u k).length = 9 := by simp [addP]
theorem ext9 {u v : List Int} (hu : u.length = 9) (hv : v.length = 9) (h : ∀ j, j < 9 → u.getD j 0 = v.getD j 0) : u = v := by
  apply List.ext_getElem (by omega)
  intro i h1 h2
  have := h i (by omega)
  simpa [h1, h2] using this
/-- sums over the kinds -/
def sum9 (f : Nat → Int) : Int := f 0 + f 1 + f 2 + f 3 + f 4 + f 5 + f 6 + f 7 + f 8
theorem sum9_congr {f g : Nat → Int} (h : ∀ j, j < 9 → f j = g j) : sum9 f = sum9 g := by
  unfold sum9
  rw [h 0 (by omega), h 1 (by omega), h 2 (by omega), h 3 (by omega), h 4 (by omega), h 5 (by omega), h 6 (by omega), h 7 (by omega), h 8 (by omega)]
theorem sum9_add (f g : Nat → Int) : sum9 (fun j => f j + g j) = sum9 f + sum9 g := by unfold sum9; dsimp only; omega
theorem sum9_le {f g : Nat → Int} (h : ∀ j, j < 9 → f j ≤ g j) : sum9 f ≤ sum9 g := by
  unfold sum9
  have := h 0 (by omega); have := h 1 (by omega); have := h 2 (by omega); have := h 3 (by omega); have := h 4 (by omega); have := h 5 (by omega); have := h 6 (by omega); have := h 7 (by omega); have := h 8 (by omega)
  omega
theorem sum9_con (c : Nat) (h : c < 16) : sum9 (con c) = 3 := by
  have : ∀ c, c < 16 → sum9 (con c) = 3 := by decide
  exact this c h
theorem sum9_pair (k : Nat) (h : k < 9) : sum9 (fun j => if j = k then 2 else 0) = 2 := by
  have : ∀ k, k < 9 → sum9 (fun j => if j = k then 2 else 0) = 2 := by decide
  exact this k h
def tot (u : List Int) : Int := sum9 fun j => u.getD j 0
/-- tiles that are held already -/
def valF (cs u : List Int) : Int := sum9 fun j => min (cs.getD j 0) (u.getD j 0)
/-- tiles that lack -/
def lackF (cs u : List Int) : Int := sum9 fun j => max 0 (u.getD j 0 - cs.getD j 0)
theorem lack_val (cs u : List Int) : lackF cs u = tot u - valF cs u := by
  have : tot u = lackF cs u + valF cs u := by
    unfold tot lackF valF
    rw [← sum9_add]
    exact sum9_congr fun j _ => by omega
  omega
theorem val_nonneg {cs u : List Int} (h : ∀ j, 0 ≤ cs.getD j 0) (k : ∀ j, j < 9 → 0 ≤ u.getD j 0) : 0 ≤ valF cs u := by
  have : sum9 (fun _ => (0 : Int)) ≤ valF cs u := sum9_le fun j hj => by have := h j; have := k j hj; omega
  simpa [sum9] using this
theorem con_nonneg (c j : Nat) : 0 ≤ con c j := by
  unfold con
  repeat (first | split | omega)
theorem con_low {c j : Nat} (h : j < kindOf c) : con c j = 0 := by
  unfold kindOf at h
  unfold con
  by_cases hc : c < 9
  · rw [if_pos hc] at h ⊢
    rw [if_neg (by omega)]
  · rw [if_neg hc] at h ⊢
    rw [if_neg (by omega)]
/-- all are at most 4 -/
def le4 (u : List Int) : Prop := ∀ j, j < 9 → u.getD j 0 ≤ 4
/-- what groups add -/
def addL (u : List Int) (l : List Nat) : List Int := l.foldl addC u
def conL (l : List Nat) (j : Nat) : Int := (l.map fun c => con c j).sum
theorem conL_cons (c : Nat) (l : List Nat) (j : Nat) : conL (c :: l) j = con c j + conL l j := by simp [conL]
theorem conL_nonneg (l : List Nat) (j : Nat) : 0 ≤ conL l j := by
  induction l with
  | nil => simp [conL]
  | cons c l ih => rw [conL_cons]; have := con_nonneg c j; omega
theorem addL_get : ∀ (l : List Nat) (u : List Int) (j : Nat), j < 9 → (addL u l).getD j 0 = u.getD j 0 + conL l j := by
  intro l
  induction l with
  | nil => intro u j _; simp [addL, conL]
  | cons c l ih =>
    intro u j hj
    show (addL (addC u c) l).getD j 0 = _
    rw [ih _ _ hj, addC_get _ _ _ hj, conL_cons]
    omega
theorem addL_len : ∀ (l : List Nat) (u : List Int), u.length = 9 → (addL u l).length = 9 := by
  intro l
  induction l with
  | nil => intro u h; exact h
  | cons c l ih => intro u h; exact ih _ (addC_len u c)
theorem conL_perm {l m : List Nat} (h : l.Perm m) (j : Nat) : conL l j = conL m j := by
  induction h with
  | nil => rfl
  | cons x _ ih => rw [conL_cons, conL_cons, ih]
  | swap x y l => simp only [conL_cons]; omega
  | trans _ _ ih1 ih2 => rw [ih1, ih2]
theorem addL_perm {l m : List Nat} {u : List Int} (hu : u.length = 9) (h : l.Perm m) : addL u l = addL u m :=
  ext9 (addL_len l u hu) (addL_len m u hu) fun j hj => by rw [addL_get _ _ _ hj, addL_get _ _ _ hj, conL_perm h]
theorem tot_addC (u : List Int) (c : Nat) (h : c < 16) : tot (addC u c) = tot u + 3 := by
  unfold tot
  rw [← sum9_con c h, ← sum9_add]
  exact sum9_congr fun j hj => addC_get u c j hj
theorem tot_addP (u : List Int) (k : Nat) (h : k < 9) : tot (addP u k) = tot u + 2 := by
  unfold tot
  rw [← sum9_pair k h, ← sum9_add]
  exact sum9_congr fun j hj => addP_get u k j hj
theorem tot_addL : ∀ (l : List Nat) (u : List Int), (∀ c ∈ l, c < 16) → tot (addL u l) = tot u + 3 * l.length := by
  intro l
  induction l with
  | nil => intro u _; simp [addL]
  | cons c l ih =>
    intro u h
    show tot (addL (addC u c) l) = _
    rw [ih _ (fun d hd => h d (List.mem_cons_of_mem _ hd)), tot_addC _ _ (h c List.mem_cons_self)]
    simp
    omega

/-- the program: groups in order -/
def farF (cs : List Int) : Nat → List Int → Nat → Int
  | 0, u, _ => if (List.range 9).all (fun j => decide (u.getD j 0 ≤ 4)) then lackF cs u else 100
  | g + 1, u, b => (List.range 16).foldl (fun m c => if c < b then m else min m (farF cs g (addC u c) c)) 100
/-- the reference -/
def nearF (cs : List Int) : Nat → List Int → Nat → Nat → Bool → Int
  | 0, u, i, g, p => if g = 0 ∧ p = true then valF cs u else -1
  | f + 1, u, i, g, p =>
    if g = 0 ∧ p = true then valF cs u
    else if i = 9 then -1
    else
      let b0 := nearF cs f u (i + 1) g p
      let b1 := if 0 < g ∧ u.getD i 0 + 3 ≤ 4 then max b0 (nearF cs f (addC u i) i (g - 1) p) else b0
      let b2 := if 0 < g ∧ i + 2 < 9 ∧ u.getD i 0 < 4 ∧ u.getD (i + 1) 0 < 4 ∧ u.getD (i + 2) 0 < 4 then max b1 (nearF cs f (addC u (9 + i)) i (g - 1) p) else b1
      if p = false ∧ u.getD i 0 + 2 ≤ 4 then max b2 (nearF cs f (addP u i) i g true) else b2

/-- what can be reached: groups and, if it lacks, a pair, of kinds from i on, at most 4 of each -/
def Hit (u : List Int) (i g : Nat) (p : Bool) (x : List Int) : Prop :=
  ∃ (l : List Nat) (k : Nat), l.length = g ∧ (∀ c ∈ l, c < 16 ∧ i ≤ kindOf c) ∧ (p = false → i ≤ k ∧ k < 9) ∧ x.length = 9 ∧ le4 x ∧ ∀ j, j < 9 → x.getD j 0 = u.getD j 0 + conL l j + (if p = true then 0 else if j = k then 2 else 0)

theorem foldl_min_le (f : Nat → Int) (b : Nat) : ∀ (l : List Nat) (m : Int), l.foldl (fun m c => if c < b then m else min m (f c)) m ≤ m ∧ (∀ c ∈ l, b ≤ c → l.foldl (fun m c => if c < b then m else min m (f c)) m ≤ f c) ∧ (l.foldl (fun m c => if c < b then m else min m (f c)) m = m ∨ ∃ c ∈ l, b ≤ c ∧ l.foldl (fun m c => if c < b then m else min m (f c)) m = f c) := by
  intro l
  induction l with
  | nil => intro m; simp
  | cons x l ih =>
    intro m
    rw [List.foldl_cons]
    obtain ⟨h1, h2, h3⟩ := ih (if x < b then m else min m (f x))
    have hle : (if x < b then m else min m (f x)) ≤ m := by split <;> omega
    refine ⟨by omega, fun c hc hb => ?_, ?_⟩
    · rcases List.mem_cons.1 hc with e | e
      · subst e
        rw [if_neg (by omega)] at h1 ⊢
        omega
      · exact h2 c e hb
    · rcases h3 with e | ⟨c, hc, hb, e⟩
      · by_cases hx : x < b
        · rw [if_pos hx] at e ⊢; exact .inl e
        · rw [if_neg hx] at e ⊢
          by_cases hm : m ≤ f x
          · exact .inl (by rw [e]; omega)
          · exact .inr ⟨x, List.mem_cons_self, by omega, by rw [e]; omega⟩
      · exact .inr ⟨c, List.mem_cons_of_mem _ hc, hb, e⟩
theorem all4 (u : List Int) : ((List.range 9).all fun j => decide (u.getD j 0 ≤ 4)) = true ↔ le4 u := by
  simp [le4, List.all_eq_true]
theorem farF_le (cs : List Int) : ∀ (g : Nat) (u : List Int) (b : Nat), farF cs (g + 1) u b ≤ 100 := by
  intro g u b
  exact (foldl_min_le (fun c => farF cs g (addC u c) c) b (List.range 16) 100).1
/-- it is no more than any sorted list of groups gives -/
theorem farF_low (cs : List Int) : ∀ (l : List Nat) (u : List Int) (b : Nat), (∀ c ∈ l, c < 16 ∧ b ≤ c) → l.Pairwise (fun a b => a ≤ b) → le4 (addL u l) → farF cs l.length u b ≤ lackF cs (addL u l) := by
  intro l
  induction l with
  | nil => intro u b _ _ h; simp only [List.length_nil, farF]; rw [if_pos ((all4 u).2 h)]; exact Int.le_refl _
  | cons c l ih =>
    intro u b hb hp h
    rw [List.pairwise_cons] at hp
    have h1 := hb c List.mem_cons_self
    have := (foldl_min_le (fun c => farF cs l.length (addC u c) c) b (List.range 16) 100).2.1 c (List.mem_range.2 h1.1) h1.2
    have h2 := ih (addC u c) c (fun d hd => ⟨(hb d (List.mem_cons_of_mem _ hd)).1, hp.1 d hd⟩) hp.2 h
    show (List.range 16).foldl _ _ ≤ lackF cs (addL (addC u c) l)
    exact Int.le_trans this h2
/-- and it is told by one, or 100 -/
theorem farF_hit (cs : List Int) : ∀ (g : Nat) (u : List Int) (b : Nat), farF cs g u b = 100 ∨ ∃ l : List Nat, l.length = g ∧ (∀ c ∈ l, c < 16) ∧ le4 (addL u l) ∧ farF cs g u b = lackF cs (addL u l) := by
  intro g
  induction g with
  | zero =>
    intro u b
    by_cases h : le4 u
    · exact .inr ⟨[], rfl, by simp, h, by simp only [farF]; rw [if_pos ((all4 u).2 h)]; rfl⟩
    · left; simp only [farF]; rw [if_neg (fun q => h ((all4 u).1 q))]
  | succ g ih =>
    intro u b
    rcases (foldl_min_le (fun c => farF cs g (addC u c) c) b (List.range 16) 100).2.2 with e | ⟨c, hc, hb, e⟩
    · exact .inl e
    · have e' : farF cs (g + 1) u b = farF cs g (addC u c) c := e
      rcases ih (addC u c) c with h | ⟨l, h1, h2, h3, h4⟩
      · exact .inl (e'.trans h)
      · exact .inr ⟨c :: l, by simp [h1], fun d hd => by rcases List.mem_cons.1 hd with q | q; rw [q]; exact List.mem_range.1 hc; exact h2 d q, h3, e'.trans h4⟩

end Go.Proofs.Ytnagmeeoeilbcaa
