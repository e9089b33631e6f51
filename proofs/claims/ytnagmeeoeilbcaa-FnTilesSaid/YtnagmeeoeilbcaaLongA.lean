/- Lines of tiles, plain facts. -/
import Derived.Test.YtnagmeeoeilbcaaViews
import Derived.Test.YtnagmeeoeilbcaaProg
namespace Go.Proofs.Ytnagmeeoeilbcaa
open Go.RowKit
set_option linter.unusedVariables false

def tA (ts : List (Int × Int)) (i : Nat) : Nat := (ts.getD i (0, 0)).1.toNat
def tB (ts : List (Int × Int)) (i : Nat) : Nat := (ts.getD i (0, 0)).2.toNat
/-- the ends behind a tile -/
def nextE (ts : List (Int × Int)) (E i : Nat) : Nat := (if E.testBit (tA ts i) then 2 ^ tB ts i else 0) ||| (if E.testBit (tB ts i) then 2 ^ tA ts i else 0)
/-- what the program visits, in its order -/
def preL (ts : List (Int × Int)) : Nat → List Int → Nat → List (List Int × Nat)
  | 0, line, E => [(line, E)]
  | f + 1, line, E => (line, E) :: (List.range ts.length).flatMap fun (i : Nat) => if (i : Int) ∈ line ∨ nextE ts E i = 0 then [] else preL ts f (line ++ [(i : Int)]) (nextE ts E i)
/-- the lines that the reference compares -/
def preS (ts : List (Int × Int)) : Nat → List Int → Int → List (List Int)
  | 0, line, _ => [line]
  | f + 1, line, e => line :: (List.range ts.length).flatMap fun (i : Nat) => if (i : Int) ∈ line then [] else (if e < 0 ∨ (tA ts i : Int) = e then preS ts f (line ++ [(i : Int)]) (tB ts i) else []) ++ (if e < 0 ∨ (tB ts i : Int) = e then preS ts f (line ++ [(i : Int)]) (tA ts i) else [])
def lexle : List Int → List Int → Bool
  | [], _ => true
  | _ :: _, [] => false
  | a :: la, b :: lb => decide (a < b) || (a == b && lexle la lb)
def good (a b : List Int) : Bool := decide (b.length < a.length) || (a.length == b.length && lexle a b)
def longer (a b : List Int) : List Int := if good a b then a else b
def srchL (ts : List (Int × Int)) : Nat → List Int → Int → List Int
  | 0, line, _ => line
  | f + 1, line, e => (List.range ts.length).foldl (fun best (i : Nat) => if (i : Int) ∈ line then best else
      let b1 := if e < 0 ∨ (tA ts i : Int) = e then longer best (srchL ts f (line ++ [(i : Int)]) (tB ts i)) else best
      if e < 0 ∨ (tB ts i : Int) = e then longer b1 (srchL ts f (line ++ [(i : Int)]) (tA ts i)) else b1) line

theorem lexle_refl (a : List Int) : lexle a a = true := by
  induction a with
  | nil => rfl
  | cons x a ih => simp [lexle, ih]
theorem lexle_antisymm : ∀ (a b : List Int), lexle a b = true → lexle b a = true → a = b := by
  intro a
  induction a with
  | nil => intro b h1 h2; cases b with
    | nil => rfl
    | cons y b => simp [lexle] at h2
  | cons x a ih => intro b h1 h2; cases b with
    | nil => simp [lexle] at h1
    | cons y b =>
      simp only [lexle, Bool.or_eq_true, decide_eq_true_eq, Bool.and_eq_true, beq_iff_eq] at h1 h2
      have e : x = y := by omega
      subst e
      rw [ih b (by rcases h1 with h1 | h1; omega; exact h1.2) (by rcases h2 with h2 | h2; omega; exact h2.2)]
theorem lexle_trans : ∀ (a b c : List Int), lexle a b = true → lexle b c = true → lexle a c = true := by
  intro a
  induction a with
  | nil => intro b c _ _; rfl
  | cons x a ih => intro b c h1 h2; cases b with
    | nil => simp [lexle] at h1
    | cons y b => cases c with
      | nil => simp [lexle] at h2
      | cons z c =>
        simp only [lexle, Bool.or_eq_true, decide_eq_true_eq, Bool.and_eq_true, beq_iff_eq] at h1 h2 ⊢
        rcases h1 with h1 | ⟨e1, h1⟩
        · rcases h2 with h2 | ⟨e2, h2⟩
          · left; omega
          · left; omega
        · rcases h2 with h2 | ⟨e2, h2⟩
          · left; omega
          · right; exact ⟨by omega, ih b c h1 h2⟩
theorem lexle_total : ∀ (a b : List Int), lexle a b = true ∨ lexle b a = true := by
  intro a
  induction a with
  | nil => intro b; exact .inl rfl
  | cons x a ih => intro b; cases b with
    | nil => exact .inr rfl
    | cons y b =>
      simp only [lexle, Bool.or_eq_true, decide_eq_true_eq, Bool.and_eq_true, beq_iff_eq]
      by_cases h : x < y
      · exact .inl (.inl h)
      · by_cases h2 : y < x
        · exact .inr (.inl h2)
        · rcases ih b with h3 | h3
          · exact .inl (.inr ⟨by omega, h3⟩)
          · exact .inr (.inr ⟨by omega, h3⟩)
theorem lexle_app (p x y : List Int) : lexle (p ++ x) (p ++ y) = lexle x y := by
  induction p with
  | nil => rfl
  | cons a p ih => simp [lexle, ih]
theorem good_iff (a b : List Int) : good a b = true ↔ b.length < a.length ∨ (a.length = b.length ∧ lexle a b = true) := by simp [good]
theorem good_refl (a : List Int) : good a a = true := (good_iff _ _).2 (.inr ⟨rfl, lexle_refl a⟩)
theorem good_antisymm {a b : List Int} (h : good a b = true) (k : good b a = true) : a = b := by
  rw [good_iff] at h k
  rcases h with h | h
  · rcases k with k | k <;> omega
  · rcases k with k | k
    · omega
    · exact lexle_antisymm _ _ h.2 k.2
theorem good_trans {a b c : List Int} (h : good a b = true) (k : good b c = true) : good a c = true := by
  rw [good_iff] at h k ⊢
  rcases h with h | h
  · rcases k with k | k <;> (left; omega)
  · rcases k with k | k
    · left; omega
    · right; exact ⟨by omega, lexle_trans _ _ _ h.2 k.2⟩
theorem good_total (a b : List Int) : good a b = true ∨ good b a = true := by
  rw [good_iff, good_iff]
  by_cases h : b.length < a.length
  · exact .inl (.inl h)
  · by_cases h2 : a.length < b.length
    · exact .inr (.inl h2)
    · rcases lexle_total a b with h3 | h3
      · exact .inl (.inr ⟨by omega, h3⟩)
      · exact .inr (.inr ⟨by omega, h3⟩)

def Best (S : List (List Int)) (x : List Int) : Prop := x ∈ S ∧ ∀ y ∈ S, good x y = true
theorem Best.unique {S T : List (List Int)} {x y : List Int} (h : Best S x) (k : Best T y) (hm : ∀ l, l ∈ S ↔ l ∈ T) : x = y :=
  good_antisymm (h.2 y ((hm y).2 k.1)) (k.2 x ((hm x).1 h.1))
theorem Best.longer {S T : List (List Int)} {x y : List Int} (h : Best S x) (k : Best T y) : Best (S ++ T) (longer x y) := by
  unfold Go.Proofs.Ytnagmeeoeilbcaa.longer
  by_cases g : good x y = true
  · rw [if_pos g]
    exact ⟨List.mem_append_left _ h.1, fun z hz => by
      rcases List.mem_append.1 hz with e | e
      · exact h.2 z e
      · exact good_trans g (k.2 z e)⟩
  · rw [if_neg g]
    have g2 : good y x = true := by rcases good_total x y with e | e; exact absurd e g; exact e
    exact ⟨List.mem_append_right _ k.1, fun z hz => by
      rcases List.mem_append.1 hz with e | e
      · exact good_trans g2 (h.2 z e)
      · exact k.2 z e⟩
theorem best_foldl {α : Type} (g : List Int → α → List Int) (G : α → List (List Int)) : ∀ (xs : List α) (S : List (List Int)) (b : List Int), (∀ x ∈ xs, ∀ S b, Best S b → Best (S ++ G x) (g b x)) → Best S b → Best (S ++ xs.flatMap G) (xs.foldl g b) := by
  intro xs
  induction xs with
  | nil => intro S b _ h; simpa using h
  | cons x xs ih =>
    intro S b hg h
    rw [List.foldl_cons, List.flatMap_cons, ← List.append_assoc]
    exact ih _ _ (fun y hy => hg y (List.mem_cons_of_mem _ hy)) (hg x List.mem_cons_self S b h)
theorem srch_best (ts : List (Int × Int)) : ∀ (f : Nat) (line : List Int) (e : Int), Best (preS ts f line e) (srchL ts f line e) := by
  intro f
  induction f with
  | zero => intro line e; exact ⟨List.mem_singleton.2 rfl, fun y hy => by rw [List.mem_singleton.1 hy]; exact good_refl _⟩
  | succ f ih =>
    intro line e
    unfold preS srchL
    refine best_foldl _ _ _ [line] line (fun i _ S b h => ?_) ⟨List.mem_singleton.2 rfl, fun y hy => by rw [List.mem_singleton.1 hy]; exact good_refl _⟩
    by_cases hi : (i : Int) ∈ line
    · simp only [if_pos hi, List.append_nil]; exact h
    · simp only [if_neg hi]
      rw [← List.append_assoc]
      have h1 : Best (S ++ (if e < 0 ∨ (tA ts i : Int) = e then preS ts f (line ++ [(i : Int)]) (tB ts i) else [])) (if e < 0 ∨ (tA ts i : Int) = e then longer b (srchL ts f (line ++ [(i : Int)]) (tB ts i)) else b) := by
        by_cases hA : e < 0 ∨ (tA ts i : Int) = e
        · rw [if_pos hA, if_pos hA]; exact h.longer (ih _ _)
        · rw [if_neg hA, if_neg hA, List.append_nil]; exact h
      by_cases hB : e < 0 ∨ (tB ts i : Int) = e
      · rw [if_pos hB, if_pos hB]; exact h1.longer (ih _ _)
      · rw [if_neg hB, if_neg hB, List.append_nil]; exact h1

/-- the program's choice -/
def stepL (b : List Int) (l : List Int × Nat) : List Int := if b.length < l.1.length then l.1 else b
def Ahead (a b : List Int) : Prop := a.length = b.length → lexle a b = true
theorem foldl_best : ∀ (L : List (List Int × Nat)) (s : List Int), (s :: L.map Prod.fst).Pairwise Ahead → Best (s :: L.map Prod.fst) (L.foldl stepL s) := by
  intro L
  induction L with
  | nil => intro s _; exact ⟨by simp, fun y hy => by simp at hy; subst hy; exact good_refl _⟩
  | cons l L ih =>
    intro s h
    rw [List.map_cons, List.pairwise_cons, List.pairwise_cons] at h
    obtain ⟨h1, h2, h3⟩ := h
    have e0 : stepL s l = if s.length < l.1.length then l.1 else s := rfl
    rw [List.foldl_cons, e0]
    by_cases hl : s.length < l.1.length
    · rw [if_pos hl]
      obtain ⟨k1, k2⟩ := ih l.1 (List.pairwise_cons.2 ⟨h2, h3⟩)
      refine ⟨List.mem_cons_of_mem _ k1, fun y hy => ?_⟩
      rcases List.mem_cons.1 hy with e | e
      · subst e
        exact good_trans (k2 l.1 List.mem_cons_self) ((good_iff _ _).2 (.inl hl))
      · exact k2 y e
    · rw [if_neg hl]
      obtain ⟨k1, k2⟩ := ih s (List.pairwise_cons.2 ⟨fun y hy => h1 y (List.mem_cons_of_mem _ hy), h3⟩)
      refine ⟨by rcases List.mem_cons.1 k1 with e | e; rw [e]; exact List.mem_cons_self; exact List.mem_cons_of_mem _ (List.mem_cons_of_mem _ e), fun y hy => ?_⟩
      rcases List.mem_cons.1 hy with e | e
      · exact k2 y (by rw [e]; exact List.mem_cons_self)
      · rcases List.mem_cons.1 e with e2 | e2
        · subst e2
          refine good_trans (k2 s List.mem_cons_self) ((good_iff _ _).2 ?_)
          by_cases hq : l.1.length < s.length
          · exact .inl hq
          · have hq2 : s.length = l.1.length := by omega
            exact .inr ⟨hq2, h1 l.1 List.mem_cons_self hq2⟩
        · exact k2 y (List.mem_cons_of_mem _ e2)
theorem preL_prefix (ts : List (Int × Int)) : ∀ (f : Nat) (line : List Int) (E : Nat) (l : List Int × Nat), l ∈ preL ts f line E → ∃ s, l.1 = line ++ s := by
  intro f
  induction f with
  | zero => intro line E l h; rw [List.mem_singleton.1 h]; exact ⟨[], (List.append_nil _).symm⟩
  | succ f ih =>
    intro line E l h
    unfold preL at h
    rcases List.mem_cons.1 h with e | e
    · subst e; exact ⟨[], (List.append_nil _).symm⟩
    · obtain ⟨i, _, hi⟩ := List.mem_flatMap.1 e
      split at hi
      · simp at hi
      · obtain ⟨s, hs⟩ := ih _ _ _ hi
        exact ⟨(i : Int) :: s, by rw [hs]; simp⟩
theorem preL_pairwise (ts : List (Int × Int)) : ∀ (f : Nat) (line : List Int) (E : Nat), (preL ts f line E).Pairwise (fun a b => Ahead a.1 b.1) := by
  intro f
  induction f with
  | zero => intro line E; simp [preL]
  | succ f ih =>
    intro line E
    unfold preL
    rw [List.pairwise_cons]
    refine ⟨fun l hl hlen => ?_, ?_⟩
    · have hp : l ∈ preL ts (f + 1) line E := by unfold preL; exact List.mem_cons_of_mem _ hl
      obtain ⟨s, hs⟩ := preL_prefix ts _ _ _ _ hp
      rw [hs] at hlen ⊢
      have : s = [] := by
        rw [List.length_append] at hlen
        apply List.eq_nil_of_length_eq_zero
        dsimp only at hlen
        omega
      subst this
      rw [List.append_nil]
      exact lexle_refl _
    · rw [List.pairwise_flatMap]
      refine ⟨fun i _ => ?_, ?_⟩
      · split
        · exact List.Pairwise.nil
        · exact ih _ _
      · refine List.pairwise_lt_range.imp ?_
        intro i j hij x hx y hy hlen
        split at hx
        · simp at hx
        · split at hy
          · simp at hy
          · obtain ⟨s, hs⟩ := preL_prefix ts _ _ _ _ hx
            obtain ⟨r, hr⟩ := preL_prefix ts _ _ _ _ hy
            rw [hs, hr, List.append_assoc, List.append_assoc, lexle_app]
            simp [lexle]
            omega
theorem nextE_bit (ts : List (Int × Int)) (E i e : Nat) : (nextE ts E i).testBit e = true ↔ (E.testBit (tA ts i) = true ∧ e = tB ts i) ∨ (E.testBit (tB ts i) = true ∧ e = tA ts i) := by
  unfold nextE
  rw [Nat.testBit_or, Bool.or_eq_true]
  constructor
  · rintro (h | h)
    · split at h
      · rename_i g; rw [Nat.testBit_two_pow] at h; exact .inl ⟨g, by simpa using (of_decide_eq_true h).symm⟩
      · simp at h
    · split at h
      · rename_i g; rw [Nat.testBit_two_pow] at h; exact .inr ⟨g, by simpa using (of_decide_eq_true h).symm⟩
      · simp at h
  · rintro (⟨h, rfl⟩ | ⟨h, rfl⟩)
    · left; rw [if_pos h, Nat.testBit_two_pow]; simp
    · right; rw [if_pos h, Nat.testBit_two_pow]; simp
theorem ne_zero_bit {E : Nat} (h : E ≠ 0) : ∃ e, E.testBit e = true := Nat.exists_testBit_of_ne_zero h
theorem bit_ne_zero {E e : Nat} (h : E.testBit e = true) : E ≠ 0 := by
  intro h0
  subst h0
  simp at h
/-- The lines are the same. -/
theorem mem_pre (ts : List (Int × Int)) : ∀ (f : Nat) (line : List Int) (E : Nat), E ≠ 0 → ∀ l, l ∈ (preL ts f line E).map Prod.fst ↔ ∃ e : Nat, E.testBit e = true ∧ l ∈ preS ts f line (e : Int) := by
  intro f
  induction f with
  | zero =>
    intro line E hE l
    simp only [preL, preS, List.map_cons, List.map_nil, List.mem_singleton]
    constructor
    · intro h; obtain ⟨e, he⟩ := ne_zero_bit hE; exact ⟨e, he, h⟩
    · rintro ⟨_, _, h⟩; exact h
  | succ f ih =>
    intro line E hE l
    simp only [preL, preS, List.map_cons, List.mem_cons, List.map_flatMap, List.mem_flatMap, List.mem_range]
    constructor
    · rintro (h | ⟨i, hi, h⟩)
      · obtain ⟨e, he⟩ := ne_zero_bit hE; exact ⟨e, he, .inl h⟩
      · split at h
        · simp at h
        · rename_i hc
          obtain ⟨h1, h2⟩ : ¬ (i : Int) ∈ line ∧ nextE ts E i ≠ 0 := ⟨fun q => hc (.inl q), fun q => hc (.inr q)⟩
          obtain ⟨e', he', hl⟩ := (ih _ _ h2 l).1 h
          rcases (nextE_bit ts E i e').1 he' with ⟨g, rfl⟩ | ⟨g, rfl⟩
          · exact ⟨_, g, .inr ⟨i, hi, by rw [if_neg h1, if_pos (.inr rfl)]; exact List.mem_append_left _ hl⟩⟩
          · exact ⟨_, g, .inr ⟨i, hi, by rw [if_neg h1, if_pos (.inr rfl) (c := ((tB ts i : Nat) : Int) < 0 ∨ _)]; exact List.mem_append_right _ hl⟩⟩
    · rintro ⟨e, he, h | ⟨i, hi, h⟩⟩
      · exact .inl h
      · refine .inr ⟨i, hi, ?_⟩
        split at h
        · simp at h
        · rename_i hc
          rcases List.mem_append.1 h with h | h
          · split at h
            · rename_i g
              have e1 : tA ts i = e := by omega
              have hb : (nextE ts E i).testBit (tB ts i) = true := (nextE_bit ts E i _).2 (.inl ⟨by rw [e1]; exact he, rfl⟩)
              rw [if_neg (by rintro (q | q); exact hc q; exact bit_ne_zero hb q)]
              exact (ih _ _ (bit_ne_zero hb) l).2 ⟨_, hb, h⟩
            · simp at h
          · split at h
            · rename_i g
              have e1 : tB ts i = e := by omega
              have hb : (nextE ts E i).testBit (tA ts i) = true := (nextE_bit ts E i _).2 (.inr ⟨by rw [e1]; exact he, rfl⟩)
              rw [if_neg (by rintro (q | q); exact hc q; exact bit_ne_zero hb q)]
              exact (ih _ _ (bit_ne_zero hb) l).2 ⟨_, hb, h⟩
            · simp at h
theorem mem_pre_all (ts : List (Int × Int)) (hr : ∀ i, i < ts.length → tA ts i < 7 ∧ tB ts i < 7) (f : Nat) (line : List Int) (l : List Int) : l ∈ (preL ts f line 127).map Prod.fst ↔ l ∈ preS ts f line (-1) := by
  have hb : ∀ k, k < 7 → (127 : Nat).testBit k = true := by decide
  cases f with
  | zero => simp [preL, preS]
  | succ f =>
    simp only [preL, preS, List.map_cons, List.mem_cons, List.map_flatMap, List.mem_flatMap, List.mem_range]
    refine or_congr Iff.rfl (exists_congr fun i => and_congr_right fun hi => ?_)
    obtain ⟨hA, hB⟩ := hr i hi
    by_cases hc : (i : Int) ∈ line
    · rw [if_pos (.inl hc), if_pos hc]; simp
    · have g1 : (nextE ts 127 i).testBit (tB ts i) = true := (nextE_bit ts 127 i _).2 (.inl ⟨hb _ hA, rfl⟩)
      rw [if_neg (by rintro (q | q); exact hc q; exact bit_ne_zero g1 q), if_neg hc, if_pos (.inl (by omega)), if_pos (.inl (by omega)), mem_pre ts f _ _ (bit_ne_zero g1), List.mem_append]
      constructor
      · rintro ⟨e, he, hl⟩
        rcases (nextE_bit ts 127 i e).1 he with ⟨_, rfl⟩ | ⟨_, rfl⟩
        · exact .inl hl
        · exact .inr hl
      · rintro (hl | hl)
        · exact ⟨_, g1, hl⟩
        · exact ⟨_, (nextE_bit ts 127 i _).2 (.inr ⟨hb _ hB, rfl⟩), hl⟩
/-- BOTH TELL THE SAME LINE. -/
theorem longest_same (ts : List (Int × Int)) (hr : ∀ i, i < ts.length → tA ts i < 7 ∧ tB ts i < 7) (f : Nat) : (preL ts f [] 127).foldl stepL [] = srchL ts f [] (-1) := by
  have hp : ([] :: (preL ts f [] 127).map Prod.fst).Pairwise Ahead := by
    rw [List.pairwise_cons]
    exact ⟨fun _ _ _ => rfl, List.pairwise_map.2 (preL_pairwise ts f [] 127)⟩
  refine (foldl_best _ _ hp).unique (srch_best ts f [] (-1)) fun l => ?_
  rw [List.mem_cons, mem_pre_all ts hr]
  constructor
  · rintro (e | e)
    · subst e
      cases f <;> simp [preS]
    · exact e
  · exact .inr

end Go.Proofs.Ytnagmeeoeilbcaa
