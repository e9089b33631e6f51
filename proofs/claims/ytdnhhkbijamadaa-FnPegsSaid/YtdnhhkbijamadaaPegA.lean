/- Pegs, plain facts. -/
import Derived.Test.YtdnhhkbijamadaaViews
namespace Go.Proofs.Ytdnhhkbijamadaa
open Go.RowKit
set_option linter.unusedVariables false

def sumR (g : Nat → Nat) (n : Nat) : Nat := ((List.range n).map g).sum
theorem sumR_succ (g : Nat → Nat) (n : Nat) : sumR g (n + 1) = sumR g n + g n := by simp [sumR, List.range_succ]
theorem sumR_congr {g h : Nat → Nat} : ∀ n : Nat, (∀ j, j < n → g j = h j) → sumR g n = sumR h n := by
  intro n
  induction n with
  | zero => intro _; rfl
  | succ n ih => intro e; rw [sumR_succ, sumR_succ, ih fun j hj => e j (by omega), e n (by omega)]
def upd (g : Nat → Nat) (f v : Nat) : Nat → Nat := fun j => if j = f then v else g j
theorem upd_same (g : Nat → Nat) (f v : Nat) : upd g f v f = v := if_pos rfl
theorem upd_ne (g : Nat → Nat) (f v : Nat) {j : Nat} (h : j ≠ f) : upd g f v j = g j := if_neg h
theorem sumR_upd (g : Nat → Nat) (f v : Nat) : ∀ n, f < n → sumR (upd g f v) n + g f = sumR g n + v := by
  intro n
  induction n with
  | zero => intro h; omega
  | succ n ih =>
    intro h
    rw [sumR_succ, sumR_succ]
    by_cases e : f = n
    · subst e
      have := sumR_congr (g := upd g f v) (h := g) f (fun j hj => if_neg (by omega))
      rw [this, upd_same]; omega
    · have := ih (by omega)
      rw [upd_ne g f v (fun q => e q.symm)]
      omega
/-- how many pegs -/
def ones (n x : Nat) : Nat := sumR (fun i => (x.testBit i).toNat) n
theorem ones_le (n x : Nat) : ones n x ≤ n := by
  induction n with
  | zero => exact Nat.le_refl _
  | succ n ih => unfold ones at *; rw [sumR_succ]; have : (x.testBit n).toNat ≤ 1 := by cases x.testBit n <;> decide
                 omega
/-- a board behind a move -/
def md (x f t : Nat) : Nat := (x ^^^ (x &&& (2 ^ f ||| 2 ^ ((f + t) / 2)))) ||| 2 ^ t
theorem md_bit (x f t j : Nat) : (md x f t).testBit j = if j = t then true else if j = (f + t) / 2 then false else if j = f then false else x.testBit j := by
  unfold md
  rw [Nat.testBit_or, Nat.testBit_xor, Nat.testBit_and, Nat.testBit_or, Nat.testBit_two_pow, Nat.testBit_two_pow, Nat.testBit_two_pow]
  by_cases h1 : j = t
  · subst h1; simp
  · have e1 : decide (t = j) = false := decide_eq_false fun q => h1 q.symm
    rw [if_neg h1, e1]
    by_cases h2 : j = (f + t) / 2
    · have e2 : decide ((f + t) / 2 = j) = true := decide_eq_true h2.symm
      rw [if_pos h2, e2]; cases x.testBit j <;> cases decide (f = j) <;> rfl
    · have e2 : decide ((f + t) / 2 = j) = false := decide_eq_false fun q => h2 q.symm
      rw [if_neg h2, e2]
      by_cases h3 : j = f
      · have e3 : decide (f = j) = true := decide_eq_true h3.symm
        rw [if_pos h3, e3]; cases x.testBit j <;> rfl
      · have e3 : decide (f = j) = false := decide_eq_false fun q => h3 q.symm
        rw [if_neg h3, e3]; cases x.testBit j <;> rfl
theorem md_lt {n x f t : Nat} (h : x < 2 ^ n) (ht : t < n) : md x f t < 2 ^ n := by
  apply Nat.lt_pow_two_of_testBit
  intro j hj
  rw [md_bit]
  rw [if_neg (by omega)]
  have : x.testBit j = false := Nat.testBit_lt_two_pow (Nat.lt_of_lt_of_le h (Nat.pow_le_pow_right (by omega) hj))
  rw [this]
  split <;> (try split) <;> rfl
/-- a good move -/
structure GM (n x f t : Nat) : Prop where
  hf : f < n
  ht : t < n
  hm : (f + t) / 2 < n
  ft : f ≠ t
  mf : (f + t) / 2 ≠ f
  mt : (f + t) / 2 ≠ t
  bf : x.testBit f = true
  bm : x.testBit ((f + t) / 2) = true
  bt : x.testBit t = false
theorem ones_md {n x f t : Nat} (h : GM n x f t) : ones n (md x f t) + 1 = ones n x := by
  have e : ∀ j, ((md x f t).testBit j).toNat = upd (upd (upd (fun j => (x.testBit j).toNat) f 0) ((f + t) / 2) 0) t 1 j := by
    intro j
    rw [md_bit]
    by_cases h1 : j = t
    · subst h1; rw [if_pos rfl, upd_same]; rfl
    · rw [if_neg h1, upd_ne _ _ _ h1]
      by_cases h2 : j = (f + t) / 2
      · rw [if_pos h2, h2, upd_same]; rfl
      · rw [if_neg h2, upd_ne _ _ _ h2]
        by_cases h3 : j = f
        · rw [if_pos h3, h3, upd_same]; rfl
        · rw [if_neg h3, upd_ne _ _ _ h3]
  unfold ones
  rw [sumR_congr n fun j _ => e j]
  have h1 := sumR_upd (upd (upd (fun j => (x.testBit j).toNat) f 0) ((f + t) / 2) 0) t 1 n h.ht
  have h2 := sumR_upd (upd (fun j => (x.testBit j).toNat) f 0) ((f + t) / 2) 0 n h.hm
  have h3 := sumR_upd (fun j => (x.testBit j).toNat) f 0 n h.hf
  have a1 : upd (upd (fun j => (x.testBit j).toNat) f 0) ((f + t) / 2) 0 t = 0 := by
    rw [upd_ne _ _ _ (Ne.symm h.mt), upd_ne _ _ _ (Ne.symm h.ft), h.bt]; rfl
  have a2 : upd (fun j => (x.testBit j).toNat) f 0 ((f + t) / 2) = 1 := by
    rw [upd_ne _ _ _ h.mf, h.bm]; rfl
  have a3 : (x.testBit f).toNat = 1 := by rw [h.bf]; rfl
  rw [a1] at h1
  rw [a2] at h2
  rw [a3] at h3
  omega

def mvL (x i : Nat) : List (Nat × Nat) := if 2 ≤ i ∧ x.testBit (i - 1) = true ∧ x.testBit (i - 2) = false then [(i, i - 2)] else []
def mvR (n x i : Nat) : List (Nat × Nat) := if i + 2 < n ∧ x.testBit (i + 1) = true ∧ x.testBit (i + 2) = false then [(i, i + 2)] else []
/-- the moves from a place -/
def mvAt (n x i : Nat) : List (Nat × Nat) := if x.testBit i = true then mvL x i ++ mvR n x i else []
def mvTo (n x k : Nat) : List (Nat × Nat) := (List.range k).flatMap (mvAt n x)
def mv (n x : Nat) : List (Nat × Nat) := mvTo n x n
theorem mvTo_succ (n x k : Nat) : mvTo n x (k + 1) = mvTo n x k ++ mvAt n x k := by simp [mvTo, List.range_succ]
theorem mv_good {n x : Nat} {p : Nat × Nat} (h : p ∈ mv n x) : GM n x p.1 p.2 := by
  unfold mv mvTo at h
  obtain ⟨i, hi, hp⟩ := List.mem_flatMap.1 h
  rw [List.mem_range] at hi
  unfold mvAt at hp
  split at hp
  · rename_i hb
    rcases List.mem_append.1 hp with hp | hp
    · unfold mvL at hp
      split at hp
      · rename_i g
        obtain ⟨g1, g2, g3⟩ := g
        obtain rfl := List.mem_singleton.1 hp
        have e : (i + (i - 2)) / 2 = i - 1 := by omega
        exact ⟨hi, by dsimp only; omega, by dsimp only; omega, by dsimp only; omega, by dsimp only; omega, by dsimp only; omega, hb, by dsimp only; rw [e]; exact g2, g3⟩
      · cases hp
    · unfold mvR at hp
      split at hp
      · rename_i g
        obtain ⟨g1, g2, g3⟩ := g
        obtain rfl := List.mem_singleton.1 hp
        have e : (i + (i + 2)) / 2 = i + 1 := by omega
        exact ⟨hi, g1, by dsimp only; omega, by dsimp only; omega, by dsimp only; omega, by dsimp only; omega, hb, by dsimp only; rw [e]; exact g2, g3⟩
      · cases hp
  · cases hp
theorem mvTo_len (n x : Nat) : ∀ k, (mvTo n x k).length ≤ 2 * k := by
  intro k
  induction k with
  | zero => exact Nat.le_refl _
  | succ k ih =>
    rw [mvTo_succ, List.length_append]
    have : (mvAt n x k).length ≤ 2 := by
      unfold mvAt
      split
      · rw [List.length_append]
        have h1 : (mvL x k).length ≤ 1 := by unfold mvL; split <;> simp
        have h2 : (mvR n x k).length ≤ 1 := by unfold mvR; split <;> simp
        omega
      · simp
    omega

def minM (F : Nat × Nat → Nat) (a : Nat) (l : List (Nat × Nat)) : Nat := l.foldl (fun m p => min m (F p)) a
theorem minM_snoc (F : Nat × Nat → Nat) (a : Nat) (l : List (Nat × Nat)) (p : Nat × Nat) : minM F a (l ++ [p]) = min (minM F a l) (F p) := by simp [minM]
theorem minM_le (F : Nat × Nat → Nat) : ∀ (l : List (Nat × Nat)) (a : Nat), minM F a l ≤ a ∧ (∀ p ∈ l, minM F a l ≤ F p) ∧ (minM F a l = a ∨ ∃ p ∈ l, minM F a l = F p) := by
  intro l
  induction l with
  | nil => intro a; exact ⟨Nat.le_refl _, fun p hp => (by cases hp), .inl rfl⟩
  | cons q l ih =>
    intro a
    obtain ⟨h1, h2, h3⟩ := ih (min a (F q))
    have e : minM F a (q :: l) = minM F (min a (F q)) l := rfl
    rw [e]
    refine ⟨by omega, fun p hp => ?_, ?_⟩
    · rcases List.mem_cons.1 hp with rfl | hp
      · omega
      · exact h2 p hp
    · rcases h3 with h3 | ⟨p, hp, h3⟩
      · by_cases c : a ≤ F q
        · left; rw [h3]; omega
        · right; exact ⟨q, List.mem_cons_self, by rw [h3]; omega⟩
      · right; exact ⟨p, List.mem_cons_of_mem _ hp, h3⟩
theorem minM_congr {F G : Nat × Nat → Nat} : ∀ (l : List (Nat × Nat)) (a : Nat), (∀ p ∈ l, F p = G p) → minM F a l = minM G a l := by
  intro l
  induction l with
  | nil => intro a _; rfl
  | cons q l ih =>
    intro a h
    have e1 : minM F a (q :: l) = minM F (min a (F q)) l := rfl
    have e2 : minM G a (q :: l) = minM G (min a (G q)) l := rfl
    rw [e1, e2, h q List.mem_cons_self]
    exact ih _ fun p hp => h p (List.mem_cons_of_mem _ hp)
def LF (n : Nat) : Nat → Nat → Nat
  | 0, x => ones n x
  | k + 1, x => minM (fun p => LF n k (md x p.1 p.2)) (ones n x) (mv n x)
/-- the least number of pegs that can be left -/
def Lst (n x : Nat) : Nat := LF n (ones n x) x
theorem Lst_step (n x : Nat) : Lst n x = minM (fun p => Lst n (md x p.1 p.2)) (ones n x) (mv n x) := by
  unfold Lst
  cases h : ones n x with
  | zero =>
    have : mv n x = [] := by
      apply List.eq_nil_iff_forall_not_mem.2
      intro p hp
      have := ones_md (mv_good hp)
      omega
    rw [this]
    show ones n x = _
    rw [h]; rfl
  | succ k =>
    show minM (fun p => LF n k (md x p.1 p.2)) (ones n x) (mv n x) = _
    rw [h]
    refine minM_congr _ _ fun p hp => ?_
    have := ones_md (mv_good hp)
    have e : ones n (md x p.1 p.2) = k := by omega
    rw [e]
theorem Lst_le (n x : Nat) : Lst n x ≤ ones n x := by
  rw [Lst_step]; exact (minM_le _ _ _).1
theorem Lst_pos {n : Nat} : ∀ (k x : Nat), ones n x = k → (Lst n x = 0 ↔ k = 0) := by
  intro k
  induction k with
  | zero => intro x h; have := Lst_le n x; omega
  | succ k ih =>
    intro x h
    rw [Lst_step]
    rcases (minM_le (fun p => Lst n (md x p.1 p.2)) (mv n x) (ones n x)).2.2 with e | ⟨p, hp, e⟩
    · rw [e]; omega
    · rw [e]
      have h1 := ones_md (mv_good hp)
      have h2 := ih (md x p.1 p.2) (by omega)
      by_cases hk : k = 0
      · subst hk
        have : md x p.1 p.2 = md x p.1 p.2 := rfl
        have h3 : (md x p.1 p.2).testBit p.2 = true := by rw [md_bit, if_pos rfl]
        have h4 : 1 ≤ ones n (md x p.1 p.2) := by
          unfold ones
          have := sumR_upd (fun i => ((md x p.1 p.2).testBit i).toNat) p.2 0 n (mv_good hp).ht
          rw [h3] at this
          have e1 : true.toNat = 1 := rfl
          omega
        omega
      · omega

/-- moves as numbers -/
def flatP (l : List (Nat × Nat)) : List Int := l.flatMap fun p => [(p.1 : Int), (p.2 : Int)]
theorem flatP_append (l m : List (Nat × Nat)) : flatP (l ++ m) = flatP l ++ flatP m := by simp [flatP]
theorem flatP_len (l : List (Nat × Nat)) : (flatP l).length = l.length * 2 := flat_len _ 2 (fun _ => rfl) l
theorem flatP_get (l : List (Nat × Nat)) (j : Nat) (h : j < l.length) : (flatP l).getD (2 * j) 0 = ((l.getD j (0, 0)).1 : Int) ∧ (flatP l).getD (2 * j + 1) 0 = ((l.getD j (0, 0)).2 : Int) := by
  have f := fun t ht => flat_get (fun p : Nat × Nat => [(p.1 : Int), (p.2 : Int)]) 2 (fun _ => rfl) l j t ht
  have e : l[j]? = some (l.getD j (0, 0)) := by simp [h]
  have h0 := f 0 (by omega)
  have h1 := f 1 (by omega)
  rw [e] at h0 h1
  have e0 : 2 * j = j * 2 + 0 := by omega
  have e1 : 2 * j + 1 = j * 2 + 1 := by omega
  refine ⟨?_, ?_⟩
  · rw [List.getD_eq_getElem?_getD, e0]
    unfold flatP
    rw [h0]; rfl
  · rw [List.getD_eq_getElem?_getD, e1]
    unfold flatP
    rw [h1]; rfl

/-- the line of moves -/
def lineP (n m : Nat) : Nat → Nat → List Int
  | 0, _ => []
  | k + 1, x => match (mv n x).find? (fun p => decide (Lst n (md x p.1 p.2) = m)) with
    | some p => (p.1 : Int) :: (p.2 : Int) :: lineP n m k (md x p.1 p.2)
    | none => []
theorem find_ok {n x m : Nat} (h : Lst n x = m) (hm : m < ones n x) : ∃ p, p ∈ mv n x ∧ Lst n (md x p.1 p.2) = m := by
  have h0 := Lst_step n x
  rcases (minM_le (fun p => Lst n (md x p.1 p.2)) (mv n x) (ones n x)).2.2 with e | ⟨p, hp, e⟩
  · omega
  · exact ⟨p, hp, by omega⟩
theorem lineP_at {n m k x j : Nat} (hj : j < (mv n x).length) (hno : ∀ i, i < j → Lst n (md x ((mv n x).getD i (0, 0)).1 ((mv n x).getD i (0, 0)).2) ≠ m) (hyes : Lst n (md x ((mv n x).getD j (0, 0)).1 ((mv n x).getD j (0, 0)).2) = m) :
    lineP n m (k + 1) x = (((mv n x).getD j (0, 0)).1 : Int) :: (((mv n x).getD j (0, 0)).2 : Int) :: lineP n m k (md x ((mv n x).getD j (0, 0)).1 ((mv n x).getD j (0, 0)).2) := by
  have key : ∀ (l : List (Nat × Nat)) (j : Nat), j < l.length → (∀ i, i < j → Lst n (md x (l.getD i (0, 0)).1 (l.getD i (0, 0)).2) ≠ m) → Lst n (md x (l.getD j (0, 0)).1 (l.getD j (0, 0)).2) = m → l.find? (fun p => decide (Lst n (md x p.1 p.2) = m)) = some (l.getD j (0, 0)) := by
    intro l
    induction l with
    | nil => intro j h; simp at h
    | cons q l ih =>
      intro j h h1 h2
      cases j with
      | zero => simp only [List.getD_cons_zero] at h2 ⊢; rw [List.find?_cons_of_pos (by simpa using h2)]
      | succ j =>
        have h3 := h1 0 (by omega)
        simp only [List.getD_cons_zero] at h3
        rw [List.find?_cons_of_neg (by simpa using h3), List.getD_cons_succ]
        exact ih j (by simpa using h) (fun i hi => by simpa using h1 (i + 1) (by omega)) (by simpa using h2)
  show (match (mv n x).find? _ with | some p => _ | none => _) = _
  rw [key _ j hj hno hyes]
theorem lineP_len (n m : Nat) : ∀ (k x : Nat), (lineP n m k x).length ≤ 2 * k := by
  intro k
  induction k with
  | zero => intro x; simp [lineP]
  | succ k ih =>
    intro x
    unfold lineP
    split
    · rename_i p _
      have := ih (md x p.1 p.2)
      simp only [List.length_cons]
      omega
    · simp

/-- a board as a number -/
def bTo (bs : List Bool) : Nat → Nat
  | 0 => 0
  | k + 1 => if bs.getD k false = true then bTo bs k ||| 2 ^ k else bTo bs k
def bN (bs : List Bool) : Nat := bTo bs bs.length
theorem bTo_bit (bs : List Bool) (j : Nat) : ∀ k, (bTo bs k).testBit j = (decide (j < k) && bs.getD j false) := by
  intro k
  induction k with
  | zero => simp [bTo]
  | succ k ih =>
    unfold bTo
    by_cases e : j = k
    · subst e
      have : decide (j < j + 1) = true := decide_eq_true (by omega)
      have h2 : decide (j < j) = false := decide_eq_false (by omega)
      rw [this]
      split
      · rename_i g; rw [Nat.testBit_or, Nat.testBit_two_pow, ih, g]; simp
      · rename_i g; rw [ih, h2]; simp only [Bool.not_eq_true] at g; rw [g]; rfl
    · have h1 : decide (j < k + 1) = decide (j < k) := by
        by_cases q : j < k
        · rw [decide_eq_true q, decide_eq_true (by omega)]
        · rw [decide_eq_false q, decide_eq_false (by omega)]
      rw [h1]
      split
      · have e3 : decide (k = j) = false := decide_eq_false fun q => e q.symm
        rw [Nat.testBit_or, Nat.testBit_two_pow, ih, e3, Bool.or_false]
      · exact ih
theorem bTo_lt (bs : List Bool) (k : Nat) : bTo bs k < 2 ^ k := by
  apply Nat.lt_pow_two_of_testBit
  intro j hj
  rw [bTo_bit, decide_eq_false (by omega)]
  rfl
theorem bN_bit (bs : List Bool) (j : Nat) : (bN bs).testBit j = bs.getD j false := by
  unfold bN
  rw [bTo_bit]
  by_cases h : j < bs.length
  · rw [decide_eq_true h]; rfl
  · rw [decide_eq_false h, List.getD_eq_getElem?_getD, List.getElem?_eq_none (by omega)]; rfl
theorem bN_lt (bs : List Bool) : bN bs < 2 ^ bs.length := bTo_lt bs _
theorem getD_setB (l : List Bool) (i j : Nat) (v : Bool) (h : i < l.length) : (l.set i v).getD j false = if j = i then v else l.getD j false := by
  rw [List.getD_eq_getElem?_getD, List.getD_eq_getElem?_getD]
  by_cases e : j = i
  · subst e; rw [if_pos rfl]; simp [h]
  · rw [if_neg e, List.getElem?_set_ne (fun q => e q.symm)]
def jump (bs : List Bool) (f t : Nat) : List Bool := ((bs.set f false).set ((f + t) / 2) false).set t true
theorem jump_len (bs : List Bool) (f t : Nat) : (jump bs f t).length = bs.length := by simp [jump]
theorem bN_jump {bs : List Bool} {f t : Nat} (h : GM bs.length (bN bs) f t) : bN (jump bs f t) = md (bN bs) f t := by
  apply Nat.eq_of_testBit_eq
  intro j
  rw [bN_bit, md_bit, bN_bit]
  unfold jump
  rw [getD_setB _ _ _ _ (by simpa using h.ht), getD_setB _ _ _ _ (by simpa using h.hm), getD_setB _ _ _ _ h.hf]
theorem ones_bN (bs : List Bool) : ones bs.length (bN bs) = sumR (fun i => (bs.getD i false).toNat) bs.length := by
  unfold ones
  exact sumR_congr _ fun j _ => by rw [bN_bit]

def pegRes (bs : List Bool) : List Int × Bool := if 1 ≤ bs.length ∧ bs.length ≤ 14 then (lineP bs.length (Lst bs.length (bN bs)) (ones bs.length (bN bs) - Lst bs.length (bN bs)) (bN bs), true) else ([], false)
theorem pegRes_len (bs : List Bool) : (pegRes bs).1.length ≤ 1048576 := by
  unfold pegRes
  split
  · have h1 := lineP_len bs.length (Lst bs.length (bN bs)) (ones bs.length (bN bs) - Lst bs.length (bN bs)) (bN bs)
    have h2 := ones_le bs.length (bN bs)
    dsimp only
    omega
  · simp
end Go.Proofs.Ytdnhhkbijamadaa
