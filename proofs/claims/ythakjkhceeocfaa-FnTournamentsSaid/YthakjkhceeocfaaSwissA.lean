/- Pairs: plain facts. -/
import Derived.Test.YthakjkhceeocfaaTieA
namespace Go.Proofs.Ythakjkhceeocfaa
open Go.RowKit
set_option linter.unusedVariables false

/-- whether two may meet -/
def freeOf (met : List Int) (n : Nat) (a k : Int) : Bool := met.getD (a * n + k).toNat 0 == 0
/-- pairs out of an order -/
def swF (met : List Int) (n : Nat) : Nat → List Int → List Int → List Int × Bool
  | 0, _, out => (out, true)
  | _ + 1, [], out => (out, true)
  | f + 1, a :: rest, out => if firstIdx (freeOf met n a) rest < 0 then ([], false) else swF met n f (rest.eraseIdx (firstIdx (freeOf met n a) rest).toNat) (out ++ [a, rest.getD (firstIdx (freeOf met n a) rest).toNat 0])
theorem swF_nil (met : List Int) (n f : Nat) (out : List Int) : swF met n f [] out = (out, true) := by cases f <;> rfl
theorem swF_cons (met : List Int) (n f : Nat) (a : Int) (rest out : List Int) : swF met n (f + 1) (a :: rest) out = if firstIdx (freeOf met n a) rest < 0 then ([], false) else swF met n f (rest.eraseIdx (firstIdx (freeOf met n a) rest).toNat) (out ++ [a, rest.getD (firstIdx (freeOf met n a) rest).toNat 0]) := rfl
theorem swF_len (met : List Int) (n : Nat) : ∀ (f : Nat) (order out : List Int), (swF met n f order out).1.length ≤ order.length + out.length := by
  intro f
  induction f with
  | zero => intro order out; simp [swF]
  | succ f ih =>
    intro order out
    cases order with
    | nil => simp [swF]
    | cons a rest =>
      rw [swF_cons]
      split
      · simp
      · rename_i h
        have hr := firstIdx_range (freeOf met n a) rest
        have := ih (rest.eraseIdx (firstIdx (freeOf met n a) rest).toNat) (out ++ [a, rest.getD (firstIdx (freeOf met n a) rest).toNat 0])
        rw [List.length_eraseIdx_of_lt (by omega)] at this
        simp only [List.length_append, List.length_cons, List.length_nil] at this ⊢
        omega

def metOk (met : List Int) (n : Nat) (q : Nat) : Bool := inB (met.getD q 0) 0 128 && (met.getD q 0 == met.getD (q % n * n + q / n) 0) && !((q / n == q % n) && (met.getD q 0 != 0))
def metOks (met : List Int) (n : Nat) : Bool := (List.range (n * n)).all (metOk met n)
def zeros (n : Nat) : List Int := List.replicate n 0
/-- what SwissPairs tells -/
def swRes (sc met : List Int) : List Int × Bool :=
  if okScores sc = true ∧ sc.length % 2 = 0 ∧ met.length = sc.length * sc.length ∧ metOks met sc.length = true then swF met sc.length sc.length (tieList sc (zeros sc.length)) [] else ([], false)
theorem swRes_len (sc met : List Int) : (swRes sc met).1.length ≤ 1048576 := by
  unfold swRes
  split
  · rename_i h
    have h1 := okScores_len h.1
    have := swF_len met sc.length sc.length (tieList sc (zeros sc.length)) []
    rw [tieList_len] at this
    simp at this
    omega
  · simp
theorem metOks_iff (met : List Int) (n : Nat) : metOks met n = true ↔ ∀ q, q < n * n → metOk met n q = true := by
  simp only [metOks, List.all_eq_true, List.mem_range]
theorem metOks_not {met : List Int} {n q : Nat} (h : q < n * n) (e : metOk met n q = false) : metOks met n = false := by
  rw [← Bool.not_eq_true]
  intro h2
  rw [metOks_iff] at h2
  rw [h2 q h] at e
  cases e
theorem metOk_at {met : List Int} {n i k : Nat} (hk : k < n) : metOk met n (i * n + k) = (inB (met.getD (i * n + k) 0) 0 128 && (met.getD (i * n + k) 0 == met.getD (k * n + i) 0) && !((i == k) && (met.getD (i * n + k) 0 != 0))) := by
  have h1 : (i * n + k) / n = i := by
    rw [Nat.mul_comm, Nat.mul_add_div (by omega), Nat.div_eq_of_lt hk, Nat.add_zero]
  have h2 : (i * n + k) % n = k := by
    rw [Nat.mul_comm, Nat.mul_add_mod, Nat.mod_eq_of_lt hk]
  rw [metOk, h1, h2]
theorem zeros_getD (n j : Nat) : (zeros n).getD j 0 = 0 := by
  simp only [zeros, List.getD_eq_getElem?_getD, List.getElem?_replicate]
  split <;> rfl
theorem better_zeros (sc : List Int) (n : Nat) (a b : Int) : better sc (zeros n) a b = decide (sc.getD b.toNat 0 < sc.getD a.toNat 0) := by
  rw [Bool.eq_iff_iff, better_iff, zeros_getD, zeros_getD, decide_eq_true_eq]
  omega

/-- An order that is left: sorted, of places below n. -/
structure Left (sc : List Int) (n : Nat) (S : List Int) : Prop where
  srt : S.Pairwise (fun a b => tieLe sc (zeros n) a b = true)
  nd : S.Nodup
  rng : ∀ x ∈ S, 0 ≤ x ∧ x < n
theorem Left.all (sc : List Int) (n : Nat) (h : sc.length = n) : Left sc n (tieList sc (zeros n)) := ⟨tieList_sorted _ _, tieList_nodup _ _, fun x hx => by have := (tieList_mem _ _ x).1 hx; omega⟩
theorem Left.tail {sc : List Int} {n : Nat} {a : Int} {S : List Int} (h : Left sc n (a :: S)) : Left sc n S := ⟨(List.pairwise_cons.1 h.srt).2, (List.nodup_cons.1 h.nd).2, fun x hx => h.rng x (List.mem_cons_of_mem _ hx)⟩
theorem Left.erase {sc : List Int} {n : Nat} {S : List Int} (h : Left sc n S) (i : Nat) : Left sc n (S.eraseIdx i) :=
  ⟨h.srt.sublist (List.eraseIdx_sublist _ _), h.nd.sublist (List.eraseIdx_sublist _ _), fun x hx => h.rng x ((List.eraseIdx_sublist _ _).mem hx)⟩
theorem Left.filter {sc : List Int} {n : Nat} {S : List Int} (h : Left sc n S) (p : Int → Bool) : Left sc n (S.filter p) :=
  ⟨h.srt.sublist List.filter_sublist, h.nd.sublist List.filter_sublist, fun x hx => h.rng x (List.filter_sublist.mem hx)⟩
/-- The best of what is left is the first one. -/
theorem Left.best {sc : List Int} {n : Nat} {S : List Int} {b : Int} (h : Left sc n S) (hb : BestTo sc (zeros n) (fun i => decide ((i : Int) ∈ S)) n b) : (S = [] ∧ b = -1) ∨ ∃ rest, S = b :: rest := by
  cases S with
  | nil =>
    rcases hb with ⟨e, _⟩ | ⟨_, _, e, _⟩
    · exact .inl ⟨rfl, e⟩
    · simp at e
  | cons a rest =>
    have ha := h.rng a List.mem_cons_self
    rcases hb with ⟨_, e⟩ | ⟨h1, h2, h3, h4⟩
    · have := e a.toNat (by omega)
      dsimp only at this
      rw [show ((a.toNat : Nat) : Int) = a by omega] at this
      simp at this
    · have h5 := h4 a.toNat (by omega) (by dsimp only; rw [show ((a.toNat : Nat) : Int) = a by omega]; simp)
      rw [show ((a.toNat : Nat) : Int) = a by omega] at h5
      simp only [decide_eq_true_eq] at h3
      rw [show ((b.toNat : Nat) : Int) = b by omega] at h3
      rcases List.mem_cons.1 h3 with e | e
      · exact .inr ⟨rest, by rw [e]⟩
      · have h6 := (List.pairwise_cons.1 h.srt).1 b e
        exact .inr ⟨rest, by rw [tieLe_anti _ _ _ _ h6 h5]⟩
theorem firstIdx_filter {α : Type} (p : α → Bool) (d : α) (xs : List α) : (xs.filter p = [] ∧ firstIdx p xs = -1) ∨ ∃ (i : Nat) (rest : List α), firstIdx p xs = (i : Int) ∧ i < xs.length ∧ xs.filter p = xs.getD i d :: rest := by
  induction xs with
  | nil => exact .inl ⟨rfl, rfl⟩
  | cons x xs ih =>
    by_cases hx : p x = true
    · refine .inr ⟨0, xs.filter p, ?_, by simp, ?_⟩
      · simp [firstIdx, hx]
      · simp [hx]
    · have hx' : p x = false := by simpa using hx
      rcases ih with ⟨h1, h2⟩ | ⟨i, rest, h1, h2, h3⟩
      · refine .inl ⟨by simp [hx', h1], by simp [firstIdx, hx', h2]⟩
      · refine .inr ⟨i + 1, rest, ?_, by simpa using h2, by simp [hx', h3]⟩
        simp only [firstIdx, hx', h1, Bool.false_eq_true, if_false]
        rw [if_neg (by omega)]
        omega
/-- The best of what is left and free is the one at the first free place. -/
theorem Left.second {sc : List Int} {n : Nat} {S : List Int} {b : Int} {p : Int → Bool} (h : Left sc n S) (hb : BestTo sc (zeros n) (fun i => decide ((i : Int) ∈ S) && p (i : Int)) n b) :
    (firstIdx p S = -1 ∧ b = -1) ∨ ∃ i : Nat, firstIdx p S = (i : Int) ∧ i < S.length ∧ S.getD i 0 = b := by
  have hb' : BestTo sc (zeros n) (fun i => decide ((i : Int) ∈ S.filter p)) n b := by
    have e : (fun i : Nat => decide ((i : Int) ∈ S.filter p)) = fun i : Nat => decide ((i : Int) ∈ S) && p (i : Int) := by
      funext i
      rw [Bool.eq_iff_iff]
      simp only [decide_eq_true_eq, List.mem_filter, Bool.and_eq_true]
    rw [e]
    exact hb
  rcases firstIdx_filter p (0 : Int) S with ⟨h1, h2⟩ | ⟨i, rest, h1, h2, h3⟩
  · rcases (h.filter p).best hb' with ⟨_, e⟩ | ⟨r, e⟩
    · exact .inl ⟨h2, e⟩
    · rw [h1] at e; cases e
  · rcases (h.filter p).best hb' with ⟨e, _⟩ | ⟨r, e⟩
    · rw [h3] at e; cases e
    · rw [h3] at e
      simp only [List.cons.injEq] at e
      exact .inr ⟨i, h1, h2, e.1⟩

/-- whether a place has been taken: it is not left -/
def goneOf (S : List Int) (n : Nat) : List Bool := (List.range n).map fun (i : Nat) => !decide ((i : Int) ∈ S)
theorem goneOf_getD (S : List Int) (n i : Nat) (h : i < n) : (goneOf S n).getD i false = !decide ((i : Int) ∈ S) := by simp [goneOf, h]
theorem goneOf_all (sc ot : List Int) : goneOf (tieList sc ot) sc.length = List.replicate sc.length false := by
  apply List.ext_getElem (by simp [goneOf])
  intro i h1 h2
  simp at h2
  simp [goneOf, tieList_mem, h2]
theorem goneOf_tail (a : Nat) (S : List Int) (n : Nat) (h : ((a : Int) :: S).Nodup) : (goneOf ((a : Int) :: S) n).set a true = goneOf S n := by
  apply List.ext_getElem (by simp [goneOf])
  intro i h1 h2
  rw [List.getElem_set]
  have hn := (List.nodup_cons.1 h).1
  by_cases e : a = i
  · subst e
    simp [goneOf, hn]
  · rw [if_neg e]
    simp only [goneOf, List.getElem_map, List.getElem_range, List.mem_cons]
    simp [show ¬ ((i : Int) = (a : Int)) by omega]
theorem goneOf_erase (S : List Int) (n i b : Nat) (h : S.Nodup) (hi : i < S.length) (hb : S.getD i 0 = (b : Int)) : (goneOf S n).set b true = goneOf (S.eraseIdx i) n := by
  have hg : S[i] = (b : Int) := by simpa [hi] using hb
  apply List.ext_getElem (by simp [goneOf])
  intro j h1 h2
  rw [List.getElem_set]
  have hm : ∀ x, x ∈ S.eraseIdx i ↔ x ∈ S ∧ x ≠ (b : Int) := by
    intro x
    rw [List.mem_eraseIdx_iff_getElem?]
    constructor
    · rintro ⟨k, hk, e⟩
      obtain ⟨hkl, e2⟩ := List.getElem?_eq_some_iff.1 e
      refine ⟨List.mem_of_getElem? e, fun ex => ?_⟩
      rw [ex, ← hg] at e2
      have hp := List.pairwise_iff_getElem.1 (List.nodup_iff_pairwise_ne.1 h)
      rcases Nat.lt_trichotomy k i with h3 | h3 | h3
      · exact hp k i hkl hi h3 e2
      · exact hk h3
      · exact hp i k hi hkl h3 e2.symm
    · rintro ⟨hx, hne⟩
      obtain ⟨k, hk, e⟩ := List.getElem_of_mem hx
      refine ⟨k, fun ek => ?_, by rw [List.getElem?_eq_getElem hk, e]⟩
      subst ek
      exact hne (e.symm.trans hg)
  by_cases e : b = j
  · subst e
    simp [goneOf, hm]
  · rw [if_neg e]
    simp only [goneOf, List.getElem_map, List.getElem_range, hm]
    simp [show ((j : Int) ≠ (b : Int)) by omega]

end Go.Proofs.Ythakjkhceeocfaa
