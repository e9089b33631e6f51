/- Orders by scores, then by others, then by places: plain facts. -/
import Derived.Test.YthakjkhceeocfaaViews
namespace Go.Proofs.Ythakjkhceeocfaa
open Go.RowKit

/-- a has more than b -/
def better (sc ot : List Int) (a b : Int) : Bool := decide (sc.getD b.toNat 0 < sc.getD a.toNat 0) || (sc.getD a.toNat 0 == sc.getD b.toNat 0 && decide (ot.getD b.toNat 0 < ot.getD a.toNat 0))
def tieLe (sc ot : List Int) (a b : Int) : Bool := better sc ot a b || (!better sc ot b a && decide (a ≤ b))
def tieList (sc ot : List Int) : List Int := (upto sc.length).mergeSort (tieLe sc ot)

theorem better_iff (sc ot : List Int) (a b : Int) : better sc ot a b = true ↔ (sc.getD b.toNat 0 < sc.getD a.toNat 0 ∨ (sc.getD a.toNat 0 = sc.getD b.toNat 0 ∧ ot.getD b.toNat 0 < ot.getD a.toNat 0)) := by
  simp only [better, Bool.or_eq_true, Bool.and_eq_true, decide_eq_true_eq, beq_iff_eq]
theorem better_not (sc ot : List Int) (a b : Int) : better sc ot a b = false ↔ ¬ (sc.getD b.toNat 0 < sc.getD a.toNat 0 ∨ (sc.getD a.toNat 0 = sc.getD b.toNat 0 ∧ ot.getD b.toNat 0 < ot.getD a.toNat 0)) := by
  rw [← better_iff]; simp
theorem tieLe_iff (sc ot : List Int) (a b : Int) : tieLe sc ot a b = true ↔ (better sc ot a b = true ∨ (better sc ot b a = false ∧ a ≤ b)) := by
  simp only [tieLe, Bool.or_eq_true, Bool.and_eq_true, decide_eq_true_eq, Bool.not_eq_true']
theorem tieLe_of (sc ot : List Int) (a b : Int) (h : better sc ot b a = false) (hab : a ≤ b) : tieLe sc ot a b = true := (tieLe_iff _ _ _ _).2 (.inr ⟨h, hab⟩)
theorem tieLe_better (sc ot : List Int) (a b : Int) (h : better sc ot a b = true) : tieLe sc ot a b = true := (tieLe_iff _ _ _ _).2 (.inl h)
theorem tieLe_trans (sc ot : List Int) (a b c : Int) (h : tieLe sc ot a b = true) (k : tieLe sc ot b c = true) : tieLe sc ot a c = true := by
  rw [tieLe_iff, better_iff, better_not] at *
  omega
theorem tieLe_total (sc ot : List Int) (a b : Int) : (tieLe sc ot a b || tieLe sc ot b a) = true := by
  rw [Bool.or_eq_true, tieLe_iff, tieLe_iff, better_iff, better_not, better_iff, better_not]
  omega
theorem tieLe_anti (sc ot : List Int) (a b : Int) (h : tieLe sc ot a b = true) (k : tieLe sc ot b a = true) : a = b := by
  rw [tieLe_iff, better_iff, better_not] at *
  omega
theorem tieLe_refl (sc ot : List Int) (a : Int) : tieLe sc ot a a = true := by
  rw [tieLe_iff, better_iff, better_not]
  omega

theorem tieList_perm (sc ot : List Int) : (tieList sc ot).Perm (upto sc.length) := List.mergeSort_perm _ _
theorem tieList_sorted (sc ot : List Int) : (tieList sc ot).Pairwise (fun a b => tieLe sc ot a b = true) :=
  List.pairwise_mergeSort (tieLe_trans sc ot) (tieLe_total sc ot) _
theorem tieList_len (sc ot : List Int) : (tieList sc ot).length = sc.length := by
  rw [(tieList_perm sc ot).length_eq, upto_len]
theorem upto_mem (n : Nat) (x : Int) : x ∈ upto n ↔ 0 ≤ x ∧ x < n := by
  simp only [upto, List.mem_map, List.mem_range]
  constructor
  · rintro ⟨i, hi, rfl⟩; omega
  · rintro ⟨h1, h2⟩; exact ⟨x.toNat, by omega, by omega⟩
theorem upto_nodup (n : Nat) : (upto n).Nodup := by
  unfold upto
  rw [List.nodup_iff_pairwise_ne, List.pairwise_map]
  exact List.nodup_range.imp fun h e => h (by omega)
theorem tieList_mem (sc ot : List Int) (x : Int) : x ∈ tieList sc ot ↔ 0 ≤ x ∧ x < sc.length := by
  rw [(tieList_perm sc ot).mem_iff, upto_mem]
theorem tieList_nodup (sc ot : List Int) : (tieList sc ot).Nodup := (tieList_perm sc ot).nodup_iff.2 (upto_nodup _)
theorem tieList_eq (sc ot L : List Int) (hp : L.Perm (upto sc.length)) (hs : L.Pairwise (fun a b => tieLe sc ot a b = true)) : L = tieList sc ot :=
  List.Perm.eq_of_pairwise (fun a b _ _ => tieLe_anti sc ot a b) hs (tieList_sorted sc ot) (hp.trans (tieList_perm sc ot).symm)

/-- The first i places are in order; the others are as they were. -/
structure SrtTo (sc ot : List Int) (n i : Nat) (L : List Int) : Prop where
  perm : L.Perm (upto n)
  tail : ∀ q, i ≤ q → q < n → L.getD q 0 = (q : Int)
  low : ∀ q, q < i → q < n → L.getD q 0 < (i : Int)
  srt : ∀ p q, p < q → q < i → q < n → tieLe sc ot (L.getD p 0) (L.getD q 0) = true
/-- Number i has come down to place j. -/
structure InsAt (sc ot : List Int) (n i j : Nat) (L : List Int) : Prop where
  perm : L.Perm (upto n)
  tail : ∀ q, i < q → q < n → L.getD q 0 = (q : Int)
  cur : L.getD j 0 = (i : Int)
  low : ∀ q, q ≤ i → L.getD q 0 ≤ (i : Int)
  srt : ∀ p q, p < q → q ≤ i → p ≠ j → q ≠ j → tieLe sc ot (L.getD p 0) (L.getD q 0) = true
  aft : ∀ q, j < q → q ≤ i → tieLe sc ot (L.getD j 0) (L.getD q 0) = true
theorem SrtTo.len {sc ot : List Int} {n i : Nat} {L : List Int} (h : SrtTo sc ot n i L) : L.length = n := by rw [h.perm.length_eq, upto_len]
theorem InsAt.len {sc ot : List Int} {n i j : Nat} {L : List Int} (h : InsAt sc ot n i j L) : L.length = n := by rw [h.perm.length_eq, upto_len]
theorem upto_getD (n q : Nat) (h : q < n) : (upto n).getD q 0 = (q : Int) := by simp [upto, h]
theorem SrtTo.one (sc ot : List Int) (n : Nat) : SrtTo sc ot n 1 (upto n) where
  perm := List.Perm.refl _
  tail := fun q _ hq => upto_getD n q hq
  low := fun q hq hn => by rw [upto_getD n q hn]; omega
  srt := fun p q h1 h2 _ => by omega
theorem SrtTo.begin {sc ot : List Int} {n i : Nat} {L : List Int} (h : SrtTo sc ot n i L) (hi : i < n) : InsAt sc ot n i i L where
  perm := h.perm
  tail := fun q h1 h2 => h.tail q (by omega) h2
  cur := h.tail i (Nat.le_refl _) hi
  low := fun q hq => by
    by_cases e : q = i
    · subst e; rw [h.tail q (Nat.le_refl _) hi]; omega
    · have := h.low q (by omega) (by omega); omega
  srt := fun p q h1 h2 h3 h4 => h.srt p q h1 (by omega) (by omega)
  aft := fun q h1 h2 => by omega
theorem InsAt.done {sc ot : List Int} {n i j : Nat} {L : List Int} (h : InsAt sc ot n i j L) (hi : i < n) (hj : j ≤ i) (hd : j = 0 ∨ better sc ot (L.getD j 0) (L.getD (j - 1) 0) = false) : SrtTo sc ot n (i + 1) L where
  perm := h.perm
  tail := fun q h1 h2 => h.tail q (by omega) h2
  low := fun q h1 h2 => by have := h.low q (by omega); omega
  srt := fun p q h1 h2 h3 => by
    by_cases e : p = j
    · subst e; exact h.aft q h1 (by omega)
    · by_cases e2 : q = j
      · subst e2
        rcases hd with hd | hd
        · omega
        · have h0 := tieLe_of sc ot _ _ hd (by rw [h.cur]; exact h.low _ (by omega))
          by_cases e3 : p = q - 1
          · subst e3; exact h0
          · exact tieLe_trans _ _ _ _ _ (h.srt p (q - 1) (by omega) (by omega) e (by omega)) h0
      · exact h.srt p q h1 (by omega) e e2
/-- what an exchange of two neighbours leaves -/
def swapAt (L : List Int) (j : Nat) : List Int := (L.set j (L.getD (j - 1) 0)).set (j - 1) (L.getD j 0)
theorem swapAt_len (L : List Int) (j : Nat) : (swapAt L j).length = L.length := by simp [swapAt]
theorem swapAt_getD (L : List Int) (j q : Nat) (h0 : 0 < j) (hj : j < L.length) : (swapAt L j).getD q 0 = if q = j then L.getD (j - 1) 0 else if q = j - 1 then L.getD j 0 else L.getD q 0 := by
  simp only [swapAt, List.getD_eq_getElem?_getD]
  rw [List.getElem?_set, List.getElem?_set]
  by_cases e1 : q = j
  · subst e1
    rw [if_neg (by omega), if_pos rfl, if_pos rfl, if_pos (by omega)]
    simp
  · rw [if_neg e1]
    by_cases e2 : q = j - 1
    · subst e2
      rw [if_pos rfl, if_pos rfl, if_pos (by simp; omega)]
      simp
    · rw [if_neg (fun e => e2 e.symm), if_neg (fun e => e1 e.symm), if_neg e2]
theorem swapAt_perm (L : List Int) (j : Nat) (hj : j < L.length) : (swapAt L j).Perm L := by
  have h1 : j - 1 < L.length := by omega
  have e1 : L.getD (j - 1) 0 = L[j - 1] := by simp [h1]
  have e2 : L.getD j 0 = L[j] := by simp [hj]
  unfold swapAt
  rw [e1, e2]
  exact List.set_set_perm hj h1
theorem InsAt.step {sc ot : List Int} {n i j : Nat} {L : List Int} (h : InsAt sc ot n i j L) (hi : i < n) (hj : j ≤ i) (h0 : 0 < j) (hd : better sc ot (L.getD j 0) (L.getD (j - 1) 0) = true) : InsAt sc ot n i (j - 1) (swapAt L j) := by
  have hl := h.len
  have G := fun q => swapAt_getD L j q h0 (by omega)
  have hb := tieLe_better _ _ _ _ hd
  refine ⟨(swapAt_perm L j (by omega)).trans h.perm, fun q h1 h2 => ?_, ?_, fun q hq => ?_, fun p q h1 h2 h3 h4 => ?_, fun q h1 h2 => ?_⟩
  · rw [G, if_neg (by omega), if_neg (by omega)]; exact h.tail q h1 h2
  · rw [G, if_neg (by omega), if_pos rfl]; exact h.cur
  · rw [G]
    split
    · exact h.low _ (by omega)
    · split
      · exact h.low _ (by omega)
      · exact h.low _ hq
  · rw [G p, G q, if_neg h3, if_neg h4]
    by_cases e1 : p = j
    · subst e1
      rw [if_pos rfl, if_neg (by omega)]
      exact h.srt _ _ (by omega) h2 (by omega) (by omega)
    · rw [if_neg e1]
      by_cases e2 : q = j
      · subst e2
        rw [if_pos rfl]
        exact h.srt _ _ (by omega) (by omega) e1 (by omega)
      · rw [if_neg e2]
        exact h.srt _ _ h1 h2 e1 e2
  · rw [G (j - 1), if_neg (by omega), if_pos rfl, G q]
    by_cases e1 : q = j
    · subst e1; rw [if_pos rfl]; exact hb
    · rw [if_neg e1, if_neg (by omega)]
      exact h.aft q (by omega) h2
theorem SrtTo.tie {sc ot : List Int} {n : Nat} {L : List Int} (h : SrtTo sc ot n n L) (hn : sc.length = n) : L = tieList sc ot := by
  have hl := h.len
  refine tieList_eq sc ot L (by rw [hn]; exact h.perm) ?_
  rw [List.pairwise_iff_getElem]
  intro p q hp hq hpq
  have := h.srt p q hpq (by omega) (by omega)
  simpa [hp, hq] using this

/-- whether a place is among the first k of the order -/
def takenTo (S : List Int) (n k : Nat) : List Bool := (List.range n).map fun (i : Nat) => decide ((i : Int) ∈ S.take k)
theorem takenTo_len (S : List Int) (n k : Nat) : (takenTo S n k).length = n := by simp [takenTo]
theorem takenTo_getD (S : List Int) (n k i : Nat) (h : i < n) : (takenTo S n k).getD i false = decide ((i : Int) ∈ S.take k) := by simp [takenTo, h]
theorem takenTo_zero (S : List Int) (n : Nat) : takenTo S n 0 = List.replicate n false := by
  apply List.ext_getElem (by simp [takenTo])
  intro i h1 h2
  simp [takenTo]
theorem take_snoc1 (S : List Int) (k : Nat) (h : k < S.length) : S.take (k + 1) = S.take k ++ [S.getD k 0] := by
  rw [List.take_succ_eq_append_getElem h]
  simp [h]
theorem takenTo_set (S : List Int) (n k b : Nat) (hk : k < S.length) (hb : S.getD k 0 = (b : Int)) : (takenTo S n k).set b true = takenTo S n (k + 1) := by
  apply List.ext_getElem (by simp [takenTo])
  intro i h1 h2
  simp [takenTo] at h2
  rw [List.getElem_set]
  by_cases e : b = i
  · subst e
    simp only [takenTo, List.getElem_map, List.getElem_range, take_snoc1 S k hk, hb]
    simp
  · rw [if_neg e]
    simp only [takenTo, List.getElem_map, List.getElem_range, take_snoc1 S k hk, hb, List.mem_append, List.mem_singleton]
    simp [show ¬ ((i : Int) = (b : Int)) by omega]
/-- the best of the first i places that satisfy pr; -1 for none -/
def BestTo (sc ot : List Int) (pr : Nat → Bool) (i : Nat) (b : Int) : Prop :=
  (b = -1 ∧ ∀ q, q < i → pr q = false) ∨ (0 ≤ b ∧ b < (i : Int) ∧ pr b.toNat = true ∧ ∀ q : Nat, q < i → pr q = true → tieLe sc ot b (q : Int) = true)
theorem BestTo.zero (sc ot : List Int) (pr : Nat → Bool) : BestTo sc ot pr 0 (-1) := .inl ⟨rfl, fun q h => by omega⟩
theorem BestTo.skip {sc ot : List Int} {pr : Nat → Bool} {i : Nat} {b : Int} (h : BestTo sc ot pr i b) (hp : pr i = false) : BestTo sc ot pr (i + 1) b := by
  rcases h with ⟨h1, h2⟩ | ⟨h1, h2, h3, h4⟩
  · refine .inl ⟨h1, fun q hq => ?_⟩
    by_cases e : q = i
    · subst e; exact hp
    · exact h2 q (by omega)
  · refine .inr ⟨h1, by omega, h3, fun q hq hpq => ?_⟩
    by_cases e : q = i
    · subst e; rw [hp] at hpq; cases hpq
    · exact h4 q (by omega) hpq
theorem BestTo.first {sc ot : List Int} {pr : Nat → Bool} {i : Nat} {b : Int} (h : BestTo sc ot pr i b) (hb : b < 0) (hp : pr i = true) : BestTo sc ot pr (i + 1) (i : Int) := by
  rcases h with ⟨h1, h2⟩ | ⟨h1, _⟩
  · refine .inr ⟨by omega, by omega, by simpa using hp, fun q hq hpq => ?_⟩
    by_cases e : q = i
    · subst e; exact tieLe_refl _ _ _
    · rw [h2 q (by omega)] at hpq; cases hpq
  · omega
theorem BestTo.worse {sc ot : List Int} {pr : Nat → Bool} {i : Nat} {b : Int} (h : BestTo sc ot pr i b) (hb : 0 ≤ b) (hp : better sc ot (i : Int) b = false) : BestTo sc ot pr (i + 1) b := by
  rcases h with ⟨h1, h2⟩ | ⟨h1, h2, h3, h4⟩
  · omega
  · refine .inr ⟨h1, by omega, h3, fun q hq hpq => ?_⟩
    by_cases e : q = i
    · subst e; exact tieLe_of _ _ _ _ hp (by omega)
    · exact h4 q (by omega) hpq
theorem BestTo.more {sc ot : List Int} {pr : Nat → Bool} {i : Nat} {b : Int} (h : BestTo sc ot pr i b) (hb : 0 ≤ b) (hpi : pr i = true) (hp : better sc ot (i : Int) b = true) : BestTo sc ot pr (i + 1) (i : Int) := by
  rcases h with ⟨h1, h2⟩ | ⟨h1, h2, h3, h4⟩
  · omega
  · refine .inr ⟨by omega, by omega, by simpa using hpi, fun q hq hpq => ?_⟩
    by_cases e : q = i
    · subst e; exact tieLe_refl _ _ _
    · exact tieLe_trans _ _ _ _ _ (tieLe_better _ _ _ _ hp) (h4 q (by omega) hpq)
/-- The best of those that are not among the first k is the next one. -/
theorem BestTo.next {sc ot : List Int} {k : Nat} {b : Int} (h : BestTo sc ot (fun i => !decide ((i : Int) ∈ (tieList sc ot).take k)) sc.length b) (hk : k < sc.length) : (tieList sc ot).getD k 0 = b ∧ 0 ≤ b ∧ b < sc.length := by
  have hl := tieList_len sc ot
  have hkl : k < (tieList sc ot).length := by omega
  have hg : (tieList sc ot).getD k 0 = (tieList sc ot)[k] := by simp [hkl]
  have hm : (tieList sc ot)[k] ∈ tieList sc ot := List.getElem_mem hkl
  have hr := (tieList_mem sc ot _).1 hm
  have hnd := tieList_nodup sc ot
  have hs := tieList_sorted sc ot
  have hno : (tieList sc ot)[k] ∉ (tieList sc ot).take k := by
    intro hmem
    obtain ⟨p, hp, e⟩ := List.getElem_of_mem hmem
    simp at hp
    rw [List.getElem_take] at e
    have := (List.pairwise_iff_getElem.1 (List.nodup_iff_pairwise_ne.1 hnd)) p k (by omega) hkl (by omega)
    exact this e
  rcases h with ⟨h1, h2⟩ | ⟨h1, h2, h3, h4⟩
  · have := h2 (tieList sc ot)[k].toNat (by omega)
    simp only [Bool.not_eq_false', decide_eq_true_eq] at this
    rw [show (((tieList sc ot)[k].toNat : Nat) : Int) = (tieList sc ot)[k] by omega] at this
    exact absurd this hno
  · refine ⟨?_, h1, h2⟩
    rw [hg]
    have h5 := h4 (tieList sc ot)[k].toNat (by omega) (by
      show (!decide ((((tieList sc ot)[k].toNat : Nat) : Int) ∈ (tieList sc ot).take k)) = true
      rw [show (((tieList sc ot)[k].toNat : Nat) : Int) = (tieList sc ot)[k] by omega]
      simp [hno])
    rw [show (((tieList sc ot)[k].toNat : Nat) : Int) = (tieList sc ot)[k] by omega] at h5
    simp only [Bool.not_eq_true', decide_eq_false_iff_not] at h3
    rw [show ((b.toNat : Nat) : Int) = b by omega] at h3
    have hbm : b ∈ tieList sc ot := (tieList_mem sc ot b).2 ⟨h1, h2⟩
    obtain ⟨p, hp, e⟩ := List.getElem_of_mem hbm
    by_cases hpk : p < k
    · exfalso
      apply h3
      rw [← e]
      exact List.mem_take_iff_getElem.2 ⟨p, by omega, rfl⟩
    · by_cases e2 : p = k
      · subst e2; exact e
      · have := List.pairwise_iff_getElem.1 hs k p hkl hp (by omega)
        rw [e] at this
        exact tieLe_anti _ _ _ _ this h5

/-- what a comparison tells -/
def cmpV (sc ot : List Int) (a b : Int) : Int := if sc.getD a.toNat 0 = sc.getD b.toNat 0 then ot.getD b.toNat 0 - ot.getD a.toNat 0 else sc.getD b.toNat 0 - sc.getD a.toNat 0
theorem cmpV_better (sc ot : List Int) (a b : Int) : better sc ot a b = decide (cmpV sc ot a b < 0) := by
  rw [Bool.eq_iff_iff, better_iff, decide_eq_true_eq]
  unfold cmpV
  split <;> omega

def okScores (sc : List Int) : Bool := decide (2 ≤ sc.length) && decide (sc.length ≤ 16) && sc.all fun s => inB s 0 1000
/-- what TieOrder tells -/
def tieRes (sc ot : List Int) : List Int × Bool :=
  if okScores sc = true ∧ ot.length = sc.length ∧ (ot.all fun s => inB s 0 1000000) = true then (tieList sc ot, true) else ([], false)
theorem okScores_len {sc : List Int} (h : okScores sc = true) : 2 ≤ sc.length ∧ sc.length ≤ 16 := by
  simp only [okScores, Bool.and_eq_true, decide_eq_true_eq] at h
  omega
theorem tieRes_len (sc ot : List Int) : (tieRes sc ot).1.length ≤ 1048576 := by
  unfold tieRes
  split
  · rename_i h
    have := okScores_len h.1
    dsimp only
    rw [tieList_len]
    omega
  · simp

end Go.Proofs.Ythakjkhceeocfaa
