/- Clock patience: what is turned, in plain words. -/
import Derived.Test.YtdnhhkbijamadaaPegA
namespace Go.Proofs.Ytdnhhkbijamadaa
open Go.RowKit
set_option linter.unusedVariables false
set_option linter.unusedSimpArgs false

/-- how many cards are turned yet: l tells what is taken of each pile, a the pile that is next -/
def clk (D : List Int) (P S : Nat) : Nat → (Nat → Nat) → Nat → Nat
  | 0, _, _ => 0
  | f + 1, l, a => if l a < S then clk D P S f (upd l a (l a + 1)) ((D.getD ((S - (l a + 1)) * P + a) 0).toNat % P) + 1 else 0
theorem clk_no {D : List Int} {P S f a : Nat} {l : Nat → Nat} (h : S ≤ l a) : clk D P S f l a = 0 := by
  cases f with
  | zero => rfl
  | succ f => exact if_neg (by omega)
theorem clk_yes {D : List Int} {P S f a : Nat} {l : Nat → Nat} (h : l a < S) : clk D P S (f + 1) l a = clk D P S f (upd l a (l a + 1)) ((D.getD ((S - (l a + 1)) * P + a) 0).toNat % P) + 1 := if_pos h
theorem clk_le (D : List Int) (P S : Nat) : ∀ (f : Nat) (l : Nat → Nat) (a : Nat), clk D P S f l a ≤ f := by
  intro f
  induction f with
  | zero => intro l a; exact Nat.le_refl _
  | succ f ih =>
    intro l a
    unfold clk
    split
    · exact Nat.succ_le_succ (ih _ _)
    · exact Nat.zero_le _
theorem sumR_le {g : Nat → Nat} {S : Nat} : ∀ n : Nat, (∀ i, i < n → g i ≤ S) → sumR g n ≤ S * n := by
  intro n
  induction n with
  | zero => intro _; exact Nat.le_refl _
  | succ n ih =>
    intro h
    rw [sumR_succ, Nat.mul_succ]
    exact Nat.add_le_add (ih fun i hi => h i (by omega)) (h n (Nat.lt_succ_self n))
/-- A state of the run: c cards turned, T in all. -/
structure Clk (D : List Int) (P S T : Nat) (c f : Nat) (l : Nat → Nat) (a : Nat) : Prop where
  tot : T = c + clk D P S f l a
  sum : f + sumR l P = S * P
  le : ∀ i, i < P → l i ≤ S
  pil : a < P
theorem Clk.start (D : List Int) {P S : Nat} (hP : 1 ≤ P) : Clk D P S (clk D P S (S * P) (fun _ => 0) (P - 1)) 0 (S * P) (fun _ => 0) (P - 1) := by
  refine ⟨by omega, ?_, fun _ _ => Nat.zero_le _, by omega⟩
  have h : sumR (fun _ => 0) P ≤ 0 * P := sumR_le P fun _ _ => Nat.le_refl _
  omega
theorem Clk.done {D : List Int} {P S T c f a : Nat} {l : Nat → Nat} (h : Clk D P S T c f l a) (hs : S ≤ l a) : T = c := by
  have := h.tot
  rw [clk_no hs] at this
  exact this
theorem Clk.step {D : List Int} {P S T c f a : Nat} {l : Nat → Nat} (h : Clk D P S T c f l a) (hs : l a < S) :
    ∃ f', f = f' + 1 ∧ Clk D P S T (c + 1) f' (upd l a (l a + 1)) ((D.getD ((S - (l a + 1)) * P + a) 0).toNat % P) := by
  obtain ⟨h1, h2, h3, h4⟩ := h
  have e1 := sumR_upd l a S P h4
  have b1 : sumR (upd l a S) P ≤ S * P := sumR_le P fun i hi => by
    by_cases q : i = a
    · subst q; rw [upd_same]; exact Nat.le_refl _
    · rw [upd_ne _ _ _ q]; exact h3 i hi
  have e2 := sumR_upd l a (l a + 1) P h4
  obtain ⟨f', rfl⟩ : ∃ f', f = f' + 1 := ⟨f - 1, by omega⟩
  refine ⟨f', rfl, ?_, by omega, fun i hi => ?_, Nat.mod_lt _ (by omega)⟩
  · rw [h1, clk_yes hs]; omega
  · by_cases q : i = a
    · subst q; rw [upd_same]; omega
    · rw [upd_ne _ _ _ q]; exact h3 i hi
theorem Clk.bound {D : List Int} {P S T c f a : Nat} {l : Nat → Nat} (h : Clk D P S T c f l a) : T ≤ c + f := by
  have := h.tot
  have := clk_le D P S f l a
  omega

/-- the piles, when i cards are dealt -/
def stk (D : List Int) (P : Nat) : Nat → Nat → List Int
  | 0, _ => []
  | i + 1, k => if i % P = k then stk D P i k ++ [D.getD i 0] else stk D P i k
theorem stk_same (D : List Int) (P i : Nat) : stk D P (i + 1) (i % P) = stk D P i (i % P) ++ [D.getD i 0] := if_pos rfl
theorem stk_ne (D : List Int) (P i : Nat) {k : Nat} (h : k ≠ i % P) : stk D P (i + 1) k = stk D P i k := if_neg (fun e => h e.symm)
theorem stk_len (D : List Int) (P : Nat) (k : Nat) : ∀ i, (stk D P i k).length ≤ i := by
  intro i
  induction i with
  | zero => exact Nat.le_refl _
  | succ i ih =>
    unfold stk
    split
    · rw [List.length_append]; exact Nat.succ_le_succ ih
    · omega
theorem stk_row (D : List Int) {P : Nat} (q : Nat) {k : Nat} (hk : k < P) : ∀ r, r ≤ P → stk D P (q * P + r) k = stk D P (q * P) k ++ (if k < r then [D.getD (q * P + k) 0] else []) := by
  intro r
  induction r with
  | zero => intro _; rw [if_neg (Nat.not_lt_zero _), List.append_nil]; rfl
  | succ r ih =>
    intro hr
    have hm : (q * P + r) % P = r := by rw [Nat.mul_comm, Nat.mul_add_mod]; exact Nat.mod_eq_of_lt (by omega)
    show (if (q * P + r) % P = k then stk D P (q * P + r) k ++ [D.getD (q * P + r) 0] else stk D P (q * P + r) k) = _
    rw [hm, ih (by omega)]
    by_cases e : r = k
    · subst e
      rw [if_pos rfl, if_neg (Nat.lt_irrefl _), if_pos (Nat.lt_succ_self _), List.append_nil]
    · rw [if_neg e]
      by_cases e2 : k < r
      · rw [if_pos e2, if_pos (by omega)]
      · rw [if_neg e2, if_neg (by omega)]
theorem stk_all (D : List Int) {P : Nat} {k : Nat} (hk : k < P) : ∀ S, stk D P (S * P) k = (List.range S).map fun t => D.getD (t * P + k) 0 := by
  intro S
  induction S with
  | zero => rw [Nat.zero_mul]; rfl
  | succ S ih =>
    rw [Nat.succ_mul, stk_row D S hk P (Nat.le_refl _), ih, if_pos hk, List.range_succ, List.map_append]
    rfl
theorem stk_top (D : List Int) {P : Nat} {k : Nat} (hk : k < P) {S t : Nat} (ht : t < S) : (stk D P (S * P) k).getD t 0 = D.getD (t * P + k) 0 := by
  rw [stk_all D hk]
  simp [ht]
theorem stk_full (D : List Int) {P : Nat} {k : Nat} (hk : k < P) (S : Nat) : (stk D P (S * P) k).length = S := by
  rw [stk_all D hk]
  simp

end Go.Proofs.Ytdnhhkbijamadaa
