/- Chances to win all rounds: plain terms, and that all numbers in them are finite. -/
import Derived.Test.YtcflgmjjomiejaaFlA
namespace Go.Proofs.Ytcflgmjjomiejaa
set_option linter.unusedVariables false
set_option linter.unusedSimpArgs false
open Ieee

/-- product and sum, where they are no NaN -/
def fM (x y : Nat) : Nat := (single.mul x y).getD 0
def fA (x y : Nat) : Nat := (single.add x y).getD 0
theorem fM_ok {e1 e2 x y : Nat} (hx : FB e1 x) (hy : FB e2 y) (he : e1 + e2 ≤ 120) : floatBits .mul .f32 x y = some (fM x y) ∧ FB (e1 + e2 + 1) (fM x y) := by
  obtain ⟨r, h1, h2⟩ := FB.mul hx hy he
  have e : fM x y = r := by unfold fM; rw [h1]; rfl
  rw [e]
  exact ⟨h1, h2⟩
theorem fA_ok {e x y : Nat} (hx : FB e x) (hy : FB e y) (he : e ≤ 100) : floatBits .add .f32 x y = some (fA x y) ∧ FB (e + 2) (fA x y) := by
  obtain ⟨r, h1, h2⟩ := FB.add hx hy he
  have e : fA x y = r := by unfold fA; rw [h1]; rfl
  rw [e]
  exact ⟨h1, h2⟩
/-- both are in the same group of twice as many places, but in different halves of it -/
def kc (h i k : Nat) : Bool := k / h == (i / h) ^^^ 1
theorem kc_two : ∀ h, (h = 1 ∨ h = 2 ∨ h = 4) → ∀ i, i < 8 → ∀ k, k < 8 → (kc h i k = (decide (k / (2 * h) = i / (2 * h)) && !decide (k / h = i / h))) := by
  intro h hh
  rcases hh with rfl | rfl | rfl <;> decide
def kCnt (h i : Nat) : Nat → Nat
  | 0 => 0
  | k + 1 => kCnt h i k + (kc h i k).toNat
theorem kCnt_le : ∀ h, (h = 1 ∨ h = 2 ∨ h = 4) → ∀ i, i < 8 → ∀ k, k ≤ 8 → kCnt h i k ≤ h := by
  intro h hh
  have key : ∀ i, i < 8 → ∀ k, k < 9 → kCnt h i k ≤ h := by rcases hh with rfl | rfl | rfl <;> decide
  exact fun i hi k hk => key i hi k (by omega)
def kSum (W c : List Nat) (n h i : Nat) : Nat → Nat
  | 0 => 0
  | k + 1 => if kc h i k = true then fA (kSum W c n h i k) (fM (c.getD k 0) (W.getD (i * n + k) 0)) else kSum W c n h i k
theorem kSum_fb {W c : List Nat} {n h i E : Nat} (hc : ∀ k, FB E (c.getD k 0)) (hW : ∀ j, FB 1 (W.getD j 0)) (hE : E ≤ 60) : ∀ k, kCnt h i k ≤ 4 → FB (E + 2 + 2 * kCnt h i k) (kSum W c n h i k) := by
  intro k
  induction k with
  | zero => intro _; exact FB.zero _
  | succ k ih =>
    intro hk
    have h1 : kCnt h i (k + 1) = kCnt h i k + (kc h i k).toNat := rfl
    unfold kSum
    by_cases e : kc h i k = true
    · rw [if_pos e]
      rw [e] at h1
      have e1 : true.toNat = 1 := rfl
      have hp := (fM_ok (hc k) (hW (i * n + k)) (by omega)).2
      have hs := ih (by omega)
      have := (fA_ok hs (hp.more (show ((E + 1 + 1 : Nat) : Int) ≤ ((E + 2 + 2 * kCnt h i k : Nat) : Int) by omega)) (by omega)).2
      exact this.more (by omega)
    · rw [if_neg e]
      have h0 : (kc h i k).toNat = 0 := by
        rcases Bool.eq_false_or_eq_true (kc h i k) with q | q
        · exact absurd q e
        · rw [q]; rfl
      exact (ih (by omega)).more (by omega)
/-- one step of the sum -/
theorem kSum_step {W c : List Nat} {n h i E k : Nat} (hc : ∀ k, FB E (c.getD k 0)) (hW : ∀ j, FB 1 (W.getD j 0)) (hE : E ≤ 60) (hk : kCnt h i k ≤ 4) (e : kc h i k = true) :
    floatBits .mul .f32 (c.getD k 0) (W.getD (i * n + k) 0) = some (fM (c.getD k 0) (W.getD (i * n + k) 0)) ∧
    floatBits .add .f32 (kSum W c n h i k) (fM (c.getD k 0) (W.getD (i * n + k) 0)) = some (kSum W c n h i (k + 1)) := by
  have hp := fM_ok (hc k) (hW (i * n + k)) (by omega)
  have hs := kSum_fb (n := n) hc hW hE k hk
  have := (fA_ok hs (hp.2.more (show ((E + 1 + 1 : Nat) : Int) ≤ ((E + 2 + 2 * kCnt h i k : Nat) : Int) by omega)) (by omega)).1
  refine ⟨hp.1, ?_⟩
  rw [this]
  show _ = some (if kc h i k = true then _ else _)
  rw [if_pos e]
theorem kSum_skip {W c : List Nat} {n h i k : Nat} (e : kc h i k = false) : kSum W c n h i (k + 1) = kSum W c n h i k := if_neg (by rw [e]; exact Bool.false_ne_true)
/-- a round -/
def kRound (W c : List Nat) (n h : Nat) : List Nat := (List.range n).map fun i => fM (c.getD i 0) (kSum W c n h i n)
theorem kRound_len (W c : List Nat) (n h : Nat) : (kRound W c n h).length = n := by simp [kRound]
theorem kRound_step {W c : List Nat} {n h i E : Nat} (hc : ∀ k, FB E (c.getD k 0)) (hW : ∀ j, FB 1 (W.getD j 0)) (hE : E ≤ 21) (hk : kCnt h i n ≤ 4) :
    floatBits .mul .f32 (c.getD i 0) (kSum W c n h i n) = some (fM (c.getD i 0) (kSum W c n h i n)) := (fM_ok (hc i) (kSum_fb hc hW (by omega) n hk) (by omega)).1
theorem kRound_fb {W c : List Nat} {n h E : Nat} (hc : ∀ k, FB E (c.getD k 0)) (hW : ∀ j, FB 1 (W.getD j 0)) (hE : E ≤ 21) (hh : h ≤ 4) (hk : ∀ i, i < n → kCnt h i n ≤ h) : ∀ i, FB (2 * E + 3 + 2 * h) ((kRound W c n h).getD i 0) := by
  intro i
  by_cases hi : i < n
  · have e : (kRound W c n h).getD i 0 = fM (c.getD i 0) (kSum W c n h i n) := by simp [kRound, hi]
    rw [e]
    have := hk i hi
    exact ((fM_ok (hc i) (kSum_fb hc hW (by omega) n (by omega)) (by omega)).2).more (by omega)
  · have e : (kRound W c n h).getD i 0 = 0 := by
      rw [List.getD_eq_getElem?_getD, List.getElem?_eq_none (by rw [kRound_len]; omega)]
      rfl
    rw [e]
    exact FB.zero _
def kTo (W : List Nat) (n : Nat) : Nat → List Nat
  | 0 => List.replicate n 1065353216
  | j + 1 => kRound W (kTo W n j) n (2 ^ j)
theorem kTo_len (W : List Nat) (n j : Nat) : (kTo W n j).length = n := by
  cases j with
  | zero => simp [kTo]
  | succ j => exact kRound_len _ _ _ _
def kE : Nat → Nat
  | 0 => 1
  | 1 => 7
  | 2 => 21
  | _ => 53
theorem kTo_fb {W : List Nat} {n : Nat} (hn : n ≤ 8) (hW : ∀ j, FB 1 (W.getD j 0)) : ∀ j, j ≤ 3 → ∀ i, FB (kE j) ((kTo W n j).getD i 0) := by
  have h0 : ∀ i, FB (kE 0) ((kTo W n 0).getD i 0) := fun i => by
    show FB 1 ((List.replicate n 1065353216).getD i 0)
    rw [List.getD_eq_getElem?_getD, List.getElem?_replicate]
    split
    · exact FB.one
    · exact FB.zero _
  have h1 : ∀ i, FB (kE 1) ((kTo W n 1).getD i 0) := kRound_fb (h := 1) h0 hW (by decide) (by omega) fun i hi => kCnt_le 1 (by omega) i (by omega) n hn
  have h2 : ∀ i, FB (kE 2) ((kTo W n 2).getD i 0) := kRound_fb (h := 2) h1 hW (by decide) (by omega) fun i hi => kCnt_le 2 (by omega) i (by omega) n hn
  have h3 : ∀ i, FB (kE 3) ((kTo W n 3).getD i 0) := kRound_fb (h := 4) h2 hW (by decide) (by omega) fun i hi => kCnt_le 4 (by omega) i (by omega) n hn
  intro j hj
  match j, hj with
  | 0, _ => exact h0
  | 1, _ => exact h1
  | 2, _ => exact h2
  | 3, _ => exact h3
/-- how many players -/
def kN (m : Nat) : Nat := if m = 4 then 2 else if m = 16 then 4 else if m = 64 then 8 else 0
def kL (m : Nat) : Nat := if m = 4 then 1 else if m = 16 then 2 else 3
def kRes (W : List Nat) : List Nat × Bool := if kN W.length ≠ 0 ∧ W.all isCh = true then (kTo W (kN W.length) (kL W.length), true) else ([], false)
theorem kRes_len (W : List Nat) : (kRes W).1.length ≤ 8 := by
  unfold kRes
  split
  · rw [kTo_len]
    unfold kN
    split
    · omega
    · split
      · omega
      · split <;> omega
  · simp
theorem all_fb {W : List Nat} (h : W.all isCh = true) : ∀ j, FB 1 (W.getD j 0) := fun j => by
  by_cases hj : j < W.length
  · rw [List.getD_eq_getElem?_getD, List.getElem?_eq_getElem hj]
    exact isCh_fb (List.all_eq_true.1 h _ (List.getElem_mem hj))
  · rw [List.getD_eq_getElem?_getD, List.getElem?_eq_none (by omega)]
    exact FB.zero _
/-- x - x = 0 -/
def isFin (x : Nat) : Bool := match single.sub x x with | some r => single.order r 0 == some .eq | none => false
theorem fin_fb {e x : Nat} (h : FB e x) : floatBits .sub .f32 x x = some 0 := by
  obtain ⟨s, m, i, h1, h2, h3⟩ := h
  show single.sub x x = some 0
  unfold Format.sub
  rw [h1]
  have e0 : min i i = i := Int.min_self i
  have e1 : (Datum.number s m i).opposite = .number (!s) m i := rfl
  have e2 : signed s m (i - i).toNat + signed (!s) m (i - i).toNat = 0 := by
    have : (i - i).toNat = 0 := by omega
    rw [this]
    unfold signed
    cases s <;> simp <;> omega
  rw [e1]
  show Option.map single.write (some (.number (if signed s m (i - min i i).toNat + signed (!s) m (i - min i i).toNat = 0 then s && !s else signed s m (i - min i i).toNat + signed (!s) m (i - min i i).toNat < 0) (signed s m (i - min i i).toNat + signed (!s) m (i - min i i).toNat).natAbs (min i i))) = some 0
  rw [e0, e2, if_pos rfl]
  have e3 : (s && !s) = false := by cases s <;> rfl
  rw [e3]
  show some (single.nearest false 0 i) = some 0
  unfold Format.nearest
  rw [if_pos rfl]
  rfl

end Go.Proofs.Ytcflgmjjomiejaa
