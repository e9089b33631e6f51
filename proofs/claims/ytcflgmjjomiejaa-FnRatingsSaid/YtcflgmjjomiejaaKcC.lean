/- Chances: the program's KnockChances. -/
import Derived.Test.YtcflgmjjomiejaaKcB
import Derived.Test.YtcflgmjjomiejaaChg
import Derived.Deep.AppendLies
import Derived.Deep.Cut
import Derived.Deep.CutBlock
namespace Go.Proofs.Ytcflgmjjomiejaa
open Go.RowKit
set_option linter.unusedVariables false
set_option linter.unusedSimpArgs false

/-- which of the first k are the number of players -/
def kTry (b4 b16 b64 : Bool) : Nat → Int
  | 0 => 0
  | 1 => if b4 then 2 else 0
  | 2 => if b16 then 4 else if b4 then 2 else 0
  | _ => if b64 then 8 else if b16 then 4 else if b4 then 2 else 0
theorem kTry_full (n : Nat) : kTry ((n : Int) == 4) ((n : Int) == 16) ((n : Int) == 64) 3 = (kN n : Int) := by
  show (if ((n : Int) == 64) = true then (8 : Int) else if ((n : Int) == 16) = true then 4 else if ((n : Int) == 4) = true then 2 else 0) = _
  unfold kN
  by_cases h4 : n = 4
  · subst h4; rfl
  · by_cases h16 : n = 16
    · subst h16; rfl
    · by_cases h64 : n = 64
      · subst h64; rfl
      · rw [if_neg h4, if_neg h16, if_neg h64, if_neg (by simp; omega), if_neg (by simp; omega), if_neg (by simp; omega)]
        rfl
theorem kN_pow {n : Nat} (h : kN n ≠ 0) : n = kN n * kN n ∧ kN n = 2 ^ kL n ∧ kN n ≤ 8 ∧ 2 ≤ kN n ∧ kL n ≤ 3 ∧ 1 ≤ kL n := by
  unfold kN at h ⊢
  unfold kL
  by_cases h4 : n = 4
  · subst h4; decide
  · by_cases h16 : n = 16
    · subst h16; decide
    · by_cases h64 : n = 64
      · subst h64; decide
      · rw [if_neg h4, if_neg h16, if_neg h64] at h
        exact absurd rfl h
theorem xor_one : ∀ q : Nat, q < 8 → bits .xor .i64 (q : Int) 1 = ((q ^^^ 1 : Nat) : Int) := by decide
theorem mem_fb {xs : List Nat} {e : Nat} (h : ∀ i, FB e (xs.getD i 0)) : ∀ x ∈ xs, FB e x := fun x hx => by
  obtain ⟨i, hi, rfl⟩ := List.getElem_of_mem hx
  have := h i
  rw [List.getD_eq_getElem?_getD, List.getElem?_eq_getElem hi] at this
  exact this
theorem range_take {f : Nat → Nat} {n i : Nat} (hi : i < n) : ((List.range n).map f).take (i + 1) = ((List.range n).map f).take i ++ [f i] := by
  rw [List.take_add_one, List.getElem?_eq_getElem (by simp; exact hi)]
  simp
theorem mapF_snoc (xs : List Nat) (x : Nat) : (xs ++ [x]).map (Value.float .f32) = xs.map (Value.float .f32) ++ [.float .f32 x] := by simp

theorem floats_at0 {w : World} {g n c : Nat} {xs : List Nat} (h : Floats w (some ⟨g, 0, none⟩) n c xs) {i : Nat} (hi : i < n) : w.cell? ⟨g, i, none⟩ = some (.float .f32 (xs.getD i 0)) := by
  obtain ⟨_, _, hx⟩ := h.at 0
  obtain ⟨b, off, e, _, hy⟩ := hx i hi
  simp only [Option.some.injEq, Addr.mk.injEq] at e
  obtain ⟨rfl, rfl, _⟩ := e
  have := hy i hi
  rw [Nat.zero_add] at this
  exact this
theorem new3 (W : World) (u v x : Value) (T : TypeId) : (W.alloc (.cells #[u, v, x] T)).cell? ⟨W.heap.size, 0, none⟩ = some u ∧ (W.alloc (.cells #[u, v, x] T)).cell? ⟨W.heap.size, 1, none⟩ = some v ∧ (W.alloc (.cells #[u, v, x] T)).cell? ⟨W.heap.size, 2, none⟩ = some x := by
  refine ⟨?_, ?_, ?_⟩ <;> simp

end Go.Proofs.Ytcflgmjjomiejaa
