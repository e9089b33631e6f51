/- Rounds in which half are left: plain terms. -/
import Derived.Test.YthakjkhceeocfaaRow
namespace Go.Proofs.Ythakjkhceeocfaa
open Go.RowKit

def pickB (ws : List Bool) (off : Nat) (left : List Int) (i : Nat) : Int := if ws.getD (off + i) false = true then left.getD (2 * i) 0 else left.getD (2 * i + 1) 0
def nextOf (ws : List Bool) (off : Nat) (left : List Int) (m : Nat) : List Int := (List.range m).map (pickB ws off left)
theorem nextOf_len (ws : List Bool) (off : Nat) (left : List Int) (m : Nat) : (nextOf ws off left m).length = m := by simp [nextOf]
theorem nextOf_succ (ws : List Bool) (off : Nat) (left : List Int) (m : Nat) : nextOf ws off left (m + 1) = nextOf ws off left m ++ [pickB ws off left m] := by simp [nextOf, List.range_succ]
def knockF : Nat → List Bool → Nat → List Int → List Int → List Int
  | 0, _, _, _, out => out
  | t + 1, ws, off, left, out => knockF t ws (off + 2 ^ t) (nextOf ws off left (2 ^ t)) (out ++ nextOf ws off left (2 ^ t))
theorem knockF_len : ∀ (t : Nat) (ws : List Bool) (off : Nat) (left out : List Int), (knockF t ws off left out).length + 1 = out.length + 2 ^ t := by
  intro t
  induction t with
  | zero => intro ws off left out; simp [knockF]
  | succ t ih => intro ws off left out; rw [knockF, ih, List.length_append, nextOf_len, Nat.pow_succ]; omega
/-- what KnockRounds tells -/
def knockRes (ws : List Bool) (p : Int) : List Int × Bool :=
  if (p = 2 ∨ p = 4 ∨ p = 8 ∨ p = 16) ∧ (ws.length : Int) = p - 1 then (knockF (if p = 2 then 1 else if p = 4 then 2 else if p = 8 then 3 else 4) ws 0 (upto p.toNat) [], true) else ([], false)
theorem knockRes_len (ws : List Bool) (p : Int) : (knockRes ws p).1.length ≤ 1048576 := by
  unfold knockRes
  split
  · skip
    dsimp only
    split
    · have := knockF_len 1 ws 0 (upto p.toNat) []; simp at this; omega
    · split
      · have := knockF_len 2 ws 0 (upto p.toNat) []; simp at this; omega
      · split
        · have := knockF_len 3 ws 0 (upto p.toNat) []; simp at this; omega
        · have := knockF_len 4 ws 0 (upto p.toNat) []; simp at this; omega
  · simp
/-- The length in a slot. -/
def lenOf : Value → Nat | .slice _ n _ => n | _ => 0
theorem pow2_pos (t : Nat) : 1 ≤ 2 ^ t := Nat.one_le_two_pow

end Go.Proofs.Ythakjkhceeocfaa
