/- Tricks, spec: TrickLine. -/
import Derived.Test.YtgldfmkjnggedaaTrickD
namespace Go.Proofs.Ytgldfmkjnggedaa
open Go.RowKit
set_option linter.unusedVariables false

/-- the line of best play -/
def lineF (t : Int) : Nat → List Int → List Int → List Int
  | 0, _, _ => []
  | f + 1, X, Y => leadC t f X Y :: ansC t f X Y (leadC t f X Y) :: (if winsL (leadC t f X Y) (ansC t f X Y (leadC t f X Y)) t = true then lineF t f (lessL X (leadC t f X Y)) (lessL Y (ansC t f X Y (leadC t f X Y))) else lineF t f (lessL Y (ansC t f X Y (leadC t f X Y))) (lessL X (leadC t f X Y)))
/-- what TrickLine tells -/
def lineRes (xs ys : List Int) (b : Bool) (t : Int) : List Int × Bool := if okGameB xs ys t = true then ((if b = true then lineF t xs.length xs ys else lineF t xs.length ys xs), true) else ([], false)
theorem lineF_len (t : Int) : ∀ f X Y, (lineF t f X Y).length = 2 * f := by
  intro f
  induction f with
  | zero => intro X Y; rfl
  | succ f ih =>
    intro X Y
    unfold lineF
    simp only [List.length_cons]
    split <;> rw [ih] <;> omega
theorem lineRes_len (xs ys : List Int) (b : Bool) (t : Int) : (lineRes xs ys b t).1.length ≤ 1048576 := by
  unfold lineRes
  split
  · rename_i h
    have := (okGame_hands h).2.1
    cases b <;> simp only [Bool.false_eq_true, if_true, if_false] <;> rw [lineF_len] <;> omega
  · exact Nat.zero_le _
/-- of different blocks -/
def Dj (a b : Option Addr) : Prop := ∀ x y, a = some x → b = some y → x.block ≠ y.block
theorem dj_new {w : World} {B : Nat} {e : TypeId} {sz : Nat} {a : Option Addr} {n c : Nat} {cs : List Value} {g i : Nat} (h : w.ownsRow B e sz (.slice a n c) n cs) (hg : w.heap.size ≤ g) : Dj a (some ⟨g, i, none⟩) := by
  intro x y hx hy
  have := own_in h x hx
  obtain rfl := Option.some.inj hy
  dsimp only
  omega
theorem dj_rows {w w' : World} {B B' : Nat} {e e' : TypeId} {sz sz' : Nat} {a a' : Option Addr} {n n' c c' : Nat} {cs cs' : List Value} (h : w.ownsRow B e sz (.slice a n c) n cs) (h' : w'.ownsRow B' e' sz' (.slice a' n' c') n' cs') (hg : w'.heap.size ≤ B) : Dj a a' := by
  intro x y hx hy
  have := own_in h x hx
  have := own_in h' y hy
  omega
theorem Rd.grown {w w' : World} {a : Option Addr} {n c sz : Nat} {cs : List Value} {ra : Option Addr} {k rc : Nat} (h : Rd w a n c sz cs) (hg : w.grownBy w' (Value.slice ra k rc).ownBlock) (hd : Dj a ra) : Rd w' a n c sz cs := by
  obtain ⟨h1, h2, h3, h4⟩ := h
  refine ⟨h1, h2, h3, ?_⟩
  rcases h4 with h4 | ⟨b, off, rfl, hlt, hcs⟩
  · exact .inl h4
  · refine .inr ⟨b, off, rfl, Nat.lt_of_lt_of_le hlt hg.size, fun j hj => ?_⟩
    rw [← hcs j hj]
    refine World.cell?_of_block (hg.block _ hlt ?_)
    cases ra with
    | none => simp [Value.ownBlock]
    | some y => simp only [Value.ownBlock]; intro e; exact hd _ y rfl rfl (Option.some.inj e)

end Go.Proofs.Ytgldfmkjnggedaa
