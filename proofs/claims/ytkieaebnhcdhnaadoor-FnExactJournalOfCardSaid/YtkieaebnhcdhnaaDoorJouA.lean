/- JournalOf: plain facts. -/
import Derived.Test.YtkieaebnhcdhnaaDoorRecA
import Derived.Test.YtkieaebnhcdhnaaDoorBuilder
import Derived.Test.YtkieaebnhcdhnaaDoorString
namespace Go.Proofs.YtkieaebnhcdhnaaDoor
open Go.RowKit
set_option linter.unusedVariables false

def jline (c : Int) (l : List UInt8) : List UInt8 := Lib.decDigits (chkL c l).toNat ++ [32] ++ l ++ [10]
def jstep (p : Int × List UInt8) (x : ByteArray) : Int × List UInt8 := (chkL p.1 x.data.toList, p.2 ++ jline p.1 x.data.toList)
def jst (xs : List ByteArray) : Int × List UInt8 := xs.foldl jstep (0, [])
theorem jst_succ (xs : List ByteArray) (k : Nat) (h : k < xs.length) : jst (xs.take (k + 1)) = jstep (jst (xs.take k)) (xs.getD k ByteArray.empty) := by
  have e : xs.getD k ByteArray.empty = xs[k] := by simp [h]
  rw [List.take_add_one, List.getElem?_eq_getElem h, e]
  unfold jst
  rw [List.foldl_append]
  rfl
theorem jst_c (xs : List ByteArray) : 0 ≤ (jst xs).1 ∧ (jst xs).1 ≤ 65002 := by
  unfold jst
  suffices h : ∀ (xs : List ByteArray) (p : Int × List UInt8), (0 ≤ p.1 ∧ p.1 ≤ 65002) → 0 ≤ (xs.foldl jstep p).1 ∧ (xs.foldl jstep p).1 ≤ 65002 from h xs _ (by simp)
  intro xs
  induction xs with
  | nil => intro p hp; exact hp
  | cons x xs ih => intro p hp; exact ih _ (chkL_bd _ _ hp)
theorem jline_len (c : Int) (l : List UInt8) : l.length + 3 ≤ (jline c l).length := by
  have : 1 ≤ (Lib.decDigits (chkL c l).toNat).length := by
    rw [decDigits_eq]
    split <;> simp
  unfold jline
  simp
  omega
theorem jfold_le (xs : List ByteArray) : ∀ p : Int × List UInt8, p.2.length ≤ (xs.foldl jstep p).2.length := by
  induction xs with
  | nil => intro p; exact Nat.le_refl _
  | cons x xs ih =>
    intro p
    have := ih (jstep p x)
    have h2 : (jstep p x).2.length = p.2.length + (jline p.1 x.data.toList).length := by simp [jstep]
    rw [List.foldl_cons]
    omega
theorem jst_mono (xs : List ByteArray) (k : Nat) : (jst (xs.take k)).2.length ≤ (jst xs).2.length := by
  conv => rhs; rw [← List.take_append_drop k xs]
  unfold jst
  rw [List.foldl_append]
  exact jfold_le _ _
/-- a line with a newline in it -/
def hasNl (x : ByteArray) : Bool := x.data.toList.any fun b => b == 10
def jbad (xs : List ByteArray) : Bool := xs.any hasNl || decide (16000 < (jst xs).2.length)
/-- what JournalOf answers -/
def jRes (xs : List ByteArray) : ByteArray × Bool := if jbad xs = true then (ByteArray.empty, false) else (ofL (jst xs).2, true)
theorem jRes_nl {xs : List ByteArray} {k : Nat} (h : k < xs.length) (hn : hasNl (xs.getD k ByteArray.empty) = true) : jRes xs = (ByteArray.empty, false) := by
  have e : xs.getD k ByteArray.empty = xs[k] := by simp [h]
  rw [e] at hn
  unfold jRes jbad
  rw [if_pos]
  rw [List.any_eq_true.2 ⟨_, List.getElem_mem h, hn⟩]
  rfl
theorem jRes_long {xs : List ByteArray} {k : Nat} (h : 16000 < (jst (xs.take k)).2.length) : jRes xs = (ByteArray.empty, false) := by
  have := jst_mono xs k
  unfold jRes jbad
  rw [if_pos]
  rw [decide_eq_true (show 16000 < (jst xs).2.length by omega), Bool.or_true]
theorem jRes_ok {xs : List ByteArray} (h1 : ∀ k, k < xs.length → hasNl (xs.getD k ByteArray.empty) = false) (h2 : (jst xs).2.length ≤ 16000) : jRes xs = (ofL (jst xs).2, true) := by
  unfold jRes jbad
  rw [if_neg]
  rw [decide_eq_false (show ¬ 16000 < (jst xs).2.length by omega), Bool.or_false, Bool.not_eq_true, List.any_eq_false]
  intro x hx
  obtain ⟨k, hk, rfl⟩ := List.getElem_of_mem hx
  have := h1 k hk
  rw [show xs.getD k ByteArray.empty = xs[k] from by simp [hk]] at this
  simp [this]
/-- what a line gives, put together -/
theorem jline_str (c : Nat) (x : ByteArray) (c0 : Int) (hc : chkL c0 x.data.toList = c) : decB c ++ ⟨#[32]⟩ ++ x ++ ⟨#[10]⟩ = ofL (jline c0 x.data.toList) := by
  rw [← ofL_data (decB c ++ ⟨#[32]⟩ ++ x ++ ⟨#[10]⟩)]
  unfold jline
  rw [hc, Int.toNat_natCast]
  congr 1

end Go.Proofs.YtkieaebnhcdhnaaDoor
