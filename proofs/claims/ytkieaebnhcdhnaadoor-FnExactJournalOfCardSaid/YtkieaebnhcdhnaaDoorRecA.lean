/- RecoverJournal: plain facts. -/
import Derived.Test.YtkieaebnhcdhnaaDoorChk
import Derived.Lib.CutLaws
namespace Go.Proofs.YtkieaebnhcdhnaaDoor
open Go.RowKit
set_option linter.unusedVariables false

theorem occ_at (m : UInt8) (l : List UInt8) (i : Nat) : Lib.occAt l [m] i = true ↔ l[i]? = some m := by
  have h : Lib.occAt l [m] i = Lib.occAt (l.drop i) [m] 0 := by simp [Lib.occAt]
  rw [h, occ_one, List.head?_drop]
theorem cut_at {m : UInt8} {l : List UInt8} {j : Nat} (h : ∀ i, i < j → l[i]? ≠ some m) (hj : l[j]? = some m) : Lib.cut l [m] = (l.take j, l.drop (j + 1), true) := by
  have hlt : j < l.length := (List.getElem?_eq_some_iff.1 hj).1
  have e : Lib.index l [m] = j := Lib.index_hit (fun i hi => by
    rw [Bool.eq_false_iff]
    exact fun q => h i hi ((occ_at m l i).1 q)) (by omega) ((occ_at m l j).2 hj)
  unfold Lib.cut
  rw [e, if_pos (by omega)]
  simp
theorem cut_none {m : UInt8} {l : List UInt8} (h : ∀ i, i < l.length → l[i]? ≠ some m) : Lib.cut l [m] = (l, [], false) := by
  have e : Lib.index l [m] = -1 := Lib.index_past (i := l.length) (by simp) (fun i hi => by
    rw [Bool.eq_false_iff]
    exact fun q => h i hi ((occ_at m l i).1 q)) (by simp)
  unfold Lib.cut
  rw [e, if_neg (by omega)]
/-- either there is a first m, or none -/
theorem first_or (m : UInt8) (l : List UInt8) : (∃ j, j < l.length ∧ (∀ i, i < j → l[i]? ≠ some m) ∧ l[j]? = some m) ∨ (∀ i, i < l.length → l[i]? ≠ some m) := by
  induction l with
  | nil => right; intro i hi; simp at hi
  | cons b l ih =>
    by_cases hb : b = m
    · left
      exact ⟨0, by simp, fun i hi => absurd hi (Nat.not_lt_zero _), by simp [hb]⟩
    · rcases ih with ⟨j, h1, h2, h3⟩ | h
      · left
        refine ⟨j + 1, by simpa using h1, fun i hi => ?_, by simpa using h3⟩
        cases i with
        | zero => simpa using hb
        | succ i => simpa using h2 i (by omega)
      · right
        intro i hi
        cases i with
        | zero => simpa using hb
        | succ i => simpa using h i (by simpa using hi)
theorem cutR_first {m : UInt8} : ∀ {l : List UInt8} {j : Nat}, (∀ i, i < j → l[i]? ≠ some m) → l[j]? = some m → cutR m l = l.take j :: cutR m (l.drop (j + 1)) := by
  intro l
  induction l with
  | nil => intro j h hj; simp at hj
  | cons b l ih =>
    intro j h hj
    cases j with
    | zero =>
      have : b = m := by simpa using hj
      subst this
      rw [cutR_eq]
      simp
    | succ j =>
      have hb : ¬ b = m := by simpa using h 0 (Nat.succ_pos _)
      have := ih (j := j) (fun i hi => by simpa using h (i + 1) (by omega)) (by simpa using hj)
      rw [cutR_other l hb, this]
      simp
theorem cutR_none {m : UInt8} : ∀ {l : List UInt8}, (∀ i, i < l.length → l[i]? ≠ some m) → cutR m l = [l] := by
  intro l
  induction l with
  | nil => intro _; rfl
  | cons b l ih =>
    intro h
    have hb : ¬ b = m := by simpa using h 0 (by simp)
    rw [cutR_other l hb, ih (fun i hi => by simpa using h (i + 1) (by simpa using hi))]

/-- a line of a journal: its check number, and what follows -/
def lineOk (c : Int) (l : List UInt8) : Bool := (Lib.cut l [32]).2.2 && decide ((Lib.cut l [32]).1 = Lib.decDigits (chkL c (Lib.cut l [32]).2.1).toNat)
def lineC (c : Int) (l : List UInt8) : Int := chkL c (Lib.cut l [32]).2.1
def recS : Int → List (List UInt8) → List (List UInt8) × Nat
  | _, [] => ([], 0)
  | c, l :: ls => if lineOk c l = true then ((Lib.cut l [32]).2.1 :: (recS (lineC c l) ls).1, l.length + 1 + (recS (lineC c l) ls).2) else ([], 0)
theorem recS_yes {c : Int} {l : List UInt8} {ls : List (List UInt8)} (h : lineOk c l = true) : recS c (l :: ls) = ((Lib.cut l [32]).2.1 :: (recS (lineC c l) ls).1, l.length + 1 + (recS (lineC c l) ls).2) := by
  rw [recS, if_pos h]
theorem recS_no {c : Int} {l : List UInt8} {ls : List (List UInt8)} (h : lineOk c l = false) : recS c (l :: ls) = ([], 0) := by
  rw [recS, if_neg (by rw [h]; simp)]
/-- what RecoverJournal answers -/
def recRes (s : ByteArray) : List ByteArray × Int × Bool :=
  if s.size ≤ 16000 then ((recS 0 (cutR 10 s.data.toList).dropLast).1.map ofL, ((recS 0 (cutR 10 s.data.toList).dropLast).2 : Nat), true) else ([], 0, false)

end Go.Proofs.YtkieaebnhcdhnaaDoor
