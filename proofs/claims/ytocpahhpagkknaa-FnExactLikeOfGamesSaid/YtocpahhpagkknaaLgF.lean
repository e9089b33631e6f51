/- Logarithms: the program's logarithm of a positive number. -/
import Derived.Test.YtocpahhpagkknaaLgE
namespace Go.Proofs.Ytocpahhpagkknaa
open Go.RowKit
set_option linter.unusedVariables false
set_option linter.unusedSimpArgs false

theorem kh {q : Nat} {I : Int} : (up75 q I = 0 ∨ dn15 q I = 0) ∧ dn15 q (I + up75 q I) = dn15 q I ∧ up75 q (I - dn15 q I) = up75 q I := by
  unfold up75 dn15
  by_cases h : q < 3 * 2 ^ 51
  · simp only [if_pos h]
    omega
  · simp only [if_neg h]
    omega
theorem kh_bd {q : Nat} {I : Int} (h1 : -201 ≤ I) (h2 : I ≤ 75) : up75 q I ≤ 200 ∧ dn15 q I ≤ 200 := by
  unfold up75 dn15
  by_cases h : q < 3 * 2 ^ 51
  · simp only [if_pos h]
    omega
  · simp only [if_neg h]
    omega
theorem kh_mid {q : Nat} {I : Int} (h1 : 2 ^ 52 ≤ q) : lt75 q (I + up75 q I - dn15 q I) = false ∧ lt15 q (I + up75 q I - dn15 q I) = true := by
  obtain ⟨a, b, c⟩ := kh (q := q) (I := I)
  have e1 := lt75_up q I (up75 q I) (Nat.le_refl _)
  rw [decide_eq_false (Nat.lt_irrefl _)] at e1
  have e2 := lt15_dn q (I + up75 q I) (dn15 q I) (by rw [b]; exact Nat.le_refl _)
  rw [b, decide_eq_false (Nat.lt_irrefl _)] at e2
  refine ⟨?_, e2⟩
  rcases a with a | a
  · rw [a] at e1 ⊢
    have e3 := lt75_up q (I - dn15 q I) 0 (Nat.zero_le _)
    rw [c, a] at e3
    have e4 : I + ((0 : Nat) : Int) - (dn15 q I : Int) = I - (dn15 q I : Int) + ((0 : Nat) : Int) := by omega
    rw [e4, e3]
    exact decide_eq_false (Nat.lt_irrefl _)
  · rw [a]
    have e4 : I + (up75 q I : Int) - ((0 : Nat) : Int) = I + (up75 q I : Int) := by omega
    rw [e4]
    exact e1
def lnC : Nat := 4604418534313441775
def yE (q : Nat) (I : Int) (y : Nat) : Nat := hlvN (dblN y (up75 q I)) (dn15 q I)
def sE (x : Nat) : Nat := (Ieee.double.div ((Ieee.double.sub x d1).getD 0) ((Ieee.double.add x d1).getD 0)).getD 0
def logE (x : Nat) (e : Int) : Nat := addD (mulD d2 (mulD (sE x) (serQ (mulD (sE x) (sE x)) 13))) (mulD (fD e) lnC)
theorem sE_ok {q : Nat} {I : Int} {x : Nat} (h : Nrm false q I x) (h1 : lt75 q I = false) (h2 : lt15 q I = true) :
    ∃ a b, Ieee.double.sub x d1 = some a ∧ Ieee.double.add x d1 = some b ∧ Ieee.double.div a b = some (sE x) ∧ BD (-1) (sE x) := by
  obtain ⟨a, ha, ha2⟩ := mid_sub h (mid_two h1 h2)
  obtain ⟨b, hb, hb2⟩ := mid_add h (mid_two h1 h2)
  obtain ⟨r, hr, hr2⟩ := BD.div ha2 hb2 (by omega) (by omega)
  have e : sE x = r := by unfold sE; rw [ha, hb]; show (Ieee.double.div a b).getD 0 = r; rw [hr]; rfl
  rw [e]
  exact ⟨a, b, ha, hb, hr, hr2.more (by omega)⟩
theorem logE_ok {x : Nat} {e : Int} (hs : BD (-1) (sE x)) (he : e.natAbs ≤ 2 ^ 8) :
    Ieee.double.mul (sE x) (sE x) = some (mulD (sE x) (sE x)) ∧ BD (-2) (mulD (sE x) (sE x)) ∧
    Ieee.double.mul (sE x) (serQ (mulD (sE x) (sE x)) 13) = some (mulD (sE x) (serQ (mulD (sE x) (sE x)) 13)) ∧
    Ieee.double.mul d2 (mulD (sE x) (serQ (mulD (sE x) (sE x)) 13)) = some (mulD d2 (mulD (sE x) (serQ (mulD (sE x) (sE x)) 13))) ∧
    Ieee.double.mul (fD e) lnC = some (mulD (fD e) lnC) ∧
    Ieee.double.add (mulD d2 (mulD (sE x) (serQ (mulD (sE x) (sE x)) 13))) (mulD (fD e) lnC) = some (logE x e) ∧ BD 100 (logE x e) := by
  have u := mulD_ok hs hs (by omega) (by omega)
  have u2 : BD (-2) (mulD (sE x) (sE x)) := u.2
  have q := serQ_bd u2 13 (Nat.le_refl _)
  have a := mulD_ok hs q (by omega) (by omega)
  have b2 : BD 1 d2 := ⟨false, 2 ^ 52, -51, by decide, .inr (.inr (by decide))⟩
  have b := mulD_ok b2 a.2 (by omega) (by omega)
  have cl : BD 0 lnC := ⟨false, 6243314768165359, -53, by decide, .inr (.inl (by decide))⟩
  have c := mulD_ok (fD_bd he) cl (by omega) (by omega)
  have d := addD_ok (e := 8) (b.2.more (by omega)) (c.2.more (by omega)) (by omega) (by omega)
  exact ⟨u.1, u2, a.1, b.1, c.1, d.1, d.2.more (by omega)⟩

end Go.Proofs.Ytocpahhpagkknaa
