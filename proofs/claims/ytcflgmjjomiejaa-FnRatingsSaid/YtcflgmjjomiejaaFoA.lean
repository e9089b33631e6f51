/- Sums, products, quotients of 32 bits whatever they are: a NaN's bits are drawn; what is told is whether it is one. -/
import Derived.Test.YtcflgmjjomiejaaFlA
import Derived.Deep.Quiet
namespace Go.Proofs.Ytcflgmjjomiejaa
set_option linter.unusedVariables false
set_option linter.unusedSimpArgs false
open Ieee

def NaN32 (b : Nat) : Prop := ∃ s t, single.read b = .nan s t
/-- the bits b are those of r; if r is none: some NaN's -/
def Is : Option Nat → Nat → Prop
  | some x, b => b = x
  | none, b => NaN32 b
def opO (op : BinOp) (r q : Option Nat) : Option Nat := r.bind fun x => q.bind fun y => floatBits op .f32 x y
/-- what the machine gives -/
def fo (op : BinOp) (a b : Nat) (w : World) : Nat := match floatBits op .f32 a b with
  | some r => r
  | none => (Question.nanBits .f32 a b).cut (w.tape w.drawn (.nanBits .f32 a b))
/-- how often it asks -/
def fd (op : BinOp) (a b : Nat) : Nat := match floatBits op .f32 a b with
  | some _ => 0
  | none => 1
theorem nan32_cut (a b t : Nat) : NaN32 ((Question.nanBits .f32 a b).cut t) := by
  show NaN32 ((t % 2) * 2 ^ 31 + 0x7f800000 + 1 + (t / 2) % (2 ^ 23 - 1))
  have h2 : (t / 2) % (2 ^ 23 - 1) < 2 ^ 23 - 1 := Nat.mod_lt _ (by decide)
  generalize (t / 2) % (2 ^ 23 - 1) = r at *
  have hs : single.signWeight = 2 ^ 31 := rfl
  have hb : single.binade = 2 ^ 23 := rfl
  have hi : single.infRung = 0x7f800000 := rfl
  unfold NaN32 Format.read
  rw [hs, hb, hi]
  have e1 : ((t % 2) * 2 ^ 31 + 0x7f800000 + 1 + r) % 2 ^ 31 = 0x7f800000 + 1 + r := by omega
  dsimp only
  rw [e1, if_neg (by omega), if_neg (by omega), if_neg (by omega)]
  exact ⟨_, _, rfl⟩
def isArith (op : BinOp) : Prop := op = .add ∨ op = .sub ∨ op = .mul ∨ op = .quo
theorem nan_left {op : BinOp} {a b : Nat} (h : NaN32 a) : floatBits op .f32 a b = none := by
  obtain ⟨s, t, e⟩ := h
  unfold floatBits
  split
  · show single.add a b = none
    unfold Format.add; rw [e]; rfl
  · show single.sub a b = none
    unfold Format.sub; rw [e]; rfl
  · show single.mul a b = none
    unfold Format.mul; rw [e]; rfl
  · show single.div a b = none
    unfold Format.div; rw [e]; rfl
  · rfl
theorem nan_right {op : BinOp} {a b : Nat} (h : NaN32 b) : floatBits op .f32 a b = none := by
  obtain ⟨s, t, e⟩ := h
  unfold floatBits
  split
  · show single.add a b = none
    unfold Format.add; rw [e]
    rcases single.read a with _ | _ | _ <;> rfl
  · show single.sub a b = none
    unfold Format.sub; rw [e]
    rcases single.read a with _ | _ | _ <;> rfl
  · show single.mul a b = none
    unfold Format.mul; rw [e]
    rcases single.read a with _ | _ | _ <;> rfl
  · show single.div a b = none
    unfold Format.div; rw [e]
    rcases single.read a with _ | _ | _ <;> rfl
  · rfl
theorem fo_is {op : BinOp} {r q : Option Nat} {a b : Nat} (ha : Is r a) (hb : Is q b) (w : World) : Is (opO op r q) (fo op a b w) := by
  have key : floatBits op .f32 a b = opO op r q := by
    cases r with
    | none => rw [nan_left ha]; rfl
    | some x =>
      cases q with
      | none => rw [nan_right hb]; rfl
      | some y =>
        have ha' : a = x := ha
        have hb' : b = y := hb
        subst ha'; subst hb'; rfl
  unfold fo
  rw [key]
  cases opO op r q with
  | none => exact nan32_cut _ _ _
  | some x => rfl
theorem run_fop {P : Program} {op : BinOp} (hop : isArith op) (t : TypeId) (a b : Nat) (w : World) : (binOp op t (.float .f32 a) (.float .f32 b)).run P w = .ok (.float .f32 (fo op a b w)) (w.drewN (fd op a b)) := by
  rcases h : floatBits op .f32 a b with _ | r
  · have e1 : fo op a b w = (Question.nanBits .f32 a b).cut (w.tape w.drawn (.nanBits .f32 a b)) := by unfold fo; rw [h]
    have e2 : fd op a b = 1 := by unfold fd; rw [h]
    rw [e1, e2]
    unfold floatBits at h
    rcases hop with rfl | rfl | rfl | rfl
    all_goals
      simp only at h
      simp [binOp, Op.floatArith, h, Question.forced]
      rfl
  · have e1 : fo op a b w = r := by unfold fo; rw [h]
    have e2 : fd op a b = 0 := by unfold fd; rw [h]
    rw [e1, e2]
    exact run_float_arith w op t .f32 a b r h
/-- whether it is finite -/
def finO (r : Option Nat) : Bool := match opO .sub r r with
  | some z => single.order z 0 == some .eq
  | none => false
theorem fin_is {r : Option Nat} {b : Nat} (h : Is r b) (w : World) : (single.order (fo .sub b b w) 0 == some .eq) = finO r := by
  have h1 := fo_is (op := .sub) h h w
  unfold finO
  cases hq : opO .sub r r with
  | some z =>
    rw [hq] at h1
    have h1' : fo .sub b b w = z := h1
    rw [h1']
  | none =>
    rw [hq] at h1
    obtain ⟨s, t, e⟩ := h1
    unfold Format.order
    rw [e]
    rfl
theorem fin_some {r : Option Nat} (h : finO r = true) : ∃ x, r = some x := by
  cases r with
  | none => exact absurd h (by unfold finO opO; simp)
  | some x => exact ⟨x, rfl⟩
/-- rows -/
def IsL (R : List (Option Nat)) (B : List Nat) : Prop := R.length = B.length ∧ ∀ i, i < B.length → Is (R.getD i none) (B.getD i 0)
theorem IsL.nil : IsL [] [] := ⟨rfl, fun i hi => absurd hi (Nat.not_lt_zero _)⟩
theorem IsL.snoc {R : List (Option Nat)} {B : List Nat} {r : Option Nat} {b : Nat} (h : IsL R B) (hb : Is r b) : IsL (R ++ [r]) (B ++ [b]) := by
  refine ⟨by rw [List.length_append, List.length_append, h.1]; rfl, fun i hi => ?_⟩
  rw [List.length_append, List.length_singleton] at hi
  by_cases e : i = B.length
  · subst e
    have e1 : (R ++ [r]).getD B.length none = r := by rw [← h.1]; simp
    have e2 : (B ++ [b]).getD B.length 0 = b := by simp
    rw [e1, e2]
    exact hb
  · have e1 : (R ++ [r]).getD i none = R.getD i none := by
      rw [List.getD_eq_getElem?_getD, List.getD_eq_getElem?_getD, List.getElem?_append_left (by rw [h.1]; omega)]
    have e2 : (B ++ [b]).getD i 0 = B.getD i 0 := by
      rw [List.getD_eq_getElem?_getD, List.getD_eq_getElem?_getD, List.getElem?_append_left (by omega)]
    rw [e1, e2]
    exact h.2 i (by omega)
theorem IsL.set {R : List (Option Nat)} {B : List Nat} {r : Option Nat} {b : Nat} (h : IsL R B) (i : Nat) (hb : Is r b) : IsL (R.set i r) (B.set i b) := by
  refine ⟨by rw [List.length_set, List.length_set, h.1], fun j hj => ?_⟩
  rw [List.length_set] at hj
  have hR := h.1
  by_cases e : i = j
  · subst e
    have e1 : (R.set i r).getD i none = r := by simp [hR, hj]
    have e2 : (B.set i b).getD i 0 = b := by simp [hj]
    rw [e1, e2]
    exact hb
  · have e1 : (R.set i r).getD j none = R.getD j none := by
      rw [List.getD_eq_getElem?_getD, List.getD_eq_getElem?_getD, List.getElem?_set_ne e]
    have e2 : (B.set i b).getD j 0 = B.getD j 0 := by
      rw [List.getD_eq_getElem?_getD, List.getD_eq_getElem?_getD, List.getElem?_set_ne e]
    rw [e1, e2]
    exact h.2 j hj
/-- a row of numbers that are all finite is known -/
theorem IsL.known {R : List (Option Nat)} {B : List Nat} (h : IsL R B) (hf : R.all finO = true) : B = R.map (·.getD 0) := by
  apply List.ext_getElem (by rw [List.length_map, h.1])
  intro i h1 h2
  have h3 := h.2 i h1
  have hi : i < R.length := by rw [h.1]; exact h1
  have e1 : R.getD i none = R[i] := by simp [hi]
  have e2 : B.getD i 0 = B[i] := by simp [h1]
  rw [e1, e2] at h3
  obtain ⟨x, hx⟩ := fin_some (List.all_eq_true.1 hf _ (List.getElem_mem hi))
  rw [List.getElem_map]
  rw [hx] at h3 ⊢
  exact h3

end Go.Proofs.Ytcflgmjjomiejaa
