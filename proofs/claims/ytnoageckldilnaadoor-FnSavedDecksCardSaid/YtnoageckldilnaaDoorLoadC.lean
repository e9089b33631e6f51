/- Reading what is stored: the program's load. -/
import Derived.Test.YtnoageckldilnaaDoorLoadB
import Derived.Deep.Cut
import Derived.Deep.CutRange
namespace Go.Proofs.YtnoageckldilnaaDoor
open Go.RowKit
set_option linter.unusedVariables false

/-- One more die, behind an append. -/
theorem OwnDS.snoc {lo hi hi' : Nat} {w w' : World} {a : Option Addr} {n c g cap : Nat} {ss : List Spot} {xss : List (List Int)} {s : Spot} {xs : List Int} {lo2 : Nat} {o : Obj}
    (h : OwnDS lo hi w a n c ss xss) (hs : w.ownsRow lo2 2 1 (spotV s) xs.length (intCells xs)) (hlo : lo ≤ lo2) (hh : hi ≤ lo2) (hhw : hi ≤ w.heap.size) (hw : w.heap.size < hi')
    (ho : w'.ownsRow lo 82 1 (.slice (some ⟨g, 0, none⟩) (n + 1) cap) (n + 1) (spotCells ss ++ [spotV s])) (hg : (w.alloc o).grownBy w' (Value.slice a n c).ownBlock) (hat : (Value.slice a n c).ownBlock = some g ∨ g = w.heap.size + 1) (hi2 : w'.heap.size ≤ hi') :
    OwnDS lo hi' w' (some ⟨g, 0, none⟩) (n + 1) cap (ss ++ [s]) (xss ++ [xs]) := by
  have hsl : ss.length = n := h.p.sl
  have hxl := h.len
  have ha : Below w.heap.size w (w.alloc o) := (Below.refl _ _).alloc (Nat.le_refl _) _
  have hOB : ∀ i, i < n → OB (ss ++ [s]) i = OB ss i := fun i hi => by unfold OB; rw [List.getD_eq_getElem?_getD, List.getD_eq_getElem?_getD, List.getElem?_append_left (by omega)]
  have hgS : ∀ i, i < n → (ss ++ [s]).getD i spot0 = ss.getD i spot0 := fun i hi => by rw [List.getD_eq_getElem?_getD, List.getD_eq_getElem?_getD, List.getElem?_append_left (by omega)]
  have hgX : ∀ i, i < n → (xss ++ [xs]).getD i [] = xss.getD i [] := fun i hi => by rw [List.getD_eq_getElem?_getD, List.getD_eq_getElem?_getD, List.getElem?_append_left (by omega)]
  have hnS : (ss ++ [s]).getD n spot0 = s := by rw [← hsl]; simp
  have hnX : (xss ++ [xs]).getD n [] = xs := by rw [← hxl]; simp
  have hsb : ∀ k, (spotV s).ownBlock = some k → lo2 ≤ k ∧ k < w.heap.size := hs.lt
  have hgl : ∀ k, (Value.slice a n c).ownBlock = some k → k < hi := fun k e => h.p.ouh k e
  refine ⟨by simp [hxl], ⟨?_, fun k e => ?_, fun i hi => ?_, fun i hi k e => ?_, fun i j hij hi hj => ?_, fun i hi => ?_⟩⟩
  · have e : spotCells (ss ++ [s]) = spotCells ss ++ [spotV s] := by simp [spotCells]
    rw [e]; exact ho
  · have := (ho.lt k e).2; omega
  · by_cases q : i = n
    · subst q
      rw [hnS, hnX]
      refine own_keep (ownsRow_low hs hlo) fun k e => ?_
      have hk := hsb k e
      rw [hg.block k (by simp; omega) (fun e2 => by have := hgl k e2.symm; omega), ha.block k hk.2]
    · have hi2 : i < n := by omega
      rw [hgS i hi2, hgX i hi2]
      refine own_keep (h.p.own i hi2) fun k e => ?_
      have hk := (h.p.own i hi2).lt k e
      have hap := h.p.apo i hi2
      have e' : OB ss i = some k := e
      rw [hg.block k (by simp; omega) (fun e2 => by rw [e'] at hap; rcases hap with q | q; (· cases q); (· exact q e2)), ha.block k hk.2]
  · by_cases q : i = n
    · subst q
      have e' : (spotV s).ownBlock = some k := by unfold OB at e; rw [hnS] at e; exact e
      have := hsb k e'
      omega
    · rw [hOB i (by omega)] at e
      have := h.p.inn i (by omega) k e
      omega
  · by_cases qi : i = n
    · subst qi
      have ej : OB (ss ++ [s]) j = OB ss j := hOB j (by omega)
      have ei : OB (ss ++ [s]) i = (spotV s).ownBlock := by unfold OB; rw [hnS]
      rw [ej, ei]
      cases hk : (spotV s).ownBlock with
      | none => exact .inl rfl
      | some k =>
        right
        intro e
        have h1 := hsb k hk
        have h2 := h.p.inn j (by omega) k e.symm
        omega
    · by_cases qj : j = n
      · subst qj
        have ei : OB (ss ++ [s]) i = OB ss i := hOB i (by omega)
        have ej : OB (ss ++ [s]) j = (spotV s).ownBlock := by unfold OB; rw [hnS]
        rw [ej, ei]
        cases hk : OB ss i with
        | none => exact .inl rfl
        | some k =>
          right
          intro e
          have h1 := hsb k e.symm
          have h2 := h.p.inn i (by omega) k hk
          omega
      · rw [hOB i (by omega), hOB j (by omega)]
        exact h.p.apart i j hij (by omega) (by omega)
  · show OB (ss ++ [s]) i = none ∨ OB (ss ++ [s]) i ≠ some g
    by_cases q : i = n
    · subst q
      have ei : OB (ss ++ [s]) i = (spotV s).ownBlock := by unfold OB; rw [hnS]
      rw [ei]
      cases hk : (spotV s).ownBlock with
      | none => exact .inl rfl
      | some k =>
        right
        intro e
        obtain rfl : k = g := Option.some.inj e
        have h1 := hsb k hk
        rcases hat with h2 | h2
        · have := hgl k h2; omega
        · omega
    · rw [hOB i (by omega)]
      rcases hat with h2 | h2
      · have := h.p.apo i (by omega)
        rw [h2] at this
        exact this
      · cases hk : OB ss i with
        | none => exact .inl rfl
        | some k =>
          right
          intro e
          obtain rfl : k = g := Option.some.inj e
          have := h.p.inn i (by omega) k hk
          omega

end Go.Proofs.YtnoageckldilnaaDoor
