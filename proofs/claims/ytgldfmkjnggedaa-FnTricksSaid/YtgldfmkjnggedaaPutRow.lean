/- Rows that the library has turned in place: what is owned still is. -/
import Derived.Test.YtgldfmkjnggedaaChgC
import Derived.Sort.Row
namespace Go.Proofs.Ytgldfmkjnggedaa
open Go.RowKit Go.Sort
set_option linter.unusedVariables false

theorem Chg.putRow {α : Type} [Inhabited α] (enc : α → Value) (w : World) (g off : Nat) (d : Array α) : Chg g (g + 1) w (putRow enc w g off d) :=
  ⟨rfl, rfl, rfl, by simp, fun k hk hr => by
    unfold Go.Sort.putRow mapBlock
    simp only [Array.getElem?_modify]
    rw [if_neg (by omega)]⟩
theorem own_holds {w : World} {B g n c : Nat} {E : TypeId} {xs : List Int} (h : w.ownsRow B E 1 (.slice (some ⟨g, 0, none⟩) n c) n (intCells xs)) : Holds (Value.int .i64) w g 0 xs.toArray := fun j hj => by
  have hl : xs.length = n := by have := h.1; rw [intCells_len] at this; omega
  have hj' : j < xs.length := by simpa using hj
  refine ⟨?_, h.frozenAt _⟩
  have hc : w.cell? ⟨g, j, none⟩ = (intCells xs)[j]? := h.cellAt j (by omega)
  rw [Nat.zero_add, hc, intCells_get _ _ (by omega)]
  simp [hj']
theorem own_putRow {w : World} {B g n c : Nat} {E : TypeId} {xs ys : List Int} (h : w.ownsRow B E 1 (.slice (some ⟨g, 0, none⟩) n c) n (intCells xs)) (q : Nat) (hl : ys.length = n) : (putRow (Value.int .i64) (Sort.ahead w q) g 0 ys.toArray).ownsRow B E 1 (.slice (some ⟨g, 0, none⟩) n c) n (intCells ys) := by
  obtain ⟨h1, h2⟩ := h
  refine ⟨by rw [intCells_len]; omega, ?_⟩
  rcases h2 with ⟨e, _⟩ | ⟨g', cap, cur, e, h3, h4, h5, h6, h7, h8⟩
  · cases e
  · simp only [Value.slice.injEq, Option.some.injEq, Addr.mk.injEq] at e
    obtain ⟨⟨rfl, _⟩, _, rfl⟩ := e
    refine .inr ⟨g, c, putCells (Value.int .i64) 0 ys.toArray cur, rfl, h3, ?_, h5, h6, by simp [putCells, h7], ?_⟩
    · have h4' : w.heap[g]? = some (.cells cur E (0, 0)) := h4
      show (w.heap.modify g (onCells (putCells (Value.int .i64) 0 ys.toArray)))[g]? = _
      rw [Array.getElem?_modify, if_pos rfl, h4']
      rfl
    · apply List.ext_getElem?
      intro j
      by_cases hj : j < n
      · rw [List.getElem?_take, if_pos (by omega), intCells_get _ _ (by omega)]
        have hjc : j < cur.size := by omega
        simp [putCells, hjc, hl, hj]
      · rw [List.getElem?_eq_none (by simp [putCells]; omega), List.getElem?_eq_none (by rw [intCells_len]; omega)]

end Go.Proofs.Ytgldfmkjnggedaa
