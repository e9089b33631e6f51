/- How slices of one-cell elements read, whatever their kind. -/
import Derived.Test.YtcflgmjjomiejaaViews
namespace Go.Proofs.Ytcflgmjjomiejaa
open Go.RowKit

def Row {α : Type} (f : α → Value) (w : World) (a : Option Addr) (n c : Nat) (xs : List α) : Prop := Rd w a n c 1 (xs.map f)
theorem Row.len {α : Type} {f : α → Value} {w : World} {a : Option Addr} {n c : Nat} {xs : List α} (h : Row f w a n c xs) : xs.length = n := by
  have := h.1; simp at this; exact this
theorem row_get {α : Type} (f : α → Value) (d : α) (xs : List α) (j : Nat) (h : j < xs.length) : (xs.map f)[j]? = some (f (xs.getD j d)) := by simp [h]
theorem Row.at {α : Type} {f : α → Value} (d : α) {w : World} {a : Option Addr} {n c : Nat} {xs : List α} (h : Row f w a n c xs) : n ≤ c ∧ c ≤ 9223372036854775807 ∧ ∀ i, i < n → ∃ b off, a = some ⟨b, off, none⟩ ∧ b < w.heap.size ∧ ∀ j, j < n → w.cell? ⟨b, off + j, none⟩ = some (f (xs.getD j d)) := by
  have hl := h.len
  obtain ⟨_, h2, h3, h4⟩ := h
  refine ⟨h2, h3, fun i hi => ?_⟩
  rcases h4 with h4 | ⟨b, off, ha, hb, hc⟩
  · omega
  · exact ⟨b, off, ha, hb, fun j hj => by rw [hc j (by omega), row_get f d _ _ (by omega)]⟩
theorem Row.mono {α : Type} {f : α → Value} {w w' : World} {a : Option Addr} {n c : Nat} {xs : List α} (h : Row f w a n c xs) (hb : Below w.heap.size w w') : Row f w' a n c xs := Rd.mono h hb
abbrev Bools := Row Value.bool
abbrev Floats := Row (Value.float .f32)
abbrev Strs := Row Value.string

end Go.Proofs.Ytcflgmjjomiejaa
