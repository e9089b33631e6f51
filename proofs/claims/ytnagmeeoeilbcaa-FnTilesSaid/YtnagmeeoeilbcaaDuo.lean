/- Structs of two numbers as cells. -/
import Derived.Test.YtnagmeeoeilbcaaViews
namespace Go.Proofs.Ytnagmeeoeilbcaa
open Go.RowKit
set_option linter.unusedVariables false

def duoCells (gs : List (Int × Int)) : List Value := gs.flatMap fun g => [.int .i64 g.1, .int .i64 g.2]
theorem duoCells_len (gs : List (Int × Int)) : (duoCells gs).length = gs.length * 2 := flat_len _ 2 (fun _ => rfl) gs
theorem duoCells_get (gs : List (Int × Int)) (j : Nat) (h : j < gs.length) : (duoCells gs)[j * 2]? = some (.int .i64 (gs.getD j (0, 0)).1) ∧ (duoCells gs)[j * 2 + 1]? = some (.int .i64 (gs.getD j (0, 0)).2) := by
  have e : gs[j]? = some (gs.getD j (0, 0)) := by simp [h]
  have f := fun t ht => flat_get (fun g : Int × Int => [Value.int .i64 g.1, .int .i64 g.2]) 2 (fun _ => rfl) gs j t ht
  refine ⟨?_, ?_⟩
  · have := f 0 (by omega); rw [e] at this; simpa [duoCells] using this
  · have := f 1 (by omega); rw [e] at this; simpa [duoCells] using this
def Duos (w : World) (a : Option Addr) (n c : Nat) (gs : List (Int × Int)) : Prop := Rd w a n c 2 (duoCells gs)
theorem Duos.len {w : World} {a : Option Addr} {n c : Nat} {gs : List (Int × Int)} (h : Duos w a n c gs) : gs.length = n := by
  have := h.1; rw [duoCells_len] at this; omega
theorem Duos.at {w : World} {a : Option Addr} {n c : Nat} {gs : List (Int × Int)} (h : Duos w a n c gs) : n ≤ c ∧ c ≤ 9223372036854775807 ∧ ∀ i, i < n → ∃ b off, a = some ⟨b, off, none⟩ ∧ b < w.heap.size ∧ ∀ j, j < n →
    w.cell? ⟨b, off + j * 2, none⟩ = some (.int .i64 (gs.getD j (0, 0)).1) ∧ w.cell? ⟨b, off + j * 2 + 1, none⟩ = some (.int .i64 (gs.getD j (0, 0)).2) := by
  have hl := h.len
  obtain ⟨_, h2, h3, h4⟩ := h
  refine ⟨h2, h3, fun i hi => ?_⟩
  rcases h4 with h4 | ⟨b, off, ha, hb, hc⟩
  · omega
  · refine ⟨b, off, ha, hb, fun j hj => ?_⟩
    obtain ⟨g0, g1⟩ := duoCells_get gs j (by omega)
    exact ⟨by rw [hc _ (by omega), g0], by rw [Nat.add_assoc, hc _ (by omega), g1]⟩
theorem Duos.mono {w w' : World} {a : Option Addr} {n c : Nat} {xs : List (Int × Int)} (h : Duos w a n c xs) (hb : Below w.heap.size w w') : Duos w' a n c xs := Rd.mono h hb

end Go.Proofs.Ytnagmeeoeilbcaa
