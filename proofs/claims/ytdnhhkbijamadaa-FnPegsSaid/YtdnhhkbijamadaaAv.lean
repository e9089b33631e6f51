/- Not in a block. -/
import Derived.Test.YtdnhhkbijamadaaChg
import Derived.Test.YtdnhhkbijamadaaChgC
namespace Go.Proofs.Ytdnhhkbijamadaa
open Go.RowKit
set_option linter.unusedVariables false

/-- Not in block M. -/
def Av (M : Nat) (a : Option Addr) : Prop := ∀ x, a = some x → x.block ≠ M
theorem Rd.av {M : Nat} {w w' : World} {a : Option Addr} {n c sz : Nat} {cs : List Value} (h : Rd w a n c sz cs) (hc : Chg M (M + 1) w w') (ha : Av M a) : Rd w' a n c sz cs := by
  obtain ⟨h1, h2, h3, h4⟩ := h
  refine ⟨h1, h2, h3, ?_⟩
  rcases h4 with h4 | ⟨b, off, rfl, hlt, hcs⟩
  · exact .inl h4
  · have hb := ha _ rfl
    refine .inr ⟨b, off, rfl, Nat.lt_of_lt_of_le hlt hc.size, fun j hj => ?_⟩
    rw [← hcs j hj]
    exact World.cell?_of_block (hc.block _ hlt (by dsimp only at hb; show b < M ∨ M + 1 ≤ b; omega))
theorem av_own {M B : Nat} {w : World} {e : TypeId} {sz : Nat} {a : Option Addr} {n c : Nat} {cs : List Value} (h : w.ownsRow B e sz (.slice a n c) n cs) (hM : M < B) : Av M a := fun x hx => by
  have := (own_in h x hx).1
  omega
theorem Chg.cellNe {M : Nat} {w w' : World} (h : Chg M (M + 1) w w') {p : Addr} {v : Value} (hc : w.cell? p = some v) (hp : p.block ≠ M) : w'.cell? p = some v := h.cell hc (by omega)
theorem own_av {M : Nat} {w w' : World} {B : Nat} {e : TypeId} {sz : Nat} {a : Option Addr} {n c : Nat} {cs : List Value} (h : w.ownsRow B e sz (.slice a n c) n cs) (hc : Chg M (M + 1) w w') (ha : Av M a) : w'.ownsRow B e sz (.slice a n c) n cs := by
  obtain ⟨h1, h2⟩ := h
  refine ⟨h1, ?_⟩
  rcases h2 with h2 | ⟨g, cap, cur, e1, h3, h4, h5⟩
  · exact .inl h2
  · simp only [Value.slice.injEq] at e1
    obtain ⟨rfl, _, rfl⟩ := e1
    have hb := ha _ rfl
    refine .inr ⟨g, c, cur, rfl, h3, ?_, h5⟩
    rw [hc.block g (by rcases Nat.lt_or_ge g w.heap.size with hg | hg; exact hg; rw [Array.getElem?_eq_none hg] at h4; cases h4) (by dsimp only at hb; omega)]
    exact h4
theorem Chg.below {M : Nat} {w w' : World} (h : Below w.heap.size w w') : Chg M (M + 1) w w' := ⟨h.os, h.tape, h.output, h.size, fun k hk _ => h.block k hk⟩
theorem Chg.frozen {lo hi : Nat} {w w' : World} {p : Addr} (h : Chg lo hi w w') (hl : p.block < w.heap.size) (hp : p.block < lo ∨ hi ≤ p.block) : w'.frozen? p = w.frozen? p := World.frozen?_of_block (h.block _ hl hp)
theorem cell_set {W : World} {p q : Addr} {u v : Value} (h : W.cell? p = some v) (hp : p.block ≠ q.block) : (W.setCell q u).cell? p = some v := by
  rw [World.cell?_of_block (Below.heap_setCell W q u p.block hp)]
  exact h

end Go.Proofs.Ytdnhhkbijamadaa
