/- More of worlds that part in a range of blocks; lengths in slots; rows of Booleans of one's own. -/
import Derived.Test.YtcflgmjjomiejaaChg
import Derived.Test.YtcflgmjjomiejaaRow
namespace Go.Proofs.Ytcflgmjjomiejaa
open Go.RowKit

theorem Chg.set {lo hi : Nat} {a w : World} {p : Addr} (h : Chg lo hi a w) (v : Value) (h1 : lo ≤ p.block) (h2 : p.block < hi) : Chg lo hi a (w.setCell p v) :=
  h.trans ⟨by simp [World.setCell], by simp [World.setCell], by simp [World.setCell], by simp, fun k _ hr => Below.heap_setCell w p v k (by omega)⟩
theorem Chg.drewN {lo hi : Nat} {a w : World} (h : Chg lo hi a w) (q : Nat) : Chg lo hi a (w.drewN q) := ⟨h.os, h.tape, h.output, h.size, h.block⟩
theorem Chg.quiet {lo hi : Nat} {a w w' : World} (h : Chg lo hi a w) (k : Quiet w w') : Chg lo hi a w' := by
  obtain ⟨q, rfl⟩ := k
  exact h.drewN q
theorem Chg.wide {lo hi lo' hi' : Nat} {a w : World} (h : Chg lo hi a w) (h1 : lo' ≤ lo) (h2 : hi ≤ hi') : Chg lo' hi' a w :=
  ⟨h.os, h.tape, h.output, h.size, fun k hk hr => h.block k hk (by omega)⟩
/-- The length in a slot. -/
def lenV : Value → Nat | .slice _ n _ => n | _ => 0
theorem own_putB {w : World} {B g n c : Nat} {E : TypeId} {xs : List Bool} (h : w.ownsRow B E 1 (.slice (some ⟨g, 0, none⟩) n c) n (xs.map Value.bool)) (i : Nat) (v : Bool) :
    (w.setCell ⟨g, i, none⟩ (.bool v)).ownsRow B E 1 (.slice (some ⟨g, 0, none⟩) n c) n ((xs.set i v).map Value.bool) := by
  have := (h.stored i (.bool v)).1
  rw [← List.map_set] at this
  exact this
theorem own_getB {w : World} {B g n c : Nat} {E : TypeId} {xs : List Bool} (h : w.ownsRow B E 1 (.slice (some ⟨g, 0, none⟩) n c) n (xs.map Value.bool)) (i : Nat) (hi : i < n) : w.cell? ⟨g, i, none⟩ = some (.bool (xs.getD i false)) := by
  have hl : xs.length = n := by have := h.1; simp at this; omega
  rw [h.cellAt i (by omega), row_get Value.bool false _ _ (by omega)]

theorem ownsRow_setCell_other {w : World} {B : Nat} {e : TypeId} {sz : Nat} {a : Option Addr} {n c : Nat} {cs : List Value} {p : Addr} (h : w.ownsRow B e sz (.slice a n c) n cs) (hp : ∀ x, a = some x → x.block ≠ p.block) (v : Value) : (w.setCell p v).ownsRow B e sz (.slice a n c) n cs := by
  obtain ⟨h1, h2⟩ := h
  refine ⟨h1, ?_⟩
  rcases h2 with h2 | ⟨g, cap, cur, e1, h3, h4, h5⟩
  · exact .inl h2
  · simp only [Value.slice.injEq] at e1
    obtain ⟨rfl, _, rfl⟩ := e1
    refine .inr ⟨g, c, cur, rfl, h3, ?_, h5⟩
    rw [Below.heap_setCell w p v g (hp _ rfl)]
    exact h4

theorem new1S (W : World) (v : Value) (T : TypeId) (s : Nat) (hs : W.heap.size = s) : ∀ j u, [v][j]? = some u → (W.alloc (.cells #[v] T)).cell? ((⟨s, 0, none⟩ : Addr).add j) = some u := by
  subst hs
  exact new1 W v T

theorem new2S (W : World) (u v : Value) (T : TypeId) (s : Nat) (hs : W.heap.size = s) : ∀ j x, [u, v][j]? = some x → (W.alloc (.cells #[u, v] T)).cell? ((⟨s, 0, none⟩ : Addr).add j) = some x := by
  subst hs
  intro j x h
  match j, h with
  | 0, h => simp at h; subst h; simp [Addr.add]
  | 1, h => simp at h; subst h; simp [Addr.add]
theorem one2 {u v : Value} (h : u.oneCell' = true) (k : v.oneCell' = true) : ∀ x ∈ [u, v], x.oneCell' = true := by
  intro x hx
  simp at hx
  rcases hx with rfl | rfl
  · exact h
  · exact k

end Go.Proofs.Ytcflgmjjomiejaa
