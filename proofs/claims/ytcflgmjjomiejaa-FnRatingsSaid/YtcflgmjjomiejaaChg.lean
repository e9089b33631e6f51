/- Worlds that part in a range of blocks alone; what lies elsewhere reads on. -/
import Derived.Test.YtcflgmjjomiejaaViews
namespace Go.Proofs.Ytcflgmjjomiejaa
open Go.RowKit

/-- The address, if there is one, lies in a block from lo on, below hi. -/
def In (lo hi : Nat) (a : Option Addr) : Prop := ∀ x, a = some x → lo ≤ x.block ∧ x.block < hi
theorem In.wide {lo hi lo' hi' : Nat} {a : Option Addr} (h : In lo hi a) (h1 : lo' ≤ lo) (h2 : hi ≤ hi') : In lo' hi' a := fun x hx => by have := h x hx; omega
theorem own_in {w : World} {B : Nat} {e : TypeId} {sz : Nat} {a : Option Addr} {n c : Nat} {cs : List Value} (h : w.ownsRow B e sz (.slice a n c) n cs) : In B w.heap.size a := fun x hx => by
  subst hx
  exact h.lt _ rfl
/-- Outside the blocks from lo to hi nothing has turned. -/
structure Chg (lo hi : Nat) (w w' : World) : Prop where
  os : w'.os = w.os
  tape : w'.tape = w.tape
  output : w'.output = w.output
  size : w.heap.size ≤ w'.heap.size
  block : ∀ k, k < w.heap.size → (k < lo ∨ hi ≤ k) → w'.heap[k]? = w.heap[k]?
theorem Chg.refl (lo hi : Nat) (w : World) : Chg lo hi w w := ⟨rfl, rfl, rfl, Nat.le_refl _, fun _ _ _ => rfl⟩
theorem Chg.trans {lo hi : Nat} {a b c : World} (h : Chg lo hi a b) (k : Chg lo hi b c) : Chg lo hi a c :=
  ⟨k.os.trans h.os, k.tape.trans h.tape, k.output.trans h.output, Nat.le_trans h.size k.size, fun i h1 h2 => (k.block i (Nat.lt_of_lt_of_le h1 h.size) h2).trans (h.block i h1 h2)⟩
theorem Chg.of_grown {lo hi n c : Nat} {a : Option Addr} {w w' : World} (hi' : In lo hi a) (h : w.grownBy w' (Value.slice a n c).ownBlock) : Chg lo hi w w' :=
  ⟨h.os, h.tape, h.output, h.size, fun k hk hr => h.block k hk (fun e => by
    cases a with
    | none => simp [Value.ownBlock] at e
    | some x => simp [Value.ownBlock] at e; have := hi' x rfl; omega)⟩
theorem Chg.of_below {lo hi B : Nat} {w w' : World} (h : Below B w w') (hB : w.heap.size ≤ B) : Chg lo hi w w' := ⟨h.os, h.tape, h.output, h.size, fun k hk _ => h.block k (by omega)⟩
theorem below_chg {B lo hi : Nat} {a w w' : World} (h : Below B a w) (hB : B ≤ w.heap.size) (hl : B ≤ lo) (k : Chg lo hi w w') : Below B a w' :=
  h.trans ⟨k.os, k.tape, k.output, k.size, fun i hi => k.block i (by omega) (.inl (by omega))⟩
theorem Chg.cell {lo hi : Nat} {w w' : World} (h : Chg lo hi w w') {p : Addr} {v : Value} (hc : w.cell? p = some v) (hp : p.block < lo ∨ hi ≤ p.block) : w'.cell? p = some v :=
  (World.cell?_of_block (h.block _ (cell_lt hc) hp)).trans hc
theorem Rd.chg {lo hi l r : Nat} {w w' : World} {a : Option Addr} {n c sz : Nat} {cs : List Value} (h : Rd w a n c sz cs) (hc : Chg lo hi w w') (ha : In l r a) (hd : r ≤ lo ∨ hi ≤ l) : Rd w' a n c sz cs := by
  obtain ⟨h1, h2, h3, h4⟩ := h
  refine ⟨h1, h2, h3, ?_⟩
  rcases h4 with h4 | ⟨b, off, rfl, hlt, hcs⟩
  · exact .inl h4
  · refine .inr ⟨b, off, rfl, Nat.lt_of_lt_of_le hlt hc.size, fun j hj => ?_⟩
    have hb := ha _ rfl
    rw [← hcs j hj]
    exact World.cell?_of_block (hc.block _ hlt (show b < lo ∨ hi ≤ b by dsimp only at hb; omega))
theorem own_chg {lo hi l r : Nat} {w w' : World} {B : Nat} {e : TypeId} {sz : Nat} {a : Option Addr} {n c : Nat} {cs : List Value} (h : w.ownsRow B e sz (.slice a n c) n cs) (hc : Chg lo hi w w') (ha : In l r a) (hd : r ≤ lo ∨ hi ≤ l) : w'.ownsRow B e sz (.slice a n c) n cs := by
  obtain ⟨h1, h2⟩ := h
  refine ⟨h1, ?_⟩
  rcases h2 with h2 | ⟨g, cap, cur, e1, h3, h4, h5⟩
  · exact .inl h2
  · simp only [Value.slice.injEq] at e1
    obtain ⟨rfl, _, rfl⟩ := e1
    have hb := ha _ rfl
    refine .inr ⟨g, c, cur, rfl, h3, ?_, h5⟩
    rw [hc.block g (by rcases Nat.lt_or_ge g w.heap.size with hg | hg; exact hg; rw [Array.getElem?_eq_none hg] at h4; cases h4) (by dsimp only at hb; omega)]
    exact h4
theorem Rd.in_heap {w : World} {a : Option Addr} {n c sz : Nat} {cs : List Value} (h : Rd w a n c sz cs) (hn : 0 < n) : In 0 w.heap.size a := fun x hx => by
  obtain ⟨_, _, _, h4⟩ := h
  rcases h4 with h4 | ⟨b, off, rfl, hlt, _⟩
  · omega
  · cases hx; exact ⟨Nat.zero_le _, hlt⟩
/-- A store elsewhere. -/
theorem Rd.set {w : World} {a : Option Addr} {n c sz : Nat} {cs : List Value} {p : Addr} (h : Rd w a n c sz cs) (hp : ∀ x, a = some x → x.block ≠ p.block) (v : Value) : Rd (w.setCell p v) a n c sz cs := by
  obtain ⟨h1, h2, h3, h4⟩ := h
  refine ⟨h1, h2, h3, ?_⟩
  rcases h4 with h4 | ⟨b, off, rfl, hlt, hcs⟩
  · exact .inl h4
  · refine .inr ⟨b, off, rfl, by simpa using hlt, fun j hj => ?_⟩
    rw [← hcs j hj]
    exact World.cell?_of_block (Below.heap_setCell w p v b (hp _ rfl))

/-- An argument's cells lie below the heap's size at the beginning: a range that begins there leaves them. -/
theorem Rd.chg_old {lo hi : Nat} {w0 w w' : World} {a : Option Addr} {n c sz : Nat} {cs : List Value} (h : Rd w a n c sz cs) (hc : Chg lo hi w w') (h0 : Rd w0 a n c sz cs) (hl : w0.heap.size ≤ lo) : Rd w' a n c sz cs := by
  by_cases hn : n = 0
  · obtain ⟨h1, h2, h3, _⟩ := h
    exact ⟨h1, h2, h3, .inl hn⟩
  · exact h.chg hc (h0.in_heap (by omega)) (.inl hl)

end Go.Proofs.Ytcflgmjjomiejaa
