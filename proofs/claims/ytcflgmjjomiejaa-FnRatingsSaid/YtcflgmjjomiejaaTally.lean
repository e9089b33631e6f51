/- Lists of numbers to which something is added, place by place: plain facts. -/
import Derived.Test.YtcflgmjjomiejaaViews
namespace Go.Proofs.Ytcflgmjjomiejaa
open Go.RowKit

/-- d more at place i -/
def addAt (out : List Int) (i : Nat) (d : Int) : List Int := out.set i (out.getD i 0 + d)
theorem addAt_len (out : List Int) (i : Nat) (d : Int) : (addAt out i d).length = out.length := by simp [addAt]
theorem addAt_getD_ne (out : List Int) (i j : Nat) (d : Int) (h : i ≠ j) : (addAt out i d).getD j 0 = out.getD j 0 := by
  simp [addAt, List.getD_eq_getElem?_getD, h]
/-- all from 0 to b -/
def Upb (b : Int) (out : List Int) : Prop := ∀ i, 0 ≤ out.getD i 0 ∧ out.getD i 0 ≤ b
theorem Upb.add {b : Int} {out : List Int} (h : Upb b out) (i : Nat) (d e : Int) (h0 : 0 ≤ d) (h1 : d ≤ e) : Upb (b + e) (addAt out i d) := by
  intro j
  have hj := h j
  have hi := h i
  simp only [addAt, List.getD_eq_getElem?_getD] at *
  rw [List.getElem?_set]
  by_cases e1 : i = j
  · subst e1
    by_cases e2 : i < out.length
    · simp [e2] at *; omega
    · simp [e2] at *; omega
  · simp only [e1, if_false]; omega
theorem Upb.wide {b c : Int} {out : List Int} (h : Upb b out) (hb : b ≤ c) : Upb c out := fun i => by have := h i; omega
theorem Upb.zero (n : Nat) : Upb 0 (List.replicate n (0 : Int)) := by
  intro i
  simp only [List.getD_eq_getElem?_getD, List.getElem?_replicate]
  split <;> simp
/-- tallies: for each of gs two places -/
def tally (ps : (Int × Int × Int) → (Nat × Int) × (Nat × Int)) (n : Nat) (gs : List (Int × Int × Int)) : List Int :=
  gs.foldl (fun out g => addAt (addAt out (ps g).1.1 (ps g).1.2) (ps g).2.1 (ps g).2.2) (List.replicate n 0)
theorem tally_nil (ps : (Int × Int × Int) → (Nat × Int) × (Nat × Int)) (n : Nat) : tally ps n [] = List.replicate n 0 := rfl
theorem tally_succ (ps : (Int × Int × Int) → (Nat × Int) × (Nat × Int)) (n : Nat) (gs : List (Int × Int × Int)) (k : Nat) (hk : k < gs.length) :
    tally ps n (gs.take (k + 1)) = addAt (addAt (tally ps n (gs.take k)) (ps (gs.getD k (0, 0, 0))).1.1 (ps (gs.getD k (0, 0, 0))).1.2) (ps (gs.getD k (0, 0, 0))).2.1 (ps (gs.getD k (0, 0, 0))).2.2 := by
  rw [List.take_succ_eq_append_getElem hk]
  simp only [tally, List.foldl_append, List.foldl_cons, List.foldl_nil]
  simp [hk]
theorem tally_len (ps : (Int × Int × Int) → (Nat × Int) × (Nat × Int)) (n : Nat) (gs : List (Int × Int × Int)) : (tally ps n gs).length = n := by
  have : ∀ (gs : List (Int × Int × Int)) (out : List Int), (gs.foldl (fun out g => addAt (addAt out (ps g).1.1 (ps g).1.2) (ps g).2.1 (ps g).2.2) out).length = out.length := by
    intro gs
    induction gs with
    | nil => intro out; rfl
    | cons g gs ih => intro out; rw [List.foldl_cons, ih, addAt_len, addAt_len]
  rw [tally, this]
  simp
theorem intCells_zero (n : Nat) : intCells (List.replicate n 0) = List.replicate n (.int .i64 0) := by simp [intCells]
/-- A store into an owned row of numbers. -/
theorem own_addAt {w : World} {B g n c : Nat} {E : TypeId} {xs : List Int} (h : w.ownsRow B E 1 (.slice (some ⟨g, 0, none⟩) n c) n (intCells xs)) (i : Nat) (v d : Int) (hv : v = xs.getD i 0 + d) :
    (w.setCell ⟨g, i, none⟩ (.int .i64 v)).ownsRow B E 1 (.slice (some ⟨g, 0, none⟩) n c) n (intCells (addAt xs i d)) := by
  subst hv
  have := (h.stored i (.int .i64 (xs.getD i 0 + d))).1
  rw [intCells_set] at this
  exact this
theorem own_put {w : World} {B g n c : Nat} {E : TypeId} {xs : List Int} (h : w.ownsRow B E 1 (.slice (some ⟨g, 0, none⟩) n c) n (intCells xs)) (i : Nat) (v : Int) :
    (w.setCell ⟨g, i, none⟩ (.int .i64 v)).ownsRow B E 1 (.slice (some ⟨g, 0, none⟩) n c) n (intCells (xs.set i v)) := by
  have := (h.stored i (.int .i64 v)).1
  rw [intCells_set] at this
  exact this
theorem own_some {w : World} {B n c : Nat} {E : TypeId} {sz : Nat} {a : Option Addr} {cs : List Value} (h : w.ownsRow B E sz (.slice a n c) n cs) (hn : 0 < n) : ∃ g, a = some ⟨g, 0, none⟩ := by
  rcases h.2 with ⟨h1, h2⟩ | ⟨g, cap, cur, h1, _⟩
  · omega
  · simp only [Value.slice.injEq] at h1; exact ⟨g, h1.1⟩
theorem own_get {w : World} {B g n c : Nat} {E : TypeId} {xs : List Int} (h : w.ownsRow B E 1 (.slice (some ⟨g, 0, none⟩) n c) n (intCells xs)) (i : Nat) (hi : i < n) : w.cell? ⟨g, i, none⟩ = some (.int .i64 (xs.getD i 0)) := by
  have hl : xs.length = n := by have := h.1; rw [intCells_len] at this; omega
  rw [h.cellAt i (by omega), intCells_get _ _ (by omega)]
theorem own_block {w : World} {B g n c : Nat} {E : TypeId} {sz : Nat} {cs : List Value} (h : w.ownsRow B E sz (.slice (some ⟨g, 0, none⟩) n c) n cs) : B ≤ g ∧ g < w.heap.size := h.lt g rfl

end Go.Proofs.Ytcflgmjjomiejaa
