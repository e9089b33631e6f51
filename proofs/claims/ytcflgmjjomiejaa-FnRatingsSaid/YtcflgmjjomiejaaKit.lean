/- Words that all texts of this seat share: what a call returns and leaves alone; how slices of numbers and of structs read; owned rows. -/
import Derived.WalkKit
import Derived.WalkSmall
import Derived.WalkSpells
import Derived.Lib.Hide
import Derived.Deep.QuietTactic
import Derived.BigQuiet
namespace Go.Proofs.Ytcflgmjjomiejaa
open Go.RowKit

theorem ret_eq {v v' : Value} (h : v = v') : Ending.returned v = .returned v' := by rw [h]
theorem ret_bool {b b' : Bool} (h : b = b') : Ending.returned (.bool b) = .returned (.bool b') := by rw [h]
theorem ret_int {k : IntKind} {a b : Int} (h : a = b) : Ending.returned (.int k a) = .returned (.int k b) := by rw [h]
/-- w' is w, and something may have been drawn. -/
def Quiet (w w' : World) : Prop := ∃ q, w' = w.drewN q
theorem Quiet.refl (w : World) : Quiet w w := ⟨0, rfl⟩
theorem Quiet.drewN {w w' : World} (h : Quiet w w') (q : Nat) : Quiet w (w'.drewN q) := by
  obtain ⟨p, rfl⟩ := h
  exact ⟨p + q, by show { w with drawn := w.drawn + p + q } = { w with drawn := w.drawn + (p + q) }; rw [Nat.add_assoc]⟩
theorem Quiet.drew {w w' : World} (h : Quiet w w') : Quiet w w'.drew := h.drewN 1
theorem Quiet.trans {w w' w'' : World} (h : Quiet w w') (k : Quiet w' w'') : Quiet w w'' := by
  obtain ⟨q, rfl⟩ := k
  exact h.drewN q
theorem Quiet.below {w w' : World} (h : Quiet w w') (B : Nat) : Below B w w' := by
  obtain ⟨q, rfl⟩ := h
  exact below_drewN (Below.refl _ _) q

theorem Quiet.b {w w' : World} (h : Quiet w w') : Below w.heap.size w w' := h.below _

/-- It returns v, and below the heap's size all is as it was. -/
def Ret (w : World) (v : Value) (e : Ending) (w' : World) : Prop := e = .returned v ∧ Below w.heap.size w w'
/-- It returns v, and only draws. -/
def RetQ (w : World) (v : Value) (e : Ending) (w' : World) : Prop := e = .returned v ∧ Quiet w w'
/-- It returns v and leaves the world as it is. -/
def RetS (w : World) (v : Value) (e : Ending) (w' : World) : Prop := e = .returned v ∧ w = w'

theorem RetS.q {w : World} {v : Value} {e : Ending} {w' : World} (h : RetS w v e w') : RetQ w v e w' := ⟨h.1, 0, h.2 ▸ rfl⟩
theorem RetQ.r {w : World} {v : Value} {e : Ending} {w' : World} (h : RetQ w v e w') : Ret w v e w' := by
  exact ⟨h.1, h.2.below _⟩
theorem RetS.r {w : World} {v : Value} {e : Ending} {w' : World} (h : RetS w v e w') : Ret w v e w' := h.q.r

theorem qS {P : Program} {f : FuncId} {args : Array Value} {w : World} {n : Nat} {v : Value} (h : Calls P f args (w.drewN n) (RetS (w.drewN n) v)) :
    Calls P f args (w.drewN n) fun e w'' => e = .returned v ∧ ∃ m, w'' = w.drewN m := h.mono fun _ _ ⟨he, hm⟩ => ⟨he, n, hm.symm⟩
theorem qQ {P : Program} {f : FuncId} {args : Array Value} {w : World} {n : Nat} {v : Value} (h : Calls P f args (w.drewN n) (RetQ (w.drewN n) v)) :
    Calls P f args (w.drewN n) fun e w'' => e = .returned v ∧ ∃ m, w'' = w.drewN m := h.mono fun _ _ ⟨he, m, hm⟩ => ⟨he, n + m, by rw [hm, World.drewN_drewN]⟩

theorem ownsRow_below {B : Nat} {e : TypeId} {k : Nat} {v : Value} {n : Nat} {xs : List Value} {w w' : World} (h : w.ownsRow B e k v n xs) (hb : Below w.heap.size w w') : w'.ownsRow B e k v n xs :=
  h.kept (row := none) ⟨hb.os, hb.tape, hb.output, hb.size, fun j hj _ => hb.block j hj⟩ (by cases hv : v.ownBlock <;> simp)
theorem ownsRow_low {w : World} {base base' : Nat} {e : TypeId} {size : Nat} {v : Value} {n : Nat} {xs : List Value} (h : w.ownsRow base e size v n xs) (hb : base' ≤ base) : w.ownsRow base' e size v n xs := by
  obtain ⟨h1, h2⟩ := h
  refine ⟨h1, ?_⟩
  rcases h2 with h2 | ⟨g, cap, cur, a, b, c⟩
  · exact .inl h2
  · exact .inr ⟨g, cap, cur, a, by omega, c⟩
theorem ownsRow_drewN {w : World} {base : Nat} {e : TypeId} {size : Nat} {v : Value} {n : Nat} {xs : List Value} (h : w.ownsRow base e size v n xs) (q : Nat) : (w.drewN q).ownsRow base e size v n xs := h

theorem cell_lt {w : World} {p : Addr} {v : Value} (h : w.cell? p = some v) : p.block < w.heap.size := by
  rcases Nat.lt_or_ge p.block w.heap.size with hg | hg
  · exact hg
  · simp [World.cell?, Array.getElem?_eq_none hg] at h
/-- A cell that lies stays as it is. -/
theorem cell_on {w w' : World} {p : Addr} {v : Value} (hb : Below w.heap.size w w') (h : w.cell? p = some v) : w'.cell? p = some v := (hb.cell (cell_lt h)).trans h

theorem frozen_on {w w' : World} {p : Addr} (hb : Below w.heap.size w w') (hp : p.block < w.heap.size) (h : w.frozen? p = false) : w'.frozen? p = false := (hb.frozen hp).trans h

/-- A step, and then another from where the first has ended. -/
theorem below_step {B : Nat} {a w w' : World} (h : Below B a w) (hB : B ≤ w.heap.size) (k : Below w.heap.size w w') : Below B a w' := h.trans (k.mono hB)
theorem below_le {B : Nat} {w w' : World} (h : Below B w w') : w.heap.size ≤ w'.heap.size := h.size
/-- Behind a make. -/
theorem below_made {B : Nat} {a w w' : World} (h : Below B a w) (hB : B ≤ w.heap.size) (g : w.grownBy w' none) : Below B a w' := h.grown g hB (by simp)
theorem below_grown {B : Nat} {a w w' : World} {v : Value} {e : TypeId} {s n : Nat} {xs : List Value} (h : Below B a w) (hB : B ≤ w.heap.size) (g : w.grownBy w' v.ownBlock) (ho : w.ownsRow B e s v n xs) : Below B a w' :=
  h.grown g hB (fun k hk => (ho.lt k hk).1)

/-- The first k cells of what shall be, then z. -/
def cellsTo (f : Nat → Value) (z : Value) (m k : Nat) : List Value := (List.range m).map fun j => if j < k then f j else z
theorem cellsTo_len (f : Nat → Value) (z : Value) (m k : Nat) : (cellsTo f z m k).length = m := by simp [cellsTo]
theorem cellsTo_get (f : Nat → Value) (z : Value) (m k j : Nat) (h : j < m) : (cellsTo f z m k)[j]? = some (if j < k then f j else z) := by
  simp [cellsTo, h]
theorem cellsTo_set (f : Nat → Value) (z : Value) (m k : Nat) (v : Value) (hv : v = f k) : (cellsTo f z m k).set k v = cellsTo f z m (k + 1) := by
  subst hv
  apply List.ext_getElem?
  intro j
  by_cases hj : j < m
  · rw [List.getElem?_set]
    by_cases hkj : k = j
    · subst hkj
      simp [cellsTo, hj]
    · rw [if_neg hkj, cellsTo_get _ _ _ _ _ hj, cellsTo_get _ _ _ _ _ hj]
      by_cases h1 : j < k
      · rw [if_pos h1, if_pos (by omega)]
      · rw [if_neg h1, if_neg (by omega)]
  · rw [List.getElem?_eq_none (by simp [cellsTo]; omega), List.getElem?_eq_none (by simp [cellsTo]; omega)]
theorem cellsTo_zero (f : Nat → Value) (z : Value) (m : Nat) : cellsTo f z m 0 = List.replicate m z := by
  apply List.ext_getElem?
  intro j
  by_cases hj : j < m
  · simp [cellsTo, hj]
  · rw [List.getElem?_eq_none (by simp [cellsTo]; omega), List.getElem?_eq_none (by simp; omega)]
theorem cellsTo_full (f : Nat → Value) (z : Value) (m : Nat) (L : List Value) (hL : L.length = m) (h : ∀ j, j < m → L[j]? = some (f j)) : cellsTo f z m m = L := by
  apply List.ext_getElem?
  intro j
  by_cases hj : j < m
  · rw [cellsTo_get _ _ _ _ _ hj, if_pos hj, h j hj]
  · rw [List.getElem?_eq_none (by simp [cellsTo]; omega), List.getElem?_eq_none (by omega)]

/-- a ≤ x ≤ b, as the walk shall leave it: closed to simp -/
def inB (x a b : Int) : Bool := decide (a ≤ x) && decide (x ≤ b)
theorem inB_iff (x a b : Int) : inB x a b = true ↔ a ≤ x ∧ x ≤ b := by simp [inB]
theorem inB_not (x a b : Int) : inB x a b = false ↔ ¬ (a ≤ x ∧ x ≤ b) := by simp only [← inB_iff]; simp

/-- The cells of a make, where all are alike. -/
theorem made_const (cs : Array Value) (z : Value) (hs : 0 < cs.size) (h : ∀ i, i < cs.size → cs[i]! = z) (m : Nat) : (madeCells cs m).toList = List.replicate m z := by
  apply List.ext_getElem?
  intro j
  by_cases hj : j < m
  · simp [madeCells, hj, h _ (Nat.mod_lt j hs)]
  · rw [List.getElem?_eq_none (by simp [madeCells]; omega), List.getElem?_eq_none (by simp; omega)]

/-- The one cell that an append's list lays. -/
theorem new1 (W : World) (v : Value) (T : TypeId) : ∀ j u, [v][j]? = some u → (W.alloc (.cells #[v] T)).cell? ((⟨W.heap.size, 0, none⟩ : Addr).add j) = some u := by
  intro j u h
  match j, h with
  | 0, h => simp at h; subst h; simp [Addr.add]
theorem one1 {v : Value} (h : v.oneCell' = true) : ∀ u ∈ [v], u.oneCell' = true := by
  intro u hu
  simp at hu
  subst hu
  exact h
/-- What is owned is a slice of so many elements. -/
theorem own_form {w : World} {B : Nat} {e : TypeId} {sz : Nat} {v : Value} {n : Nat} {xs : List Value} (h : w.ownsRow B e sz v n xs) : ∃ a c, v = .slice a n c := by
  rcases h.2 with ⟨h1, h2⟩ | ⟨g, cap, cur, h1, _⟩
  · exact ⟨none, 0, by rw [h1, h2]⟩
  · exact ⟨_, _, h1⟩
/-- Behind an append of one element: the cell was laid, then the row grew. -/
theorem below_app {B : Nat} {a w w' : World} {v : Value} {e : TypeId} {s n : Nat} {xs : List Value} {o : Obj} (h : Below B a w) (hB : B ≤ w.heap.size) (g : (w.alloc o).grownBy w' v.ownBlock) (ho : w.ownsRow B e s v n xs) : Below B a w' :=
  below_grown (h.alloc hB o) (by simp; omega) g (ho.alloc o)

/-- A slice that reads as cells, sz to an element. -/
def Rd (w : World) (a : Option Addr) (n c sz : Nat) (cs : List Value) : Prop :=
  cs.length = n * sz ∧ n ≤ c ∧ c ≤ 9223372036854775807 ∧
  (n = 0 ∨ ∃ b off, a = some ⟨b, off, none⟩ ∧ b < w.heap.size ∧ ∀ j, j < n * sz → w.cell? ⟨b, off + j, none⟩ = cs[j]?)
theorem Rd.mono {w w' : World} {a : Option Addr} {n c sz : Nat} {cs : List Value} (h : Rd w a n c sz cs) (hb : Below w.heap.size w w') : Rd w' a n c sz cs := by
  obtain ⟨h1, h2, h3, h4⟩ := h
  refine ⟨h1, h2, h3, ?_⟩
  rcases h4 with h4 | ⟨b, off, ha, hlt, hc⟩
  · exact .inl h4
  · exact .inr ⟨b, off, ha, Nat.lt_of_lt_of_le hlt hb.size, fun j hj => by rw [← hc j hj]; exact hb.cell (p := ⟨b, off + j, none⟩) hlt⟩
theorem Rd.drewN {w : World} {a : Option Addr} {n c sz : Nat} {cs : List Value} (h : Rd w a n c sz cs) (q : Nat) : Rd (w.drewN q) a n c sz cs := h
/-- What is owned reads. -/
theorem Rd.own {w : World} {B : Nat} {e : TypeId} {sz : Nat} {a : Option Addr} {n c : Nat} {cs : List Value} (h : w.ownsRow B e sz (.slice a n c) n cs) : Rd w a n c sz cs := by
  have hl := h.1
  rcases h.2 with ⟨h1, h2⟩ | ⟨g, cap, cur, h1, h2, h3, h4, h5, h6, h7⟩
  · subst h2
    simp only [Value.slice.injEq] at h1
    exact ⟨hl, by omega, by omega, .inl rfl⟩
  · simp only [Value.slice.injEq] at h1
    obtain ⟨rfl, _, rfl⟩ := h1
    unfold maxLen at h5
    refine ⟨hl, h4, by omega, .inr ⟨g, 0, rfl, ?_, fun j hj => ?_⟩⟩
    · rcases Nat.lt_or_ge g w.heap.size with hg | hg
      · exact hg
      · rw [Array.getElem?_eq_none hg] at h3; cases h3
    · have := h.cellAt j hj
      simpa using this

end Go.Proofs.Ytcflgmjjomiejaa
