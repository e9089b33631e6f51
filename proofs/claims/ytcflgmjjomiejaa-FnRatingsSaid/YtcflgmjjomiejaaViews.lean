/- How slices of numbers, of structs of three numbers, and of other plain elements read: plain facts on lists and cells; no program. -/
import Derived.Test.YtcflgmjjomiejaaKit
namespace Go.Proofs.Ytcflgmjjomiejaa
open Go.RowKit

theorem flat_len {α β : Type} (f : α → List β) (sz : Nat) (hf : ∀ x, (f x).length = sz) (gs : List α) : (gs.flatMap f).length = gs.length * sz := by
  induction gs with
  | nil => simp
  | cons g gs ih => simp [List.flatMap_cons, hf, ih, Nat.succ_mul]; omega
theorem flat_get {α β : Type} (f : α → List β) (sz : Nat) (hf : ∀ x, (f x).length = sz) (gs : List α) : ∀ (j t : Nat), t < sz → (gs.flatMap f)[j * sz + t]? = (gs[j]?).bind fun x => (f x)[t]? := by
  induction gs with
  | nil => intro j t _; simp
  | cons g gs ih =>
    intro j t ht
    rw [List.flatMap_cons]
    cases j with
    | zero => rw [List.getElem?_append_left (by rw [hf]; omega)]; simp
    | succ j =>
      rw [List.getElem?_append_right (by rw [hf, Nat.succ_mul]; omega), hf]
      rw [show (j + 1) * sz + t - sz = j * sz + t by rw [Nat.succ_mul]; omega, ih j t ht]
      simp

/-- numbers as cells -/
def intCells (xs : List Int) : List Value := xs.map (Value.int .i64)
theorem intCells_len (xs : List Int) : (intCells xs).length = xs.length := by simp [intCells]
theorem intCells_get (xs : List Int) (j : Nat) (h : j < xs.length) : (intCells xs)[j]? = some (.int .i64 (xs.getD j 0)) := by
  simp [intCells, h]
def Ints (w : World) (a : Option Addr) (n c : Nat) (xs : List Int) : Prop := Rd w a n c 1 (intCells xs)
theorem Ints.len {w : World} {a : Option Addr} {n c : Nat} {xs : List Int} (h : Ints w a n c xs) : xs.length = n := by
  have := h.1; rw [intCells_len] at this; omega
theorem Ints.at {w : World} {a : Option Addr} {n c : Nat} {xs : List Int} (h : Ints w a n c xs) : n ≤ c ∧ c ≤ 9223372036854775807 ∧ ∀ i, i < n → ∃ b off, a = some ⟨b, off, none⟩ ∧ b < w.heap.size ∧ ∀ j, j < n → w.cell? ⟨b, off + j, none⟩ = some (.int .i64 (xs.getD j 0)) := by
  have hl := h.len
  obtain ⟨_, h2, h3, h4⟩ := h
  refine ⟨h2, h3, fun i hi => ?_⟩
  rcases h4 with h4 | ⟨b, off, ha, hb, hc⟩
  · omega
  · exact ⟨b, off, ha, hb, fun j hj => by rw [hc j (by omega), intCells_get _ _ (by omega)]⟩
theorem Ints.mono {w w' : World} {a : Option Addr} {n c : Nat} {xs : List Int} (h : Ints w a n c xs) (hb : Below w.heap.size w w') : Ints w' a n c xs := Rd.mono h hb

/-- 0, 1, .. : n numbers -/
def upto (n : Nat) : List Int := (List.range n).map fun (i : Nat) => (i : Int)
theorem upto_len (n : Nat) : (upto n).length = n := by simp [upto]
theorem upto_succ (n : Nat) : upto (n + 1) = upto n ++ [(n : Int)] := by simp [upto, List.range_succ]
theorem intCells_snoc (xs : List Int) (x : Int) : intCells (xs ++ [x]) = intCells xs ++ [.int .i64 x] := by simp [intCells]
/-- k, k + 1, .. : n numbers -/
def marks (k : Int) (n : Nat) : List Int := (List.range n).map fun (i : Nat) => k + (i : Int)
theorem marks_len (k : Int) (n : Nat) : (marks k n).length = n := by simp [marks]
theorem marks_getD (k : Int) (n j : Nat) (h : j < n) (d : Int) : (marks k n).getD j d = k + (j : Int) := by simp [marks, h]
/-- the first j are marks, the others are as they were -/
def markedTo (xs : List Int) (k : Int) (j : Nat) : List Int := (List.range xs.length).map fun (i : Nat) => if i < j then k + (i : Int) else xs.getD i 0
theorem markedTo_len (xs : List Int) (k : Int) (j : Nat) : (markedTo xs k j).length = xs.length := by simp [markedTo]
theorem markedTo_zero (xs : List Int) (k : Int) : markedTo xs k 0 = xs := by
  apply List.ext_getElem (by simp [markedTo])
  intro i h1 h2
  simp [markedTo, h2]
theorem markedTo_full (xs : List Int) (k : Int) : markedTo xs k xs.length = marks k xs.length := by
  apply List.ext_getElem (by simp [markedTo, marks])
  intro i h1 h2
  simp [marks] at h2
  simp [markedTo, marks, h2]
theorem markedTo_set (xs : List Int) (k : Int) (j : Nat) : (markedTo xs k j).set j (k + (j : Int)) = markedTo xs k (j + 1) := by
  apply List.ext_getElem (by simp [markedTo])
  intro i h1 h2
  simp [markedTo] at h2
  rw [List.getElem_set]
  by_cases hij : j = i
  · subst hij; simp [markedTo]
  · rw [if_neg hij]
    by_cases h3 : i < j
    · simp [markedTo, h3, show i < j + 1 by omega]
    · simp [markedTo, h3, show ¬ i < j + 1 by omega]
theorem intCells_set (xs : List Int) (j : Nat) (x : Int) : (intCells xs).set j (.int .i64 x) = intCells (xs.set j x) := by
  simp [intCells, List.map_set]

theorem Ints.drew {w : World} {a : Option Addr} {n c : Nat} {xs : List Int} (h : Ints w a n c xs) : Ints w.drew a n c xs := h

/-- It returns a list of numbers of its own, and whether it succeeds. -/
def RetI (E : TypeId) (w : World) (r : List Int × Bool) (e : Ending) (w' : World) : Prop :=
  ∃ a n c, e = .returned (.tuple #[.slice a n c, .bool r.2]) ∧ Below w.heap.size w w' ∧ w'.ownsRow w.heap.size E 1 (.slice a n c) n (intCells r.1)
theorem RetI.ok {E : TypeId} {w w' : World} {r : List Int × Bool} {xs : List Int} {a : Option Addr} {n c : Nat} (hr : r = (xs, true)) (hb : Below w.heap.size w w') (ho : w'.ownsRow w.heap.size E 1 (.slice a n c) n (intCells xs)) :
    RetI E w r (.returned (.tuple #[.slice a n c, .bool true])) w' := by
  subst hr
  exact ⟨a, n, c, rfl, hb, ho⟩
theorem RetI.nil {E : TypeId} {w w' : World} {r : List Int × Bool} (hr : r = ([], false)) (hb : Below w.heap.size w w') : RetI E w r (.returned (.tuple #[.slice none 0 0, .bool false])) w' := by
  subst hr
  exact ⟨none, 0, 0, rfl, hb, World.ownsRow_nil _ _ _ _⟩

/-- structs of three numbers as cells -/
def tripCells (gs : List (Int × Int × Int)) : List Value := gs.flatMap fun g => [.int .i64 g.1, .int .i64 g.2.1, .int .i64 g.2.2]
theorem tripCells_len (gs : List (Int × Int × Int)) : (tripCells gs).length = gs.length * 3 := flat_len _ 3 (fun _ => rfl) gs
theorem tripCells_get (gs : List (Int × Int × Int)) (j : Nat) (h : j < gs.length) : (tripCells gs)[j * 3]? = some (.int .i64 (gs.getD j (0, 0, 0)).1) ∧ (tripCells gs)[j * 3 + 1]? = some (.int .i64 (gs.getD j (0, 0, 0)).2.1) ∧ (tripCells gs)[j * 3 + 2]? = some (.int .i64 (gs.getD j (0, 0, 0)).2.2) := by
  have e : gs[j]? = some (gs.getD j (0, 0, 0)) := by simp [h]
  have f := fun t ht => flat_get (fun g : Int × Int × Int => [Value.int .i64 g.1, .int .i64 g.2.1, .int .i64 g.2.2]) 3 (fun _ => rfl) gs j t ht
  refine ⟨?_, ?_, ?_⟩
  · have := f 0 (by omega); rw [e] at this; simpa [tripCells] using this
  · have := f 1 (by omega); rw [e] at this; simpa [tripCells] using this
  · have := f 2 (by omega); rw [e] at this; simpa [tripCells] using this
def Trips (w : World) (a : Option Addr) (n c : Nat) (gs : List (Int × Int × Int)) : Prop := Rd w a n c 3 (tripCells gs)
theorem Trips.len {w : World} {a : Option Addr} {n c : Nat} {gs : List (Int × Int × Int)} (h : Trips w a n c gs) : gs.length = n := by
  have := h.1; rw [tripCells_len] at this; omega
theorem Trips.at {w : World} {a : Option Addr} {n c : Nat} {gs : List (Int × Int × Int)} (h : Trips w a n c gs) : n ≤ c ∧ c ≤ 9223372036854775807 ∧ ∀ i, i < n → ∃ b off, a = some ⟨b, off, none⟩ ∧ b < w.heap.size ∧ ∀ j, j < n →
    w.cell? ⟨b, off + j * 3, none⟩ = some (.int .i64 (gs.getD j (0, 0, 0)).1) ∧ w.cell? ⟨b, off + j * 3 + 1, none⟩ = some (.int .i64 (gs.getD j (0, 0, 0)).2.1) ∧ w.cell? ⟨b, off + j * 3 + 2, none⟩ = some (.int .i64 (gs.getD j (0, 0, 0)).2.2) := by
  have hl := h.len
  obtain ⟨_, h2, h3, h4⟩ := h
  refine ⟨h2, h3, fun i hi => ?_⟩
  rcases h4 with h4 | ⟨b, off, ha, hb, hc⟩
  · omega
  · refine ⟨b, off, ha, hb, fun j hj => ?_⟩
    obtain ⟨g0, g1, g2⟩ := tripCells_get gs j (by omega)
    exact ⟨by rw [hc _ (by omega), g0], by rw [Nat.add_assoc, hc _ (by omega), g1], by rw [Nat.add_assoc, hc _ (by omega), g2]⟩
theorem Trips.mono {w w' : World} {a : Option Addr} {n c : Nat} {xs : List (Int × Int × Int)} (h : Trips w a n c xs) (hb : Below w.heap.size w w') : Trips w' a n c xs := Rd.mono h hb

/-- the first place at which pr holds, or -1 -/
def firstIdx {α : Type} (pr : α → Bool) : List α → Int
  | [] => -1
  | x :: xs => if pr x then 0 else (if firstIdx pr xs < 0 then -1 else firstIdx pr xs + 1)
/-- pr holds of none of the first k -/
def NoneTo {α : Type} (pr : α → Bool) (d : α) (xs : List α) (k : Nat) : Prop := ∀ j, j < k → pr (xs.getD j d) = false
theorem firstIdx_range {α : Type} (pr : α → Bool) (xs : List α) : -1 ≤ firstIdx pr xs ∧ firstIdx pr xs < xs.length := by
  induction xs with
  | nil => simp [firstIdx]
  | cons x xs ih => simp only [firstIdx, List.length_cons]; split <;> (try split) <;> omega
theorem firstIdx_any {α : Type} (pr : α → Bool) (xs : List α) : (xs.any pr = true → 0 ≤ firstIdx pr xs) ∧ (xs.any pr = false → firstIdx pr xs = -1) := by
  induction xs with
  | nil => simp [firstIdx]
  | cons x xs ih =>
    simp only [firstIdx, List.any_cons]
    by_cases hx : pr x = true
    · simp [hx]
    · simp only [Bool.not_eq_true] at hx
      have hr := firstIdx_range pr xs
      simp only [hx, Bool.false_or, if_false, Bool.false_eq_true]
      refine ⟨fun h => ?_, fun h => ?_⟩
      · have := ih.1 h; rw [if_neg (by omega)]; omega
      · have := ih.2 h; rw [if_pos (by omega)]
theorem NoneTo.tail {α : Type} {pr : α → Bool} {d x : α} {xs : List α} {k : Nat} (h : NoneTo pr d (x :: xs) (k + 1)) : pr x = false ∧ NoneTo pr d xs k :=
  ⟨by simpa using h 0 (by omega), fun j hj => by simpa using h (j + 1) (by omega)⟩
theorem firstIdx_at {α : Type} {pr : α → Bool} {d : α} {xs : List α} : ∀ {k : Nat}, NoneTo pr d xs k → pr (xs.getD k d) = true → k < xs.length → firstIdx pr xs = (k : Int) := by
  induction xs with
  | nil => intro k _ _ h; simp at h
  | cons x xs ih =>
    intro k h e hk
    cases k with
    | zero => simp [firstIdx] at e ⊢; simp [e]
    | succ k =>
      obtain ⟨h0, h1⟩ := h.tail
      have := ih h1 (by simpa using e) (by simpa using hk)
      simp only [firstIdx, h0, this, Bool.false_eq_true, if_false]
      rw [if_neg (by omega)]; omega
theorem firstIdx_none {α : Type} {pr : α → Bool} {d : α} {xs : List α} : ∀ {k : Nat}, NoneTo pr d xs k → xs.length = k → firstIdx pr xs = -1 := by
  induction xs with
  | nil => intro k _ _; rfl
  | cons x xs ih =>
    intro k h hk
    cases k with
    | zero => simp at hk
    | succ k =>
      obtain ⟨h0, h1⟩ := h.tail
      simp only [firstIdx, h0, ih h1 (by simpa using hk), Bool.false_eq_true, if_false]
      rfl
theorem NoneTo.succ {α : Type} {pr : α → Bool} {d : α} {xs : List α} {k : Nat} (h : NoneTo pr d xs k) (e : pr (xs.getD k d) = false) : NoneTo pr d xs (k + 1) := fun j hj => by
  by_cases hjk : j = k
  · subst hjk; exact e
  · exact h j (by omega)

/-- pr holds of the first k -/
def AllTo {α : Type} (pr : α → Bool) (d : α) (xs : List α) (k : Nat) : Prop := ∀ j, j < k → pr (xs.getD j d) = true
theorem AllTo.zero {α : Type} (pr : α → Bool) (d : α) (xs : List α) : AllTo pr d xs 0 := fun j hj => by omega
theorem AllTo.succ {α : Type} {pr : α → Bool} {d : α} {xs : List α} {k : Nat} (h : AllTo pr d xs k) (e : pr (xs.getD k d) = true) : AllTo pr d xs (k + 1) := fun j hj => by
  by_cases hjk : j = k
  · subst hjk; exact e
  · exact h j (by omega)
theorem AllTo.all {α : Type} {pr : α → Bool} {d : α} {xs : List α} {k : Nat} (h : AllTo pr d xs k) (hk : xs.length = k) : xs.all pr = true := by
  rw [List.all_eq_true]
  intro g hg
  obtain ⟨i, hi, rfl⟩ := List.getElem_of_mem hg
  have := h i (by omega)
  simpa [hi] using this
theorem all_not {α : Type} {pr : α → Bool} {d : α} {xs : List α} {k : Nat} (hk : k < xs.length) (h : pr (xs.getD k d) = false) : xs.all pr = false := by
  rw [List.all_eq_false]
  exact ⟨xs[k], List.getElem_mem hk, by simpa [hk] using h⟩
theorem getD_mem {α : Type} {d : α} {xs : List α} {k : Nat} (hk : k < xs.length) : xs.getD k d ∈ xs := by
  simp only [List.getD_eq_getElem?_getD, List.getElem?_eq_getElem hk, Option.getD_some]
  exact List.getElem_mem _

/-- the first k are alike -/
def AlikeTo {α : Type} (d : α) (xs ys : List α) (k : Nat) : Prop := ∀ j, j < k → xs.getD j d = ys.getD j d
theorem AlikeTo.zero {α : Type} (d : α) (xs ys : List α) : AlikeTo d xs ys 0 := fun j hj => by omega
theorem AlikeTo.succ {α : Type} {d : α} {xs ys : List α} {k : Nat} (h : AlikeTo d xs ys k) (e : xs.getD k d = ys.getD k d) : AlikeTo d xs ys (k + 1) := fun j hj => by
  by_cases hjk : j = k
  · subst hjk; exact e
  · exact h j (by omega)
theorem AlikeTo.eq {α : Type} {d : α} {xs ys : List α} {k : Nat} (h : AlikeTo d xs ys k) (h1 : xs.length = k) (h2 : ys.length = k) : xs = ys := by
  apply List.ext_getElem (by omega)
  intro i hi hi'
  have := h i (by omega)
  simpa [hi, hi'] using this
theorem ne_of_getD {α : Type} {d : α} {xs ys : List α} {k : Nat} (h : xs.getD k d ≠ ys.getD k d) : xs ≠ ys := fun e => h (by rw [e])

end Go.Proofs.Ytcflgmjjomiejaa
