/- Orders of cards: plain terms. -/
import Derived.Test.YtdnhhkbijamadaaRow
namespace Go.Proofs.Ytdnhhkbijamadaa
open Go.RowKit

def goodAt (xs : List Int) (j : Nat) : Bool := inB (xs.getD j 0) 0 ((xs.length : Int) - 1) && !(xs.take j).contains (xs.getD j 0)
def okOrder (xs : List Int) : Bool := (List.range xs.length).all (goodAt xs)
def GoodTo (xs : List Int) (k : Nat) : Prop := ∀ j, j < k → goodAt xs j = true
theorem GoodTo.zero (xs : List Int) : GoodTo xs 0 := fun j hj => by omega
theorem GoodTo.succ {xs : List Int} {k : Nat} (h : GoodTo xs k) (e : goodAt xs k = true) : GoodTo xs (k + 1) := fun j hj => by
  by_cases hjk : j = k
  · subst hjk; exact e
  · exact h j (by omega)
theorem GoodTo.all {xs : List Int} {k : Nat} (h : GoodTo xs k) (hk : xs.length = k) : okOrder xs = true := by
  rw [okOrder, List.all_eq_true]
  intro j hj
  exact h j (by simpa [hk] using hj)
theorem good_not {xs : List Int} {k : Nat} (hk : k < xs.length) (h : goodAt xs k = false) : okOrder xs = false := by
  rw [okOrder, List.all_eq_false]
  exact ⟨k, by simpa using hk, by simp [h]⟩
def okDeck (xs : List Int) : Bool := decide (1 ≤ xs.length) && (decide (xs.length ≤ 52) && okOrder xs)
def seenTo (xs : List Int) (n k : Nat) : List Bool := (List.range n).map fun v => (xs.take k).contains ((v : Nat) : Int)
theorem seenTo_zero (xs : List Int) (n : Nat) : seenTo xs n 0 = List.replicate n false := by
  apply List.ext_getElem (by simp [seenTo])
  intro i h1 h2
  simp [seenTo]
theorem seenTo_get (xs : List Int) (n k v : Nat) (hv : v < n) : (seenTo xs n k).getD v false = (xs.take k).contains (v : Int) := by
  simp [seenTo, hv]
theorem seenTo_set (xs : List Int) (n k v : Nat) (hk : k < xs.length) (hx : xs.getD k 0 = (v : Int)) : (seenTo xs n k).set v true = seenTo xs n (k + 1) := by
  apply List.ext_getElem (by simp [seenTo])
  intro i h1 h2
  have hn : i < n := by simpa [seenTo] using h2
  rw [List.getElem_set]
  simp only [seenTo, List.getElem_map, List.getElem_range]
  rw [List.take_succ_eq_append_getElem hk, List.contains_eq_any_beq, List.contains_eq_any_beq, List.any_append]
  have e : xs[k] = (v : Int) := by rw [← hx]; simp [hk]
  by_cases hvi : v = i
  · subst hvi; simp [e]
  · rw [if_neg hvi]; simp [e]; omega
theorem Ints.take {w : World} {a : Option Addr} {n c : Nat} {xs : List Int} (h : Ints w a n c xs) (k : Nat) (hk : k ≤ n) : Ints w a k c (xs.take k) := by
  have hl := h.len
  obtain ⟨h1, h2, h3, h4⟩ := h
  refine ⟨by rw [intCells_len, List.length_take]; omega, by omega, h3, ?_⟩
  rcases h4 with h4 | ⟨b, off, ha, hb, hc⟩
  · exact .inl (by omega)
  · refine .inr ⟨b, off, ha, hb, fun j hj => ?_⟩
    rw [hc j (by omega)]
    simp only [intCells, List.getElem?_map, List.getElem?_take]
    rw [if_pos (by omega)]

end Go.Proofs.Ytdnhhkbijamadaa
