/- Slices of slices of numbers: how they read, and the laws' own words on them. -/
import Derived.Test.YtdnhhkbijamadaaI64
import Derived.Test.YtdnhhkbijamadaaChgC
namespace Go.Proofs.Ytdnhhkbijamadaa
open Go.RowKit
set_option linter.unusedVariables false

/-- where a row lies, how long it is, how much room it has -/
abbrev Spot := Option Addr × Nat × Nat
def spotV (s : Spot) : Value := .slice s.1 s.2.1 s.2.2
def spot0 : Spot := (none, 0, 0)
def spotCells (ss : List Spot) : List Value := ss.map spotV
theorem spotCells_len (ss : List Spot) : (spotCells ss).length = ss.length := by simp [spotCells]
theorem spotCells_get (ss : List Spot) (j : Nat) (h : j < ss.length) : (spotCells ss)[j]? = some (spotV (ss.getD j spot0)) := by simp [spotCells, h]
theorem spotCells_set (ss : List Spot) (j : Nat) (s : Spot) : (spotCells ss).set j (spotV s) = spotCells (ss.set j s) := by simp [spotCells, List.map_set]
theorem getD_set_self {α : Type} (l : List α) (i : Nat) (x d : α) (h : i < l.length) : (l.set i x).getD i d = x := by simp [h]
theorem getD_set_ne {α : Type} (l : List α) (i j : Nat) (x d : α) (h : i ≠ j) : (l.set i x).getD j d = l.getD j d := by
  rw [List.getD_eq_getElem?_getD, List.getD_eq_getElem?_getD, List.getElem?_set_ne h]

structure IntSS (w : World) (a : Option Addr) (n c : Nat) (ss : List Spot) (xss : List (List Int)) : Prop where
  rd : Rd w a n c 1 (spotCells ss)
  len : xss.length = n
  row : ∀ i, i < n → Ints w (ss.getD i spot0).1 (ss.getD i spot0).2.1 (ss.getD i spot0).2.2 (xss.getD i [])
theorem IntSS.sl {w : World} {a : Option Addr} {n c : Nat} {ss : List Spot} {xss : List (List Int)} (h : IntSS w a n c ss xss) : ss.length = n := by
  have := h.rd.1; rw [spotCells_len] at this; omega
theorem IntSS.at {w : World} {a : Option Addr} {n c : Nat} {ss : List Spot} {xss : List (List Int)} (h : IntSS w a n c ss xss) : n ≤ c ∧ c ≤ 9223372036854775807 ∧ ∀ i, i < n → ∃ b off, a = some ⟨b, off, none⟩ ∧ b < w.heap.size ∧ ∀ j, j < n → w.cell? ⟨b, off + j, none⟩ = some (.slice (ss.getD j spot0).1 (ss.getD j spot0).2.1 (ss.getD j spot0).2.2) := by
  have hl := h.sl
  obtain ⟨_, h2, h3, h4⟩ := h.rd
  refine ⟨h2, h3, fun i hi => ?_⟩
  rcases h4 with h4 | ⟨b, off, ha, hb, hc⟩
  · omega
  · exact ⟨b, off, ha, hb, fun j hj => by rw [hc j (by omega), spotCells_get _ _ (by omega)]; rfl⟩
theorem IntSS.mono {w w' : World} {a : Option Addr} {n c : Nat} {ss : List Spot} {xss : List (List Int)} (h : IntSS w a n c ss xss) (hb : Below w.heap.size w w') : IntSS w' a n c ss xss :=
  ⟨h.rd.mono hb, h.len, fun i hi => (h.row i hi).mono hb⟩
theorem IntSS.drewN {w : World} {a : Option Addr} {n c : Nat} {ss : List Spot} {xss : List (List Int)} (h : IntSS w a n c ss xss) (q : Nat) : IntSS (w.drewN q) a n c ss xss :=
  ⟨h.rd.drewN q, h.len, fun i hi => Rd.drewN (h.row i hi) q⟩

/-- how many numbers the first k rows have -/
def totTo (xss : List (List Int)) (k : Nat) : Nat := ((xss.take k).map List.length).sum
def tot (xss : List (List Int)) : Nat := totTo xss xss.length
theorem totTo_zero (xss : List (List Int)) : totTo xss 0 = 0 := by simp [totTo]
theorem totTo_succ (xss : List (List Int)) (k : Nat) (h : k < xss.length) : totTo xss (k + 1) = totTo xss k + (xss.getD k []).length := by
  unfold totTo
  rw [List.take_add_one, List.getElem?_eq_getElem h, List.map_append, List.sum_append]
  simp [h]
theorem totTo_mono (xss : List (List Int)) {k m : Nat} (h : k ≤ m) (hm : m ≤ xss.length) : totTo xss k ≤ totTo xss m := by
  induction m with
  | zero => have : k = 0 := by omega
            subst this; exact Nat.le_refl _
  | succ m ih =>
    by_cases e : k = m + 1
    · subst e; exact Nat.le_refl _
    · have := ih (by omega) (by omega)
      rw [totTo_succ _ _ (by omega)]
      omega
theorem totTo_row (xss : List (List Int)) (k : Nat) (h : k < xss.length) : (xss.getD k []).length ≤ tot xss := by
  have h1 := totTo_succ xss k h
  have h2 := totTo_mono xss (show k + 1 ≤ xss.length by omega) (Nat.le_refl _)
  unfold tot
  omega

/-- what is left of x behind all rows, or -1 -/
def szSS (x : Int) (xss : List (List Int)) : Int := if (xss.length : Int) + tot xss ≤ x then x - xss.length - tot xss else -1

theorem own_keep {w w' : World} {B : Nat} {e : TypeId} {sz : Nat} {v : Value} {n : Nat} {cs : List Value} (h : w.ownsRow B e sz v n cs) (hk : ∀ g, v.ownBlock = some g → w'.heap[g]? = w.heap[g]?) : w'.ownsRow B e sz v n cs := by
  obtain ⟨h1, h2⟩ := h
  refine ⟨h1, ?_⟩
  rcases h2 with h2 | ⟨g, cap, cur, rfl, h3, h4, h5⟩
  · exact .inl h2
  · exact .inr ⟨g, cap, cur, rfl, h3, by rw [hk g rfl]; exact h4, h5⟩
/-- the block of a row -/
def OB (ss : List Spot) (i : Nat) : Option Nat := (spotV (ss.getD i spot0)).ownBlock

/-- Rows of one's own, those that p names, in blocks from lo on, below hi; no two in one block. -/
structure OwnP (p : Nat → Prop) (lo hi : Nat) (w : World) (v : Value) (n : Nat) (ss : List Spot) (xss : List (List Int)) : Prop where
  out : w.ownsRow lo 26 1 v n (spotCells ss)
  ouh : ∀ g, v.ownBlock = some g → g < hi
  own : ∀ i, p i → w.ownsRow lo 2 1 (spotV (ss.getD i spot0)) (xss.getD i []).length (intCells (xss.getD i []))
  inn : ∀ i, p i → ∀ g, OB ss i = some g → g < hi
  apart : ∀ i j, i ≠ j → p i → p j → OB ss i = none ∨ OB ss i ≠ OB ss j
  apo : ∀ i, p i → OB ss i = none ∨ OB ss i ≠ v.ownBlock
section
variable {p q : Nat → Prop} {lo hi : Nat} {w w' : World} {v : Value} {n : Nat} {ss : List Spot} {xss : List (List Int)}
theorem OwnP.sl (h : OwnP p lo hi w v n ss xss) : ss.length = n := by have := h.out.1; rw [spotCells_len] at this; omega
theorem OwnP.sub (h : OwnP p lo hi w v n ss xss) (hq : ∀ i, q i → p i) : OwnP q lo hi w v n ss xss :=
  ⟨h.out, h.ouh, fun i hi => h.own i (hq i hi), fun i hi => h.inn i (hq i hi), fun i j e a b => h.apart i j e (hq i a) (hq j b), fun i hi => h.apo i (hq i hi)⟩
theorem OwnP.wide {hi' : Nat} (h : OwnP p lo hi w v n ss xss) (hh : hi ≤ hi') : OwnP p lo hi' w v n ss xss :=
  ⟨h.out, fun g e => Nat.lt_of_lt_of_le (h.ouh g e) hh, h.own, fun i hi g e => Nat.lt_of_lt_of_le (h.inn i hi g e) hh, h.apart, h.apo⟩
theorem OwnP.keep (h : OwnP p lo hi w v n ss xss) (hk : ∀ g, lo ≤ g → g < hi → g < w.heap.size → w'.heap[g]? = w.heap[g]?) : OwnP p lo hi w' v n ss xss :=
  ⟨own_keep h.out fun g e => by have := h.out.lt g e; exact hk g this.1 (h.ouh g e) this.2, h.ouh, fun i hi => own_keep (h.own i hi) fun g e => by have := (h.own i hi).lt g e; exact hk g this.1 (h.inn i hi g e) this.2, h.inn, h.apart, h.apo⟩
theorem OwnP.below (h : OwnP p lo hi w v n ss xss) (hb : Below w.heap.size w w') : OwnP p lo hi w' v n ss xss := h.keep fun g _ _ hg => hb.block g hg
theorem OwnP.chg {l r : Nat} (h : OwnP p lo hi w v n ss xss) (hc : Chg l r w w') (hd : hi ≤ l ∨ r ≤ lo) : OwnP p lo hi w' v n ss xss := h.keep fun g h1 h2 hg => hc.block g hg (by omega)
/-- Behind a write to row k. -/
theorem OwnP.wrote {k : Nat} (h : OwnP p lo hi w v n ss xss) (hk : p k) (hg : w.grownBy w' (OB ss k)) : OwnP (fun i => p i ∧ i ≠ k) lo hi w' v n ss xss :=
  ⟨h.out.kept hg (by
      rcases h.apo k hk with e | e
      · rw [e]
        cases hv : v.ownBlock <;> simp
      · exact .inr (Ne.symm e)),
    h.ouh, fun i hi => (h.own i hi.1).kept hg (h.apart i k hi.2 hi.1 hk), fun i hi => h.inn i hi.1, fun i j e a b => h.apart i j e a.1 b.1, fun i hi => h.apo i hi.1⟩
end
/-- Slices of one's own of slices of one's own. -/
structure OwnSS (lo hi : Nat) (w : World) (a : Option Addr) (n c : Nat) (ss : List Spot) (xss : List (List Int)) : Prop where
  len : xss.length = n
  p : OwnP (fun i => i < n) lo hi w (.slice a n c) n ss xss
theorem OwnSS.rd {lo hi : Nat} {w : World} {a : Option Addr} {n c : Nat} {ss : List Spot} {xss : List (List Int)} (h : OwnSS lo hi w a n c ss xss) : IntSS w a n c ss xss :=
  ⟨Rd.own h.p.out, h.len, fun i hi => by
    have ho := h.p.own i hi
    obtain ⟨A, C, e⟩ := own_form ho
    rcases hs : ss.getD i spot0 with ⟨A', L', C'⟩
    rw [hs] at ho e
    simp only [spotV, Value.slice.injEq] at e
    obtain ⟨rfl, e2, rfl⟩ := e
    subst e2
    exact Rd.own ho⟩

end Go.Proofs.Ytdnhhkbijamadaa
