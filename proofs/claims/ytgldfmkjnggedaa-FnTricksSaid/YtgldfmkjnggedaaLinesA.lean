/- Lines of play: plain facts. -/
import Derived.Test.YtgldfmkjnggedaaSortA
namespace Go.Proofs.Ytgldfmkjnggedaa
open Go.RowKit
set_option linter.unusedVariables false

/-- whether the card led wins -/
def winsL (led other trump : Int) : Bool := if led / 13 == other / 13 then decide (other < led) else !(other / 13 == trump)
def lessL (xs : List Int) (x : Int) : List Int := xs.filter fun y => !(y == x)
def lsum : List Int → Int
  | [] => 0
  | x :: xs => x + lsum xs
theorem lsum_append (xs ys : List Int) : lsum (xs ++ ys) = lsum xs + lsum ys := by
  induction xs with
  | nil => simp [lsum]
  | cons x xs ih => rw [List.cons_append, lsum, lsum, ih, Int.add_assoc]
theorem lsum_take_succ {α : Type} (f : α → Int) (d : α) (xs : List α) (k : Nat) (h : k < xs.length) : lsum ((xs.take (k + 1)).map f) = lsum ((xs.take k).map f) + f (xs.getD k d) := by
  rw [List.take_succ_eq_append_getElem h, List.map_append, lsum_append]
  simp [lsum, h]
theorem lsum_bd {α : Type} (f : α → Int) (b : Nat) (xs : List α) (h : ∀ x ∈ xs, 0 ≤ f x ∧ f x ≤ b) : 0 ≤ lsum (xs.map f) ∧ lsum (xs.map f) ≤ (xs.length * b : Nat) := by
  induction xs with
  | nil => simp [lsum]
  | cons x xs ih =>
    have h1 := h x List.mem_cons_self
    have h2 := ih fun y hy => h y (List.mem_cons_of_mem _ hy)
    rw [List.map_cons, lsum, List.length_cons, Nat.succ_mul]
    omega
/-- a hand of f different cards -/
structure Hand (f : Nat) (xs : List Int) : Prop where
  len : xs.length = f
  nd : xs.Nodup
  rng : ∀ x ∈ xs, 0 ≤ x ∧ x ≤ 51
theorem Hand.less {f : Nat} {xs : List Int} (h : Hand (f + 1) xs) {x : Int} (hx : x ∈ xs) : Hand f (lessL xs x) := by
  have e : lessL xs x = xs.erase x := by
    rw [h.nd.erase_eq_filter]
    rfl
  refine ⟨by rw [e, List.length_erase_of_mem hx, h.len]; omega, h.nd.sublist List.filter_sublist, fun y hy => h.rng y (List.filter_sublist.mem hy)⟩
theorem lessL_len (xs : List Int) (x : Int) : (lessL xs x).length ≤ xs.length := List.length_filter_le _ _
/-- in how many ways hands of f cards can be played -/
def waysF : Nat → List Int → List Int → Int
  | 0, _, _ => 1
  | f + 1, lead, other => lsum (lead.map fun card => lsum ((legalL other card).map fun a => if winsL card a (-1) = true then waysF f (lessL lead card) (lessL other a) else waysF f (lessL other a) (lessL lead card)))
def waysA (f : Nat) (lead other : List Int) (card a : Int) : Int := if winsL card a (-1) = true then waysF f (lessL lead card) (lessL other a) else waysF f (lessL other a) (lessL lead card)
def waysC (f : Nat) (lead other : List Int) (card : Int) : Int := lsum ((legalL other card).map (waysA f lead other card))
theorem waysF_succ (f : Nat) (lead other : List Int) : waysF (f + 1) lead other = lsum (lead.map (waysC f lead other)) := rfl
def wb : Nat → Nat
  | 0 => 1
  | f + 1 => (f + 1) * ((f + 1) * wb f)
theorem waysF_bd : ∀ (f : Nat) (lead other : List Int), Hand f lead → Hand f other → 0 ≤ waysF f lead other ∧ waysF f lead other ≤ (wb f : Nat) := by
  intro f
  induction f with
  | zero => intro lead other _ _; simp [waysF, wb]
  | succ f ih =>
    intro lead other h1 h2
    rw [waysF_succ]
    have hA : ∀ card ∈ lead, ∀ a ∈ legalL other card, 0 ≤ waysA f lead other card a ∧ waysA f lead other card a ≤ (wb f : Nat) := by
      intro card hc a ha
      have k1 := h1.less hc
      have k2 := h2.less (legalL_mem ha)
      unfold waysA
      split
      · exact ih _ _ k1 k2
      · exact ih _ _ k2 k1
    have hC : ∀ card ∈ lead, 0 ≤ waysC f lead other card ∧ waysC f lead other card ≤ ((f + 1) * wb f : Nat) := by
      intro card hc
      have b := lsum_bd (waysA f lead other card) (wb f) (legalL other card) (hA card hc)
      have l1 := legalL_len other card
      have l2 : (legalL other card).length * wb f ≤ (f + 1) * wb f := Nat.mul_le_mul_right _ (by rw [← h2.len]; exact l1)
      unfold waysC
      omega
    have b := lsum_bd (waysC f lead other) ((f + 1) * wb f) lead hC
    rw [h1.len] at b
    exact b
theorem waysA_bd {f : Nat} {lead other : List Int} {card a : Int} (h1 : Hand (f + 1) lead) (h2 : Hand (f + 1) other) (hc : card ∈ lead) (ha : a ∈ legalL other card) : 0 ≤ waysA f lead other card a ∧ waysA f lead other card a ≤ (wb f : Nat) := by
  have k1 := h1.less hc
  have k2 := h2.less (legalL_mem ha)
  unfold waysA
  split
  · exact waysF_bd _ _ _ k1 k2
  · exact waysF_bd _ _ _ k2 k1
theorem wb_le {f : Nat} (h : f ≤ 5) : wb f ≤ 14400 := by
  match f, h with
  | 0, _ => decide
  | 1, _ => decide
  | 2, _ => decide
  | 3, _ => decide
  | 4, _ => decide
  | 5, _ => decide
theorem nodup_of_ok {xs : List Int} (h : okCards xs = true) : xs.Nodup := by
  rw [List.nodup_iff_pairwise_ne, List.pairwise_iff_getElem]
  intro i j hi hj hij e
  have := (okCards_iff xs).1 h j hj
  simp only [cardAt, Bool.and_eq_true, Bool.not_eq_true', List.any_eq_false] at this
  have hm : xs[i] ∈ xs.take j := List.mem_take_iff_getElem.2 ⟨i, by omega, rfl⟩
  have := this.2 _ hm
  simp [hj, e] at this
theorem hands_of_ok {xs ys : List Int} (h : okCards (xs ++ ys) = true) : Hand xs.length xs ∧ Hand ys.length ys := by
  have hn := nodup_of_ok h
  have hr := okCards_rng h
  rw [List.nodup_append] at hn
  exact ⟨⟨rfl, hn.1, fun x hx => hr x (List.mem_append_left _ hx)⟩, ⟨rfl, hn.2.1, fun x hx => hr x (List.mem_append_right _ hx)⟩⟩
def okHands (xs ys : List Int) : Bool := decide (xs.length = ys.length) && decide (xs.length ≤ 6) && okCards (xs ++ ys)
theorem okHands_iff (xs ys : List Int) : okHands xs ys = true ↔ xs.length = ys.length ∧ xs.length ≤ 6 ∧ okCards (xs ++ ys) = true := by
  simp only [okHands, Bool.and_eq_true, decide_eq_true_eq, and_assoc]
/-- what CountLines tells -/
def linesRes (xs ys : List Int) : Int × Bool := if okHands xs ys = true ∧ xs.length ≤ 4 then (waysF xs.length xs ys, true) else (0, false)

end Go.Proofs.Ytgldfmkjnggedaa
