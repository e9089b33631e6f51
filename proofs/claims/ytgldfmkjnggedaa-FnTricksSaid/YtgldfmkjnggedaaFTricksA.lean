/- The law FnTricks: plain facts. -/
import Derived.Test.YtgldfmkjnggedaaTrickI
import Derived.Test.YtgldfmkjnggedaaBests
namespace Go.Proofs.Ytgldfmkjnggedaa
open Go.RowKit
set_option linter.unusedVariables false

theorem okCards_of {xs : List Int} (hn : xs.Nodup) (hr : ∀ x ∈ xs, 0 ≤ x ∧ x ≤ 51) : okCards xs = true := by
  rw [okCards_iff]
  intro i hi
  have e : xs.getD i 0 = xs[i] := by simp [hi]
  unfold cardAt
  rw [e]
  simp only [Bool.and_eq_true, Bool.not_eq_true', List.any_eq_false]
  refine ⟨(inB_iff _ _ _).2 (hr _ (List.getElem_mem hi)), fun y hy => ?_⟩
  obtain ⟨j, hj, rfl⟩ := List.mem_take_iff_getElem.1 hy
  have := List.pairwise_iff_getElem.1 hn j i (by omega) hi (by omega)
  simp only [beq_iff_eq]
  exact fun h => this h.symm

/-- two hands of f cards, all different -/
structure TwoH (f : Nat) (M T : List Int) : Prop where
  m : Hand f M
  t : Hand f T
  dj : ∀ x, x ∈ M → x ∈ T → False
theorem TwoH.symm {f : Nat} {M T : List Int} (h : TwoH f M T) : TwoH f T M := ⟨h.t, h.m, fun x h1 h2 => h.dj x h2 h1⟩
theorem TwoH.cards {f : Nat} {M T : List Int} (h : TwoH f M T) : okCards (M ++ T) = true :=
  okCards_of (List.nodup_append.2 ⟨h.m.nd, h.t.nd, fun a ha b hb e => h.dj a ha (e ▸ hb)⟩) (fun x hx => (List.mem_append.1 hx).elim (h.m.rng x) (h.t.rng x))
theorem TwoH.hands {f : Nat} {M T : List Int} (h : TwoH f M T) (hf : f ≤ 6) : okHands M T = true := (okHands_iff M T).2 ⟨by rw [h.m.len, h.t.len], by rw [h.m.len]; exact hf, h.cards⟩
theorem TwoH.game {f : Nat} {M T : List Int} (h : TwoH f M T) (hf : f ≤ 6) {t : Int} (ht : -1 ≤ t ∧ t ≤ 3) : okGameB M T t = true := by
  unfold okGameB
  rw [h.hands hf, (inB_iff _ _ _).2 ht]
  rfl
theorem TwoH.legal {f : Nat} {M T : List Int} (h : TwoH f M T) (hf : f ≤ 6) (h1 : 1 ≤ f) {led : Int} (hl : 0 ≤ led ∧ led ≤ 51) : legalRes M led = (legalL M led, true) := by
  unfold legalRes
  rw [if_pos ⟨by rw [h.m.len]; exact h1, by rw [h.m.len]; exact hf, okCards_of h.m.nd h.m.rng, (inB_iff _ _ _).2 hl⟩]

/-- a hand without two cards -/
def lessB (xs : List Int) (a b : Int) : List Int := xs.filter fun y => !(y == a) && !(y == b)
theorem lessB_of {xs : List Int} {a b : Int} (h : b ∉ xs) : lessB xs a b = lessL xs a := by
  unfold lessB lessL
  refine List.filter_congr fun y hy => ?_
  have : (y == b) = false := by simp only [beq_eq_false_iff_ne]; exact fun e => h (e ▸ hy)
  simp [this]
theorem lessB_of' {xs : List Int} {a b : Int} (h : a ∉ xs) : lessB xs a b = lessL xs b := by
  unfold lessB lessL
  refine List.filter_congr fun y hy => ?_
  have : (y == a) = false := by simp only [beq_eq_false_iff_ne]; exact fun e => h (e ▸ hy)
  simp [this]
theorem lessB_take (xs : List Int) (a b : Int) (k : Nat) (h : k < xs.length) : lessB (xs.take (k + 1)) a b = if (!(xs.getD k 0 == a) && !(xs.getD k 0 == b)) = true then lessB (xs.take k) a b ++ [xs.getD k 0] else lessB (xs.take k) a b := filter_take_succ _ xs k h
theorem lessB_len (xs : List Int) (a b : Int) : (lessB xs a b).length ≤ xs.length := List.length_filter_le _ _

theorem leadC_val {t : Int} {f : Nat} {lead other : List Int} (h1 : Hand (f + 1) lead) (h2 : Hand (f + 1) other) : aftF t f lead other (leadC t f lead other) = bestF t (f + 1) lead other := by
  have hm : maxL (lead.map (aftF t f lead other)) ∈ lead.map (aftF t f lead other) := maxL_mem (fun x hx => by
    obtain ⟨c, hc, rfl⟩ := List.mem_map.1 hx
    exact (aftF_bd h1 h2 hc).1) (by simpa using h1.ne)
  obtain ⟨c, hc, e⟩ := List.mem_map.1 hm
  exact (firstOf_mem ⟨c, (isort_perm lead).mem_iff.2 hc, e⟩).2.1
theorem ansC_val {t : Int} {f : Nat} {lead other : List Int} {card : Int} (hf : f ≤ 5) (h1 : Hand (f + 1) lead) (h2 : Hand (f + 1) other) (hc : card ∈ lead) : repF t f lead other card (ansC t f lead other card) = aftF t f lead other card := by
  have hm : minL ((legalL other card).map (repF t f lead other card)) ∈ (legalL other card).map (repF t f lead other card) := minL_mem (fun x hx => by
    obtain ⟨a, ha, rfl⟩ := List.mem_map.1 hx
    have := (repF_bd (t := t) h1 h2 hc ha).2
    omega) (by simpa using legalL_ne card h2.ne)
  obtain ⟨a, ha, e⟩ := List.mem_map.1 hm
  exact (firstOf_mem ⟨a, ha, e⟩).2.1

def valF (t : Int) (f : Nat) (b : Bool) (M T : List Int) : Int := if b = true then bestF t f M T else (f : Int) - bestF t f T M
def lineS (t : Int) (f : Nat) (b : Bool) (M T : List Int) : List Int := if b = true then lineF t f M T else lineF t f T M
theorem valF_zero (t : Int) (b : Bool) (M T : List Int) : valF t 0 b M T = 0 := by unfold valF; cases b <;> simp [bestF]
/-- one trick of the line -/
theorem trick_step {t : Int} {f : Nat} (hf : f ≤ 5) (b : Bool) {M T : List Int} (h : TwoH (f + 1) M T) :
    ∃ c a : Int, lineS t (f + 1) b M T = c :: a :: lineS t f (winsL c a t == b) (lessB M c a) (lessB T c a) ∧
      valF t (f + 1) b M T = (if (winsL c a t == b) = true then 1 else 0) + valF t f (winsL c a t == b) (lessB M c a) (lessB T c a) ∧
      TwoH f (lessB M c a) (lessB T c a) ∧ c ∈ (if b = true then M else T) ∧ a ∈ legalL (if b = true then T else M) c ∧ (0 ≤ c ∧ c ≤ 51) ∧ (0 ≤ a ∧ a ≤ 51) := by
  cases b with
  | true =>
    have hc := leadC_mem (t := t) h.m h.t
    have ha := ansC_mem (t := t) hf h.m h.t hc
    have e1 := leadC_val (t := t) h.m h.t
    have e2 := ansC_val (t := t) hf h.m h.t hc
    refine ⟨leadC t f M T, ansC t f M T (leadC t f M T), ?_⟩
    have haT := legalL_mem ha
    rw [e1] at e2
    unfold lineS valF
    simp only [if_true]
    have eL : lineF t (f + 1) M T = leadC t f M T :: ansC t f M T (leadC t f M T) :: (if winsL (leadC t f M T) (ansC t f M T (leadC t f M T)) t = true then lineF t f (lessL M (leadC t f M T)) (lessL T (ansC t f M T (leadC t f M T))) else lineF t f (lessL T (ansC t f M T (leadC t f M T))) (lessL M (leadC t f M T))) := rfl
    rw [eL, ← e2]
    generalize leadC t f M T = c at *
    generalize ansC t f M T c = a at *
    have k1 : lessB M c a = lessL M c := lessB_of fun q => h.dj _ q haT
    have k2 : lessB T c a = lessL T a := lessB_of' fun q => h.dj _ hc q
    rw [k1, k2]
    refine ⟨?_, ?_, ⟨h.m.less hc, h.t.less haT, fun x h1 h2 => h.dj x (List.filter_sublist.mem h1) (List.filter_sublist.mem h2)⟩, hc, ha, h.m.rng _ hc, h.t.rng _ haT⟩
    · cases winsL c a t <;> rfl
    · unfold repF
      cases winsL c a t
      · simp
      · simp
  | false =>
    have hc := leadC_mem (t := t) h.t h.m
    have ha := ansC_mem (t := t) hf h.t h.m hc
    have e1 := leadC_val (t := t) h.t h.m
    have e2 := ansC_val (t := t) hf h.t h.m hc
    refine ⟨leadC t f T M, ansC t f T M (leadC t f T M), ?_⟩
    have haT := legalL_mem ha
    rw [e1] at e2
    unfold lineS valF
    simp only [Bool.false_eq_true, if_false]
    have eL : lineF t (f + 1) T M = leadC t f T M :: ansC t f T M (leadC t f T M) :: (if winsL (leadC t f T M) (ansC t f T M (leadC t f T M)) t = true then lineF t f (lessL T (leadC t f T M)) (lessL M (ansC t f T M (leadC t f T M))) else lineF t f (lessL M (ansC t f T M (leadC t f T M))) (lessL T (leadC t f T M))) := rfl
    rw [eL, ← e2]
    generalize leadC t f T M = c at *
    generalize ansC t f T M c = a at *
    have k1 : lessB M c a = lessL M a := lessB_of' fun q => h.dj _ q hc
    have k2 : lessB T c a = lessL T c := lessB_of fun q => h.dj _ haT q
    rw [k1, k2]
    refine ⟨?_, ?_, ⟨h.m.less haT, h.t.less hc, fun x h1 h2 => h.dj x (List.filter_sublist.mem h1) (List.filter_sublist.mem h2)⟩, hc, ha, h.t.rng _ hc, h.m.rng _ haT⟩
    · cases winsL c a t <;> rfl
    · unfold repF
      cases winsL c a t
      · simp <;> omega
      · simp <;> omega

theorem isort_lt {xs : List Int} (h : xs.Nodup) : (isort xs).Pairwise (fun a b => a < b) := by
  have h1 := isort_sorted xs
  have h2 : (isort xs).Nodup := (isort_perm xs).nodup_iff.2 h
  exact (List.pairwise_and_iff.2 ⟨h1, h2⟩).imp fun ⟨p, q⟩ => by omega
theorem legal_lt {xs : List Int} (h : xs.Nodup) (led : Int) {k : Nat} (h0 : 0 < k) (hk : k < (legalL xs led).length) : (legalL xs led).getD (k - 1) 0 < (legalL xs led).getD k 0 := by
  have hp : (legalL xs led).Pairwise (fun a b => a < b) := by
    unfold legalL
    split
    · exact isort_lt h
    · exact isort_lt (h.sublist List.filter_sublist)
  have := List.pairwise_iff_getElem.1 hp (k - 1) k (by omega) hk (by omega)
  rw [List.getD_eq_getElem?_getD, List.getD_eq_getElem?_getD, List.getElem?_eq_getElem hk, List.getElem?_eq_getElem (show k - 1 < _ by omega)]
  exact this
theorem legal_at {xs : List Int} (led : Int) {k : Nat} (hk : k < (legalL xs led).length) : (legalL xs led).getD k 0 ∈ xs := legalL_mem (by
  rw [List.getD_eq_getElem?_getD, List.getElem?_eq_getElem hk]; exact List.getElem_mem hk)

theorem lsum_pos {α : Type} (g : α → Int) (xs : List α) (hn : xs ≠ []) (h : ∀ x ∈ xs, 1 ≤ g x) : 1 ≤ lsum (xs.map g) := by
  cases xs with
  | nil => exact absurd rfl hn
  | cons x xs =>
    have h1 := h x List.mem_cons_self
    have h2 : 0 ≤ lsum (xs.map g) := by
      clear hn h1
      induction xs with
      | nil => simp [lsum]
      | cons y ys ih =>
        have := h y (by simp)
        rw [List.map_cons, lsum]
        have := ih fun z hz => h z (by simp at hz ⊢; rcases hz with e | e <;> simp [e])
        omega
    rw [List.map_cons, lsum]
    omega
theorem waysF_pos : ∀ (f : Nat) (lead other : List Int), Hand f lead → Hand f other → 1 ≤ waysF f lead other := by
  intro f
  induction f with
  | zero => intro lead other _ _; simp [waysF]
  | succ f ih =>
    intro lead other h1 h2
    rw [waysF_succ]
    refine lsum_pos _ _ h1.ne fun c hc => ?_
    unfold waysC
    refine lsum_pos _ _ (legalL_ne c h2.ne) fun a ha => ?_
    have k1 := h1.less hc
    have k2 := h2.less (legalL_mem ha)
    unfold waysA
    split
    · exact ih _ _ k1 k2
    · exact ih _ _ k2 k1

/-- what the law asks of what is told -/
theorem tells {n : Nat} (hn1 : 1 ≤ n) (hn : n ≤ 6) {M T : List Int} (h : TwoH n M T) {t : Int} (ht : -1 ≤ t ∧ t ≤ 3) (b : Bool) :
    bestRes M T b t = (valF t n b M T, true) ∧ bestRes T M (!b) t = ((n : Int) - valF t n b M T, true) ∧ lineRes M T b t = (lineS t n b M T, true) ∧ cardRes M T b t = ((lineS t n b M T).getD 0 0, true) ∧ bestRes M T true t = (bestF t n M T, true) ∧
      (0 ≤ valF t n b M T ∧ valF t n b M T ≤ n) ∧ (lineS t n b M T).length = 2 * n := by
  have g1 := h.game hn ht
  have g2 := h.symm.game hn ht
  have b1 := bestF_bd t n M T h.m h.t
  have b2 := bestF_bd t n T M h.t h.m
  have l1 := h.m.len
  have l2 := h.t.len
  have e1 : bestRes M T b t = (valF t n b M T, true) := by unfold bestRes valF; rw [if_pos g1, l1]
  have e2 : bestRes T M (!b) t = ((n : Int) - valF t n b M T, true) := by
    unfold bestRes valF
    rw [if_pos g2, l2]
    cases b
    · simp <;> omega
    · simp
  have e3 : lineRes M T b t = (lineS t n b M T, true) := by unfold lineRes lineS; rw [if_pos g1, l1]
  have e4 : cardRes M T b t = ((lineS t n b M T).getD 0 0, true) := by
    unfold cardRes lineS
    rw [if_pos ⟨g1, by omega⟩, l1]
    obtain ⟨f, rfl⟩ : ∃ f, n = f + 1 := ⟨n - 1, by omega⟩
    cases b
    · simp [cardF, lineF]
    · simp [cardF, lineF]
  have e5 : bestRes M T true t = (bestF t n M T, true) := by unfold bestRes; rw [if_pos g1, l1, if_pos rfl]
  refine ⟨e1, e2, e3, e4, e5, ?_, ?_⟩
  · unfold valF; cases b <;> simp <;> omega
  · unfold lineS; cases b <;> simp [lineF_len]
theorem shares {n : Nat} (hn : n ≤ 6) {M T : List Int} (h : TwoH n M T) {t wk : Int} (ht : -1 ≤ t ∧ t ≤ 3) (hw : 1 ≤ wk ∧ wk ≤ 8) :
    bestsRes [M, T] [T, M] t wk = ([bestF t n M T, bestF t n T M], true) := by
  have g1 := h.game hn ht
  have g2 := h.symm.game hn ht
  have r0 : rowR [M, T] [T, M] t 0 = (bestF t n M T, true) := by show bestRes M T true t = _; unfold bestRes; rw [if_pos g1, h.m.len]; rfl
  have r1 : rowR [M, T] [T, M] t 1 = (bestF t n T M, true) := by show bestRes T M true t = _; unfold bestRes; rw [if_pos g2, h.t.len]; rfl
  rw [bests_yes (xss := [M, T]) (yss := [T, M]) ⟨by simp, by simp, rfl⟩ ((inB_iff _ _ _).2 hw) (fun k hk => by
    match k, hk with
    | 0, _ => rw [r0]
    | 1, _ => rw [r1])]
  show ([(rowR [M, T] [T, M] t 0).1, (rowR [M, T] [T, M] t 1).1], true) = _
  rw [r0, r1]

end Go.Proofs.Ytgldfmkjnggedaa
