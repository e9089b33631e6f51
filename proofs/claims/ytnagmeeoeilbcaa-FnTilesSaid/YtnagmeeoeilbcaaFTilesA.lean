/- The law of tiles, plain facts. -/
import Derived.Test.YtnagmeeoeilbcaaFarE
import Derived.Test.YtnagmeeoeilbcaaTilesH
import Derived.Test.YtnagmeeoeilbcaaTourB
import Derived.Test.YtnagmeeoeilbcaaLongE
namespace Go.Proofs.Ytnagmeeoeilbcaa
open Go.RowKit
set_option linter.unusedVariables false

def GD (ys : List Int) (k : Nat) (l : List Nat) : Prop := (∀ c ∈ l, c < 16 ∧ k ≤ kindOf c) ∧ ∀ j, k ≤ j → j < 9 → ys.getD j 0 = conL l j
def StepD (ys : List Int) (k : Nat) (r : Int) : Prop := ∃ l, (∀ c ∈ l, c < 16 ∧ k + 1 ≤ kindOf c) ∧ (r = 0 ∨ k + 2 < 9) ∧ ∀ j, k < j → j < 9 → ys.getD j 0 = r * con (9 + k) j + conL l j
theorem conL_low {l : List Nat} {k : Nat} (h : ∀ c ∈ l, k < kindOf c) : conL l k = 0 := by
  induction l with
  | nil => rfl
  | cons c l ih => rw [conL_cons, con_low (h c List.mem_cons_self), ih fun d hd => h d (List.mem_cons_of_mem _ hd)]; rfl
theorem conL_append (l m : List Nat) (j : Nat) : conL (l ++ m) j = conL l j + conL m j := by
  induction l with
  | nil => simp [conL]
  | cons c l ih => rw [List.cons_append, conL_cons, conL_cons, ih]; omega
theorem conL_rep (n c j : Nat) : conL (List.replicate n c) j = n * con c j := by
  induction n with
  | zero => simp [conL]
  | succ n ih => rw [List.replicate_succ, conL_cons, ih, Int.natCast_succ, Int.add_mul]; omega
theorem con_rowv (k j : Nat) : con (9 + k) j = if j = k ∨ j = k + 1 ∨ j = k + 2 then 1 else 0 := by
  by_cases h : j = k ∨ j = k + 1 ∨ j = k + 2
  · rw [if_pos h, con_row h]
  · rw [if_neg h]
    unfold con
    rw [if_neg (by omega), if_neg (by omega)]
theorem con_trip (k j : Nat) (h : k < 9) : con k j = if j = k then 3 else 0 := by unfold con; rw [if_pos h]
theorem sub2_get (ys : List Int) (k : Nat) (r : Int) (h : k + 2 < ys.length) (j : Nat) : (sub2 ys k r).getD j 0 = if j = k + 1 ∨ j = k + 2 then ys.getD j 0 - r else ys.getD j 0 := by
  unfold sub2
  rw [getD_set, getD_set]
  simp only [List.length_set]
  by_cases h1 : j = k + 2
  · subst h1; rw [if_pos ⟨rfl, h⟩, if_pos (.inr rfl)]
  · rw [if_neg (by omega)]
    by_cases h2 : j = k + 1
    · subst h2; rw [if_pos ⟨rfl, by omega⟩, if_pos (.inl rfl)]
    · rw [if_neg (by omega), if_neg (by omega)]
/-- triples, rows and others of a list of groups of kinds from k on -/
theorem split_kind (l : List Nat) (k : Nat) (hk : k < 9) (h : ∀ c ∈ l, c < 16 ∧ k ≤ kindOf c) : ∃ (t r : Nat) (l2 : List Nat), (∀ c ∈ l2, c < 16 ∧ k + 1 ≤ kindOf c) ∧ (r = 0 ∨ k + 2 < 9) ∧ ∀ j, conL l j = t * con k j + r * con (9 + k) j + conL l2 j := by
  induction l with
  | nil => exact ⟨0, 0, [], fun c hc => (by cases hc), .inl rfl, fun j => by simp [conL]⟩
  | cons c l ih =>
    obtain ⟨t, r, l2, h1, h2, h3⟩ := ih fun d hd => h d (List.mem_cons_of_mem _ hd)
    obtain ⟨hc, hkc⟩ := h c List.mem_cons_self
    by_cases e : kindOf c = k
    · rcases kind_cases hc e with ⟨rfl, _⟩ | ⟨rfl, hk2⟩
      · refine ⟨t + 1, r, l2, h1, h2, fun j => ?_⟩
        rw [conL_cons, h3, Int.natCast_succ, Int.add_mul]; omega
      · refine ⟨t, r + 1, l2, h1, .inr hk2, fun j => ?_⟩
        rw [conL_cons, h3, Int.natCast_succ, Int.add_mul]; omega
    · refine ⟨t, r, c :: l2, fun d hd => ?_, h2, fun j => ?_⟩
      · rcases List.mem_cons.1 hd with rfl | hd
        · exact ⟨hc, by omega⟩
        · exact h1 d hd
      · rw [conL_cons, conL_cons, h3]; omega
theorem GD_step (ys : List Int) (k : Nat) (hk : k < 9) (h0 : 0 ≤ ys.getD k 0) (h4 : ys.getD k 0 ≤ 4) : (∃ l, GD ys k l) ↔ StepD ys k (ys.getD k 0) ∨ (3 ≤ ys.getD k 0 ∧ StepD ys k (ys.getD k 0 - 3)) := by
  constructor
  · rintro ⟨l, hl, he⟩
    obtain ⟨t, r, l2, h1, h2, h3⟩ := split_kind l k hk hl
    have hk0 := he k (Nat.le_refl _) hk
    rw [h3, con_trip k k hk, con_rowv, if_pos rfl, if_pos (.inl rfl), conL_low fun c hc => (h1 c hc).2] at hk0
    have hj : ∀ j, k < j → j < 9 → ys.getD j 0 = (r : Int) * con (9 + k) j + conL l2 j := fun j a b => by
      rw [he j (by omega) b, h3, con_trip k j hk, if_neg (by omega)]; omega
    rcases (show t = 0 ∨ t = 1 by omega) with rfl | rfl
    · left
      have e : ys.getD k 0 = (r : Int) := by omega
      rw [e]
      exact ⟨l2, h1, h2.imp (fun e => by omega) id, hj⟩
    · right
      have e : ys.getD k 0 - 3 = (r : Int) := by omega
      rw [e]
      exact ⟨by omega, l2, h1, h2.imp (fun e => by omega) id, hj⟩
  · have key : ∀ (r : Int) (t : Nat), 0 ≤ r → ys.getD k 0 = 3 * t + r → StepD ys k r → ∃ l, GD ys k l := by
      rintro r t hr hy ⟨l2, h1, h2, h3⟩
      refine ⟨List.replicate t k ++ (List.replicate r.toNat (9 + k) ++ l2), fun c hc => ?_, fun j a b => ?_⟩
      · rcases List.mem_append.1 hc with hc | hc
        · obtain rfl := List.eq_of_mem_replicate hc
          exact ⟨by omega, by rw [kindOf_three hk]; omega⟩
        · rcases List.mem_append.1 hc with hc | hc
          · have hn : r.toNat ≠ 0 := fun e => by rw [e] at hc; cases hc
            obtain rfl := List.eq_of_mem_replicate hc
            rw [kindOf_row]
            exact ⟨by omega, by omega⟩
          · have := h1 c hc; exact ⟨this.1, by omega⟩
      · rw [conL_append, conL_append, conL_rep, conL_rep, Int.toNat_of_nonneg hr]
        by_cases e : j = k
        · subst e
          rw [con_trip j j hk, if_pos rfl, con_rowv, if_pos (.inl rfl), conL_low fun c hc => (h1 c hc).2]; omega
        · rw [h3 j (by omega) b, con_trip k j hk, if_neg e]; omega
    rintro (h | ⟨h3, h⟩)
    · exact key _ 0 h0 (by omega) h
    · exact key _ 1 (by omega) (by omega) h
theorem gw_pos : ∀ (f : Nat) (ys : List Int) (k : Nat), f + k = 9 → ys.length = 9 → (∀ j, 0 ≤ ys.getD j 0 ∧ ys.getD j 0 ≤ 4) → (0 < gwA f ys k ↔ ∃ l, GD ys k l) := by
  intro f
  induction f with
  | zero => intro ys k hf _ _; exact ⟨fun _ => ⟨[], fun c hc => (by cases hc), fun j a b => by omega⟩, fun _ => by simp [gwA]⟩
  | succ f ih =>
    intro ys k hf hl hy
    have step : ∀ r : Int, 0 ≤ r → (0 < gwStep f ys k r ↔ StepD ys k r) := by
      intro r hr
      unfold gwStep
      by_cases h0 : r = 0
      · subst h0
        rw [if_pos rfl, ih ys (k + 1) (by omega) hl hy]
        constructor
        · rintro ⟨l, h1, h2⟩
          exact ⟨l, h1, .inl rfl, fun j a b => by rw [h2 j (by omega) b]; omega⟩
        · rintro ⟨l, h1, _, h2⟩
          exact ⟨l, h1, fun j a b => by rw [h2 j (by omega) b]; omega⟩
      · rw [if_neg h0]
        by_cases hc : k + 2 < ys.length ∧ r ≤ ys.getD (k + 1) 0 ∧ r ≤ ys.getD (k + 2) 0
        · rw [if_pos hc]
          have hg := sub2_get ys k r hc.1
          rw [ih (sub2 ys k r) (k + 1) (by omega) (by simp [sub2, hl]) (fun j => by
            rw [hg]
            have := hy j
            split
            · rename_i e
              rcases e with rfl | rfl
              · exact ⟨by omega, by omega⟩
              · exact ⟨by omega, by omega⟩
            · exact this)]
          constructor
          · rintro ⟨l, h1, h2⟩
            refine ⟨l, h1, .inr (by omega), fun j a b => ?_⟩
            have := h2 j (by omega) b
            rw [hg] at this
            rw [con_rowv]
            by_cases e : j = k + 1 ∨ j = k + 2
            · rw [if_pos e] at this; rw [if_pos (.inr e)]; omega
            · rw [if_neg e] at this; rw [if_neg (by omega)]; omega
          · rintro ⟨l, h1, _, h2⟩
            refine ⟨l, h1, fun j a b => ?_⟩
            have := h2 j (by omega) b
            rw [con_rowv] at this
            rw [hg]
            by_cases e : j = k + 1 ∨ j = k + 2
            · rw [if_pos e]; rw [if_pos (.inr e)] at this; omega
            · rw [if_neg e]; rw [if_neg (by omega)] at this; omega
        · rw [if_neg hc]
          refine ⟨fun h => absurd h (by omega), ?_⟩
          rintro ⟨l, h1, h2, h3⟩
          exfalso
          have hk2 : k + 2 < 9 := by omega
          have a1 := h3 (k + 1) (by omega) (by omega)
          have a2 := h3 (k + 2) (by omega) (by omega)
          rw [con_rowv, if_pos (by omega)] at a1 a2
          have b1 := conL_nonneg l (k + 1)
          have b2 := conL_nonneg l (k + 2)
          exact hc ⟨by omega, by omega, by omega⟩
    have hk := hy k
    rw [gwA_succ, GD_step ys k (by omega) hk.1 hk.2]
    have s1 := step _ hk.1
    have b1 := gwStep_bd f ys k (ys.getD k 0)
    have b2 := gwStep_bd f ys k (ys.getD k 0 - 3)
    by_cases h3 : 3 ≤ ys.getD k 0
    · rw [if_pos h3]
      have s2 := step (ys.getD k 0 - 3) (by omega)
      rw [← s1, ← s2]
      constructor
      · intro h
        by_cases q : 0 < gwStep f ys k (ys.getD k 0)
        · exact .inl q
        · exact .inr ⟨h3, by omega⟩
      · rintro (q | ⟨_, q⟩) <;> omega
    · rw [if_neg h3, ← s1]
      constructor
      · intro h; exact .inl (by omega)
      · rintro (q | ⟨q, _⟩)
        · omega
        · exact absurd q h3

theorem isum_tot (xs : List Int) (h : xs.length = 9) : isum xs = tot xs := by
  obtain ⟨a0, a1, a2, a3, a4, a5, a6, a7, a8, rfl⟩ : ∃ a0 a1 a2 a3 a4 a5 a6 a7 a8, xs = [a0, a1, a2, a3, a4, a5, a6, a7, a8] := by
    match xs, h with
    | [a0, a1, a2, a3, a4, a5, a6, a7, a8], _ => exact ⟨_, _, _, _, _, _, _, _, _, rfl⟩
  simp [isum, tot, sum9]
  omega
theorem fullTo_pos (xs : List Int) : ∀ n, 0 < fullTo xs n ↔ ∃ k, k < n ∧ 2 ≤ xs.getD k 0 ∧ 0 < gwA 9 (xs.set k (xs.getD k 0 - 2)) 0 := by
  intro n
  induction n with
  | zero => simp [fullTo]
  | succ n ih =>
    have hb := fullTo_bd xs n
    have hg := gwA_bd 9 (xs.set n (xs.getD n 0 - 2)) 0
    simp only [fullTo]
    constructor
    · intro h
      by_cases q : 0 < fullTo xs n
      · obtain ⟨k, h1, h2⟩ := ih.1 q
        exact ⟨k, by omega, h2⟩
      · split at h
        · exact ⟨n, by omega, by assumption, by omega⟩
        · omega
    · rintro ⟨k, h1, h2, h3⟩
      by_cases e : k = n
      · subst e; rw [if_pos h2]; omega
      · have := ih.2 ⟨k, by omega, h2, h3⟩
        split <;> omega
theorem full_hit (xs : List Int) (h : Counts xs) (G : Nat) (hs : isum xs = 3 * G + 2) : 0 < fullTo xs 9 ↔ Hit zero9 0 G false xs := by
  rw [fullTo_pos]
  have set_get : ∀ k, k < 9 → ∀ j, (xs.set k (xs.getD k 0 - 2)).getD j 0 = if j = k then xs.getD k 0 - 2 else xs.getD j 0 := fun k hk j => by
    rw [getD_set]
    by_cases e : k = j
    · subst e; rw [if_pos ⟨rfl, by rw [h.1]; exact hk⟩, if_pos rfl]
    · rw [if_neg (by omega), if_neg (fun q => e q.symm)]
  have cnt : ∀ k, k < 9 → 2 ≤ xs.getD k 0 → ∀ j, 0 ≤ (xs.set k (xs.getD k 0 - 2)).getD j 0 ∧ (xs.set k (xs.getD k 0 - 2)).getD j 0 ≤ 4 := fun k hk h2 j => by
    rw [set_get k hk]
    have := h.2 j
    have := h.2 k
    split <;> omega
  constructor
  · rintro ⟨k, hk, h2, h3⟩
    obtain ⟨l, h4, h5⟩ := (gw_pos 9 _ 0 rfl (by simp [h.1]) (cnt k hk h2)).1 h3
    have e : xs = addL (addP zero9 k) l := ext9 h.1 (addL_len l _ (addP_len _ _)) fun j hj => by
      rw [addL_get _ _ _ hj, addP_get _ _ _ hj, zero9_get]
      have := h5 j (by omega) hj
      rw [set_get k hk] at this
      by_cases q : j = k
      · subst q; rw [if_pos rfl] at this ⊢; omega
      · rw [if_neg q] at this ⊢; omega
    have ht := tot_form (l := l) (k := k) (fun c hc => (h4 c hc).1) hk
    rw [← e, ← isum_tot xs h.1] at ht
    have hG : l.length = G := by omega
    rw [← hG, e]
    exact form_hit (fun c hc => (h4 c hc).1) hk (by rw [← e]; exact fun j _ => (h.2 j).2)
  · intro hh
    obtain ⟨l, k, h1, h2, hk, h4, h5⟩ := hit_form hh
    have hj : ∀ j, j < 9 → xs.getD j 0 = (if j = k then 2 else 0) + conL l j := fun j hj => by
      rw [h4, addL_get _ _ _ hj, addP_get _ _ _ hj, zero9_get]; omega
    have hk2 : 2 ≤ xs.getD k 0 := by rw [hj k hk, if_pos rfl]; have := conL_nonneg l k; omega
    refine ⟨k, hk, hk2, (gw_pos 9 _ 0 rfl (by simp [h.1]) (cnt k hk hk2)).2 ⟨l, fun c hc => ⟨h2 c hc, by omega⟩, fun j _ hj' => ?_⟩⟩
    rw [set_get k hk]
    have := hj j hj'
    by_cases q : j = k
    · subst q; rw [if_pos rfl] at this ⊢; omega
    · rw [if_neg q] at this ⊢; omega
theorem sum9_tight {f g : Nat → Int} (h : ∀ j, j < 9 → f j ≤ g j) (e : sum9 f = sum9 g) : ∀ j, j < 9 → f j = g j := by
  intro j hj
  unfold sum9 at e
  have h0 := h 0 (by omega); have h1 := h 1 (by omega); have h2 := h 2 (by omega); have h3 := h 3 (by omega); have h4 := h 4 (by omega); have h5 := h 5 (by omega); have h6 := h 6 (by omega); have h7 := h 7 (by omega); have h8 := h 8 (by omega)
  rcases (show j = 0 ∨ j = 1 ∨ j = 2 ∨ j = 3 ∨ j = 4 ∨ j = 5 ∨ j = 6 ∨ j = 7 ∨ j = 8 by omega) with rfl | rfl | rfl | rfl | rfl | rfl | rfl | rfl | rfl <;> omega
theorem far_law (xs : List Int) (h : Counts xs) (hs : isum xs ≤ 14) (h3 : isum xs % 3 = 2) (h0 : 0 ≤ isum xs) :
    ∃ F, farRes xs = (F, true) ∧ 0 ≤ F ∧ F ≤ isum xs ∧ (F = 0 ↔ 0 < fullTo xs 9) := by
  obtain ⟨G, hG⟩ : ∃ G : Nat, isum xs = 3 * G + 2 := ⟨(isum xs / 3).toNat, by omega⟩
  have hGe : (isum xs / 3).toNat = G := by omega
  have hok : okHand xs = true := by
    unfold okHand
    simp only [Bool.and_eq_true, decide_eq_true_eq, List.all_eq_true]
    refine ⟨h.1, fun x hx => ?_, hs⟩
    obtain ⟨i, hi, rfl⟩ := List.getElem_of_mem hx
    have := h.2 i
    rw [show xs.getD i 0 = xs[i] from by simp [hi]] at this
    exact (inB_iff _ _ _).2 this
  refine ⟨isum xs - nearF xs 14 zero9 0 G false, ?_, ?_⟩
  · unfold farRes
    rw [if_pos (by rw [hok, decide_eq_true h3]; rfl), hGe]
  have hN := (far_same xs (fun j => (h.2 j).1) G (by omega) 14 (by omega)).2
  have up := near_up xs 14 zero9 0 G false (by simp; omega) (by omega) (by rfl)
  have hit := near_hit xs 14 zero9 0 G false (fun j _ => by rw [zero9_get]; omega) (by rfl) (by omega)
  generalize nearF xs 14 zero9 0 G false = N at *
  obtain ⟨x, hx, hv⟩ : ∃ x, Hit zero9 0 G false x ∧ N = valF xs x := by
    rcases hit with e | e
    · omega
    · exact e
  have hle : valF xs x ≤ tot xs := sum9_le fun j _ => by omega
  have hle2 : valF xs x ≤ tot x := sum9_le fun j _ => by omega
  have ht := isum_tot xs h.1
  refine ⟨by omega, by omega, ?_⟩
  rw [full_hit xs h G hG]
  constructor
  · intro e
    obtain ⟨l, k, h1, h2, hk, h4, h5⟩ := hit_form hx
    have htx := tot_form (l := l) (k := k) h2 hk
    rw [← h4] at htx
    have e1 : valF xs x = tot xs := by omega
    have e2 : valF xs x = tot x := by omega
    have p1 := sum9_tight (f := fun j => min (xs.getD j 0) (x.getD j 0)) (g := fun j => xs.getD j 0) (fun j _ => by omega) e1
    have p2 := sum9_tight (f := fun j => min (xs.getD j 0) (x.getD j 0)) (g := fun j => x.getD j 0) (fun j _ => by omega) e2
    have : xs = x := ext9 h.1 (by rw [h4]; exact addL_len l _ (addP_len _ _)) fun j hj => by
      have a := p1 j hj
      have b := p2 j hj
      omega
    rw [this]; exact hx
  · intro hh
    have := up xs hh
    have e1 : valF xs xs = tot xs := sum9_congr fun j _ => by omega
    omega

theorem best_law (xs : List Int) : ∀ n, (∃ j, j < n ∧ xs.getD j 0 ≠ 0) → ∃ k : Nat, (bestTo 0 xs n).1 = (k : Int) ∧ k < n ∧ xs.getD k 0 ≠ 0 ∧ 0 ≤ (bestTo 0 xs n).2 := by
  intro n
  induction n with
  | zero => rintro ⟨j, h, _⟩; omega
  | succ n ih =>
    rintro ⟨j, hj, hn⟩
    simp only [bestTo]
    by_cases hz : xs.getD n 0 = 0
    · rw [if_pos hz]
      obtain ⟨k, h1, h2, h3, h4⟩ := ih ⟨j, by
        rcases Nat.lt_or_ge j n with q | q
        · exact q
        · obtain rfl : j = n := by omega
          exact absurd hz hn, hn⟩
      exact ⟨k, h1, by omega, h3, h4⟩
    · rw [if_neg hz]
      split
      · exact ⟨n, rfl, by omega, hz, by dsimp only; omega⟩
      · rename_i hlt
        by_cases he : ∃ j, j < n ∧ xs.getD j 0 ≠ 0
        · obtain ⟨k, h1, h2, h3, h4⟩ := ih he
          exact ⟨k, h1, by omega, h3, h4⟩
        · have := (bestTo_same 0 0 xs n).2.2 (fun j hj => by
            by_cases q : xs.getD j 0 = 0
            · exact q
            · exact absurd ⟨j, hj, q⟩ he)
          rw [this.1] at hlt
          dsimp only at hlt
          omega
theorem discard_law (xs : List Int) (hok : okHand xs = true) (h3 : isum xs % 3 = 2) : ∃ (k : Nat) (m : Int), discardRes xs = ((k : Int), m, true) ∧ k < 9 ∧ 1 ≤ xs.getD k 0 ∧ 0 ≤ m := by
  obtain ⟨h, _⟩ := okHand_counts hok
  have he : ∃ j, j < 9 ∧ xs.getD j 0 ≠ 0 := by
    by_cases q : ∃ j, j < 9 ∧ xs.getD j 0 ≠ 0
    · exact q
    · have := isum_zero xs (fun j hj => by
        by_cases q2 : xs.getD j 0 = 0
        · exact q2
        · exact absurd ⟨j, by rw [h.1] at hj; exact hj, q2⟩ q)
      omega
  obtain ⟨k, h1, h2, h4, h5⟩ := best_law xs 9 he
  refine ⟨k, (bestTo 0 xs 9).2, ?_, h2, ?_, h5⟩
  · unfold discardRes
    rw [if_pos (by rw [hok, decide_eq_true h3]; rfl), h1]
  · have := (h.2 k).1; omega

/-- does a kind make the hand full -/
def isW (xs : List Int) (i : Nat) : Bool := decide (xs.getD i 0 < 4 ∧ 0 < fullTo (xs.set i (xs.getD i 0 + 1)) 9)
theorem waits_succ (xs : List Int) (i : Nat) : waitsTo xs (i + 1) = waitsTo xs i ++ (if isW xs i = true then [(i : Int)] else []) := by
  show waitsTo xs i ++ _ = _
  unfold isW
  simp only [decide_eq_true_eq]
theorem waits_split (xs : List Int) (i : Nat) : ∀ d, ∃ rest, waitsTo xs (i + d) = waitsTo xs i ++ rest ∧ ∀ x ∈ rest, (i : Int) ≤ x := by
  intro d
  induction d with
  | zero => exact ⟨[], by simp, fun x hx => (by cases hx)⟩
  | succ d ih =>
    obtain ⟨rest, h1, h2⟩ := ih
    refine ⟨rest ++ (if isW xs (i + d) = true then [((i + d : Nat) : Int)] else []), ?_, fun x hx => ?_⟩
    · rw [show i + (d + 1) = (i + d) + 1 from rfl, waits_succ, h1, List.append_assoc]
    · rcases List.mem_append.1 hx with hx | hx
      · exact h2 x hx
      · split at hx
        · obtain rfl := List.mem_singleton.1 hx; omega
        · cases hx
theorem waits_at (xs : List Int) (i : Nat) (hi : i < 9) : (isW xs i = true → (waitsTo xs i).length < (waitsTo xs 9).length ∧ (waitsTo xs 9).getD (waitsTo xs i).length 0 = (i : Int)) ∧ (isW xs i = false → (waitsTo xs i).length < (waitsTo xs 9).length → (waitsTo xs 9).getD (waitsTo xs i).length 0 ≠ (i : Int)) := by
  obtain ⟨rest, h1, h2⟩ := waits_split xs (i + 1) (8 - i)
  rw [show i + 1 + (8 - i) = 9 by omega, waits_succ xs i] at h1
  refine ⟨fun e => ?_, fun e hl => ?_⟩
  · rw [e, if_pos rfl] at h1
    rw [h1]
    simp
  · rw [e, if_neg (by simp), List.append_nil] at h1
    rw [h1] at hl ⊢
    have hr : 0 < rest.length := by simp at hl; omega
    rw [List.getD_eq_getElem?_getD, List.getElem?_append_right (Nat.le_refl _), Nat.sub_self, List.getElem?_eq_getElem hr]
    have := h2 _ (List.getElem_mem hr)
    simp only [Option.getD_some]
    omega

/-- do the tiles of a line meet -/
def meetsL (ts : List (Int × Int)) : List Nat → Int → Bool
  | [], _ => true
  | i :: L, e => if e = (ts.getD i (0, 0)).1 then meetsL ts L (ts.getD i (0, 0)).2 else if e = (ts.getD i (0, 0)).2 then meetsL ts L (ts.getD i (0, 0)).1 else false
theorem tile_nat {ts : List (Int × Int)} (h : okTiles ts = true) {i : Nat} (hi : i < ts.length) : (ts.getD i (0, 0)).1 = (tA ts i : Int) ∧ (ts.getD i (0, 0)).2 = (tB ts i : Int) ∧ tA ts i < 7 ∧ tB ts i < 7 := by
  have h2 := ((okTiles_iff ts).1 h).2.2 _ (getD_mem (d := (0, 0)) hi)
  simp only [okTile2, okTile, Bool.and_eq_true, inB_iff] at h2
  unfold tA tB
  omega
theorem trail_meets {ts : List (Int × Int)} (h : okTiles ts = true) : ∀ (S : List Nat) (b e : Nat), Trail (tA ts) (tB ts) ts.length b S e → meetsL ts S (b : Int) = true := by
  intro S
  induction S with
  | nil => intro b e _; rfl
  | cons i S ih =>
    intro b e hT
    obtain ⟨hi, hn, hT⟩ := hT
    obtain ⟨e1, e2, _⟩ := tile_nat h hi
    unfold meetsL
    rw [e1, e2]
    rcases hT with ⟨rfl, hT⟩ | ⟨rfl, hT⟩
    · rw [if_pos rfl]; exact ih _ _ hT
    · by_cases q : ((tB ts i : Nat) : Int) = (tA ts i : Int)
      · rw [if_pos q]
        have : tB ts i = tA ts i := by omega
        rw [← this] at hT
        exact ih _ _ hT
      · rw [if_neg q, if_pos rfl]; exact ih _ _ hT
theorem line_law (ts : List (Int × Int)) (h : okTiles ts = true) : ∃ (S : List Nat) (i0 : Nat), longRes ts = (S.map (fun (i : Nat) => (i : Int)), true) ∧ S.Nodup ∧ (∀ i ∈ S, i < ts.length) ∧ S.head? = some i0 ∧
    (meetsL ts S (ts.getD i0 (0, 0)).1 = true ∨ meetsL ts S (ts.getD i0 (0, 0)).2 = true) ∧ (tourS ts false = true ↔ S.length = ts.length) ∧ (tourS ts true = true → tourS ts false = true) := by
  obtain ⟨h1, h8, _⟩ := (okTiles_iff ts).1 h
  have hr : ∀ i, i < ts.length → tA ts i < 7 ∧ tB ts i < 7 := fun i hi => (tile_nat h hi).2.2
  have hB := srch_best ts (ts.length + 1) [] (-1)
  have hm := (mem_pre_all ts hr (ts.length + 1) [] (srchL ts (ts.length + 1) [] (-1))).2 hB.1
  obtain ⟨l, hl, hle⟩ := List.mem_map.1 hm
  obtain ⟨e, he⟩ := ne_zero_bit (preL_ne ts _ _ _ (by omega) l hl)
  obtain ⟨S, b, hb, e1, hT, _⟩ := preL_fwd ts _ _ _ _ hl e he
  rw [List.nil_append] at e1
  have all : ∀ (T : List Nat) (b' e' : Nat), b' < 7 → Trail (tA ts) (tB ts) ts.length b' T e' → T.length ≤ S.length := by
    intro T b' e' hb' hT'
    have hbit : (127 : Nat).testBit b' = true := by
      have : ∀ b, b < 7 → (127 : Nat).testBit b = true := by decide
      exact this b' hb'
    obtain ⟨E, h3, h4⟩ := preL_bwd ts T (ts.length + 1) [] 127 b' e' hT' hbit (fun i _ => List.not_mem_nil) (by have := hT'.len; omega)
    rw [List.nil_append] at h3
    have h5 := (mem_pre_all ts hr (ts.length + 1) [] (T.map fun (i : Nat) => (i : Int))).1 (List.mem_map.2 ⟨_, h3, rfl⟩)
    have h6 := (good_iff _ _).1 (hB.2 _ h5)
    rw [← hle, e1] at h6
    simp only [List.length_map] at h6
    omega
  have hS1 : 1 ≤ S.length := all [0] (tA ts 0) (tB ts 0) (hr 0 (by omega)).1 (Trail.single (by omega))
  obtain ⟨i0, S', rfl⟩ : ∃ i0 S', S = i0 :: S' := by
    cases S with
    | nil => simp at hS1
    | cons i S' => exact ⟨i, S', rfl⟩
  have hb7 : b < 7 := Trail.begins hr hT (by omega)
  have t1 := tour_same ts false h
  have t2 := tour_same ts true h
  refine ⟨_, i0, ?_, hT.nodup, hT.lt, rfl, ?_, ?_, ?_⟩
  · unfold longRes
    rw [if_pos h, ← hle, e1]
  · have hi0 := hT.1
    obtain ⟨a1, a2, _⟩ := tile_nat h hi0
    have hm := trail_meets h _ _ _ hT
    rcases hT.2.2 with ⟨q, _⟩ | ⟨q, _⟩
    · left; rw [a1, q]; exact hm
    · right; rw [a2, q]; exact hm
  · rw [← t1, tour_iff]
    constructor
    · rintro ⟨b', hb', T, e', hT', hl', _⟩
      have := all T b' e' hb' hT'
      have := hT.len
      omega
    · intro hl'
      exact ⟨b, hb7, _, _, hT, hl', .inl rfl⟩
  · rw [← t1, ← t2, tour_iff, tour_iff]
    rintro ⟨b', hb', T, e', hT', hl', _⟩
    exact ⟨b', hb', T, e', hT', hl', .inl rfl⟩

end Go.Proofs.Ytnagmeeoeilbcaa
