/- The law FnPegs: the plain law of pegs. -/
import Derived.Test.YtdnhhkbijamadaaPegA
namespace Go.Proofs.Ytdnhhkbijamadaa
open Go.RowKit
set_option linter.unusedVariables false
set_option linter.unusedSimpArgs false

theorem mv_two {n x : Nat} {p : Nat × Nat} (h : p ∈ mv n x) : p.1 = p.2 + 2 ∨ p.2 = p.1 + 2 := by
  unfold mv mvTo at h
  obtain ⟨i, _, hp⟩ := List.mem_flatMap.1 h
  unfold mvAt at hp
  split at hp
  · rcases List.mem_append.1 hp with hp | hp
    · unfold mvL at hp
      split at hp
      · rename_i q
        obtain rfl := List.mem_singleton.1 hp
        left; dsimp only; omega
      · cases hp
    · unfold mvR at hp
      split at hp
      · obtain rfl := List.mem_singleton.1 hp
        right; rfl
      · cases hp
  · cases hp
theorem line_step {n m k x : Nat} (hL : Lst n x = m) (hk : ones n x = m + (k + 1)) :
    ∃ p, p ∈ mv n x ∧ Lst n (md x p.1 p.2) = m ∧ ones n (md x p.1 p.2) = m + k ∧ lineP n m (k + 1) x = (p.1 : Int) :: (p.2 : Int) :: lineP n m k (md x p.1 p.2) := by
  obtain ⟨q, hq, e⟩ := find_ok hL (by omega)
  rcases hf : (mv n x).find? (fun p => decide (Lst n (md x p.1 p.2) = m)) with _ | p
  · have := List.find?_eq_none.1 hf q hq
    simp only [decide_eq_true_eq] at this
    exact absurd e this
  · have hp := List.mem_of_find?_eq_some hf
    have h1 := List.find?_some hf
    simp only [decide_eq_true_eq] at h1
    have h2 := ones_md (mv_good hp)
    refine ⟨p, hp, h1, by omega, ?_⟩
    show (match (mv n x).find? (fun p => decide (Lst n (md x p.1 p.2) = m)) with | some p => _ | none => _) = _
    rw [hf]
theorem line_len {n m : Nat} : ∀ (k x : Nat), Lst n x = m → ones n x = m + k → (lineP n m k x).length = 2 * k := by
  intro k
  induction k with
  | zero => intro x _ _; rfl
  | succ k ih =>
    intro x h1 h2
    obtain ⟨p, _, h3, h4, e⟩ := line_step h1 h2
    rw [e, List.length_cons, List.length_cons, ih _ h3 h4]
    omega
theorem line_end {n x : Nat} : (lineP n (Lst n x) (ones n x - Lst n x) x).length = 2 * (ones n x - Lst n x) := line_len _ _ rfl (by have := Lst_le n x; omega)
/-- what a good move is, on the board -/
theorem gm_board {bs : List Bool} {p : Nat × Nat} (h : p ∈ mv bs.length (bN bs)) : bs.getD p.1 false = true ∧ bs.getD ((p.1 + p.2) / 2) false = true ∧ bs.getD p.2 false = false := by
  have g := mv_good h
  rw [← bN_bit, ← bN_bit, ← bN_bit]
  exact ⟨g.bf, g.bm, g.bt⟩
theorem Lst_md {n x : Nat} {p : Nat × Nat} (h : p ∈ mv n x) : Lst n x ≤ Lst n (md x p.1 p.2) := by
  rw [Lst_step]
  exact (minM_le (fun p => Lst n (md x p.1 p.2)) (mv n x) (ones n x)).2.1 p h
theorem Lst_one {n x : Nat} (h : 0 < ones n x) : 1 ≤ Lst n x := by
  have := (Lst_pos (n := n) (ones n x) x rfl).1
  omega
theorem drop_two {l r : List Int} {x : Nat} {a b : Int} (h : l.drop x = a :: b :: r) : l.getD x 0 = a ∧ l.getD (x + 1) 0 = b ∧ l.drop (x + 2) = r := by
  have g : ∀ j, l.getD (x + j) 0 = (l.drop x).getD j 0 := fun j => by simp [List.getD_eq_getElem?_getD, List.getElem?_drop]
  refine ⟨?_, ?_, ?_⟩
  · have := g 0
    rw [h, Nat.add_zero] at this
    exact this
  · have := g 1
    rw [h] at this
    exact this
  · have e := congrArg (List.drop 2) h
    rw [List.drop_drop] at e
    first | exact e | (rw [Nat.add_comm]; exact e)

end Go.Proofs.Ytdnhhkbijamadaa
