/- slices.Clone of numbers. -/
import Derived.Test.YtgldfmkjnggedaaI64
namespace Go.Proofs.Ytgldfmkjnggedaa
open Go.RowKit

theorem intCells_one (xs : List Int) : ∀ u ∈ intCells xs, u.oneCell' = true := by
  intro u hu
  simp only [intCells, List.mem_map] at hu
  obtain ⟨x, _, rfl⟩ := hu
  rfl
/-- The cells of a slice that reads, as an append asks for them. -/
theorem Ints.news {w : World} {ad : Addr} {n c : Nat} {xs : List Int} (h : Ints w (some ad) n c xs) : ∀ j u, (intCells xs)[j]? = some u → w.cell? (ad.add j) = some u := by
  intro j u hu
  obtain ⟨h1, h2, h3, h4⟩ := h
  have hj : j < n * 1 := by rw [← h1]; exact (List.getElem?_eq_some_iff.1 hu).1
  rcases h4 with h4 | ⟨b, off, ha, hlt, hc⟩
  · omega
  · cases ha
    have := hc j hj
    rw [hu] at this
    rw [← this]
    unfold Addr.add
    split
    · rename_i h0; subst h0; rfl
    · rfl
theorem Ints.nilLen {w : World} {n c : Nat} {xs : List Int} (h : Ints w none n c xs) : n = 0 ∧ xs = [] := by
  have hl := h.len
  obtain ⟨h1, h2, h3, h4⟩ := h
  rcases h4 with h4 | ⟨b, off, ha, _⟩
  · subst h4; exact ⟨rfl, List.eq_nil_of_length_eq_zero hl⟩
  · cases ha

theorem cloneI64_any (a : Option Addr) (n c : Nat) (xs : List Int) (w : World) (h : Ints w a n c xs) (hn : n ≤ 1048576) :
    Calls Try.prog 37 #[.slice a n c] w fun e w' => ∃ a' c', e = .returned (.slice a' n c') ∧ Below w.heap.size w w' ∧ w'.ownsRow w.heap.size 2 1 (.slice a' n c') n (intCells xs) := by
  obtain ⟨i0, hi, hz0, hz1, hz2⟩ := info_parts infoI64
  have qq := fun (w : World) (a : Option Addr) (n c n' c' : Nat) => Lib.run_eql_slice_nil (P := Try.prog) w 25 2 a n c n' c' Try.underlying25
  cases a with
  | none =>
    obtain ⟨rfl, rfl⟩ := h.nilLen
    clear h
    go_enter Try.func37, Try.ntmps37
    go_wp2
    go_ret
    exact ⟨none, 0, rfl, Below.refl _ _, World.ownsRow_nil _ _ _ _⟩
  | some ad =>
    have hl := h.len
    have hN := h.news
    have hN' := Lib.hid hN
    have hL : Hid ((intCells xs).length = n * 1) := h.1
    clear h hN hl
    go_enter Try.func37, Try.ntmps37
    go_wp2_with (first | (at_builtin; go_must (refine wpList_append_own _ rfl _ _ 25 rfl w.heap.size 2 i0 (.int .i64 0) 1 8 Try.underlying25 hi hz0 hz1 hz2 rfl (by decide) _ _ _ rfl (World.ownsRow_made w #[] 0 (Nat.le_refl _) (Nat.zero_le _) (by simp)) ad n c (intCells xs) rfl hL.out (fun j u hu => cell_on ((Below.refl _ _).alloc (Nat.le_refl _) _) (hN'.out j u hu)) (intCells_one xs) (by unfold maxLen; omega) (by omega) (by simp) ?_; intro v' w1 hown1 hg1 _)))
    have M : (w.alloc (.cells #[] 2)).ownsRow w.heap.size 2 1 (.slice (some ⟨w.heap.size, 0, none⟩) 0 0) 0 [] := World.ownsRow_made w #[] 0 (Nat.le_refl _) (Nat.zero_le _) (by simp)
    have HB : Below w.heap.size w w1 := below_grown ((Below.refl w.heap.size w).alloc (Nat.le_refl _) _) (by simp) hg1 M
    have HO := hown1
    simp only [Nat.zero_add, List.nil_append] at HO
    obtain ⟨a', c', rfl⟩ := own_form HO
    clear hown1 hg1
    go_wp2
    go_ret
    exact ⟨a', c', rfl, HB, HO⟩

end Go.Proofs.Ytgldfmkjnggedaa
