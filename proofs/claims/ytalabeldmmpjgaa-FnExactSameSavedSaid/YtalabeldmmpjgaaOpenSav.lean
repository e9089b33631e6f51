/- How what is saved comes as an argument. -/
import Derived.Test.YtalabeldmmpjgaaOpen
import Derived.Test.YtalabeldmmpjgaaSavA
namespace Go.Proofs.Ytalabeldmmpjgaa
open Go.ChangeShapes Go.WideShapes Go.ChangeAt Go.RowKit Go.Deep
set_option linter.unusedVariables false

section
variable {H : Type} {enc : TypeId × Value → H} {P : Program} {w : World} {base : Nat} {spare : Nat → Bool} {held : Bool}

theorem dec_die {e u i : TypeId} {f0 : Field} (he : P.underlying e = some (.struct #[f0])) (hone : oneCellFields P #[f0] = true) (hC : P.cellsOf e = 1) (k0 : f0.type = u) (hu : P.underlying u = some (.slice i)) (hi : P.underlying i = some (.int .i64)) (hCi : P.cellsOf i = 1) :
    ∀ n cs' y, DataW.trod enc P w base spare held n e cs' = some y → ∃ x : Spot × List Int, cs' = [spotV x.1] ∧ ((∀ z ∈ x.2, Fits z) ∧ Ints w x.1.1 x.1.2.1 x.1.2.2 x.2) := by
  intro n cs' y h
  obtain ⟨ys, n', hn', hy, hlen, hyl, hf⟩ := DataW.trod_struct he h
  rw [hC] at hlen
  obtain ⟨c0, rfl⟩ : ∃ c0, cs' = [c0] := by
    match cs', hlen with
    | [c0], _ => exact ⟨c0, rfl⟩
  obtain ⟨o0, q0⟩ := hone_of hone 0 f0 rfl
  have h0 := hf 0 f0 rfl
  simp only [List.size_toArray, List.length_cons, List.length_nil] at hyl
  rw [o0, q0, List.getElem?_eq_getElem (by omega), k0] at h0
  obtain ⟨a, n1, c, xs, e1, e2, e3⟩ := ints_of_trod hu hi hCi h0
  simp at e1
  subst e1
  exact ⟨((a, n1, c), xs), rfl, e2, e3⟩

theorem dice_of_trod {t e u i : TypeId} {f0 : Field} {fuel : Nat} {cs : List Value} {x : DataW H × List MemPlace} (ht : P.underlying t = some (.slice e)) (he : P.underlying e = some (.struct #[f0])) (hone : oneCellFields P #[f0] = true) (hC : P.cellsOf e = 1) (k0 : f0.type = u) (hu : P.underlying u = some (.slice i)) (hi : P.underlying i = some (.int .i64)) (hCi : P.cellsOf i = 1)
    (h : DataW.trod enc P w base spare held fuel t cs = some x) : ∃ (a : Option Addr) (n c : Nat) (ss : List Spot) (xss : List (List Int)), cs = [.slice a n c] ∧ IntSS w a n c ss xss := by
  obtain ⟨a, len, cap, xs, h1, h2, h3, h4⟩ := rd_of_trod (fun x : Spot × List Int => [spotV x.1]) (fun x => (∀ z ∈ x.2, Fits z) ∧ Ints w x.1.1 x.1.2.1 x.1.2.2 x.2) 1 (fun _ => rfl) (by omega) ht hC (dec_die he hone hC k0 hu hi hCi) h
  have e0 : ∀ l : List (Spot × List Int), l.flatMap (fun x : Spot × List Int => [spotV x.1]) = spotCells (l.map Prod.fst) := by
    intro l
    induction l with
    | nil => rfl
    | cons y ys ih => rw [List.flatMap_cons, ih]; rfl
  rw [e0] at h4
  refine ⟨a, len, cap, xs.map Prod.fst, xs.map Prod.snd, h1, h4, by simp [h2], fun j hj => ?_⟩
  have hj' : j < xs.length := by omega
  have g := (h3 xs[j] (List.getElem_mem hj')).2
  simpa [hj'] using g

/-- a text, a slice of numbers, a slice of dice -/
theorem open_saved {r : Reach} {b0 : Nat} {t ts td te u i : TypeId} {v : Value} {d : DataW H} {p : List MemPlace} {f0 f1 f2 g0 : Field} (hs : P.underlying t = some (.struct #[f0, f1, f2])) (hone : oneCellFields P #[f0, f1, f2] = true) (hC : P.cellsOf t = 3)
    (k0 : f0.type = ts) (hts : P.underlying ts = some .string) (k1 : f1.type = u) (hu : P.underlying u = some (.slice i)) (hi : P.underlying i = some (.int .i64)) (hCi : P.cellsOf i = 1)
    (k2 : f2.type = td) (htd : P.underlying td = some (.slice te)) (hte : P.underlying te = some (.struct #[g0])) (hone2 : oneCellFields P #[g0] = true) (hCe : P.cellsOf te = 1) (kg : g0.type = u)
    (hv : Value.okWide P w r b0 t v) (h : DataW.Trod enc P w base spare held t v d p) :
    ∃ (nm : ByteArray) (a0 : Option Addr) (n0 c0 : Nat) (x0 : List Int) (a1 : Option Addr) (n1 c1 : Nat) (ss : List Spot) (xss : List (List Int)), v = .agg #[.string nm, .slice a0 n0 c0, .slice a1 n1 c1] ∧
      nm.size ≤ maxLen ∧ Ints w a0 n0 c0 x0 ∧ IntSS w a1 n1 c1 ss xss := by
  obtain ⟨v0, v1, v2, y0, y1, y2, n, rfl, _, _, h0, h1, h2⟩ := Go.Joins.open_agg3 hs hone hC hv h
  rw [k0] at h0
  rw [k1] at h1
  rw [k2] at h2
  obtain ⟨nm, e0, _, g0'⟩ := DataW.trod_string hts h0
  obtain ⟨a0, n0, c0, x0, e1, _, q1⟩ := ints_of_trod hu hi hCi h1
  obtain ⟨a1, n1, c1, ss, xss, e2, q2⟩ := dice_of_trod htd hte hone2 hCe kg hu hi hCi h2
  simp at e0 e1 e2
  subst e0 e1 e2
  exact ⟨nm, a0, n0, c0, x0, a1, n1, c1, ss, xss, rfl, g0', q1, q2⟩

end
end Go.Proofs.Ytalabeldmmpjgaa
