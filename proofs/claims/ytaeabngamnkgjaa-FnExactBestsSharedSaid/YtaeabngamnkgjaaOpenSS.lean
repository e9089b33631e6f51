/- How slices of slices of numbers come. -/
import Derived.Test.YtaeabngamnkgjaaOpen
import Derived.Test.YtaeabngamnkgjaaIntSB
namespace Go.Proofs.Ytaeabngamnkgjaa
open Go.ChangeShapes Go.WideShapes Go.ChangeAt Go.RowKit Go.Deep
set_option linter.unusedVariables false

section
variable {H : Type} {enc : TypeId × Value → H} {P : Program} {w : World} {base : Nat} {spare : Nat → Bool} {held : Bool}

theorem open_intss {r : Reach} {b0 : Nat} {t e i : TypeId} {v : Value} {d : DataW H} {p : List MemPlace} (ht : P.underlying t = some (.slice e)) (he : P.underlying e = some (.slice i)) (hi : P.underlying i = some (.int .i64)) (hCi : P.cellsOf i = 1) (hC : P.cellsOf e = 1)
    (hv : Value.okWide P w r b0 t v) (h : DataW.Trod enc P w base spare held t v d p) :
    ∃ (a : Option Addr) (len cap : Nat) (ss : List Spot) (xss : List (List Int)), v = .slice a len cap ∧ (∀ xs ∈ xss, ∀ x ∈ xs, Fits x) ∧ IntSS w a len cap ss xss := by
  obtain ⟨a, len, cap, xs, h1, h2, h3, h4⟩ := rd_of (fun x : Spot × List Int => [spotV x.1]) (fun x => (∀ z ∈ x.2, Fits z) ∧ Ints w x.1.1 x.1.2.1 x.1.2.2 x.2) 1 (fun _ => rfl) (by omega) ht hC (fun n cs' y hy => by
    obtain ⟨a, n', c, zs, g1, g2, g3⟩ := ints_of_trod he hi hCi hy
    exact ⟨((a, n', c), zs), g1, g2, g3⟩) hv h
  have e0 : ∀ l : List (Spot × List Int), l.flatMap (fun x : Spot × List Int => [spotV x.1]) = spotCells (l.map Prod.fst) := by
    intro l
    induction l with
    | nil => rfl
    | cons y ys ih => rw [List.flatMap_cons, ih]; rfl
  have e1 := e0 xs
  refine ⟨a, len, cap, xs.map Prod.fst, xs.map Prod.snd, h1, fun ys hy => ?_, ?_⟩
  · obtain ⟨x, hx, rfl⟩ := List.mem_map.1 hy
    exact (h3 x hx).1
  · rw [e1] at h4
    refine ⟨h4, by simp [h2], fun j hj => ?_⟩
    have hj' : j < xs.length := by omega
    have g := (h3 xs[j] (List.getElem_mem hj')).2
    simpa [hj'] using g

end
end Go.Proofs.Ytaeabngamnkgjaa
