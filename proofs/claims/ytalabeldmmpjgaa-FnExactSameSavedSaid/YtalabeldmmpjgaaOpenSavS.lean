/- How slices of what is saved come as an argument. -/
import Derived.Test.YtalabeldmmpjgaaOpenSav
import Derived.Test.YtalabeldmmpjgaaSavS
namespace Go.Proofs.Ytalabeldmmpjgaa
open Go.ChangeShapes Go.WideShapes Go.ChangeAt Go.RowKit Go.Deep
set_option linter.unusedVariables false

section
variable {H : Type} {enc : TypeId × Value → H} {P : Program} {w : World} {base : Nat} {spare : Nat → Bool} {held : Bool}

/-- one, as its three cells tell it -/
structure SavD (w : World) (y : MS × AS) : Prop where
  big : y.2.1.size ≤ maxLen
  v : SavV w y.1 y.2

theorem dec_saved {t ts td te u i : TypeId} {f0 f1 f2 g0 : Field} (hs : P.underlying t = some (.struct #[f0, f1, f2])) (hone : oneCellFields P #[f0, f1, f2] = true) (hC : P.cellsOf t = 3)
    (k0 : f0.type = ts) (hts : P.underlying ts = some .string) (k1 : f1.type = u) (hu : P.underlying u = some (.slice i)) (hi : P.underlying i = some (.int .i64)) (hCi : P.cellsOf i = 1)
    (k2 : f2.type = td) (htd : P.underlying td = some (.slice te)) (hte : P.underlying te = some (.struct #[g0])) (hone2 : oneCellFields P #[g0] = true) (hCe : P.cellsOf te = 1) (kg : g0.type = u) :
    ∀ n cs' y, DataW.trod enc P w base spare held n t cs' = some y → ∃ x : MS × AS, cs' = msV x.1 ∧ SavD w x := by
  intro n cs' y h
  obtain ⟨ys, n', hn', hy, hlen, hyl, hf⟩ := DataW.trod_struct hs h
  rw [hC] at hlen
  obtain ⟨c0, c1, c2, rfl⟩ : ∃ c0 c1 c2, cs' = [c0, c1, c2] := by
    match cs', hlen with
    | [c0, c1, c2], _ => exact ⟨c0, c1, c2, rfl⟩
  obtain ⟨o0, q0⟩ := hone_of hone 0 f0 rfl
  obtain ⟨o1, q1⟩ := hone_of hone 1 f1 rfl
  obtain ⟨o2, q2⟩ := hone_of hone 2 f2 rfl
  have h0 := hf 0 f0 rfl
  have h1 := hf 1 f1 rfl
  have h2 := hf 2 f2 rfl
  simp only [List.size_toArray, List.length_cons, List.length_nil] at hyl
  rw [o0, q0, List.getElem?_eq_getElem (by omega), k0] at h0
  rw [o1, q1, List.getElem?_eq_getElem (by omega), k1] at h1
  rw [o2, q2, List.getElem?_eq_getElem (by omega), k2] at h2
  obtain ⟨nm, e0, _, g0'⟩ := DataW.trod_string hts h0
  obtain ⟨a0, n0, c0', x0, e1, _, q1'⟩ := ints_of_trod hu hi hCi h1
  obtain ⟨a1, n1, c1', ss, xss, e2, q2'⟩ := dice_of_trod htd hte hone2 hCe kg hu hi hCi h2
  simp at e0 e1 e2
  subst e0 e1 e2
  exact ⟨((nm, (a0, n0, c0'), (a1, n1, c1')), (nm, x0, xss)), rfl, g0', rfl, q1', ss, q2'⟩

theorem open_saveds {r : Reach} {b0 : Nat} {ta t ts td te u i : TypeId} {v : Value} {d : DataW H} {p : List MemPlace} {f0 f1 f2 g0 : Field} (hta : P.underlying ta = some (.slice t)) (hs : P.underlying t = some (.struct #[f0, f1, f2])) (hone : oneCellFields P #[f0, f1, f2] = true) (hC : P.cellsOf t = 3)
    (k0 : f0.type = ts) (hts : P.underlying ts = some .string) (k1 : f1.type = u) (hu : P.underlying u = some (.slice i)) (hi : P.underlying i = some (.int .i64)) (hCi : P.cellsOf i = 1)
    (k2 : f2.type = td) (htd : P.underlying td = some (.slice te)) (hte : P.underlying te = some (.struct #[g0])) (hone2 : oneCellFields P #[g0] = true) (hCe : P.cellsOf te = 1) (kg : g0.type = u)
    (hv : Value.okWide P w r b0 ta v) (h : DataW.Trod enc P w base spare held ta v d p) :
    ∃ (a : Option Addr) (n c : Nat) (ms : List MS) (xs : List AS), v = .slice a n c ∧ (∀ i, i < n → (xs.getD i as0).1.size ≤ maxLen) ∧ SavS w a n c ms xs := by
  obtain ⟨a, len, cap, ys, h1, h2, h3, h4⟩ := rd_of (fun y : MS × AS => msV y.1) (SavD w) 3 (fun _ => rfl) (by omega) hta hC (dec_saved hs hone hC k0 hts k1 hu hi hCi k2 htd hte hone2 hCe kg) hv h
  have e0 : ∀ l : List (MS × AS), l.flatMap (fun y : MS × AS => msV y.1) = svCells (l.map Prod.fst) := by
    intro l
    induction l with
    | nil => rfl
    | cons y ys ih => rw [List.flatMap_cons, ih]; rfl
  rw [e0] at h4
  have hget : ∀ j, j < len → SavD w ((ys.map Prod.fst).getD j ms0, (ys.map Prod.snd).getD j as0) := fun j hj => by
    have hj' : j < ys.length := by omega
    have g := h3 ys[j] (List.getElem_mem hj')
    simpa [hj'] using g
  exact ⟨a, len, cap, ys.map Prod.fst, ys.map Prod.snd, h1, fun j hj => (hget j hj).big, h4, by simp [h2], fun j hj => (hget j hj).v⟩

end
end Go.Proofs.Ytalabeldmmpjgaa
