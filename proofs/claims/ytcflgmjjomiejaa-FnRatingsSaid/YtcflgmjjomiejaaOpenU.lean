/- How a row of bytes comes. -/
import Derived.Test.YtcflgmjjomiejaaOpen
import Derived.Test.YtcflgmjjomiejaaSrc
namespace Go.Proofs.Ytcflgmjjomiejaa
open Go.ChangeShapes Go.WideShapes Go.ChangeAt Go.RowKit Go.Deep
set_option linter.unusedVariables false

section
variable {H : Type} {enc : TypeId × Value → H} {P : Program} {w : World} {base : Nat} {spare : Nat → Bool} {held : Bool}

theorem dec_u8 {e : TypeId} (he : P.underlying e = some (.int .u8)) : ∀ n cs' y, DataW.trod enc P w base spare held n e cs' = some y → ∃ x : Int, cs' = [.int .u8 x] ∧ (0 ≤ x ∧ x ≤ 255) := by
  intro n cs' y h
  obtain ⟨x, h1, _, h3⟩ := DataW.trod_int he h
  refine ⟨x, h1, ?_⟩
  have h4 : (Lit.int .u8 x).wf = true := h3
  have e0 : IntKind.u8.min = 0 := rfl
  have e1 : IntKind.u8.max = 255 := rfl
  simp [Lit.wf, e0, e1] at h4
  omega

theorem open_u8s {r : Reach} {b0 : Nat} {t e : TypeId} {v : Value} {d : DataW H} {p : List MemPlace} (ht : P.underlying t = some (.slice e)) (he : P.underlying e = some (.int .u8)) (hC : P.cellsOf e = 1)
    (hv : Value.okWide P w r b0 t v) (h : DataW.Trod enc P w base spare held t v d p) :
    ∃ (a : Option Addr) (len cap : Nat) (xs : List Int), v = .slice a len cap ∧ okB xs ∧ Bytes w a len cap xs := by
  obtain ⟨a, len, cap, xs, h1, h2, h3, h4⟩ := rd_of (fun x : Int => [Value.int .u8 x]) _ 1 (fun _ => rfl) (by omega) ht hC (dec_u8 he) hv h
  refine ⟨a, len, cap, xs, h1, fun i => ?_, ?_⟩
  · by_cases hi : i < xs.length
    · rw [List.getD_eq_getElem?_getD, List.getElem?_eq_getElem hi]; exact h3 _ (List.getElem_mem hi)
    · rw [List.getD_eq_getElem?_getD, List.getElem?_eq_none (by omega)]; exact ⟨by decide, by decide⟩
  · rw [← List.map_eq_flatMap] at h4
    exact h4

end
end Go.Proofs.Ytcflgmjjomiejaa
