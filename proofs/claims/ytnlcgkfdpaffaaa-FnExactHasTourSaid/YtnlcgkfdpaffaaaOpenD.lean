/- How a row of structs of two numbers comes. -/
import Derived.Test.YtnlcgkfdpaffaaaOpen
import Derived.Test.YtnlcgkfdpaffaaaDuo
namespace Go.Proofs.Ytnlcgkfdpaffaaa
open Go.ChangeShapes Go.WideShapes Go.ChangeAt Go.RowKit Go.Deep
set_option linter.unusedVariables false

section
variable {H : Type} {enc : TypeId × Value → H} {P : Program} {w : World} {base : Nat} {spare : Nat → Bool} {held : Bool}

theorem dec_duo {e : TypeId} {f0 f1 : Field} (he : P.underlying e = some (.struct #[f0, f1])) (hone : oneCellFields P #[f0, f1] = true) (hC : P.cellsOf e = 2)
    (k0 : P.underlying f0.type = some (.int .i64)) (k1 : P.underlying f1.type = some (.int .i64)) :
    ∀ n cs' y, DataW.trod enc P w base spare held n e cs' = some y → ∃ g : Int × Int, cs' = [.int .i64 g.1, .int .i64 g.2] ∧ (Fits g.1 ∧ Fits g.2) := by
  intro n cs' y h
  obtain ⟨ys, n', hn', hy, hlen, hyl, hf⟩ := DataW.trod_struct he h
  rw [hC] at hlen
  obtain ⟨c0, c1, rfl⟩ : ∃ c0 c1, cs' = [c0, c1] := by
    match cs', hlen with
    | [c0, c1], _ => exact ⟨c0, c1, rfl⟩
  obtain ⟨o0, q0⟩ := hone_of hone 0 f0 rfl
  obtain ⟨o1, q1⟩ := hone_of hone 1 f1 rfl
  have h0 := hf 0 f0 rfl
  have h1 := hf 1 f1 rfl
  simp only [List.size_toArray, List.length_cons, List.length_nil] at hyl
  rw [o0, q0, List.getElem?_eq_getElem (by omega)] at h0
  rw [o1, q1, List.getElem?_eq_getElem (by omega)] at h1
  obtain ⟨x0, a0, _, b0⟩ := DataW.trod_int k0 h0
  obtain ⟨x1, a1, _, b1⟩ := DataW.trod_int k1 h1
  simp at a0 a1
  subst a0 a1
  exact ⟨(x0, x1), rfl, b0, b1⟩

theorem open_duos {r : Reach} {b0 : Nat} {t e : TypeId} {v : Value} {d : DataW H} {p : List MemPlace} {f0 f1 : Field} (ht : P.underlying t = some (.slice e)) (he : P.underlying e = some (.struct #[f0, f1])) (hone : oneCellFields P #[f0, f1] = true) (hC : P.cellsOf e = 2)
    (k0 : P.underlying f0.type = some (.int .i64)) (k1 : P.underlying f1.type = some (.int .i64))
    (hv : Value.okWide P w r b0 t v) (h : DataW.Trod enc P w base spare held t v d p) :
    ∃ (a : Option Addr) (len cap : Nat) (gs : List (Int × Int)), v = .slice a len cap ∧ (∀ g ∈ gs, Fits g.1 ∧ Fits g.2) ∧ Duos w a len cap gs := by
  obtain ⟨a, len, cap, xs, h1, h2, h3, h4⟩ := rd_of (fun g : Int × Int => [Value.int .i64 g.1, .int .i64 g.2]) _ 2 (fun _ => rfl) (by omega) ht hC (dec_duo he hone hC k0 k1) hv h
  exact ⟨a, len, cap, xs, h1, h3, h4⟩

end
end Go.Proofs.Ytnlcgkfdpaffaaa
