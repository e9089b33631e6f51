/- How a row of floats comes. -/
import Derived.Test.YtocpahhpagkknaaOpen
import Derived.Test.YtocpahhpagkknaaRow
import Derived.Laws.Cover2
namespace Go.Proofs.Ytocpahhpagkknaa
open Go.ChangeShapes Go.WideShapes Go.ChangeAt Go.RowKit Go.Deep
set_option linter.unusedVariables false

section
variable {H : Type} {enc : TypeId × Value → H} {P : Program} {w : World} {base : Nat} {spare : Nat → Bool} {held : Bool}

theorem flat_one {α : Type} (f : α → Value) (xs : List α) : xs.flatMap (fun x => [f x]) = xs.map f := by
  induction xs with
  | nil => rfl
  | cons x xs ih => rw [List.flatMap_cons, ih]; rfl

theorem trod_f32 {t : TypeId} {fuel : Nat} {cs : List Value} {x : DataW H × List MemPlace} (ht : P.underlying t = some (.float .f32)) (h : DataW.trod enc P w base spare held fuel t cs = some x) : ∃ b, cs = [.float .f32 b] ∧ (Lit.float .f32 b).wf = true := by
  cases fuel with
  | zero => simp [DataW.trod] at h
  | succ n =>
    unfold DataW.trod at h
    rw [ht] at h
    split at h <;> simp_all

theorem open_f32 {r : Reach} {b0 : Nat} {t : TypeId} {v : Value} {d : DataW H} {p : List MemPlace} (ht : P.underlying t = some (.float .f32)) (hv : Value.okWide P w r b0 t v) (h : DataW.Trod enc P w base spare held t v d p) : ∃ b, v = .float .f32 b ∧ (Lit.float .f32 b).wf = true := by
  obtain ⟨b, h1, _, _, h4⟩ := open_float ht hv h
  exact ⟨b, h1, h4⟩

theorem open_floats {r : Reach} {b0 : Nat} {t e : TypeId} {v : Value} {d : DataW H} {p : List MemPlace} (ht : P.underlying t = some (.slice e)) (he : P.underlying e = some (.float .f32)) (hC : P.cellsOf e = 1)
    (hv : Value.okWide P w r b0 t v) (h : DataW.Trod enc P w base spare held t v d p) :
    ∃ (a : Option Addr) (len cap : Nat) (xs : List Nat), v = .slice a len cap ∧ (∀ x ∈ xs, (Lit.float .f32 x).wf = true) ∧ Floats w a len cap xs := by
  obtain ⟨a, len, cap, xs, h1, h2, h3, h4⟩ := rd_of (fun x : Nat => [Value.float .f32 x]) (fun x => (Lit.float .f32 x).wf = true) 1 (fun _ => rfl) (by omega) ht hC (fun n cs' y h => trod_f32 he h) hv h
  refine ⟨a, len, cap, xs, h1, h3, ?_⟩
  rw [flat_one] at h4
  exact h4
end
end Go.Proofs.Ytocpahhpagkknaa
