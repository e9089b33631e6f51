/- How the arguments of a law come: each reads as plain data; over any program. -/
import Derived.Test.YtcflgmjjomiejaaViews
import Derived.ProofKit
import Derived.OpenShut
import Derived.ShutString
import Derived.ChangeOld
import Derived.SizedLaws
import Derived.Deep.Slices
import Derived.Deep.Fields
import Derived.ChangeSame
import Derived.Lib.SmallJoins
import Derived.Laws.Cover2
namespace Go.Proofs.Ytcflgmjjomiejaa
open Go.ChangeShapes Go.WideShapes Go.ChangeAt Go.RowKit Go.Deep
open Go.ChangeMaps (open_string shut_string)
set_option linter.unusedVariables false

theorem exists_list {α : Type} (n : Nat) (Q : Nat → α → Prop) (h : ∀ i, i < n → ∃ x, Q i x) : ∃ l : List α, l.length = n ∧ ∀ (i : Nat) (hi : i < l.length), Q i l[i] := by
  induction n with
  | zero => exact ⟨[], rfl, fun i hi => by simp at hi⟩
  | succ n ih =>
    obtain ⟨l, hl, hq⟩ := ih (fun i hi => h i (by omega))
    obtain ⟨x, hx⟩ := h n (by omega)
    refine ⟨l ++ [x], by simp [hl], fun i hi => ?_⟩
    by_cases hin : i < l.length
    · rw [List.getElem_append_left hin]; exact hq i hin
    · simp at hi
      obtain rfl : i = l.length := by omega
      rw [List.getElem_append_right (by omega)]
      simp; rw [hl]; exact hx

section
variable {H : Type} {enc : TypeId × Value → H} {P : Program} {w : World} {base : Nat} {spare : Nat → Bool} {held : Bool}

/-- A slice, whatever its elements: they read as f says. -/
theorem rd_of_trod {α : Type} (f : α → List Value) (good : α → Prop) (sz : Nat) (hf : ∀ x, (f x).length = sz) {t e : TypeId} {fuel : Nat} {cs : List Value} {x : DataW H × List MemPlace} (hsz : 0 < sz)
    (ht : P.underlying t = some (.slice e)) (hC : P.cellsOf e = sz) (hdec : ∀ n cs' y, DataW.trod enc P w base spare held n e cs' = some y → ∃ x, cs' = f x ∧ good x)
    (h : DataW.trod enc P w base spare held fuel t cs = some x) :
    ∃ (a : Option Addr) (len cap : Nat) (xs : List α), cs = [.slice a len cap] ∧ xs.length = len ∧ (∀ x ∈ xs, good x) ∧ Rd w a len cap sz (xs.flatMap f) := by
  rcases open_slice ht h with ⟨h0, _⟩ | ⟨a, len, cap, m, n, D, Pl, hcs, hb, hl, hm, hmm, hx, hi⟩
  · exact ⟨none, 0, 0, [], h0, rfl, by simp, by simp [Rd]⟩
  · unfold maxLen at hm
    have hlm : len ≤ m := by rw [hmm]; split <;> omega
    obtain ⟨xs, hxl, hxs⟩ := exists_list len (fun i x => good x ∧ ∀ j, j < sz → w.cell? ((a.add (i * sz)).add j) = (f x)[j]?) (fun i hil => by
      obtain ⟨cs', hc, ht'⟩ := hi i (by omega)
      rw [hC] at hc
      obtain ⟨_, hcl, hat⟩ := World.cells?_some hc
      obtain ⟨x, hx1, hx2⟩ := hdec _ _ _ ht'
      exact ⟨x, hx2, fun j hj => by rw [hat j hj, hx1]⟩)
    refine ⟨some a, len, cap, xs, hcs, hxl, fun x hx => ?_, ?_⟩
    · obtain ⟨i, hi1, hi2⟩ := List.getElem_of_mem hx
      exact hi2 ▸ (hxs i hi1).1
    · refine ⟨by rw [flat_len f sz hf, hxl], hl, by omega, ?_⟩
      by_cases hlen : len = 0
      · exact .inl hlen
      · right
        have h00 := (hxs 0 (by omega)).2 0 hsz
        have hsome : ∃ u, (f (xs[0]'(by omega)))[0]? = some u := ⟨_, List.getElem?_eq_getElem (by rw [hf]; exact hsz)⟩
        obtain ⟨u, hu⟩ := hsome
        rw [hu] at h00
        obtain ⟨b, off, spot⟩ := a
        have hs : spot = none := by simpa [Addr.add] using World.cell?_spot h00
        subst hs
        refine ⟨b, off, rfl, ?_, fun j hj => ?_⟩
        · have h1 : w.cell? ⟨b, off, none⟩ = some u := by simpa [Addr.add] using h00
          rcases Nat.lt_or_ge b w.heap.size with hlt | hge
          · exact hlt
          · simp [World.cell?, Array.getElem?_eq_none hge] at h1
        · have hq : j / sz < len := by
            rw [Nat.div_lt_iff_lt_mul hsz]; exact hj
          have hr : j % sz < sz := Nat.mod_lt _ hsz
          have e1 := (hxs (j / sz) (by omega)).2 (j % sz) hr
          have e2 : ((⟨b, off, none⟩ : Addr).add (j / sz * sz)).add (j % sz) = ⟨b, off + j, none⟩ := by
            rw [Go.Deep.add_add]
            have : j / sz * sz + j % sz = j := by rw [Nat.mul_comm]; exact Nat.div_add_mod j sz
            rw [this]
            unfold Addr.add
            split
            · rename_i h0; subst h0; rfl
            · rfl
          rw [e2] at e1
          rw [e1]
          have e3 := flat_get f sz hf xs (j / sz) (j % sz) hr
          have : j / sz * sz + j % sz = j := by rw [Nat.mul_comm]; exact Nat.div_add_mod j sz
          rw [this] at e3
          rw [e3, List.getElem?_eq_getElem (l := xs) (i := j / sz) (by rw [hxl]; exact hq)]
          rfl

theorem rd_of {α : Type} (f : α → List Value) (good : α → Prop) (sz : Nat) (hf : ∀ x, (f x).length = sz) {r : Reach} {b0 : Nat} {t e : TypeId} {v : Value} {d : DataW H} {p : List MemPlace} (hsz : 0 < sz)
    (ht : P.underlying t = some (.slice e)) (hC : P.cellsOf e = sz) (hdec : ∀ n cs' y, DataW.trod enc P w base spare held n e cs' = some y → ∃ x, cs' = f x ∧ good x)
    (hv : Value.okWide P w r b0 t v) (h : DataW.Trod enc P w base spare held t v d p) :
    ∃ (a : Option Addr) (len cap : Nat) (xs : List α), v = .slice a len cap ∧ xs.length = len ∧ (∀ x ∈ xs, good x) ∧ Rd w a len cap sz (xs.flatMap f) := by
  obtain ⟨fuel, hfu⟩ := h
  obtain ⟨a0, len0, cap0, rfl⟩ := okWide_slice ht hv
  obtain ⟨a, len, cap, xs, h1, h2, h3, h4⟩ := rd_of_trod f good sz hf hsz ht hC hdec hfu
  simp [Value.cells] at h1
  obtain ⟨rfl, rfl, rfl⟩ := h1
  exact ⟨_, _, _, xs, rfl, h2, h3, h4⟩

theorem intCells_flat (xs : List Int) : xs.flatMap (fun x : Int => [Value.int .i64 x]) = intCells xs := by
  induction xs with
  | nil => rfl
  | cons x xs ih => rw [List.flatMap_cons, ih]; rfl

/-- fits its kind -/
def Fits (n : Int) : Prop := (Lit.int .i64 n).wf = true

theorem dec_int {e : TypeId} (he : P.underlying e = some (.int .i64)) : ∀ n cs' y, DataW.trod enc P w base spare held n e cs' = some y → ∃ x : Int, cs' = [.int .i64 x] ∧ Fits x := by
  intro n cs' y h
  obtain ⟨x, h1, _, h3⟩ := DataW.trod_int he h
  exact ⟨x, h1, h3⟩

theorem open_ints1 {r : Reach} {b0 : Nat} {t e : TypeId} {v : Value} {d : DataW H} {p : List MemPlace} (ht : P.underlying t = some (.slice e)) (he : P.underlying e = some (.int .i64)) (hC : P.cellsOf e = 1)
    (hv : Value.okWide P w r b0 t v) (h : DataW.Trod enc P w base spare held t v d p) :
    ∃ (a : Option Addr) (len cap : Nat) (xs : List Int), v = .slice a len cap ∧ (∀ x ∈ xs, Fits x) ∧ Ints w a len cap xs := by
  obtain ⟨a, len, cap, xs, h1, h2, h3, h4⟩ := rd_of (fun x : Int => [Value.int .i64 x]) Fits 1 (fun _ => rfl) (by omega) ht hC (dec_int he) hv h
  refine ⟨a, len, cap, xs, h1, h3, ?_⟩
  rw [intCells_flat] at h4
  exact h4

/-- a struct of three numbers -/
theorem dec_trip {e : TypeId} {f0 f1 f2 : Field} (he : P.underlying e = some (.struct #[f0, f1, f2])) (hone : oneCellFields P #[f0, f1, f2] = true) (hC : P.cellsOf e = 3)
    (k0 : P.underlying f0.type = some (.int .i64)) (k1 : P.underlying f1.type = some (.int .i64)) (k2 : P.underlying f2.type = some (.int .i64)) :
    ∀ n cs' y, DataW.trod enc P w base spare held n e cs' = some y → ∃ g : Int × Int × Int, cs' = [.int .i64 g.1, .int .i64 g.2.1, .int .i64 g.2.2] ∧ (Fits g.1 ∧ Fits g.2.1 ∧ Fits g.2.2) := by
  intro n cs' y h
  obtain ⟨ys, n', hn', hy, hlen, hyl, hf⟩ := DataW.trod_struct he h
  rw [hC] at hlen
  obtain ⟨c0, c1, c2, rfl⟩ : ∃ c0 c1 c2, cs' = [c0, c1, c2] := by
    match cs', hlen with
    | [c0, c1, c2], _ => exact ⟨c0, c1, c2, rfl⟩
  obtain ⟨o0, q0⟩ := hone_of hone 0 f0 rfl
  obtain ⟨o1, q1⟩ := hone_of hone 1 f1 rfl
  obtain ⟨o2, q2⟩ := hone_of hone 2 f2 rfl
  have h0 := hf 0 f0 rfl
  have h1 := hf 1 f1 rfl
  have h2 := hf 2 f2 rfl
  simp only [List.size_toArray, List.length_cons, List.length_nil] at hyl
  rw [o0, q0, List.getElem?_eq_getElem (by omega)] at h0
  rw [o1, q1, List.getElem?_eq_getElem (by omega)] at h1
  rw [o2, q2, List.getElem?_eq_getElem (by omega)] at h2
  obtain ⟨x0, a0, _, b0⟩ := DataW.trod_int k0 h0
  obtain ⟨x1, a1, _, b1⟩ := DataW.trod_int k1 h1
  obtain ⟨x2, a2, _, b2⟩ := DataW.trod_int k2 h2
  simp at a0 a1 a2
  subst a0 a1 a2
  exact ⟨(x0, x1, x2), rfl, b0, b1, b2⟩

theorem open_trips {r : Reach} {b0 : Nat} {t e : TypeId} {v : Value} {d : DataW H} {p : List MemPlace} {f0 f1 f2 : Field} (ht : P.underlying t = some (.slice e)) (he : P.underlying e = some (.struct #[f0, f1, f2])) (hone : oneCellFields P #[f0, f1, f2] = true) (hC : P.cellsOf e = 3)
    (k0 : P.underlying f0.type = some (.int .i64)) (k1 : P.underlying f1.type = some (.int .i64)) (k2 : P.underlying f2.type = some (.int .i64))
    (hv : Value.okWide P w r b0 t v) (h : DataW.Trod enc P w base spare held t v d p) :
    ∃ (a : Option Addr) (len cap : Nat) (gs : List (Int × Int × Int)), v = .slice a len cap ∧ (∀ g ∈ gs, Fits g.1 ∧ Fits g.2.1 ∧ Fits g.2.2) ∧ Trips w a len cap gs := by
  obtain ⟨a, len, cap, xs, h1, h2, h3, h4⟩ := rd_of (fun g : Int × Int × Int => [Value.int .i64 g.1, .int .i64 g.2.1, .int .i64 g.2.2]) _ 3 (fun _ => rfl) (by omega) ht hC (dec_trip he hone hC k0 k1 k2) hv h
  exact ⟨a, len, cap, xs, h1, h3, h4⟩

theorem open_trip {r : Reach} {b0 : Nat} {t : TypeId} {v : Value} {d : DataW H} {p : List MemPlace} {f0 f1 f2 : Field} (he : P.underlying t = some (.struct #[f0, f1, f2])) (hone : oneCellFields P #[f0, f1, f2] = true) (hC : P.cellsOf t = 3)
    (k0 : P.underlying f0.type = some (.int .i64)) (k1 : P.underlying f1.type = some (.int .i64)) (k2 : P.underlying f2.type = some (.int .i64))
    (hv : Value.okWide P w r b0 t v) (h : DataW.Trod enc P w base spare held t v d p) :
    ∃ x y z, v = .agg #[.int .i64 x, .int .i64 y, .int .i64 z] ∧ Fits x ∧ Fits y ∧ Fits z := by
  obtain ⟨fuel, hf⟩ := h
  obtain ⟨cs, rfl, hsz⟩ := okWide_struct he hv
  obtain ⟨g, h1, h2⟩ := dec_trip he hone hC k0 k1 k2 _ _ _ hf
  refine ⟨g.1, g.2.1, g.2.2, ?_, h2⟩
  simp [Value.cells] at h1
  rw [← h1]

theorem ints_of_trod {t e : TypeId} {fuel : Nat} {cs : List Value} {x : DataW H × List MemPlace} (ht : P.underlying t = some (.slice e)) (he : P.underlying e = some (.int .i64)) (hC : P.cellsOf e = 1)
    (h : DataW.trod enc P w base spare held fuel t cs = some x) : ∃ (a : Option Addr) (n c : Nat) (xs : List Int), cs = [.slice a n c] ∧ (∀ x ∈ xs, Fits x) ∧ Ints w a n c xs := by
  obtain ⟨a, len, cap, xs, h1, h2, h3, h4⟩ := rd_of_trod (fun x : Int => [Value.int .i64 x]) Fits 1 (fun _ => rfl) (by omega) ht hC (dec_int he) h
  rw [intCells_flat] at h4
  exact ⟨a, len, cap, xs, h1, h3, h4⟩

/-- a struct of three slices of numbers -/
theorem open_desk {r : Reach} {b0 : Nat} {t u e : TypeId} {v : Value} {d : DataW H} {p : List MemPlace} {f0 f1 f2 : Field} (hs : P.underlying t = some (.struct #[f0, f1, f2])) (hone : oneCellFields P #[f0, f1, f2] = true) (hC : P.cellsOf t = 3)
    (hu : P.underlying u = some (.slice e)) (he : P.underlying e = some (.int .i64)) (hCe : P.cellsOf e = 1) (k0 : f0.type = u) (k1 : f1.type = u) (k2 : f2.type = u)
    (hv : Value.okWide P w r b0 t v) (h : DataW.Trod enc P w base spare held t v d p) :
    ∃ (a0 : Option Addr) (n0 c0 : Nat) (x0 : List Int) (a1 : Option Addr) (n1 c1 : Nat) (x1 : List Int) (a2 : Option Addr) (n2 c2 : Nat) (x2 : List Int), v = .agg #[.slice a0 n0 c0, .slice a1 n1 c1, .slice a2 n2 c2] ∧
      ((∀ x ∈ x0, Fits x) ∧ (∀ x ∈ x1, Fits x) ∧ ∀ x ∈ x2, Fits x) ∧ Ints w a0 n0 c0 x0 ∧ Ints w a1 n1 c1 x1 ∧ Ints w a2 n2 c2 x2 := by
  obtain ⟨v0, v1, v2, y0, y1, y2, n, rfl, _, _, h0, h1, h2⟩ := Go.Joins.open_agg3 hs hone hC hv h
  rw [k0] at h0
  rw [k1] at h1
  rw [k2] at h2
  obtain ⟨a0, n0, c0, x0, e0, g0, q0⟩ := ints_of_trod hu he hCe h0
  obtain ⟨a1, n1, c1, x1, e1, g1, q1⟩ := ints_of_trod hu he hCe h1
  obtain ⟨a2, n2, c2, x2, e2, g2, q2⟩ := ints_of_trod hu he hCe h2
  simp at e0 e1 e2
  subst e0 e1 e2
  exact ⟨a0, n0, c0, x0, a1, n1, c1, x1, a2, n2, c2, x2, rfl, ⟨g0, g1, g2⟩, q0, q1, q2⟩

theorem open_i64 {r : Reach} {b0 : Nat} {t : TypeId} {v : Value} {d : DataW H} {p : List MemPlace} (ht : P.underlying t = some (.int .i64)) (hv : Value.okWide P w r b0 t v) (h : DataW.Trod enc P w base spare held t v d p) :
    ∃ x, v = .int .i64 x ∧ Fits x := by
  obtain ⟨x, h1, _, _, h4⟩ := open_int ht hv h
  exact ⟨x, h1, h4⟩
end

theorem Fits.bounds {n : Int} (h : Fits n) : -9223372036854775808 ≤ n ∧ n ≤ 9223372036854775807 := by
  have := bounds_i64 h
  omega

end Go.Proofs.Ytcflgmjjomiejaa
