/- The laws' own words on slices of float32: toFloat32S, markFloat32S, heldFloat32S. -/
import Derived.Test.YtcflgmjjomiejaaRow
import Derived.Test.YtcflgmjjomiejaaFlA
import Derived.Test.YtcflgmjjomiejaaProg
namespace Go.Proofs.Ytcflgmjjomiejaa
open Go.RowKit
set_option linter.unusedVariables false
set_option linter.unusedSimpArgs false

theorem infoF32 : (Try.prog.info? 29).map (fun i => (i.zero, i.size, i.bytes)) = some (some (.float .f32 0), 1, 4) := by kernel_rfl
theorem st_f32 (P : Program) (W : World) (p : Addr) (b : Nat) (m : Mode) : (store p (.float .f32 b) m).run P W = stored P W p (.float .f32 b) m := run_store P W p _ m rfl

/-- float32(v) -/
def fI (v : Int) : Nat := floatOfInt .f32 v
def markedF (ys : List Nat) (x : Int) (k : Nat) : List Nat := (List.range ys.length).map fun (i : Nat) => if i < k then fI (x + (i : Int)) else ys.getD i 0
theorem markedF_len (ys : List Nat) (x : Int) (k : Nat) : (markedF ys x k).length = ys.length := by simp [markedF]
theorem markedF_zero (ys : List Nat) (x : Int) : markedF ys x 0 = ys := by
  apply List.ext_getElem (by simp [markedF])
  intro i h1 h2
  simp [markedF, h2]
theorem markedF_set (ys : List Nat) (x : Int) (k : Nat) : (markedF ys x k).set k (fI (x + (k : Int))) = markedF ys x (k + 1) := by
  apply List.ext_getElem (by simp [markedF])
  intro i h1 h2
  rw [List.getElem_set]
  simp only [markedF, List.getElem_map, List.getElem_range]
  by_cases e : k = i
  · subst e; rw [if_pos rfl, if_pos (Nat.lt_succ_self _)]
  · rw [if_neg e]
    by_cases e2 : i < k
    · rw [if_pos e2, if_pos (by omega)]
    · rw [if_neg e2, if_neg (by omega)]
def marksF (x : Int) (n : Nat) : List Nat := (List.range n).map fun (i : Nat) => fI (x + (i : Int))
theorem markedF_full (ys : List Nat) (x : Int) : markedF ys x ys.length = marksF x ys.length := by
  apply List.ext_getElem (by simp [markedF, marksF])
  intro i h1 h2
  simp only [markedF, marksF, List.getElem_map, List.getElem_range]
  rw [if_pos (by simpa [marksF] using h2)]
theorem marksF_get (x : Int) (n j : Nat) (h : j < n) : (marksF x n).getD j 0 = fI (x + (j : Int)) := by simp [marksF, h]
theorem mapF_get (xs : List Nat) (j : Nat) (h : j < xs.length) : (xs.map (Value.float .f32))[j]? = some (.float .f32 (xs.getD j 0)) := by simp [h]
theorem mapF_set (xs : List Nat) (j : Nat) (b : Nat) : (xs.map (Value.float .f32)).set j (.float .f32 b) = (xs.set j b).map (Value.float .f32) := by rw [List.map_set]
/-- a number is equal to itself -/
theorem order_self {f : Ieee.Format} {e : Int} {x : Nat} (h : FN f e x) : f.order x x = some .eq := by
  obtain ⟨s, m, i, h1, _, _⟩ := h
  unfold Ieee.Format.order
  rw [h1]
  show some (compare _ _) = _
  rw [cmpI_eq.2 rfl]
theorem fI_fb {v : Int} (h0 : 0 ≤ v) (h : v < 2 ^ 24) : FB 25 (fI v) := by
  show FB 25 (Ieee.single.nearest (v < 0) v.natAbs 0)
  refine nearest_fb _ _ _ 24 ?_ (by omega)
  by_cases hz : v.natAbs = 0
  · exact .inl hz
  · right
    have h2 : v.natAbs < 2 ^ 24 := by omega
    have := log2_lt' h2 hz
    omega

end Go.Proofs.Ytcflgmjjomiejaa
