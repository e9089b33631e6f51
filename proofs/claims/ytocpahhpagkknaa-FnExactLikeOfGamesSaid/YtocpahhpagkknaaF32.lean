/- The laws' own words on slices of float32: toFloat32S, markFloat32S, heldFloat32S. -/
import Derived.Test.YtocpahhpagkknaaRow
import Derived.Test.YtocpahhpagkknaaFlA
import Derived.Test.YtocpahhpagkknaaProg
namespace Go.Proofs.Ytocpahhpagkknaa
open Go.RowKit
set_option linter.unusedVariables false
set_option linter.unusedSimpArgs false

theorem infoF32 : (Try.prog.info? 31).map (fun i => (i.zero, i.size, i.bytes)) = some (some (.float .f32 0), 1, 4) := by kernel_rfl
theorem st_f32 (P : Program) (W : World) (p : Addr) (b : Nat) (m : Mode) : (store p (.float .f32 b) m).run P W = stored P W p (.float .f32 b) m := run_store P W p _ m rfl

theorem toFloat32S_any (a : Option Addr) (n c : Nat) (xs : List Nat) (w : World) (h : Row (Value.float .f32) w a n c xs) (hn : n ≤ 1048576) :
    Calls Try.prog 7 #[.slice a n c] w fun e w' => ∃ g, e = .returned (.slice (some ⟨g, 0, none⟩) n n) ∧ Below w.heap.size w w' ∧ w'.ownsRow w.heap.size 31 1 (.slice (some ⟨g, 0, none⟩) n n) n (xs.map (Value.float .f32)) := by
  obtain ⟨hc, hb, hcell⟩ := h.at 0
  have hl := h.len
  clear h
  have hf := Lib.hid (fun j (hj : j < n) => row_get (Value.float .f32) 0 xs j (by omega))
  have hH := Lib.hid hl
  clear hl
  obtain ⟨i0, hi, hz0, hz1, hz2⟩ := info_parts infoF32
  have hst := st_f32 Try.prog
  go_enter Try.func7, Try.ntmps7
  go_wp2_with (first | (at_make; go_must (refine wpList_make_full _ rfl _ _ 22 rfl w.heap.size 31 i0 _ 1 Try.underlying22 hi hz0 hz1 _ _ _ _ n rfl rfl rfl rfl (by rw [hz2]; omega) (by unfold maxLen; omega) (by simp) ?_; intro w1 hown1 hg1)))
  have hown1' := Lib.hid hown1
  have hg1' := Lib.hid hg1
  clear hown1 hg1
  go_loopw [4] (fun i wr => ∃ k : Nat, k ≤ n ∧ i = .int .i64 k ∧ Below w.heap.size w wr ∧ wr.ownsRow w.heap.size 31 1 (.slice (some ⟨w.heap.size, 0, none⟩) n n) n (cellsTo (fun j => Value.float .f32 (xs.getD j 0)) (.float .f32 0) n k)) (fun i _ => n - (intOf i).toNat)
  case atStart => exact ⟨0, by omega, rfl, below_made (Below.refl _ _) (Nat.le_refl _) hg1'.out, by rw [cellsTo_zero]; have := hown1'.out; rw [made_const _ (.float .f32 0) (by decide) (by intro i hi; match i, hi with | 0, _ => rfl), Nat.mul_one] at this; exact this⟩
  case round =>
    obtain ⟨k, hk, rfl, hbel, hown⟩ := hrel
    by_cases hlt : k < n
    · obtain ⟨b, off, rfl, hlb, hx⟩ := hcell k hlt
      have h0' := (hbel.cell (p := ⟨b, off + k, none⟩) hlb).trans (hx k hlt)
      have c0 := hown.cellAt k (by omega)
      rw [cellsTo_get _ _ _ _ _ hlt, if_neg (by omega)] at c0
      have f := fun j => hown.frozenAt j
      have HO := Lib.hid hown
      have HB := Lib.hid hbel
      clear hown hbel hcell hx
      go_wp2
      go_roundw
      case rel =>
        refine ⟨k + 1, by omega, by go_num, HB.out.setCell (by simp) _, ?_⟩
        have := HO.out.stored k (Value.float .f32 (xs.getD k 0))
        rw [cellsTo_set _ _ _ _ _ rfl] at this
        simpa using this.1
      case measure => simp [intOf]; omega
    · obtain rfl : k = n := by omega
      have HO := Lib.hid hown
      have HB := Lib.hid hbel
      clear hown hbel hcell
      go_wp2
      go_ret
      refine ⟨_, rfl, HB.out, ?_⟩
      have := HO.out
      rw [cellsTo_full _ _ _ (xs.map (Value.float .f32)) (by rw [List.length_map, hH.out]) (fun j hj => hf.out j hj)] at this
      exact this

/-- float32(v) -/
def fI (v : Int) : Nat := floatOfInt .f32 v
def markedF (ys : List Nat) (x : Int) (k : Nat) : List Nat := (List.range ys.length).map fun (i : Nat) => if i < k then fI (x + (i : Int)) else ys.getD i 0
theorem markedF_len (ys : List Nat) (x : Int) (k : Nat) : (markedF ys x k).length = ys.length := by simp [markedF]
theorem markedF_zero (ys : List Nat) (x : Int) : markedF ys x 0 = ys := by
  apply List.ext_getElem (by simp [markedF])
  intro i h1 h2
  simp [markedF, h2]
theorem markedF_set (ys : List Nat) (x : Int) (k : Nat) : (markedF ys x k).set k (fI (x + (k : Int))) = markedF ys x (k + 1) := by
  apply List.ext_getElem (by simp [markedF])
  intro i h1 h2
  rw [List.getElem_set]
  simp only [markedF, List.getElem_map, List.getElem_range]
  by_cases e : k = i
  · subst e; rw [if_pos rfl, if_pos (Nat.lt_succ_self _)]
  · rw [if_neg e]
    by_cases e2 : i < k
    · rw [if_pos e2, if_pos (by omega)]
    · rw [if_neg e2, if_neg (by omega)]
def marksF (x : Int) (n : Nat) : List Nat := (List.range n).map fun (i : Nat) => fI (x + (i : Int))
theorem markedF_full (ys : List Nat) (x : Int) : markedF ys x ys.length = marksF x ys.length := by
  apply List.ext_getElem (by simp [markedF, marksF])
  intro i h1 h2
  simp only [markedF, marksF, List.getElem_map, List.getElem_range]
  rw [if_pos (by simpa [marksF] using h2)]
theorem marksF_get (x : Int) (n j : Nat) (h : j < n) : (marksF x n).getD j 0 = fI (x + (j : Int)) := by simp [marksF, h]
theorem mapF_get (xs : List Nat) (j : Nat) (h : j < xs.length) : (xs.map (Value.float .f32))[j]? = some (.float .f32 (xs.getD j 0)) := by simp [h]
theorem mapF_set (xs : List Nat) (j : Nat) (b : Nat) : (xs.map (Value.float .f32)).set j (.float .f32 b) = (xs.set j b).map (Value.float .f32) := by rw [List.map_set]
/-- a number is equal to itself -/
theorem order_self {f : Ieee.Format} {e : Int} {x : Nat} (h : FN f e x) : f.order x x = some .eq := by
  obtain ⟨s, m, i, h1, _, _⟩ := h
  unfold Ieee.Format.order
  rw [h1]
  show some (compare _ _) = _
  rw [cmpI_eq.2 rfl]
theorem fI_fb {v : Int} (h0 : 0 ≤ v) (h : v < 2 ^ 24) : FB 25 (fI v) := by
  show FB 25 (Ieee.single.nearest (v < 0) v.natAbs 0)
  refine nearest_fb _ _ _ 24 ?_ (by omega)
  by_cases hz : v.natAbs = 0
  · exact .inl hz
  · right
    have h2 : v.natAbs < 2 ^ 24 := by omega
    have := log2_lt' h2 hz
    omega

theorem markFloat32S_any (B : Nat) (v : Value) (n : Nat) (ys : List Nat) (x : Int) (w : World) (h : w.ownsRow B 31 1 v n (ys.map (Value.float .f32))) (hx : 0 ≤ x) (hx' : x + n ≤ 4611686018427387904) :
    Calls Try.prog 10 #[v, .int .i64 x] w fun e w' => e = .returned (.int .i64 (x + n)) ∧ w'.ownsRow B 31 1 v n ((marksF x n).map (Value.float .f32)) ∧ w.grownBy w' v.ownBlock := by
  have hl : ys.length = n := by have := h.1; rw [List.length_map] at this; omega
  rcases h.2 with ⟨rfl, rfl⟩ | ⟨g, cap, cur, rfl, hB, hg, hnc, hcm, hcs, htake⟩
  · clear h
    go_enter Try.func10, Try.ntmps10
    go_wp2
    refine wp_loop_rounds 1 ?_
    rw [rounds_succ]
    go_wp2
    go_ret
    exact ⟨ret_int (by simp), World.ownsRow_nil _ _ _ _, World.grownBy.refl _ _⟩
  · have hb : cap ≤ 9223372036854775807 := by unfold maxLen at hcm; omega
    have HH := Lib.hid hl
    have HO1 := Lib.hid h
    clear hg hcs htake hcm h hl
    go_enter Try.func10, Try.ntmps10
    go_wp2
    go_loopw [1, 5] (fun m i wr => ∃ k : Nat, k ≤ n ∧ i = .int .i64 k ∧ m = .int .i64 (x + k) ∧ wr.ownsRow B 31 1 (.slice (some ⟨g, 0, none⟩) n cap) n ((markedF ys x k).map (Value.float .f32)) ∧ w.grownBy wr (some g)) (fun _ i _ => n - (intOf i).toNat)
    case atStart => exact ⟨0, by omega, rfl, by simp, by rw [markedF_zero]; exact HO1.out, World.grownBy.refl _ _⟩
    case round =>
      obtain ⟨k, hk, rfl, rfl, hown, hgr⟩ := hrel
      have HO := Lib.hid hown
      have HG := Lib.hid hgr
      clear hgr
      by_cases hlt : k < n
      · have c0 := hown.cellAt k (by omega)
        rw [mapF_get _ _ (by rw [markedF_len, HH.out]; exact hlt)] at c0
        have f := fun j => hown.frozenAt j
        have h1 := HO.out.stored k (.float .f32 (fI (x + k)))
        rw [mapF_set, markedF_set] at h1
        have H1 := Lib.hid h1
        have hFI : floatOfInt .f32 (x + (k : Int)) = fI (x + (k : Int)) := rfl
        clear hown h1
        have hst := st_f32 Try.prog
        go_wp2
        go_roundw
        case rel => exact ⟨k + 1, by omega, by go_num, by go_num, by first | exact H1.out.1 | (rw [hFI]; exact H1.out.1), by first | exact HG.out.trans H1.out.2 | (rw [hFI]; exact HG.out.trans H1.out.2)⟩
        case measure => simp [intOf]; omega
      · obtain rfl : k = n := by omega
        clear hown
        go_wp2
        go_ret
        refine ⟨rfl, ?_, HG.out⟩
        have := HO.out
        rw [← HH.out, markedF_full, HH.out] at this
        exact this

theorem heldFloat32S_any (a : Option Addr) (n c : Nat) (x : Int) (w : World) (h : Floats w a n c (marksF x n)) (hx : 0 ≤ x) (hx' : x + n ≤ 1000000) :
    Calls Try.prog 11 #[.slice a n c, .int .i64 x] w (RetS w (.int .i64 (x + n))) := by
  obtain ⟨hc, hb, hcell⟩ := h.at 0
  have HF : Hid (∀ k : Nat, k < n → Ieee.single.order (fI (x + (k : Int))) (fI (x + (k : Int))) = some .eq) := fun k hk => order_self (fI_fb (by omega) (by omega))
  clear h
  go_enter Try.func11, Try.ntmps11
  go_wp2
  go_loop [1, 5] (fun m i => ∃ k : Nat, k ≤ n ∧ i = .int .i64 k ∧ m = .int .i64 (x + k)) (fun _ i => n - (intOf i).toNat)
  case atStart => exact ⟨0, by omega, rfl, by simp⟩
  case round =>
    obtain ⟨k, hk, rfl, rfl⟩ := hrel
    by_cases hlt : k < n
    · obtain ⟨b, off, rfl, hlb, hx⟩ := hcell k hlt
      have h0 := hx k hlt
      rw [marksF_get _ _ _ hlt] at h0
      have ho := HF.out k hlt
      have hFI : floatOfInt .f32 (x + (k : Int)) = fI (x + (k : Int)) := rfl
      have hfm : FloatKind.f32.format = Ieee.single := rfl
      clear hcell hx
      generalize fI (x + (k : Int)) = y at *
      go_wp2
      go_round
      case rel => exact ⟨k + 1, by omega, by go_num, by go_num⟩
      case measure => simp [intOf]; omega
    · obtain rfl : k = n := by omega
      clear hcell
      go_wp2
      go_ret
      exact ⟨rfl, rfl⟩

end Go.Proofs.Ytocpahhpagkknaa
