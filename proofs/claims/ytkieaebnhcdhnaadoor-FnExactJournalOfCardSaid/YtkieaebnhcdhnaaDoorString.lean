/- The laws' own words on slices of string: toStringS, eqStringS, szStringS. -/
import Derived.Test.YtkieaebnhcdhnaaDoorStrA
namespace Go.Proofs.YtkieaebnhcdhnaaDoor
open Go.RowKit
set_option linter.unusedVariables false

theorem infoString : (Tryd.prog.info? 9).map (fun i => (i.zero, i.size, i.bytes)) = some (some (.string ByteArray.empty), 1, 16) := by kernel_rfl

theorem toStringS_any (a : Option Addr) (n c : Nat) (xs : List ByteArray) (w : World) (h : Strs w a n c xs) (hn : n ≤ 1048576) :
    Calls Tryd.prog 7 #[.slice a n c] w fun e w' => ∃ g, e = .returned (.slice (some ⟨g, 0, none⟩) n n) ∧ Below w.heap.size w w' ∧ w'.ownsRow w.heap.size 9 1 (.slice (some ⟨g, 0, none⟩) n n) n (xs.map Value.string) := by
  obtain ⟨hc, hb, hcell⟩ := h.at ByteArray.empty
  have hl := h.len
  clear h
  have hf := Lib.hid (fun j (hj : j < n) => row_get Value.string ByteArray.empty xs j (by omega))
  have hH := Lib.hid hl
  clear hl
  obtain ⟨i0, hi, hz0, hz1, hz2⟩ := info_parts infoString
  go_enter Tryd.func7, Tryd.ntmps7
  go_wp2_with (first | (at_make; go_must (refine wpList_make_full _ rfl _ _ 22 rfl w.heap.size 9 i0 _ 1 Tryd.underlying22 hi hz0 hz1 _ _ _ _ n rfl rfl rfl rfl (by rw [hz2]; omega) (by unfold maxLen; omega) (by simp) ?_; intro w1 hown1 hg1)))
  have hown1' := Lib.hid hown1
  have hg1' := Lib.hid hg1
  clear hown1 hg1
  go_loopw [4] (fun i wr => ∃ k : Nat, k ≤ n ∧ i = .int .i64 k ∧ Below w.heap.size w wr ∧ wr.ownsRow w.heap.size 9 1 (.slice (some ⟨w.heap.size, 0, none⟩) n n) n (cellsTo (fun j => .string (xs.getD j ByteArray.empty)) (.string ByteArray.empty) n k)) (fun i _ => n - (intOf i).toNat)
  case atStart => exact ⟨0, by omega, rfl, below_made (Below.refl _ _) (Nat.le_refl _) hg1'.out, by rw [cellsTo_zero]; have := hown1'.out; rw [made_const _ (.string ByteArray.empty) (by decide) (by intro i hi; match i, hi with | 0, _ => rfl), Nat.mul_one] at this; exact this⟩
  case round =>
    obtain ⟨k, hk, rfl, hbel, hown⟩ := hrel
    by_cases hlt : k < n
    · obtain ⟨b, off, rfl, hlb, hx⟩ := hcell k hlt
      have h0' := (hbel.cell (p := ⟨b, off + k, none⟩) hlb).trans (hx k hlt)
      have c0 := hown.cellAt k (by omega)
      rw [cellsTo_get _ _ _ _ _ hlt, if_neg (by omega)] at c0
      have f := fun j => hown.frozenAt j
      have HO := Lib.hid hown
      have HB := Lib.hid hbel
      clear hown hbel hcell hx
      go_wp2
      go_roundw
      case rel =>
        refine ⟨k + 1, by omega, by go_num, HB.out.setCell (by simp) _, ?_⟩
        have := HO.out.stored k (.string (xs.getD k ByteArray.empty))
        rw [cellsTo_set _ _ _ _ _ rfl] at this
        simpa using this.1
      case measure => simp [intOf]; omega
    · obtain rfl : k = n := by omega
      have HO := Lib.hid hown
      have HB := Lib.hid hbel
      clear hown hbel hcell
      go_wp2
      go_ret
      refine ⟨_, rfl, HB.out, ?_⟩
      have := HO.out
      rw [cellsTo_full _ _ _ (xs.map Value.string) (by rw [List.length_map, hH.out]) (fun j hj => hf.out j hj)] at this
      exact this

theorem eqStringS_any (a : Option Addr) (n c : Nat) (xs : List ByteArray) (a' : Option Addr) (n' c' : Nat) (ys : List ByteArray) (w : World) (h : Strs w a n c xs) (h' : Strs w a' n' c' ys) :
    Calls Tryd.prog 9 #[.slice a n c, .slice a' n' c'] w (RetQ w (.bool (decide (xs = ys)))) := by
  obtain ⟨hc, hb, hcell⟩ := h.at ByteArray.empty
  obtain ⟨hc', hb', hcell'⟩ := h'.at ByteArray.empty
  have hl := h.len
  have hl' := h'.len
  clear h h'
  by_cases hn : n = n'
  · subst hn
    have hH := Lib.hid hl
    have hH' := Lib.hid hl'
    clear hl hl'
    go_enter Tryd.func9, Tryd.ntmps9
    go_wp2
    go_loopw [5] (fun i wr => ∃ k : Nat, k ≤ n ∧ i = .int .i64 k ∧ AlikeTo ByteArray.empty xs ys k ∧ Quiet w wr) (fun i _ => n - (intOf i).toNat)
    case atStart => exact ⟨0, by omega, rfl, AlikeTo.zero _ _ _, Quiet.refl _⟩
    case round =>
      obtain ⟨k, hk, rfl, heq, hq⟩ := hrel
      have HQ := Lib.hid heq
      have HW := Lib.hid hq
      clear heq hq
      by_cases hlt : k < n
      · obtain ⟨b, off, rfl, hlb, hx⟩ := hcell k hlt
        obtain ⟨b', off', rfl, hlb', hy⟩ := hcell' k hlt
        have hxk := cell_on (HW.out.below _) (hx k hlt)
        have hyk := cell_on (HW.out.below _) (hy k hlt)
        have HS : Hid (xs.getD k ByteArray.empty = ys.getD k ByteArray.empty → AlikeTo ByteArray.empty xs ys (k + 1)) := fun e => HQ.out.succ e
        have HN : Hid (xs.getD k ByteArray.empty ≠ ys.getD k ByteArray.empty → xs ≠ ys) := fun e => ne_of_getD e
        clear hcell hcell' hx hy
        generalize xs.getD k ByteArray.empty = gx at *
        generalize ys.getD k ByteArray.empty = gy at *
        rcases Bool.eq_false_or_eq_true (gx.toList == gy.toList) with e | e
        · have HE : Hid (gx = gy) := by show _ = _; have := e; rw [strEq] at this; exact of_decide_eq_true this
          go_wp2
          go_quiet (fail)
          go_wp2
          go_roundw
          case rel => exact ⟨k + 1, by omega, by go_num, HS.out HE.out, HW.out.trans ⟨_, rfl⟩⟩
          case measure => simp [intOf]; omega
        · have HE : Hid (gx ≠ gy) := by show _ ≠ _; have := e; rw [strEq] at this; exact of_decide_eq_false this
          go_wp2
          go_quiet (fail)
          go_wp2
          go_ret
          exact ⟨ret_bool (decide_eq_false (HN.out HE.out)).symm, HW.out.trans ⟨_, rfl⟩⟩
      · obtain rfl : k = n := by omega
        clear hcell hcell'
        go_wp2
        go_ret
        exact ⟨ret_bool (decide_eq_true (HQ.out.eq hH.out hH'.out)).symm, HW.out⟩
  · have hne : xs ≠ ys := fun e => hn (by rw [← hl, ← hl', e])
    have HN := Lib.hid hne
    clear hne hl hl' hcell hcell'
    go_enter Tryd.func9, Tryd.ntmps9
    go_wp2
    go_ret
    exact ⟨ret_bool (decide_eq_false HN.out).symm, Quiet.refl _⟩

def bytesN (xs : List ByteArray) : Nat := (xs.map ByteArray.size).sum
theorem bytesN_succ (xs : List ByteArray) (k : Nat) (h : k < xs.length) : bytesN (xs.take (k + 1)) = bytesN (xs.take k) + (xs.getD k ByteArray.empty).size := by
  have e : xs.getD k ByteArray.empty = xs[k] := by simp [h]
  rw [List.take_add_one, List.getElem?_eq_getElem h, e]
  unfold bytesN
  rw [List.map_append, List.sum_append]
  congr 1
theorem bytesN_le (xs : List ByteArray) (k : Nat) : bytesN (xs.take k) ≤ bytesN xs := by
  conv => rhs; rw [← List.take_append_drop k xs]
  unfold bytesN
  rw [List.map_append, List.sum_append]
  omega
def szStr (n : Nat) (xs : List ByteArray) (left : Int) : Int := if left - n < 0 then -1 else if left - n - bytesN xs < 0 then -1 else left - n - bytesN xs

end Go.Proofs.YtkieaebnhcdhnaaDoor
