/- The laws' own words on slices of int64: eqInt64S, toInt64S, markInt64S, heldInt64S, szInt64S. -/
import Derived.Test.YtnoageckldilnaaDoorViews
import Derived.Test.YtnoageckldilnaaDoorProg
namespace Go.Proofs.YtnoageckldilnaaDoor
open Go.RowKit

theorem infoI64 : (Tryd.prog.info? 2).map (fun i => (i.zero, i.size, i.bytes)) = some (some (.int .i64 0), 1, 8) := by kernel_rfl

set_option maxHeartbeats 400000 in
theorem eqInt64S_any (a : Option Addr) (n c : Nat) (xs : List Int) (a' : Option Addr) (n' c' : Nat) (ys : List Int) (w : World) (h : Ints w a n c xs) (h' : Ints w a' n' c' ys) :
    Calls Tryd.prog 41 #[.slice a n c, .slice a' n' c'] w (RetQ w (.bool (decide (xs = ys)))) := by
  obtain ⟨hc, hb, hcell⟩ := h.at
  obtain ⟨hc', hb', hcell'⟩ := h'.at
  have hl := h.len
  have hl' := h'.len
  clear h h'
  by_cases hn : n = n'
  · subst hn
    have hH := Lib.hid hl
    have hH' := Lib.hid hl'
    clear hl hl'
    go_enter Tryd.func41, Tryd.ntmps41
    go_wp2
    go_loopw [5] (fun i wr => ∃ k : Nat, k ≤ n ∧ i = .int .i64 k ∧ AlikeTo 0 xs ys k ∧ Quiet w wr) (fun i _ => n - (intOf i).toNat)
    case atStart => exact ⟨0, by omega, rfl, AlikeTo.zero _ _ _, Quiet.refl _⟩
    case round =>
      obtain ⟨k, hk, rfl, heq, hq⟩ := hrel
      have HQ := Lib.hid heq
      have HW := Lib.hid hq
      obtain ⟨q, rfl⟩ := hq
      clear heq
      by_cases hlt : k < n
      · obtain ⟨b, off, rfl, hlb, hx⟩ := hcell k hlt
        obtain ⟨b', off', rfl, hlb', hy⟩ := hcell' k hlt
        have hxk := hx k hlt
        have hyk := hy k hlt
        clear hcell hcell' hx hy
        go_wp2
        go_quiet (fail)
        go_wp2
        · go_ret
          have hne : (xs[k]?.getD 0 != ys[k]?.getD 0) = true := by assumption
          exact ⟨ret_bool (decide_eq_false (ne_of_getD (d := 0) (k := k) (by simpa using hne))).symm, HW.out.drewN _⟩
        · have he : (xs[k]?.getD 0 != ys[k]?.getD 0) = false := by assumption
          go_roundw
          case rel => exact ⟨k + 1, by omega, by go_num, HQ.out.succ (by simpa using he), by first | exact ⟨_, rfl⟩ | exact HW.out.drewN _⟩
          case measure => simp [intOf]; omega
      · obtain rfl : k = n := by omega
        clear hcell hcell'
        go_wp2
        go_ret
        exact ⟨ret_bool (decide_eq_true (HQ.out.eq hH.out hH'.out)).symm, HW.out⟩
  · have hne : xs ≠ ys := fun e => hn (by rw [← hl, ← hl', e])
    have HN := Lib.hid hne
    clear hne hl hl' hcell hcell'
    go_enter Tryd.func41, Tryd.ntmps41
    go_wp2
    go_ret
    exact ⟨ret_bool (decide_eq_false HN.out).symm, Quiet.refl _⟩

theorem toInt64S_any (a : Option Addr) (n c : Nat) (xs : List Int) (w : World) (h : Ints w a n c xs) (hn : n ≤ 1048576) :
    Calls Tryd.prog 36 #[.slice a n c] w fun e w' => ∃ g, e = .returned (.slice (some ⟨g, 0, none⟩) n n) ∧ Below w.heap.size w w' ∧ w'.ownsRow w.heap.size 2 1 (.slice (some ⟨g, 0, none⟩) n n) n (intCells xs) := by
  obtain ⟨hc, hb, hcell⟩ := h.at
  have hl := h.len
  clear h
  have hf := Lib.hid (fun j (hj : j < n) => intCells_get xs j (by omega))
  have hH := Lib.hid hl
  clear hl
  obtain ⟨i0, hi, hz0, hz1, hz2⟩ := info_parts infoI64
  go_enter Tryd.func36, Tryd.ntmps36
  go_wp2_with (first | (at_make; go_must (refine wpList_make_full _ rfl _ _ 22 rfl w.heap.size 2 i0 _ 1 Tryd.underlying22 hi hz0 hz1 _ _ _ _ n rfl rfl rfl rfl (by rw [hz2]; omega) (by unfold maxLen; omega) (by simp) ?_; intro w1 hown1 hg1)))
  have hown1' := Lib.hid hown1
  have hg1' := Lib.hid hg1
  clear hown1 hg1
  go_loopw [4] (fun i wr => ∃ k : Nat, k ≤ n ∧ i = .int .i64 k ∧ Below w.heap.size w wr ∧ wr.ownsRow w.heap.size 2 1 (.slice (some ⟨w.heap.size, 0, none⟩) n n) n (cellsTo (fun j => .int .i64 (xs.getD j 0)) (.int .i64 0) n k)) (fun i _ => n - (intOf i).toNat)
  case atStart => exact ⟨0, by omega, rfl, below_made (Below.refl _ _) (Nat.le_refl _) hg1'.out, by rw [cellsTo_zero]; have := hown1'.out; rw [made_const _ (.int .i64 0) (by decide) (by intro i hi; match i, hi with | 0, _ => rfl), Nat.mul_one] at this; exact this⟩
  case round =>
    obtain ⟨k, hk, rfl, hbel, hown⟩ := hrel
    by_cases hlt : k < n
    · obtain ⟨b, off, rfl, hlb, hx⟩ := hcell k hlt
      have h0' := (hbel.cell (p := ⟨b, off + k, none⟩) hlb).trans (hx k hlt)
      have c0 := hown.cellAt k (by omega)
      rw [cellsTo_get _ _ _ _ _ hlt, if_neg (by omega)] at c0
      have f := fun j => hown.frozenAt j
      have HO := Lib.hid hown
      have HB := Lib.hid hbel
      clear hown hbel hcell hx
      go_wp2
      go_roundw
      case rel =>
        refine ⟨k + 1, by omega, by go_num, HB.out.setCell (by simp) _, ?_⟩
        have := HO.out.stored k (.int .i64 (xs.getD k 0))
        rw [cellsTo_set _ _ _ _ _ rfl] at this
        simpa using this.1
      case measure => simp [intOf]; omega
    · obtain rfl : k = n := by omega
      have HO := Lib.hid hown
      have HB := Lib.hid hbel
      clear hown hbel hcell
      go_wp2
      go_ret
      refine ⟨_, rfl, HB.out, ?_⟩
      have := HO.out
      rw [cellsTo_full _ _ _ (intCells xs) (by rw [intCells_len, hH.out]) (fun j hj => hf.out j hj)] at this
      exact this

theorem markInt64S_any (B : Nat) (v : Value) (n : Nat) (xs : List Int) (x : Int) (w : World) (h : w.ownsRow B 2 1 v n (intCells xs)) (hx : 0 ≤ x) (hx' : x + n ≤ 4611686018427387904) :
    Calls Tryd.prog 59 #[v, .int .i64 x] w fun e w' => e = .returned (.int .i64 (x + n)) ∧ w'.ownsRow B 2 1 v n (intCells (marks x n)) ∧ w.grownBy w' v.ownBlock := by
  have hl : xs.length = n := by have := h.1; rw [intCells_len] at this; omega
  rcases h.2 with ⟨rfl, rfl⟩ | ⟨g, cap, cur, rfl, hB, hg, hnc, hcm, hcs, htake⟩
  · have HO := Lib.hid h
    clear h
    go_enter Tryd.func59, Tryd.ntmps59
    go_wp2
    refine wp_loop_rounds 1 ?_
    rw [rounds_succ]
    go_wp2
    go_ret
    exact ⟨ret_int (by simp), World.ownsRow_nil _ _ _ _, World.grownBy.refl _ _⟩
  · have hb : cap ≤ 9223372036854775807 := by unfold maxLen at hcm; omega
    have HH := Lib.hid hl
    have HO1 := Lib.hid h
    clear hg hcs htake hcm h hl
    go_enter Tryd.func59, Tryd.ntmps59
    go_wp2
    go_loopw [1, 5] (fun m i wr => ∃ k : Nat, k ≤ n ∧ i = .int .i64 k ∧ m = .int .i64 (x + k) ∧ wr.ownsRow B 2 1 (.slice (some ⟨g, 0, none⟩) n cap) n (intCells (markedTo xs x k)) ∧ w.grownBy wr (some g)) (fun _ i _ => n - (intOf i).toNat)
    case atStart => exact ⟨0, by omega, rfl, by simp, by rw [markedTo_zero]; exact HO1.out, World.grownBy.refl _ _⟩
    case round =>
      obtain ⟨k, hk, rfl, rfl, hown, hgr⟩ := hrel
      have HO := Lib.hid hown
      have HG := Lib.hid hgr
      clear hgr
      by_cases hlt : k < n
      · have c0 := hown.cellAt k (by omega)
        rw [intCells_get _ _ (by rw [markedTo_len, HH.out]; exact hlt)] at c0
        have f := fun j => hown.frozenAt j
        clear hown
        go_wp2
        go_roundw
        case rel =>
          have h1 := HO.out.stored k (.int .i64 (x + k))
          rw [intCells_set, markedTo_set] at h1
          exact ⟨k + 1, by omega, by go_num, by go_num, h1.1, HG.out.trans h1.2⟩
        case measure => simp [intOf]; omega
      · obtain rfl : k = n := by omega
        clear hown
        go_wp2
        go_ret
        refine ⟨rfl, ?_, HG.out⟩
        have := HO.out
        rw [← HH.out, markedTo_full, HH.out] at this
        exact this

theorem heldInt64S_any (a : Option Addr) (n c : Nat) (x : Int) (w : World) (h : Ints w a n c (marks x n)) (hx : 0 ≤ x) (hx' : x + n ≤ 4611686018427387904) :
    Calls Tryd.prog 61 #[.slice a n c, .int .i64 x] w (RetS w (.int .i64 (x + n))) := by
  obtain ⟨hc, hb, hcell⟩ := h.at
  clear h
  go_enter Tryd.func61, Tryd.ntmps61
  go_wp2
  go_loop [1, 5] (fun m i => ∃ k : Nat, k ≤ n ∧ i = .int .i64 k ∧ m = .int .i64 (x + k)) (fun _ i => n - (intOf i).toNat)
  case atStart => exact ⟨0, by omega, rfl, by simp⟩
  case round =>
    obtain ⟨k, hk, rfl, rfl⟩ := hrel
    by_cases hlt : k < n
    · obtain ⟨b, off, rfl, hlb, hx⟩ := hcell k hlt
      have h0 := hx k hlt
      rw [marks_getD _ _ _ hlt] at h0
      clear hcell hx
      go_wp2
      go_round
      case rel => exact ⟨k + 1, by omega, by go_num, by go_num⟩
      case measure => simp [intOf]; omega
    · obtain rfl : k = n := by omega
      clear hcell
      go_wp2
      go_ret
      exact ⟨rfl, rfl⟩

theorem szInt64S_ok (a : Option Addr) (n c : Nat) (x : Int) (w : World) (h0 : n ≤ 9223372036854775807) (h : (n : Int) ≤ x) (hx : x ≤ 1048576) :
    Calls Tryd.prog 33 #[.slice a n c, .int .i64 x] w (RetS w (.int .i64 (x - n))) := by
  go_enter Tryd.func33, Tryd.ntmps33
  go_wp2
  go_ret
  exact ⟨rfl, rfl⟩

theorem szInt64S_no (a : Option Addr) (n c : Nat) (x : Int) (w : World) (h0 : n ≤ 9223372036854775807) (h : x < (n : Int)) (hx : 0 ≤ x) (hx' : x ≤ 1048576) :
    Calls Tryd.prog 33 #[.slice a n c, .int .i64 x] w (RetS w (.int .i64 (-1))) := by
  go_enter Tryd.func33, Tryd.ntmps33
  go_wp2
  go_ret
  exact ⟨rfl, rfl⟩

end Go.Proofs.YtnoageckldilnaaDoor
