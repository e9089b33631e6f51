/- The laws' own words on slices of bool: toBoolS, eqBoolS, markBoolS. -/
import Derived.Test.YtndkaelpeembhaaRow
import Derived.Test.YtndkaelpeembhaaProg
namespace Go.Proofs.Ytndkaelpeembhaa
open Go.RowKit
set_option linter.unusedVariables false

theorem infoBool : (Try.prog.info? 4).map (fun i => (i.zero, i.size, i.bytes)) = some (some (.bool false), 1, 1) := by kernel_rfl

theorem toBoolS_any (a : Option Addr) (n c : Nat) (xs : List Bool) (w : World) (h : Row Value.bool w a n c xs) (hn : n ≤ 1048576) :
    Calls Try.prog 14 #[.slice a n c] w fun e w' => ∃ g, e = .returned (.slice (some ⟨g, 0, none⟩) n n) ∧ Below w.heap.size w w' ∧ w'.ownsRow w.heap.size 4 1 (.slice (some ⟨g, 0, none⟩) n n) n (xs.map Value.bool) := by
  obtain ⟨hc, hb, hcell⟩ := h.at false
  have hl := h.len
  clear h
  have hf := Lib.hid (fun j (hj : j < n) => row_get Value.bool false xs j (by omega))
  have hH := Lib.hid hl
  clear hl
  obtain ⟨i0, hi, hz0, hz1, hz2⟩ := info_parts infoBool
  go_enter Try.func14, Try.ntmps14
  go_wp2_with (first | (at_make; go_must (refine wpList_make_full _ rfl _ _ 25 rfl w.heap.size 4 i0 _ 1 Try.underlying25 hi hz0 hz1 _ _ _ _ n rfl rfl rfl rfl (by rw [hz2]; omega) (by unfold maxLen; omega) (by simp) ?_; intro w1 hown1 hg1)))
  have hown1' := Lib.hid hown1
  have hg1' := Lib.hid hg1
  clear hown1 hg1
  go_loopw [4] (fun i wr => ∃ k : Nat, k ≤ n ∧ i = .int .i64 k ∧ Below w.heap.size w wr ∧ wr.ownsRow w.heap.size 4 1 (.slice (some ⟨w.heap.size, 0, none⟩) n n) n (cellsTo (fun j => Value.bool (xs.getD j false)) (.bool false) n k)) (fun i _ => n - (intOf i).toNat)
  case atStart => exact ⟨0, by omega, rfl, below_made (Below.refl _ _) (Nat.le_refl _) hg1'.out, by rw [cellsTo_zero]; have := hown1'.out; rw [made_const _ (.bool false) (by decide) (by intro i hi; match i, hi with | 0, _ => rfl), Nat.mul_one] at this; exact this⟩
  case round =>
    obtain ⟨k, hk, rfl, hbel, hown⟩ := hrel
    by_cases hlt : k < n
    · obtain ⟨b, off, rfl, hlb, hx⟩ := hcell k hlt
      have h0' := (hbel.cell (p := ⟨b, off + k, none⟩) hlb).trans (hx k hlt)
      have c0 := hown.cellAt k (by omega)
      rw [cellsTo_get _ _ _ _ _ hlt, if_neg (by omega)] at c0
      have f := fun j => hown.frozenAt j
      have HO := Lib.hid hown
      have HB := Lib.hid hbel
      clear hown hbel hcell hx
      go_wp2
      go_roundw
      case rel =>
        refine ⟨k + 1, by omega, by go_num, HB.out.setCell (by simp) _, ?_⟩
        have := HO.out.stored k (Value.bool (xs.getD k false))
        rw [cellsTo_set _ _ _ _ _ rfl] at this
        simpa using this.1
      case measure => simp [intOf]; omega
    · obtain rfl : k = n := by omega
      have HO := Lib.hid hown
      have HB := Lib.hid hbel
      clear hown hbel hcell
      go_wp2
      go_ret
      refine ⟨_, rfl, HB.out, ?_⟩
      have := HO.out
      rw [cellsTo_full _ _ _ (xs.map Value.bool) (by rw [List.length_map, hH.out]) (fun j hj => hf.out j hj)] at this
      exact this

theorem eqBoolS_any (a : Option Addr) (n c : Nat) (xs : List Bool) (a' : Option Addr) (n' c' : Nat) (ys : List Bool) (w : World) (h : Row Value.bool w a n c xs) (h' : Row Value.bool w a' n' c' ys) :
    Calls Try.prog 16 #[.slice a n c, .slice a' n' c'] w (RetQ w (.bool (decide (xs = ys)))) := by
  obtain ⟨hc, hb, hcell⟩ := h.at false
  obtain ⟨hc', hb', hcell'⟩ := h'.at false
  have hl := h.len
  have hl' := h'.len
  clear h h'
  by_cases hn : n = n'
  · subst hn
    have hH := Lib.hid hl
    have hH' := Lib.hid hl'
    clear hl hl'
    go_enter Try.func16, Try.ntmps16
    go_wp2
    go_loopw [5] (fun i wr => ∃ k : Nat, k ≤ n ∧ i = .int .i64 k ∧ AlikeTo false xs ys k ∧ Quiet w wr) (fun i _ => n - (intOf i).toNat)
    case atStart => exact ⟨0, by omega, rfl, AlikeTo.zero _ _ _, Quiet.refl _⟩
    case round =>
      obtain ⟨k, hk, rfl, heq, hq⟩ := hrel
      have HQ := Lib.hid heq
      have HW := Lib.hid hq
      clear heq hq
      by_cases hlt : k < n
      · obtain ⟨b, off, rfl, hlb, hx⟩ := hcell k hlt
        obtain ⟨b', off', rfl, hlb', hy⟩ := hcell' k hlt
        have hxk := cell_on (HW.out.below _) (hx k hlt)
        have hyk := cell_on (HW.out.below _) (hy k hlt)
        have HS : Hid (xs.getD k false = ys.getD k false → AlikeTo false xs ys (k + 1)) := fun e => HQ.out.succ e
        have HN : Hid (xs.getD k false ≠ ys.getD k false → xs ≠ ys) := fun e => ne_of_getD e
        clear hcell hcell' hx hy
        generalize xs.getD k false = gx at *
        generalize ys.getD k false = gy at *
        cases gx <;> cases gy
        · go_wp2
          go_quiet (fail)
          go_wp2
          go_roundw
          case rel => exact ⟨k + 1, by omega, by go_num, HS.out (by first | rfl | trivial), HW.out.trans ⟨_, rfl⟩⟩
          case measure => simp [intOf]; omega
        · go_wp2
          go_quiet (fail)
          go_wp2
          go_ret
          exact ⟨ret_bool (decide_eq_false (HN.out (by simp))).symm, HW.out.trans ⟨_, rfl⟩⟩
        · go_wp2
          go_quiet (fail)
          go_wp2
          go_ret
          exact ⟨ret_bool (decide_eq_false (HN.out (by simp))).symm, HW.out.trans ⟨_, rfl⟩⟩
        · go_wp2
          go_quiet (fail)
          go_wp2
          go_roundw
          case rel => exact ⟨k + 1, by omega, by go_num, HS.out (by first | rfl | trivial), HW.out.trans ⟨_, rfl⟩⟩
          case measure => simp [intOf]; omega
      · obtain rfl : k = n := by omega
        clear hcell hcell'
        go_wp2
        go_ret
        exact ⟨ret_bool (decide_eq_true (HQ.out.eq hH.out hH'.out)).symm, HW.out⟩
  · have hne : xs ≠ ys := fun e => hn (by rw [← hl, ← hl', e])
    have HN := Lib.hid hne
    clear hne hl hl' hcell hcell'
    go_enter Try.func16, Try.ntmps16
    go_wp2
    go_ret
    exact ⟨ret_bool (decide_eq_false HN.out).symm, Quiet.refl _⟩

theorem markBoolS_any (B : Nat) (v : Value) (n : Nat) (L : List Value) (x : Int) (w : World) (h : w.ownsRow B 4 1 v n L) (hx : 0 ≤ x) (hx' : x + n ≤ 4611686018427387904) :
    Calls Try.prog 17 #[v, .int .i64 x] w fun e w' => e = .returned (.int .i64 (x + n)) ∧ True ∧ w.grownBy w' v.ownBlock := by
  rcases h.2 with ⟨rfl, rfl⟩ | ⟨g, cap, cur, rfl, hB, hg, hnc, hcm, hcs, htake⟩
  · clear h
    go_enter Try.func17, Try.ntmps17
    go_wp2
    refine wp_loop_rounds 1 ?_
    rw [rounds_succ]
    go_wp2
    go_ret
    exact ⟨ret_int (by simp), trivial, World.grownBy.refl _ _⟩
  · have hb : cap ≤ 9223372036854775807 := by unfold maxLen at hcm; omega
    have HO1 := Lib.hid h
    clear hg hcs htake hcm h
    go_enter Try.func17, Try.ntmps17
    go_wp2
    go_loopw [1, 5] (fun m i wr => ∃ k : Nat, k ≤ n ∧ i = .int .i64 k ∧ m = .int .i64 (x + k) ∧ (∃ L', wr.ownsRow B 4 1 (.slice (some ⟨g, 0, none⟩) n cap) n L') ∧ w.grownBy wr (some g)) (fun _ i _ => n - (intOf i).toNat)
    case atStart => exact ⟨0, by omega, rfl, by simp, ⟨_, HO1.out⟩, World.grownBy.refl _ _⟩
    case round =>
      obtain ⟨k, hk, rfl, rfl, ⟨L', hown⟩, hgr⟩ := hrel
      have HO := Lib.hid hown
      have HG := Lib.hid hgr
      clear hgr
      by_cases hlt : k < n
      · obtain ⟨q0, c0⟩ : ∃ q, wr.cell? ⟨g, k, none⟩ = some q := ⟨_, (hown.cellAt k (by omega)).trans (List.getElem?_eq_getElem (by have := hown.1; omega))⟩
        have f := fun j => hown.frozenAt j
        clear hown
        go_wp2
        all_goals
          go_roundw
          case rel =>
            have h1 := fun u => HO.out.stored k u
            exact ⟨k + 1, by omega, by go_num, by go_num, ⟨_, (h1 _).1⟩, HG.out.trans (h1 _).2⟩
          case measure => simp [intOf]; omega
      · obtain rfl : k = n := by omega
        clear hown
        go_wp2
        go_ret
        exact ⟨rfl, trivial, HG.out⟩

end Go.Proofs.Ytndkaelpeembhaa
