/- The laws' own words on slices of int64: eqInt64S, toInt64S, markInt64S, heldInt64S, szInt64S. -/
import Derived.Test.YtndkaelpeembhaaViews
import Derived.Test.YtndkaelpeembhaaProg
namespace Go.Proofs.Ytndkaelpeembhaa
open Go.RowKit

theorem infoI64 : (Try.prog.info? 2).map (fun i => (i.zero, i.size, i.bytes)) = some (some (.int .i64 0), 1, 8) := by kernel_rfl

set_option maxHeartbeats 400000 in
theorem eqInt64S_any (a : Option Addr) (n c : Nat) (xs : List Int) (a' : Option Addr) (n' c' : Nat) (ys : List Int) (w : World) (h : Ints w a n c xs) (h' : Ints w a' n' c' ys) :
    Calls Try.prog 15 #[.slice a n c, .slice a' n' c'] w (RetQ w (.bool (decide (xs = ys)))) := by
  obtain ⟨hc, hb, hcell⟩ := h.at
  obtain ⟨hc', hb', hcell'⟩ := h'.at
  have hl := h.len
  have hl' := h'.len
  clear h h'
  by_cases hn : n = n'
  · subst hn
    have hH := Lib.hid hl
    have hH' := Lib.hid hl'
    clear hl hl'
    go_enter Try.func15, Try.ntmps15
    go_wp2
    go_loopw [5] (fun i wr => ∃ k : Nat, k ≤ n ∧ i = .int .i64 k ∧ AlikeTo 0 xs ys k ∧ Quiet w wr) (fun i _ => n - (intOf i).toNat)
    case atStart => exact ⟨0, by omega, rfl, AlikeTo.zero _ _ _, Quiet.refl _⟩
    case round =>
      obtain ⟨k, hk, rfl, heq, hq⟩ := hrel
      have HQ := Lib.hid heq
      have HW := Lib.hid hq
      obtain ⟨q, rfl⟩ := hq
      clear heq
      by_cases hlt : k < n
      · obtain ⟨b, off, rfl, hlb, hx⟩ := hcell k hlt
        obtain ⟨b', off', rfl, hlb', hy⟩ := hcell' k hlt
        have hxk := hx k hlt
        have hyk := hy k hlt
        clear hcell hcell' hx hy
        go_wp2
        go_quiet (fail)
        go_wp2
        · go_ret
          have hne : (xs[k]?.getD 0 != ys[k]?.getD 0) = true := by assumption
          exact ⟨ret_bool (decide_eq_false (ne_of_getD (d := 0) (k := k) (by simpa using hne))).symm, HW.out.drewN _⟩
        · have he : (xs[k]?.getD 0 != ys[k]?.getD 0) = false := by assumption
          go_roundw
          case rel => exact ⟨k + 1, by omega, by go_num, HQ.out.succ (by simpa using he), by first | exact ⟨_, rfl⟩ | exact HW.out.drewN _⟩
          case measure => simp [intOf]; omega
      · obtain rfl : k = n := by omega
        clear hcell hcell'
        go_wp2
        go_ret
        exact ⟨ret_bool (decide_eq_true (HQ.out.eq hH.out hH'.out)).symm, HW.out⟩
  · have hne : xs ≠ ys := fun e => hn (by rw [← hl, ← hl', e])
    have HN := Lib.hid hne
    clear hne hl hl' hcell hcell'
    go_enter Try.func15, Try.ntmps15
    go_wp2
    go_ret
    exact ⟨ret_bool (decide_eq_false HN.out).symm, Quiet.refl _⟩

theorem markInt64S_any (B : Nat) (v : Value) (n : Nat) (xs : List Int) (x : Int) (w : World) (h : w.ownsRow B 2 1 v n (intCells xs)) (hx : 0 ≤ x) (hx' : x + n ≤ 4611686018427387904) :
    Calls Try.prog 18 #[v, .int .i64 x] w fun e w' => e = .returned (.int .i64 (x + n)) ∧ w'.ownsRow B 2 1 v n (intCells (marks x n)) ∧ w.grownBy w' v.ownBlock := by
  have hl : xs.length = n := by have := h.1; rw [intCells_len] at this; omega
  rcases h.2 with ⟨rfl, rfl⟩ | ⟨g, cap, cur, rfl, hB, hg, hnc, hcm, hcs, htake⟩
  · have HO := Lib.hid h
    clear h
    go_enter Try.func18, Try.ntmps18
    go_wp2
    refine wp_loop_rounds 1 ?_
    rw [rounds_succ]
    go_wp2
    go_ret
    exact ⟨ret_int (by simp), World.ownsRow_nil _ _ _ _, World.grownBy.refl _ _⟩
  · have hb : cap ≤ 9223372036854775807 := by unfold maxLen at hcm; omega
    have HH := Lib.hid hl
    have HO1 := Lib.hid h
    clear hg hcs htake hcm h hl
    go_enter Try.func18, Try.ntmps18
    go_wp2
    go_loopw [1, 5] (fun m i wr => ∃ k : Nat, k ≤ n ∧ i = .int .i64 k ∧ m = .int .i64 (x + k) ∧ wr.ownsRow B 2 1 (.slice (some ⟨g, 0, none⟩) n cap) n (intCells (markedTo xs x k)) ∧ w.grownBy wr (some g)) (fun _ i _ => n - (intOf i).toNat)
    case atStart => exact ⟨0, by omega, rfl, by simp, by rw [markedTo_zero]; exact HO1.out, World.grownBy.refl _ _⟩
    case round =>
      obtain ⟨k, hk, rfl, rfl, hown, hgr⟩ := hrel
      have HO := Lib.hid hown
      have HG := Lib.hid hgr
      clear hgr
      by_cases hlt : k < n
      · have c0 := hown.cellAt k (by omega)
        rw [intCells_get _ _ (by rw [markedTo_len, HH.out]; exact hlt)] at c0
        have f := fun j => hown.frozenAt j
        clear hown
        go_wp2
        go_roundw
        case rel =>
          have h1 := HO.out.stored k (.int .i64 (x + k))
          rw [intCells_set, markedTo_set] at h1
          exact ⟨k + 1, by omega, by go_num, by go_num, h1.1, HG.out.trans h1.2⟩
        case measure => simp [intOf]; omega
      · obtain rfl : k = n := by omega
        clear hown
        go_wp2
        go_ret
        refine ⟨rfl, ?_, HG.out⟩
        have := HO.out
        rw [← HH.out, markedTo_full, HH.out] at this
        exact this

theorem heldInt64S_any (a : Option Addr) (n c : Nat) (x : Int) (w : World) (h : Ints w a n c (marks x n)) (hx : 0 ≤ x) (hx' : x + n ≤ 4611686018427387904) :
    Calls Try.prog 19 #[.slice a n c, .int .i64 x] w (RetS w (.int .i64 (x + n))) := by
  obtain ⟨hc, hb, hcell⟩ := h.at
  clear h
  go_enter Try.func19, Try.ntmps19
  go_wp2
  go_loop [1, 5] (fun m i => ∃ k : Nat, k ≤ n ∧ i = .int .i64 k ∧ m = .int .i64 (x + k)) (fun _ i => n - (intOf i).toNat)
  case atStart => exact ⟨0, by omega, rfl, by simp⟩
  case round =>
    obtain ⟨k, hk, rfl, rfl⟩ := hrel
    by_cases hlt : k < n
    · obtain ⟨b, off, rfl, hlb, hx⟩ := hcell k hlt
      have h0 := hx k hlt
      rw [marks_getD _ _ _ hlt] at h0
      clear hcell hx
      go_wp2
      go_round
      case rel => exact ⟨k + 1, by omega, by go_num, by go_num⟩
      case measure => simp [intOf]; omega
    · obtain rfl : k = n := by omega
      clear hcell
      go_wp2
      go_ret
      exact ⟨rfl, rfl⟩

end Go.Proofs.Ytndkaelpeembhaa
