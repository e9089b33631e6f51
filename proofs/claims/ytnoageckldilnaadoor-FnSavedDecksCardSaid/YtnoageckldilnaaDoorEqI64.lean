/- Two lists of numbers are equal: l02Same, slices.Equal. -/
import Derived.Test.YtnoageckldilnaaDoorViews
import Derived.Test.YtnoageckldilnaaDoorProg
namespace Go.Proofs.YtnoageckldilnaaDoor
open Go.RowKit

theorem slicesEqualI64_any (a : Option Addr) (n c : Nat) (xs : List Int) (a' : Option Addr) (n' c' : Nat) (ys : List Int) (w : World) (h : Ints w a n c xs) (h' : Ints w a' n' c' ys) :
    Calls Tryd.prog 55 #[.slice a n c, .slice a' n' c'] w (RetQ w (.bool (decide (xs = ys)))) := by
  obtain ⟨hc, hb, hcell⟩ := h.at
  obtain ⟨hc', hb', hcell'⟩ := h'.at
  have hl := h.len
  have hl' := h'.len
  clear h h'
  by_cases hn : n = n'
  · subst hn
    have hH := Lib.hid hl
    have hH' := Lib.hid hl'
    clear hl hl'
    go_enter Tryd.func55, Tryd.ntmps55
    go_wp2
    go_loopw [13] (fun i wr => ∃ k : Nat, k ≤ n ∧ i = .int .i64 k ∧ AlikeTo 0 xs ys k ∧ Quiet w wr) (fun i _ => n - (intOf i).toNat)
    case atStart => exact ⟨0, by omega, rfl, AlikeTo.zero _ _ _, Quiet.refl _⟩
    case round =>
      obtain ⟨k, hk, rfl, heq, hq⟩ := hrel
      have HQ := Lib.hid heq
      have HW := Lib.hid hq
      clear heq hq
      by_cases hlt : k < n
      · obtain ⟨b, off, rfl, hlb, hx⟩ := hcell k hlt
        obtain ⟨b', off', rfl, hlb', hy⟩ := hcell' k hlt
        have hxk := cell_on (HW.out.below _) (hx k hlt)
        have hyk := cell_on (HW.out.below _) (hy k hlt)
        have HS : Hid (xs.getD k 0 = ys.getD k 0 → AlikeTo 0 xs ys (k + 1)) := fun e => HQ.out.succ e
        have HN : Hid (xs.getD k 0 ≠ ys.getD k 0 → xs ≠ ys) := fun e => ne_of_getD e
        clear hcell hcell' hx hy
        generalize xs.getD k 0 = gx at *
        generalize ys.getD k 0 = gy at *
        go_wp2
        go_quiet (fail)
        go_wp2
        · go_ret
          have hne : (gx != gy) = true := by assumption
          exact ⟨ret_bool (decide_eq_false (HN.out (by simpa using hne))).symm, HW.out.trans ⟨_, rfl⟩⟩
        · have he : (gx != gy) = false := by assumption
          go_roundw
          case rel => exact ⟨k + 1, by omega, by go_num, HS.out (by simpa using he), HW.out.trans ⟨_, rfl⟩⟩
          case measure => simp [intOf]; omega
      · obtain rfl : k = n := by omega
        clear hcell hcell'
        go_wp2
        go_ret
        exact ⟨ret_bool (decide_eq_true (HQ.out.eq hH.out hH'.out)).symm, HW.out⟩
  · have hne : xs ≠ ys := fun e => hn (by rw [← hl, ← hl', e])
    have HN := Lib.hid hne
    clear hne hl hl' hcell hcell'
    go_enter Tryd.func55, Tryd.ntmps55
    go_wp2
    go_ret
    exact ⟨ret_bool (decide_eq_false HN.out).symm, Quiet.refl _⟩

end Go.Proofs.YtnoageckldilnaaDoor
