/- SameGames of both. -/
import Derived.Test.YtcflgmjjomiejaaGame
import Derived.Laws.StructEq
namespace Go.Proofs.Ytcflgmjjomiejaa
open Go.RowKit

def eqTrip (x0 x1 x2 y0 y1 y2 : Int) : Bool := x0 == y0 && (x1 == y1 && x2 == y2)
theorem eqTrip_iff (g h : Int × Int × Int) : eqTrip g.1 g.2.1 g.2.2 h.1 h.2.1 h.2.2 = true ↔ g = h := by
  obtain ⟨a, b, c⟩ := g
  obtain ⟨d, e, f⟩ := h
  simp [eqTrip]
theorem neqGame (x0 x1 x2 y0 y1 y2 : Int) (w : World) : (Go.binOp .neq 55 (.agg #[.int .i64 x0, .int .i64 x1, .int .i64 x2]) (.agg #[.int .i64 y0, .int .i64 y1, .int .i64 y2])).run Try.prog w = .ok (.bool (!eqTrip x0 x1 x2 y0 y1 y2)) w := by
  have a3 := Try.isAgg2
  have z3 := Try.sizeOf2
  have u3 := Try.underlying2
  have hS : Try.prog.underlying 55 = some (.struct (Try.prog.fieldsOf 55)) := by kernel_rfl
  have hp : Try.prog.stoodInHeld 55 = false := by kernel_rfl
  rw [run_neq_struct, show (10000 : Nat) = 9999 + 1 from rfl, run_equalIn_agg w 9999 _ _ _ hS hp]
  simp only [Program.fieldsOf, Try.underlying55]
  go_simp
  simp only [eqTrip]
  by_cases h1 : x0 = y0 <;> by_cases h2 : x1 = y1 <;> by_cases h3 : x2 = y2 <;> simp [h1, h2, h3]

theorem slicesEqualGame_any (a : Option Addr) (n c : Nat) (xs : List (Int × Int × Int)) (a' : Option Addr) (n' c' : Nat) (ys : List (Int × Int × Int)) (w : World) (h : Trips w a n c xs) (h' : Trips w a' n' c' ys) :
    Calls Try.prog 42 #[.slice a n c, .slice a' n' c'] w (RetQ w (.bool (decide (xs = ys)))) := by
  obtain ⟨hc, hb, hcell⟩ := h.at
  obtain ⟨hc', hb', hcell'⟩ := h'.at
  have hl := h.len
  have hl' := h'.len
  clear h h'
  have hN := neqGame
  have hG : Try.prog.eqGuardType Try.prog.depth 55 = false := by kernel_rfl
  by_cases hn : n = n'
  · subst hn
    have hH := Lib.hid hl
    have hH' := Lib.hid hl'
    clear hl hl'
    go_enter Try.func42, Try.ntmps42
    go_wp2
    go_loopw [13] (fun i wr => ∃ k : Nat, k ≤ n ∧ i = .int .i64 k ∧ AlikeTo (0, 0, 0) xs ys k ∧ Quiet w wr) (fun i _ => n - (intOf i).toNat)
    case atStart => exact ⟨0, by omega, rfl, AlikeTo.zero _ _ _, Quiet.refl _⟩
    case round =>
      obtain ⟨k, hk, rfl, heq, hq⟩ := hrel
      have HQ := Lib.hid heq
      have HW := Lib.hid hq
      clear heq hq
      by_cases hlt : k < n
      · obtain ⟨b, off, rfl, hlb, hx⟩ := hcell k hlt
        obtain ⟨b', off', rfl, hlb', hy⟩ := hcell' k hlt
        obtain ⟨x0', x1', x2'⟩ := hx k hlt
        obtain ⟨y0', y1', y2'⟩ := hy k hlt
        have x0 := cell_on (HW.out.below _) x0'
        have x1 := cell_on (HW.out.below _) x1'
        have x2 := cell_on (HW.out.below _) x2'
        have y0 := cell_on (HW.out.below _) y0'
        have y1 := cell_on (HW.out.below _) y1'
        have y2 := cell_on (HW.out.below _) y2'
        have HE := Lib.hid (eqTrip_iff (xs.getD k (0, 0, 0)) (ys.getD k (0, 0, 0)))
        have HS : Hid (xs.getD k (0, 0, 0) = ys.getD k (0, 0, 0) → AlikeTo (0, 0, 0) xs ys (k + 1)) := fun e => HQ.out.succ e
        have HN : Hid (xs.getD k (0, 0, 0) ≠ ys.getD k (0, 0, 0) → xs ≠ ys) := fun e => ne_of_getD e
        clear hcell hcell' hx hy x0' x1' x2' y0' y1' y2'
        generalize xs.getD k (0, 0, 0) = gx at *
        generalize ys.getD k (0, 0, 0) = gy at *
        rcases Bool.eq_false_or_eq_true (eqTrip gx.1 gx.2.1 gx.2.2 gy.1 gy.2.1 gy.2.2) with e | e
        · go_wp2
          go_quiet (fail)
          go_wp2
          go_roundw
          case rel => exact ⟨k + 1, by omega, by go_num, HS.out (HE.out.1 e), HW.out.trans ⟨_, rfl⟩⟩
          case measure => simp [intOf]; omega
        · go_wp2
          go_quiet (fail)
          go_wp2
          go_ret
          exact ⟨ret_bool (decide_eq_false (HN.out (fun h => by rw [HE.out.2 h] at e; cases e))).symm, HW.out.trans ⟨_, rfl⟩⟩
      · obtain rfl : k = n := by omega
        clear hcell hcell'
        go_wp2
        go_ret
        exact ⟨ret_bool (decide_eq_true (HQ.out.eq hH.out hH'.out)).symm, HW.out⟩
  · have hne : xs ≠ ys := fun e => hn (by rw [← hl, ← hl', e])
    have HN := Lib.hid hne
    clear hne hl hl' hcell hcell'
    go_enter Try.func42, Try.ntmps42
    go_wp2
    go_ret
    exact ⟨ret_bool (decide_eq_false HN.out).symm, Quiet.refl _⟩

theorem implSameGames_any (a : Option Addr) (n c : Nat) (xs : List (Int × Int × Int)) (a' : Option Addr) (n' c' : Nat) (ys : List (Int × Int × Int)) (w : World) (h : Trips w a n c xs) (h' : Trips w a' n' c' ys) :
    Calls Try.prog 12 #[.slice a n c, .slice a' n' c'] w (RetQ w (.bool (decide (xs = ys)))) := by
  have C := Lib.hid (slicesEqualGame_any a n c xs a' n' c' ys w h h')
  clear h h'
  go_enter Try.func12, Try.ntmps12
  go_wp2_with (fail)
  refine C.out.mono ?_
  rintro e w2 ⟨rfl, hq⟩
  have HQ := Lib.hid hq
  clear hq
  go_wp2
  go_ret
  exact ⟨rfl, HQ.out⟩

end Go.Proofs.Ytcflgmjjomiejaa
