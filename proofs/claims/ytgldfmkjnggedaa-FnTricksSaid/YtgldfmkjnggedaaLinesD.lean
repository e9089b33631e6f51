/- Lines of play, impl: without. -/
import Derived.Test.YtgldfmkjnggedaaLinesB
import Derived.Test.YtgldfmkjnggedaaLegalC
import Derived.Shelf.SlicesE.DeleteFunc
namespace Go.Proofs.Ytgldfmkjnggedaa
open Go.RowKit Go.Sort Go.Shelf
set_option linter.unusedVariables false

theorem own_shrink {w : World} {B g n c m : Nat} {E : TypeId} {xs : List Int} (h : w.ownsRow B E 1 (.slice (some ⟨g, 0, none⟩) n c) n (intCells xs)) (hm : m ≤ n) : w.ownsRow B E 1 (.slice (some ⟨g, 0, none⟩) m c) m (intCells (xs.take m)) := by
  have hl : xs.length = n := by have := h.1; rw [intCells_len] at this; omega
  obtain ⟨h1, h2⟩ := h
  refine ⟨by rw [intCells_len, List.length_take]; omega, ?_⟩
  rcases h2 with ⟨e, _⟩ | ⟨g', cap, cur, e, h3, h4, h5, h6, h7, h8⟩
  · cases e
  · simp only [Value.slice.injEq, Option.some.injEq, Addr.mk.injEq] at e
    obtain ⟨⟨rfl, _⟩, _, rfl⟩ := e
    refine .inr ⟨g, c, cur, rfl, h3, h4, by omega, h6, h7, ?_⟩
    have e2 : intCells (xs.take m) = (intCells xs).take m := by simp [intCells, List.map_take]
    rw [e2, ← h8, List.take_take]
    congr 1
    omega

theorem without1_any (x y : Int) (b : Nat) (w : World) (hc : w.cell? ⟨b, 0, none⟩ = some (.int .i64 x)) :
    Calls Try.prog 41 #[.int .i64 y, .pointer (some ⟨b, 0, none⟩)] w (RetS w (.bool (y == x))) := by
  go_enter Try.func41, Try.ntmps41
  go_wp2
  go_ret
  exact ⟨rfl, rfl⟩

set_option maxHeartbeats 800000 in
theorem without_any (a : Option Addr) (n c : Nat) (xs : List Int) (x : Int) (w : World) (h : Ints w a n c xs) (h1 : 1 ≤ n) (hn : n ≤ 64) :
    Calls Try.prog 28 #[.slice a n c, .int .i64 x] w (RetL w (lessL xs x)) := by
  have hl := Lib.hid h.len
  have HB0 : Hid (Below w.heap.size w (w.alloc (.cells #[.int .i64 x] 2))) := (Below.refl _ _).alloc (Nat.le_refl _) _
  have HC := Lib.hid (cloneI64_any a n c xs _ (h.mono HB0.out) (by omega))
  have x0 : (w.alloc (.cells #[.int .i64 x] 2)).cell? ⟨w.heap.size, 0, none⟩ = some (.int .i64 x) := by simp
  have hs0 : (w.alloc (.cells #[.int .i64 x] 2)).heap.size = w.heap.size + 1 := by simp
  have HX0 := Lib.hid x0
  have HS0 := Lib.hid hs0
  clear h x0 hs0
  go_enter Try.func28, Try.ntmps28
  go_wp2_with (fail)
  refine HC.out.mono ?_
  rintro e w1 ⟨ca, cc, rfl, hb1, ho1⟩
  obtain ⟨g, rfl⟩ := own_some ho1 (by omega)
  have hg := own_block ho1
  have hgs : w.heap.size + 1 ≤ g := by rw [← HS0.out]; exact hg.1
  have y0 := cell_on hb1 HX0.out
  have hcap : n ≤ cc ∧ cc ≤ 9223372036854775807 := by have := Rd.own ho1; exact ⟨this.2.1, this.2.2.1⟩
  have C := Try.slices_DeleteFunc (Value.int .i64) (fun _ => rfl) (fun y => y == x) 41 #[.pointer (some ⟨w.heap.size, 0, none⟩)] (enters_of Try.func41 (by kernel_rfl) rfl) 0 (by intro w; exact Try.zeroValue2 w) g 0 cc xs.toArray w1
    (fun W y hW => (without1_any x y w.heap.size W (cell_on hW y0)).mono fun e w' ⟨he, hw⟩ => ⟨he, 0, hw ▸ rfl⟩)
    (fun q os dk y hd => (without1_any x y w.heap.size _ (by
      unfold sortWorld
      rw [cell?_grow _ _ _ (by rw [size_putRow]; show w.heap.size < w1.heap.size; omega), cell?_putRow_other _ _ _ _ _ _ (.inl (by show w.heap.size ≠ g; omega))]
      exact y0)).mono fun e w' ⟨he, hw⟩ => ⟨he, 0, hw ▸ rfl⟩)
    (own_holds ho1) (by simp [hl.out]; omega) (by simp [hl.out]; omega)
  have hfl : (lessL xs x).length ≤ n := by have := lessL_len xs x; rw [hl.out] at this; exact this
  have C2 : Calls Try.prog 40 #[.slice (some ⟨g, 0, none⟩) n cc, .func (.func 41) #[] #[.pointer (some ⟨w.heap.size, 0, none⟩)]] w1 fun e w' =>
      e = .returned (.slice (some ⟨g, 0, none⟩) (lessL xs x).length cc) ∧ Chg g (g + 1) w1 w' ∧ w'.ownsRow (w.alloc (.cells #[.int .i64 x] 2)).heap.size 2 1 (.slice (some ⟨g, 0, none⟩) (lessL xs x).length cc) (lessL xs x).length (intCells (lessL xs x)) := by
    have e0 : xs.toArray.size = n := by simp [hl.out]
    rw [e0] at C
    refine C.mono ?_
    rintro e w' ⟨rfl, q, rfl⟩
    have hly : (lessL xs x ++ List.replicate (n - (lessL xs x).length) (0 : Int)).length = n := by simp; omega
    have h2 := own_putRow ho1 q (ys := lessL xs x ++ List.replicate (n - (lessL xs x).length) (0 : Int)) hly
    have h3 := own_shrink h2 hfl
    rw [List.take_left'  rfl] at h3
    have c3 := Chg.putRow (Value.int .i64) (Sort.ahead w1 q) g 0 (lessL xs x ++ List.replicate (n - (lessL xs x).length) (0 : Int)).toArray
    exact ⟨rfl, ⟨rfl, rfl, rfl, by simp, c3.block⟩, h3⟩
  have HC2 := Lib.hid C2
  have HB1 := Lib.hid (HB0.out.trans (hb1.mono HB0.out.size))
  clear C C2 hb1 ho1 y0
  go_wp2_with (fail)
  refine HC2.out.mono ?_
  rintro e w2 ⟨rfl, hc2, ho2⟩
  have HB2 := Lib.hid (below_chg HB1.out HB1.out.size (by omega) hc2)
  have HO2 := Lib.hid (ownsRow_low ho2 HB0.out.size)
  clear hc2 ho2
  go_wp2
  go_ret
  exact ⟨_, _, _, rfl, HB2.out, HO2.out⟩

end Go.Proofs.Ytgldfmkjnggedaa
