/- StoreSaved of both. -/
import Derived.Test.YtnoageckldilnaaDoorStoC
namespace Go.Proofs.YtnoageckldilnaaDoor
open Go.RowKit
set_option linter.unusedVariables false

/-- what is stored, and whether it is -/
def storeR (nm : ByteArray) (x0 : List Int) (xss : List (List Int)) : ByteArray × Bool := if okSaved nm x0 xss = true then (ofL (storeL nm x0 xss), true) else (⟨#[]⟩, false)

theorem specStoreSaved_any (nm : ByteArray) (a0 : Option Addr) (n0 c0 : Nat) (x0 : List Int) (a1 : Option Addr) (n1 c1 : Nat) (ss : List Spot) (xss : List (List Int)) (w : World)
    (h0 : Ints w a0 n0 c0 x0) (h1 : IntSS w a1 n1 c1 ss xss) (hn : nm.size ≤ 1048576) :
    Calls Tryd.prog 14 #[.agg #[.string nm, .slice a0 n0 c0, .slice a1 n1 c1]] w (Ret w (.tuple #[.string (storeR nm x0 xss).1, .bool (storeR nm x0 xss).2])) := by
  have hB : Below w.heap.size w (w.alloc (.cells #[.string nm, .slice a0 n0 c0, .slice a1 n1 c1] 30)) := (Below.refl w.heap.size w).alloc (Nat.le_refl _) _
  have hS : SavAt (w.alloc (.cells #[.string nm, .slice a0 n0 c0, .slice a1 n1 c1] 30)) w.heap.size 0 nm a0 n0 c0 a1 n1 c1 := ⟨by go_simp, by go_simp, by go_simp⟩
  have C := Lib.hid (l07Saved_any w.heap.size 0 nm a0 n0 c0 x0 a1 n1 c1 ss xss _ hS (h0.mono hB) (h1.mono hB) hn)
  by_cases hok : okSaved nm x0 xss = true
  · have HR : Hid (storeR nm x0 xss = (ofL (storeL nm x0 xss), true)) := if_pos hok
    have C2 : Hid (∀ W, Below w.heap.size w W → SavAt W w.heap.size 0 nm a0 n0 c0 a1 n1 c1 → Calls Tryd.prog 43 #[.pointer (some ⟨w.heap.size, 0, none⟩)] W (Ret W (.string (ofL (storeL nm x0 xss))))) := fun W hW hs => l07Store_any _ _ _ _ _ _ _ _ _ _ _ _ W hs (h0.mono hW) (h1.mono hW) hok
    have HS := Lib.hid hS
    rw [hok] at C
    clear hS h0 h1 hok
    generalize ofL (storeL nm x0 xss) = s at *
    generalize storeR nm x0 xss = R at *
    go_enter Tryd.func14, Tryd.ntmps14
    go_wp2_with (fail)
    refine C.out.mono ?_
    rintro e w1 ⟨rfl, hq1⟩
    have HS1 := Lib.hid (HS.out.on hq1.b)
    have HB1 := hB.trans (hq1.b.mono hB.size)
    clear hq1
    go_wp2_with (fail)
    refine (C2.out _ HB1 HS1.out).mono ?_
    rintro e w2 ⟨rfl, hb2⟩
    have HB2 := HB1.trans (hb2.mono HB1.size)
    clear hb2
    go_wp2
    go_ret2
    exact ⟨by rw [HR.out]; rfl, HB2⟩
  · have HR : Hid (storeR nm x0 xss = (⟨#[]⟩, false)) := if_neg hok
    rw [Bool.not_eq_true] at hok
    rw [hok] at C
    clear hS h0 h1 hok
    generalize storeR nm x0 xss = R at *
    go_enter Tryd.func14, Tryd.ntmps14
    go_wp2_with (fail)
    refine C.out.mono ?_
    rintro e w1 ⟨rfl, hq1⟩
    have HB1 := hB.trans (hq1.b.mono hB.size)
    clear hq1
    go_wp2
    go_ret2
    exact ⟨by rw [HR.out]; rfl, HB1⟩

theorem implStoreSaved_any (nm : ByteArray) (a0 : Option Addr) (n0 c0 : Nat) (x0 : List Int) (a1 : Option Addr) (n1 c1 : Nat) (ss : List Spot) (xss : List (List Int)) (w : World)
    (h0 : Ints w a0 n0 c0 x0) (h1 : IntSS w a1 n1 c1 ss xss) (hn : nm.size ≤ 1048576) :
    Calls Tryd.prog 15 #[.agg #[.string nm, .slice a0 n0 c0, .slice a1 n1 c1]] w (Ret w (.tuple #[.string (storeR nm x0 xss).1, .bool (storeR nm x0 xss).2])) := by
  have hB : Below w.heap.size w (w.alloc (.cells #[.string nm, .slice a0 n0 c0, .slice a1 n1 c1] 30)) := (Below.refl w.heap.size w).alloc (Nat.le_refl _) _
  have hS : SavAt (w.alloc (.cells #[.string nm, .slice a0 n0 c0, .slice a1 n1 c1] 30)) w.heap.size 0 nm a0 n0 c0 a1 n1 c1 := ⟨by go_simp, by go_simp, by go_simp⟩
  have C := Lib.hid (implValidSaved_any nm a0 n0 c0 x0 a1 n1 c1 ss xss _ (h0.mono hB) (h1.mono hB) hn)
  by_cases hok : okSaved nm x0 xss = true
  · have HR : Hid (storeR nm x0 xss = (ofL (storeL nm x0 xss), true)) := if_pos hok
    have C2 : Hid (∀ W, Below w.heap.size w W → Calls Tryd.prog 44 #[.agg #[.string nm, .slice a0 n0 c0, .slice a1 n1 c1]] W (Ret W (.string (ofL (storeL nm x0 xss))))) := fun W hW => store_any _ _ _ _ _ _ _ _ _ _ W (h0.mono hW) (h1.mono hW) hok
    have HS := Lib.hid hS
    rw [hok] at C
    clear hS h0 h1 hok
    generalize ofL (storeL nm x0 xss) = s at *
    generalize storeR nm x0 xss = R at *
    go_enter Tryd.func15, Tryd.ntmps15
    go_wp2_with (fail)
    refine C.out.mono ?_
    rintro e w1 ⟨rfl, hb1⟩
    have HS1 := HS.out.on hb1
    have g0 := HS1.nm
    have g1 := HS1.deck
    have g2 := HS1.dice
    rw [Nat.zero_add] at g1 g2
    have HB1 := hB.trans (hb1.mono hB.size)
    clear hb1 HS1
    go_wp2_with (fail)
    refine (C2.out _ HB1).mono ?_
    rintro e w2 ⟨rfl, hb2⟩
    have HB2 := HB1.trans (hb2.mono HB1.size)
    clear hb2
    go_wp2
    go_ret2
    exact ⟨by rw [HR.out]; rfl, HB2⟩
  · have HR : Hid (storeR nm x0 xss = (⟨#[]⟩, false)) := if_neg hok
    rw [Bool.not_eq_true] at hok
    rw [hok] at C
    clear hS h0 h1 hok
    generalize storeR nm x0 xss = R at *
    go_enter Tryd.func15, Tryd.ntmps15
    go_wp2_with (fail)
    refine C.out.mono ?_
    rintro e w1 ⟨rfl, hb1⟩
    have HB1 := hB.trans (hb1.mono hB.size)
    clear hb1
    go_wp2
    go_ret2
    exact ⟨by rw [HR.out]; rfl, HB1⟩

end Go.Proofs.YtnoageckldilnaaDoor
