/- The walks of the laws FnExactAreGames and FnExactSameGames. -/
import Derived.Test.YtafkfegfjjebkaaL7GamesB
import Derived.Test.YtafkfegfjjebkaaSameGames
namespace Go.Proofs.Ytafkfegfjjebkaa
open Go.RowKit

theorem fnExactAreGames_walk (p : Int) (a : Option Addr) (n c : Nat) (gs : List (Int × Int × Int)) (w : World) (_ : (Lit.int .i64 p).wf = true) (_ : (∀ g ∈ gs, (Lit.int .i64 g.1).wf = true ∧ (Lit.int .i64 g.2.1).wf = true ∧ (Lit.int .i64 g.2.2).wf = true)) (h : Trips w a n c gs) :
    Calls Try.prog 5 #[.int .i64 p, .slice a n c] w (Ret w (.bool true)) := by
  have h0 : n ≤ 9223372036854775807 := by have := h.at; omega
  by_cases hn : (n : Int) ≤ 1048576
  · go_enter Try.func5, Try.ntmps5
    have HB := Below.refl w.heap.size w
    go_wp2_with (fail)
    refine (szGameS_ok _ _ _ _ _ h0 hn (by omega)).mono ?_
    rintro e w1 ⟨rfl, rfl⟩
    go_wp2_with (fail)
    refine (toGameS_any _ _ _ _ _ h (by omega)).mono ?_
    rintro e w2 ⟨g2, rfl, hb2, ho2⟩
    replace h := h.mono hb2
    replace HB := HB.trans (hb2.mono HB.size)
    clear hb2
    have t2 : Trips w2 (some ⟨g2, 0, none⟩) n n gs := Rd.own ho2
    clear ho2
    go_wp2_with (fail)
    refine (specAreGames_any _ _ _ _ _ _ t2).mono ?_
    rintro e w3 ⟨rfl, hq3⟩
    have hb3 := hq3.below w2.heap.size
    clear hq3
    replace h := h.mono hb3
    replace HB := HB.trans (hb3.mono HB.size)
    clear hb3
    clear t2
    go_wp2_with (fail)
    refine (toGameS_any _ _ _ _ _ h (by omega)).mono ?_
    rintro e w4 ⟨g4, rfl, hb4, ho4⟩
    replace h := h.mono hb4
    replace HB := HB.trans (hb4.mono HB.size)
    clear hb4
    have t4 : Trips w4 (some ⟨g4, 0, none⟩) n n gs := Rd.own ho4
    clear ho4
    go_wp2_with (fail)
    refine (implAreGames_any _ _ _ _ _ _ t4).mono ?_
    rintro e w5 ⟨rfl, hb5⟩
    replace h := h.mono hb5
    replace t4 := t4.mono hb5
    replace HB := HB.trans (hb5.mono HB.size)
    clear hb5
    generalize okGames p gs = r at *
    go_wp2_with (fail)
    refine (toGameS_any _ _ _ _ _ h (by omega)).mono ?_
    rintro e w6 ⟨g6, rfl, hb6, ho6⟩
    replace h := h.mono hb6
    replace t4 := t4.mono hb6
    replace HB := HB.trans (hb6.mono HB.size)
    clear hb6
    have t6 : Trips w6 (some ⟨g6, 0, none⟩) n n gs := Rd.own ho6
    clear ho6
    go_wp2_with (fail)
    refine (eqGameS_same _ _ _ _ _ _ _ t4 t6).mono ?_
    rintro e w7 ⟨rfl, hb7⟩
    replace h := h.mono hb7
    replace t4 := t4.mono hb7
    replace HB := HB.trans (hb7.mono HB.size)
    clear hb7
    go_wp2
    go_ret
    exact ⟨rfl, HB⟩
  · go_enter Try.func5, Try.ntmps5
    go_wp2_with (fail)
    refine (szGameS_no _ _ _ _ _ h0 (by omega) (by omega) (by omega)).mono ?_
    rintro e w1 ⟨rfl, rfl⟩
    go_wp2
    go_ret
    exact ⟨rfl, Below.refl _ _⟩

theorem fnExactSameGames_walk (a : Option Addr) (n c : Nat) (gs : List (Int × Int × Int)) (a' : Option Addr) (n' c' : Nat) (gs' : List (Int × Int × Int)) (w : World) (_ : (∀ g ∈ gs, (Lit.int .i64 g.1).wf = true ∧ (Lit.int .i64 g.2.1).wf = true ∧ (Lit.int .i64 g.2.2).wf = true)) (h : Trips w a n c gs) (_ : (∀ g ∈ gs', (Lit.int .i64 g.1).wf = true ∧ (Lit.int .i64 g.2.1).wf = true ∧ (Lit.int .i64 g.2.2).wf = true)) (h' : Trips w a' n' c' gs') :
    Calls Try.prog 4 #[.slice a n c, .slice a' n' c'] w (Ret w (.bool true)) := by
  have h0 : n ≤ 9223372036854775807 := by have := h.at; omega
  have h0' : n' ≤ 9223372036854775807 := by have := h'.at; omega
  by_cases hn : (n : Int) ≤ 1048576
  · by_cases hn' : (n' : Int) ≤ 1048576 - n
    · go_enter Try.func4, Try.ntmps4
      have HB := Below.refl w.heap.size w
      go_wp2_with (fail)
      refine (szGameS_ok _ _ _ _ _ h0 hn (by omega)).mono ?_
      rintro e w1 ⟨rfl, rfl⟩
      go_wp2_with (fail)
      refine (szGameS_ok _ _ _ _ _ h0' hn' (by omega)).mono ?_
      rintro e w2 ⟨rfl, rfl⟩
      go_wp2_with (fail)
      refine (toGameS_any _ _ _ _ _ h (by omega)).mono ?_
      rintro e w3 ⟨g3, rfl, hb3, ho3⟩
      replace h := h.mono hb3
      replace h' := h'.mono hb3
      replace HB := HB.trans (hb3.mono HB.size)
      clear hb3
      have t3 : Trips w3 (some ⟨g3, 0, none⟩) n n gs := Rd.own ho3
      clear ho3
      go_wp2_with (fail)
      refine (toGameS_any _ _ _ _ _ h' (by omega)).mono ?_
      rintro e w4 ⟨g4, rfl, hb4, ho4⟩
      replace h := h.mono hb4
      replace h' := h'.mono hb4
      replace t3 := t3.mono hb4
      replace HB := HB.trans (hb4.mono HB.size)
      clear hb4
      have t4 : Trips w4 (some ⟨g4, 0, none⟩) n' n' gs' := Rd.own ho4
      clear ho4
      go_wp2_with (fail)
      refine (specSameGames_any _ _ _ _ _ _ _ _ _ t3 t4).mono ?_
      rintro e w5 ⟨rfl, hq5⟩
      have hb5 := hq5.below w4.heap.size
      clear hq5
      replace h := h.mono hb5
      replace h' := h'.mono hb5
      replace t3 := t3.mono hb5
      replace t4 := t4.mono hb5
      replace HB := HB.trans (hb5.mono HB.size)
      clear hb5
      clear t3
      clear t4
      go_wp2_with (fail)
      refine (toGameS_any _ _ _ _ _ h (by omega)).mono ?_
      rintro e w6 ⟨g6, rfl, hb6, ho6⟩
      replace h := h.mono hb6
      replace h' := h'.mono hb6
      replace HB := HB.trans (hb6.mono HB.size)
      clear hb6
      have t6 : Trips w6 (some ⟨g6, 0, none⟩) n n gs := Rd.own ho6
      clear ho6
      go_wp2_with (fail)
      refine (toGameS_any _ _ _ _ _ h' (by omega)).mono ?_
      rintro e w7 ⟨g7, rfl, hb7, ho7⟩
      replace h := h.mono hb7
      replace h' := h'.mono hb7
      replace t6 := t6.mono hb7
      replace HB := HB.trans (hb7.mono HB.size)
      clear hb7
      have t7 : Trips w7 (some ⟨g7, 0, none⟩) n' n' gs' := Rd.own ho7
      clear ho7
      go_wp2_with (fail)
      refine (implSameGames_any _ _ _ _ _ _ _ _ _ t6 t7).mono ?_
      rintro e w8 ⟨rfl, hq8⟩
      have hb8 := hq8.below w7.heap.size
      clear hq8
      replace h := h.mono hb8
      replace h' := h'.mono hb8
      replace t6 := t6.mono hb8
      replace t7 := t7.mono hb8
      replace HB := HB.trans (hb8.mono HB.size)
      clear hb8
      generalize decide (gs = gs') = r at *
      go_wp2_with (fail)
      refine (toGameS_any _ _ _ _ _ h (by omega)).mono ?_
      rintro e w9 ⟨g9, rfl, hb9, ho9⟩
      replace h := h.mono hb9
      replace h' := h'.mono hb9
      replace t6 := t6.mono hb9
      replace t7 := t7.mono hb9
      replace HB := HB.trans (hb9.mono HB.size)
      clear hb9
      have t9 : Trips w9 (some ⟨g9, 0, none⟩) n n gs := Rd.own ho9
      clear ho9
      go_wp2_with (fail)
      refine (eqGameS_same _ _ _ _ _ _ _ t6 t9).mono ?_
      rintro e w10 ⟨rfl, hb10⟩
      replace h := h.mono hb10
      replace h' := h'.mono hb10
      replace t6 := t6.mono hb10
      replace t7 := t7.mono hb10
      replace t9 := t9.mono hb10
      replace HB := HB.trans (hb10.mono HB.size)
      clear hb10
      go_wp2_with (fail)
      refine (toGameS_any _ _ _ _ _ h' (by omega)).mono ?_
      rintro e w11 ⟨g11, rfl, hb11, ho11⟩
      replace h := h.mono hb11
      replace h' := h'.mono hb11
      replace t6 := t6.mono hb11
      replace t7 := t7.mono hb11
      replace t9 := t9.mono hb11
      replace HB := HB.trans (hb11.mono HB.size)
      clear hb11
      have t11 : Trips w11 (some ⟨g11, 0, none⟩) n' n' gs' := Rd.own ho11
      clear ho11
      go_wp2_with (fail)
      refine (eqGameS_same _ _ _ _ _ _ _ t7 t11).mono ?_
      rintro e w12 ⟨rfl, hb12⟩
      replace h := h.mono hb12
      replace h' := h'.mono hb12
      replace t6 := t6.mono hb12
      replace t7 := t7.mono hb12
      replace t9 := t9.mono hb12
      replace t11 := t11.mono hb12
      replace HB := HB.trans (hb12.mono HB.size)
      clear hb12
      go_wp2
      go_ret
      exact ⟨rfl, HB⟩
    · go_enter Try.func4, Try.ntmps4
      go_wp2_with (fail)
      refine (szGameS_ok _ _ _ _ _ h0 hn (by omega)).mono ?_
      rintro e w1 ⟨rfl, rfl⟩
      go_wp2_with (fail)
      refine (szGameS_no _ _ _ _ _ h0' (by omega) (by omega) (by omega)).mono ?_
      rintro e w1 ⟨rfl, rfl⟩
      go_wp2
      go_ret
      exact ⟨rfl, Below.refl _ _⟩
  · go_enter Try.func4, Try.ntmps4
    go_wp2_with (fail)
    refine (szGameS_no _ _ _ _ _ h0 (by omega) (by omega) (by omega)).mono ?_
    rintro e w1 ⟨rfl, rfl⟩
    go_wp2
    go_ret
    exact ⟨rfl, Below.refl _ _⟩

end Go.Proofs.Ytafkfegfjjebkaa
