/- The law FnTricks: what the calls tell of two hands. -/
import Derived.Test.YtgldfmkjnggedaaFTricksC
namespace Go.Proofs.Ytgldfmkjnggedaa
open Go.RowKit
set_option linter.unusedVariables false

theorem tricks_all (w : World) (g1 d1 g2 d2 n : Nat) (M T : List Int) (t : Int) (b : Bool) (h1 : Ints w (some ⟨g1, 0, none⟩) n d1 M) (h2 : Ints w (some ⟨g2, 0, none⟩) n d2 T) (h : TwoH n M T) (hn1 : 1 ≤ n) (hn4 : n ≤ 4) (ht : -1 ≤ t ∧ t ≤ 3) :
    ∃ (B LD LE WY : Int) (L : List Int), (0 ≤ B ∧ B ≤ n) ∧ L.length = 2 * n ∧ 1 ≤ WY ∧ B = valF t n b M T ∧ L = lineS t n b M T ∧
      Hid (∀ W, Below w.heap.size w W → Calls Try.prog 7 #[.slice (some ⟨g1, 0, none⟩) n d1, .slice (some ⟨g2, 0, none⟩) n d2, .bool b, .int .i64 t] W (Ret W (.tuple #[.int .i64 B, .bool true]))) ∧
      Hid (∀ W, Below w.heap.size w W → Calls Try.prog 7 #[.slice (some ⟨g2, 0, none⟩) n d2, .slice (some ⟨g1, 0, none⟩) n d1, .bool (!b), .int .i64 t] W (Ret W (.tuple #[.int .i64 ((n : Int) - B), .bool true]))) ∧
      Hid (∀ W, Below w.heap.size w W → Calls Try.prog 8 #[.slice (some ⟨g1, 0, none⟩) n d1, .slice (some ⟨g2, 0, none⟩) n d2, .bool b, .int .i64 t] W (Ret W (.tuple #[.int .i64 (L.getD 0 0), .bool true]))) ∧
      Hid (∀ W, Below w.heap.size w W → Calls Try.prog 9 #[.slice (some ⟨g1, 0, none⟩) n d1, .slice (some ⟨g2, 0, none⟩) n d2, .bool b, .int .i64 t] W (fun e w' => ∃ g c, e = .returned (.tuple #[.slice (some ⟨g, 0, none⟩) (2 * n) c, .bool true]) ∧ Below W.heap.size W w' ∧ Ints w' (some ⟨g, 0, none⟩) (2 * n) c L)) ∧
      Hid (∀ W, Below w.heap.size w W → Calls Try.prog 7 #[.slice (some ⟨g1, 0, none⟩) n d1, .slice (some ⟨g2, 0, none⟩) n d2, .bool true, .int .i64 t] W (Ret W (.tuple #[.int .i64 LD, .bool true]))) ∧
      Hid (∀ W, Below w.heap.size w W → Calls Try.prog 11 #[.slice (some ⟨g1, 0, none⟩) n d1, .slice (some ⟨g2, 0, none⟩) n d2] W (Ret W (.bool true))) ∧
      Hid (∀ W, Below w.heap.size w W → Calls Try.prog 16 #[.slice (some ⟨g1, 0, none⟩) n d1, .slice (some ⟨g2, 0, none⟩) n d2] W (Ret W (.tuple #[.int .i64 WY, .bool true]))) ∧
      Hid (∀ W E, Below w.heap.size w W → ∀ wk : Int, 1 ≤ wk ∧ wk ≤ 8 → Calls Try.prog 10 #[.slice (some ⟨W.heap.size, 0, none⟩) 2 2, .slice (some ⟨W.heap.size + 1, 0, none⟩) 2 2, .int .i64 t, .int .i64 wk] ((W.alloc (.cells #[.slice (some ⟨g1, 0, none⟩) n d1, .slice (some ⟨g2, 0, none⟩) n d2] E)).alloc (.cells #[.slice (some ⟨g2, 0, none⟩) n d2, .slice (some ⟨g1, 0, none⟩) n d1] E)) (fun e w' => ∃ g c, e = .returned (.tuple #[.slice (some ⟨g, 0, none⟩) 2 c, .bool true]) ∧ Below W.heap.size W w' ∧ Ints w' (some ⟨g, 0, none⟩) 2 c [LD, LE])) := by
  have hn : n ≤ 6 := by omega
  obtain ⟨e1, e2, e3, e4, e5, hbd, hLl⟩ := tells hn1 hn h ht b
  have hwF := waysF_pos n M T h.m h.t
  have hlr : linesRes M T = (waysF n M T, true) := by unfold linesRes; rw [if_pos ⟨h.hands (by omega), by rw [h.m.len]; omega⟩, h.m.len]
  refine ⟨valF t n b M T, bestF t n M T, bestF t n T M, waysF n M T, lineS t n b M T, hbd, hLl, hwF, rfl, rfl, ?_, ?_, ?_, ?_, ?_, ?_, ?_, ?_⟩
  · intro W hW
    have := implTrickBest_any ⟨g1, 0, none⟩ n d1 M ⟨g2, 0, none⟩ n d2 T b t W (h1.mono hW) (h2.mono hW)
    rw [e1] at this
    exact this
  · intro W hW
    have := implTrickBest_any ⟨g2, 0, none⟩ n d2 T ⟨g1, 0, none⟩ n d1 M (!b) t W (h2.mono hW) (h1.mono hW)
    rw [e2] at this
    exact this
  · intro W hW
    have := implTrickCard_any ⟨g1, 0, none⟩ n d1 M ⟨g2, 0, none⟩ n d2 T b t W (h1.mono hW) (h2.mono hW)
    rw [e4] at this
    exact this
  · intro W hW
    have := implTrickLine_any ⟨g1, 0, none⟩ n d1 M ⟨g2, 0, none⟩ n d2 T b t W (h1.mono hW) (h2.mono hW)
    rw [e3] at this
    refine this.mono ?_
    rintro e w' ⟨a, m, c, rfl, hb, ho⟩
    obtain rfl : m = 2 * n := by have := Ints.len (show Ints w' a m c (lineS t n b M T) from Rd.own ho); rw [hLl] at this; omega
    obtain ⟨g, rfl⟩ := own_at0 ho (by omega)
    exact ⟨g, c, rfl, hb, Rd.own ho⟩
  · intro W hW
    have := implTrickBest_any ⟨g1, 0, none⟩ n d1 M ⟨g2, 0, none⟩ n d2 T true t W (h1.mono hW) (h2.mono hW)
    rw [e5] at this
    exact this
  · intro W hW
    have := AreHands_any ⟨g1, 0, none⟩ n d1 M ⟨g2, 0, none⟩ n d2 T W (h1.mono hW) (h2.mono hW)
    rw [h.hands (by omega)] at this
    exact this
  · intro W hW
    have := implCountLines_any ⟨g1, 0, none⟩ n d1 M ⟨g2, 0, none⟩ n d2 T W (h1.mono hW) (h2.mono hW)
    rw [hlr] at this
    exact this
  · intro W E hW wk hwk
    have k1 := two_ss W (some ⟨g1, 0, none⟩, n, d1) (some ⟨g2, 0, none⟩, n, d2) E M T (h1.mono hW) (h2.mono hW)
    have b1 : Below W.heap.size W (W.alloc (.cells #[.slice (some ⟨g1, 0, none⟩) n d1, .slice (some ⟨g2, 0, none⟩) n d2] E)) := (Below.refl _ _).alloc (Nat.le_refl _) _
    have k2 := two_ss (W.alloc (.cells #[.slice (some ⟨g1, 0, none⟩) n d1, .slice (some ⟨g2, 0, none⟩) n d2] E)) (some ⟨g2, 0, none⟩, n, d2) (some ⟨g1, 0, none⟩, n, d1) E T M ((h2.mono hW).mono b1) ((h1.mono hW).mono b1)
    have b2 : Below (W.heap.size + 1) (W.alloc (.cells #[.slice (some ⟨g1, 0, none⟩) n d1, .slice (some ⟨g2, 0, none⟩) n d2] E)) ((W.alloc (.cells #[.slice (some ⟨g1, 0, none⟩) n d1, .slice (some ⟨g2, 0, none⟩) n d2] E)).alloc (.cells #[.slice (some ⟨g2, 0, none⟩) n d2, .slice (some ⟨g1, 0, none⟩) n d1] E)) := (Below.refl _ _).alloc (Nat.le_of_eq (by simp)) _
    have b3 : Below W.heap.size W ((W.alloc (.cells #[.slice (some ⟨g1, 0, none⟩) n d1, .slice (some ⟨g2, 0, none⟩) n d2] E)).alloc (.cells #[.slice (some ⟨g2, 0, none⟩) n d2, .slice (some ⟨g1, 0, none⟩) n d1] E)) := b1.alloc (by simp) _
    have := implBestsShared_any _ 2 2 _ _ _ 2 2 _ _ t wk _ (k1.mono (b2.mono (by simp))) k2 (fun i hi => by
      match i, hi with
      | 0, _ => exact ⟨_, rfl⟩
      | 1, _ => exact ⟨_, rfl⟩) (fun i hi => by
      match i, hi with
      | 0, _ => exact ⟨_, rfl⟩
      | 1, _ => exact ⟨_, rfl⟩)
    have es : (W.alloc (.cells #[.slice (some ⟨g1, 0, none⟩) n d1, .slice (some ⟨g2, 0, none⟩) n d2] E)).heap.size = W.heap.size + 1 := by simp
    rw [shares hn h ht hwk, es] at this
    clear k1 k2 b1 b2
    generalize ((W.alloc (.cells #[.slice (some ⟨g1, 0, none⟩) n d1, .slice (some ⟨g2, 0, none⟩) n d2] E)).alloc (.cells #[.slice (some ⟨g2, 0, none⟩) n d2, .slice (some ⟨g1, 0, none⟩) n d1] E)) = W2 at *
    have sz := b3.size
    clear es
    refine this.mono ?_
    rintro e w' ⟨a, m, c, rfl, hb, ho⟩
    obtain rfl : m = 2 := by have := Ints.len (show Ints w' a m c [bestF t n M T, bestF t n T M] from Rd.own ho); simpa using this.symm
    obtain ⟨g, rfl⟩ := own_at0 ho (by omega)
    exact ⟨g, c, rfl, b3.trans (hb.mono sz), Rd.own ho⟩

end Go.Proofs.Ytgldfmkjnggedaa
