/- The law FnTricks: WinsTrick, pairs of hands. -/
import Derived.Test.YtgldfmkjnggedaaFTricksB
import Derived.Test.YtgldfmkjnggedaaTrickL
import Derived.Test.YtgldfmkjnggedaaLawA
namespace Go.Proofs.Ytgldfmkjnggedaa
open Go.RowKit
set_option linter.unusedVariables false

theorem two_ss (W : World) (s1 s2 : Spot) (E : TypeId) (M T : List Int) (h1 : Ints W s1.1 s1.2.1 s1.2.2 M) (h2 : Ints W s2.1 s2.2.1 s2.2.2 T) : IntSS (W.alloc (.cells #[.slice s1.1 s1.2.1 s1.2.2, .slice s2.1 s2.2.1 s2.2.2] E)) (some ⟨W.heap.size, 0, none⟩) 2 2 [s1, s2] [M, T] := by
  have hb : Below W.heap.size W (W.alloc (.cells #[.slice s1.1 s1.2.1 s1.2.2, .slice s2.1 s2.2.1 s2.2.2] E)) := (Below.refl _ _).alloc (Nat.le_refl _) _
  refine ⟨⟨rfl, Nat.le_refl _, by omega, .inr ⟨W.heap.size, 0, rfl, by simp, fun j hj => ?_⟩⟩, rfl, fun i hi => ?_⟩
  · match j, hj with
    | 0, _ => simp [spotCells, spotV]
    | 1, _ => simp [spotCells, spotV]
  · match i, hi with
    | 0, _ => exact h1.mono hb
    | 1, _ => exact h2.mono hb
theorem drop_two {L R : List Int} {m : Nat} {c a : Int} (h : c :: a :: R = L.drop m) : L.getD m 0 = c ∧ L.getD (m + 1) 0 = a ∧ R = L.drop (m + 2) ∧ m + 1 < L.length := by
  have hl : (L.drop m).length = R.length + 2 := by rw [← h]; rfl
  rw [List.length_drop] at hl
  have h0 : L.drop m = L[m] :: L.drop (m + 1) := List.drop_eq_getElem_cons (by omega)
  have h1 : L.drop (m + 1) = L[m + 1] :: L.drop (m + 2) := List.drop_eq_getElem_cons (by omega)
  rw [h0, h1] at h
  simp only [List.cons.injEq] at h
  refine ⟨?_, ?_, h.2.2, by omega⟩
  · rw [List.getD_eq_getElem?_getD, List.getElem?_eq_getElem (by omega)]; exact h.1.symm
  · rw [List.getD_eq_getElem?_getD, List.getElem?_eq_getElem (by omega)]; exact h.2.1.symm

set_option maxHeartbeats 1600000 in
set_option maxRecDepth 100000 in
theorem WinsTrick_any (x y t : Int) (w : World) (hx : 0 ≤ x ∧ x ≤ 51) (hy : 0 ≤ y ∧ y ≤ 51) (hne : x ≠ y) (ht : -1 ≤ t ∧ t ≤ 3) :
    Calls Try.prog 14 #[.int .i64 x, .int .i64 y, .int .i64 t] w (Ret w (.tuple #[.bool (winsL x y t), .bool true])) := by
  have hI : Ints (w.alloc (.cells #[.int .i64 x, .int .i64 y] 2)) (some ⟨w.heap.size, 0, none⟩) 2 2 [x, y] := ⟨rfl, Nat.le_refl _, by omega, .inr ⟨w.heap.size, 0, rfl, by simp, fun j hj => by
    match j, hj with
    | 0, _ => simp [intCells]
    | 1, _ => simp [intCells]⟩⟩
  have HB : Hid (Below w.heap.size w (w.alloc (.cells #[.int .i64 x, .int .i64 y] 2))) := (Below.refl _ _).alloc (Nat.le_refl _) _
  have hok : okCards [x, y] = true := okCards_of (by simpa using hne) (fun z hz => by simp at hz; rcases hz with rfl | rfl <;> assumption)
  have C1 := isHand_any (some ⟨w.heap.size, 0, none⟩) 2 2 [x, y] 2 2 _ hI (by omega) (by omega)
  rw [hok] at C1
  have C1 := Lib.hid C1
  have CI := Lib.hid (fun W => within_any t (-1) 3 W)
  have hin : inB t (-1) 3 = true := (inB_iff _ _ _).2 ht
  rw [hin] at CI
  have CW := Lib.hid (fun W => winsTrick_any x y t W hx hy)
  generalize winsL x y t = r at *
  generalize hW : w.alloc (.cells #[.int .i64 x, .int .i64 y] 2) = w1 at *
  have HW := Lib.hid hW
  clear hW hI hok hin
  go_enter Try.func14, Try.ntmps14
  go_wp2_with (fail)
  rw [HW.out]
  refine C1.out.mono ?_
  rintro e w2 ⟨rfl, rfl⟩
  go_wp2_with (fail)
  refine (CI.out _).mono ?_
  rintro e w3 ⟨rfl, rfl⟩
  go_wp2_with (fail)
  refine (CW.out _).mono ?_
  rintro e w4 ⟨rfl, rfl⟩
  go_wp2
  go_ret2
  exact ⟨rfl, HB.out⟩

end Go.Proofs.Ytgldfmkjnggedaa
