/- Tests that are drawn: spec.B10Tests. -/
import Derived.Test.YtmijfieiebnbfaaDoorRtD
import Derived.Test.YtmijfieiebnbfaaDoorSrc
namespace Go.Proofs.YtmijfieiebnbfaaDoor
open Go.RowKit
set_option linter.unusedVariables false
set_option linter.unusedSimpArgs false

theorem TsC.chg {W W' : World} {tb lo hi : Nat} {F S N : Int} (h : TsC W tb F S N) (hc : Chg lo hi W W') (hd : tb < lo ∨ hi ≤ tb) : TsC W' tb F S N :=
  ⟨hc.cell h.c0 hd, hc.cell h.c1 hd, hc.cell h.c2 hd, fun j => (World.frozen?_of_block (hc.block tb (cell_lt h.c0) hd)).trans (h.fr j)⟩
theorem Chg.of_setT {w : World} {b j : Nat} (v : Value) : Chg b (b + 1) w (w.setCell ⟨b, j, none⟩ v) := (Chg.refl b (b + 1) w).set (p := ⟨b, j, none⟩) v (Nat.le_refl _) (Nat.lt_succ_self _)
theorem ok_draw {x y z : Int} (hx : 0 ≤ x ∧ x < 3) (hy : 0 ≤ y ∧ y < 3) (hz : 0 ≤ z ∧ z < 14) : okTest3 (x, y, z) = true := by
  unfold okTest3 okTest inB
  dsimp only
  rw [decide_eq_true hx.1, decide_eq_true (by omega : x ≤ 2), decide_eq_true hy.1, decide_eq_true (by omega : y ≤ 2), decide_eq_true hz.1, decide_eq_true (by omega : z ≤ 51)]
  rfl
theorem all_snocT {gs : List T3} {y : T3} (h : ∀ g ∈ gs, okTest3 g = true) (h2 : okTest3 y = true) : ∀ g ∈ gs ++ [y], okTest3 g = true := fun g hg => by
  rcases List.mem_append.1 hg with hg | hg
  · exact h g hg
  · rw [List.mem_singleton.1 hg]; exact h2

set_option maxHeartbeats 3200000 in
set_option maxRecDepth 100000 in
theorem b10Tests_any (a : Option Addr) (n c : Nat) (bs : List Int) (w : World) (h : Bytes w a n c bs) (ok : okB bs) :
    Calls Tryd.prog 16 #[.slice a n c] w fun e w' => ∃ g k cc gs, e = .returned (.slice (some ⟨g, 0, none⟩) k cc) ∧ Below w.heap.size w w' ∧ w'.ownsRow (w.heap.size + 1) 38 3 (.slice (some ⟨g, 0, none⟩) k cc) k (tripCells gs) ∧ 1 ≤ k ∧ k ≤ 3 ∧ ∀ g ∈ gs, okTest3 g = true := by
  have C0 := Lib.hid (l00From_any a n c bs w h ok)
  clear h ok
  obtain ⟨i0, hii, hv0, hv1, hv2⟩ := info_parts infoTest
  go_enter Tryd.func16, Tryd.ntmps16
  go_wp2_with (fail)
  refine C0.out.mono ?_
  rintro e w1 ⟨rfl, hb1, hs1⟩
  have hlt1 := hs1.lt
  have hO : (w1.alloc (.cells #[] 38)).ownsRow w1.heap.size 38 3 (.slice (some ⟨w1.heap.size, 0, none⟩) 0 0) 0 (tripCells []) := World.ownsRow_made (e := 38) (size := 3) (base := w1.heap.size) w1 #[] 0 (Nat.le_refl _) (Nat.zero_le _) (by simp [tripCells])
  have HO0 : Hid ((w1.alloc (.cells #[] 38)).ownsRow (w.heap.size + 1) 38 3 (.slice (some ⟨w1.heap.size, 0, none⟩) 0 0) 0 (tripCells [])) := ownsRow_low hO (by omega)
  have HB1 : Hid (Below w.heap.size w (w1.alloc (.cells #[] 38))) := hb1.alloc (by omega) _
  have HS1 : Hid (Src w.heap.size 0 (w1.alloc (.cells #[] 38))) := hs1.on ((Below.refl _ _).alloc (Nat.le_refl _) _)
  clear hO hb1 hs1 C0
  generalize hgs : w.heap.size = gs0 at *
  go_wp2_with (fail)
  generalize w1.alloc (.cells #[] 38) = w2 at *
  refine (pick_any gs0 0 3 w2 HS1.out (by omega) (by omega) (by omega)).mono ?_
  rintro e w3 ⟨N, rfl, hN0, hN1, hc3, hs3⟩
  obtain ⟨N, rfl⟩ : ∃ q : Nat, N = q := ⟨N.toNat, by omega⟩
  have HS3 := Lib.hid (hs3.more (show 0 + 1 ≤ 100 - 10 * (N + 1) by omega))
  have HO3 := Lib.hid (own_chg HO0.out hc3 (own_in HO0.out) (.inr (Nat.le_refl _)))
  have HB3 := Lib.hid (below_chg HB1.out (by have := HB1.out.size; omega) (Nat.le_refl _) hc3)
  have hwN : IntKind.i64.wrap (1 + (N : Int)) = ((N + 1 : Nat) : Int) := by rw [IntWalk.i64_in _ (by omega)]; omega
  clear hc3 hs3 HB1 HS1 HO0
  go_wp2
  go_loopw [4, 5] (fun vo vn wr => ∃ (i m g cc : Nat) (gs : List T3), i + m = N + 1 ∧ vn = .int .i64 i ∧ vo = .slice (some ⟨g, 0, none⟩) m cc ∧ Src gs0 (100 - 10 * i) wr ∧ wr.ownsRow (gs0 + 1) 38 3 (.slice (some ⟨g, 0, none⟩) m cc) m (tripCells gs) ∧ Below gs0 w wr ∧ Hid (∀ g ∈ gs, okTest3 g = true)) (fun _ vn _ => (intOf vn).toNat)
  case atStart => exact ⟨N + 1, 0, w1.heap.size, 0, [], by omega, by go_num, rfl, HS3.out, HO3.out, HB3.out, fun x hx => (by cases hx)⟩
  case round =>
    obtain ⟨i, m, g, cc, gs, him, rfl, rfl, hs, ho, hb, HAll⟩ := hrel
    have HS := Lib.hid hs
    have HO := Lib.hid ho
    have HB := Lib.hid hb
    have hsz := hb.size
    have hgl := hs.lt
    clear hs ho hb HS3 HO3 HB3
    by_cases hi0 : 0 < i
    · have hw1 : IntKind.i64.wrap ((i : Int) - 1) = ((i - 1 : Nat) : Int) := by rw [IntWalk.i64_in _ (by omega)]; omega
      go_wp2_with (fail)
      refine (pick_any gs0 _ 3 wr HS.out (by omega) (by omega) (by omega)).mono ?_
      rintro e w4 ⟨x, rfl, hx0, hx1, hc4, hs4⟩
      have hz4 := hc4.size
      have HT4 := Lib.hid (TsC.new w4 x 0 0)
      have hbT : Below w4.heap.size w4 (w4.alloc (.cells #[.int .i64 x, .int .i64 0, .int .i64 0] 38)) := (Below.refl _ _).alloc (Nat.le_refl _) _
      have HS4 := Lib.hid (hs4.on hbT)
      have HC4 : Hid (Chg gs0 (gs0 + 1) wr (w4.alloc (.cells #[.int .i64 x, .int .i64 0, .int .i64 0] 38))) := hc4.trans (Chg.of_below hbT (Nat.le_refl _))
      have hzT : (w4.alloc (.cells #[.int .i64 x, .int .i64 0, .int .i64 0] 38)).heap.size = w4.heap.size + 1 := by simp
      clear hc4 hs4 hbT HS
      go_wp2_with (fail)
      generalize w4.alloc (.cells #[.int .i64 x, .int .i64 0, .int .i64 0] 38) = w5 at *
      refine (pick_any gs0 _ 3 w5 HS4.out (by omega) (by omega) (by omega)).mono ?_
      rintro e w6 ⟨y, rfl, hy0, hy1, hc6, hs6⟩
      have HT6 := Lib.hid (HT4.out.chg hc6 (.inr (by omega)))
      have t1 := HT6.out.c1
      have tf := HT6.out.fr
      have HT7 := Lib.hid (HT6.out.set1 y)
      have hset : Chg w4.heap.size (w4.heap.size + 1) w6 (w6.setCell ⟨w4.heap.size, 1, none⟩ (.int .i64 y)) := Chg.of_setT _
      have HS7 := Lib.hid (hs6.chg hset (by omega))
      have HC7 : Hid (Chg gs0 (gs0 + 1) wr (w6.setCell ⟨w4.heap.size, 1, none⟩ (.int .i64 y))) := (HC4.out.trans hc6).setNewS _ (by dsimp only; omega)
      have hz7 : (w6.setCell ⟨w4.heap.size, 1, none⟩ (.int .i64 y)).heap.size = w6.heap.size := by simp
      have hz6 := hc6.size
      clear hc6 hs6 hset HT4 HT6 HC4 HS4
      go_wp2_with (fail)
      clear t1 tf
      generalize w6.setCell ⟨w4.heap.size, 1, none⟩ (.int .i64 y) = w7 at *
      refine (pick_any gs0 _ 14 w7 HS7.out (by omega) (by omega) (by omega)).mono ?_
      rintro e w8 ⟨z, rfl, hzz0, hzz1, hc8, hs8⟩
      have HT8 := Lib.hid (HT7.out.chg hc8 (.inr (by omega)))
      have t0 := HT8.out.c0
      have t1 := HT8.out.c1
      have t2 := HT8.out.c2
      have tf := HT8.out.fr
      have HT9 := Lib.hid (HT8.out.set2 z)
      have hset : Chg w4.heap.size (w4.heap.size + 1) w8 (w8.setCell ⟨w4.heap.size, 2, none⟩ (.int .i64 z)) := Chg.of_setT _
      have HS9 := Lib.hid (hs8.chg hset (by omega))
      have HC9 : Hid (Chg gs0 (gs0 + 1) wr (w8.setCell ⟨w4.heap.size, 2, none⟩ (.int .i64 z))) := (HC7.out.trans hc8).setNewS _ (by dsimp only; omega)
      clear hc8 hs8 hset HT7 HT8 HC7 HS7
      have hzS : (w8.setCell ⟨w4.heap.size, 2, none⟩ (.int .i64 z)).heap.size = w8.heap.size := by simp
      have HO9 := Lib.hid (own_chg HO.out HC9.out (own_in HO.out) (.inr (Nat.le_refl _)))
      have HB9 := Lib.hid (below_chg HB.out (by omega) (Nat.le_refl _) HC9.out)
      have hz9 := HC9.out.size
      have HN3 : Hid (∀ j q, [Value.int .i64 x, .int .i64 y, .int .i64 z][j]? = some q → ((w8.setCell ⟨w4.heap.size, 2, none⟩ (.int .i64 z)).alloc (.cells #[.int .i64 x, .int .i64 y, .int .i64 z] 38)).cell? ((⟨w8.heap.size, 0, none⟩ : Addr).add j) = some q) := by
        have := newT (w8.setCell ⟨w4.heap.size, 2, none⟩ (.int .i64 z)) (.int .i64 x) (.int .i64 y) (.int .i64 z) 38
        rw [hzS] at this
        exact this
      have HTr : Hid (tripCells (gs ++ [(x, y, z)]) = tripCells gs ++ [.int .i64 x, .int .i64 y, .int .i64 z]) := tripSnoc _ _ _ _
      have HOk := Lib.hid (all_snocT HAll.out (ok_draw ⟨hx0, hx1⟩ ⟨hy0, hy1⟩ ⟨hzz0, hzz1⟩))
      clear HC9 HO HB HT9
      go_wp2_with (at_builtin; go_must (refine wpList_append_lies _ rfl _ _ 26 rfl (gs0 + 1) 38 i0 _ 3 24 Tryd.underlying26 hii hv0 hv1 hv2 rfl (by omega) (.slice (some ⟨g, 0, none⟩) m cc) m (tripCells gs) rfl (HO9.out.alloc _) ⟨w8.heap.size, 0, none⟩ 1 1 [.int .i64 x, .int .i64 y, .int .i64 z] rfl rfl HN3.out (oneT rfl rfl rfl) (by omega) (by unfold maxLen; omega) (by omega) (by simp; omega) (w8.heap.size + 1) (by simp) ?_); intro gg cap w10 hown1 hg1 hat hlt10; go_must (have HBn := Lib.hid (below_app HB9.out (by omega) hg1 (ownsRow_low HO9.out (by omega)))); go_must (have HSn := Lib.hid ((HS9.out.on ((Below.refl _ _).alloc (Nat.le_refl _) _)).chg (Chg.of_grown (n := m) (c := cc) (own_in HO9.out) hg1) (Nat.lt_succ_self _))); go_must (have HOn : Hid (w10.ownsRow (gs0 + 1) 38 3 (.slice (some ⟨gg, 0, none⟩) (m + 1) cap) (m + 1) (tripCells (gs ++ [(x, y, z)]))) := (by show w10.ownsRow _ _ _ _ _ _; rw [HTr.out]; exact hown1)); clear hown1 hg1 hat t0 t1 t2 tf HN3)
      go_roundw
      case rel => exact ⟨i - 1, m + 1, gg, cap, gs ++ [(x, y, z)], by omega, by first | rfl | go_num, by first | rfl | go_num, HSn.out.more (by omega), HOn.out, HBn.out, HOk.out⟩
      case measure => simp [intOf]; omega
    · obtain rfl : i = 0 := by omega
      go_wp2
      go_ret
      exact ⟨g, m, cc, gs, rfl, hgs.symm ▸ HB.out, hgs.symm ▸ HO.out, by omega, by omega, HAll.out⟩

end Go.Proofs.YtmijfieiebnbfaaDoor
