/- The law of tiles: R8Tiles. -/
import Derived.Test.YtnagmeeoeilbcaaFTilesC
import Derived.Deep.AppendLies
namespace Go.Proofs.Ytnagmeeoeilbcaa
open Go.RowKit
set_option linter.unusedVariables false

def okT (ts : List (Int × Int)) : Prop := ∀ t ∈ ts, okTile2 t = true
theorem okT.snoc {ts : List (Int × Int)} (h : okT ts) {x y : Int} (h0 : 0 ≤ x) (h1 : x < 4) (h2 : 0 ≤ y) (h3 : y < 4) : okT (ts ++ [(x, y)]) := fun t ht => by
  rcases List.mem_append.1 ht with ht | ht
  · exact h t ht
  · obtain rfl := List.mem_singleton.1 ht
    simp only [okTile2, okTile, Bool.and_eq_true, inB_iff]
    omega
theorem duo_snoc (ts : List (Int × Int)) (x y : Int) : duoCells (ts ++ [(x, y)]) = duoCells ts ++ [.int .i64 x, .int .i64 y] := by simp [duoCells]

set_option maxHeartbeats 3200000 in
set_option maxRecDepth 100000 in
theorem R8Tiles_any (a : Option Addr) (n c : Nat) (bs : List Int) (N : Nat) (w : World) (h : Bytes w a n c bs) (ok : okB bs) (hN : N ≤ 8) : Calls Try.prog 12 #[.slice a n c, .int .i64 N] w fun e w' => ∃ g' c ts, e = .returned (.slice g' N c) ∧ Below w.heap.size w w' ∧ w'.ownsRow w.heap.size 44 2 (.slice g' N c) N (duoCells ts) ∧ ts.length = N ∧ okT ts := by
  have C := Lib.hid (l00From_any a n c bs w h ok)
  clear h ok
  obtain ⟨i0, hi, hz0, hz1, hz2⟩ := info_parts infoTile
  go_enter Try.func12, Try.ntmps12
  go_wp2_with (fail)
  refine C.out.mono ?_
  rintro e w1 ⟨rfl, hb, hs⟩
  have HB1 := Lib.hid hb
  have hsz := hb.size
  have hgB : w.heap.size < w1.heap.size := hs.lt
  have HA : Hid (Below w1.heap.size w1 (w1.alloc (.cells #[] 44))) := (Below.refl _ _).alloc (Nat.le_refl _) _
  have HS1 := Lib.hid (hs.on HA.out)
  have HBa := Lib.hid (HB1.out.trans (HA.out.mono hsz))
  have HO1 : Hid ((w1.alloc (.cells #[] 44)).ownsRow w1.heap.size 44 2 (.slice (some ⟨w1.heap.size, 0, none⟩) 0 0) 0 (duoCells [])) := World.ownsRow_made (e := 44) (size := 2) (base := w1.heap.size) w1 #[] 0 (by simp) (Nat.zero_le _) (by simp)
  clear hb hs C
  go_wp2
  go_loopw [1, 6] (fun vn vo wr => ∃ (m k : Nat) (ts : List (Int × Int)) (oa : Option Addr) (oc : Nat), m + k = N ∧ ts.length = k ∧ vn = .int .i64 m ∧ vo = .slice oa k oc ∧ wr.ownsRow w1.heap.size 44 2 (.slice oa k oc) k (duoCells ts) ∧ okT ts ∧ Src w.heap.size (2 * k) wr ∧ Below w.heap.size w wr ∧ w1.heap.size ≤ wr.heap.size) (fun vn _ _ => (intOf vn).toNat)
  case atStart => exact ⟨N, 0, [], _, _, rfl, rfl, rfl, rfl, HO1.out, fun t ht => (by cases ht), HS1.out, HBa.out, by simp⟩
  case round =>
    obtain ⟨m, k, ts, oa, oc, hmk, hlt, rfl, rfl, hown, hok, hsrc, hbel, hwr1⟩ := hrel
    have HO := Lib.hid hown
    have HK := Lib.hid hok
    have HB := Lib.hid hbel
    have HLt := Lib.hid hlt
    clear hown hok hbel hlt HS1 HBa HO1
    by_cases hm0 : 0 < m
    · have C3 := Lib.hid (pick_any _ _ 4 wr hsrc (by omega) (by omega) (by omega))
      clear hsrc
      go_wp2_with (fail)
      refine C3.out.mono ?_
      rintro e w2 ⟨x, rfl, hx0, hx1, hc, hs⟩
      have HC2 := Lib.hid hc
      have hs2 := hc.size
      have HO2 := Lib.hid (own_av HO.out hc (av_own HO.out hgB))
      have HS2 := Lib.hid hs
      clear hc hs C3
      have hA2 : Below w2.heap.size w2 (w2.alloc (.cells #[.int .i64 x, .int .i64 0] 44)) := (Below.refl _ _).alloc (Nat.le_refl _) _
      have HS2a := HS2.out.on hA2
      have q0 : (w2.alloc (.cells #[.int .i64 x, .int .i64 0] 44)).cell? ⟨w2.heap.size, 0, none⟩ = some (.int .i64 x) := by simp
      have q1 : (w2.alloc (.cells #[.int .i64 x, .int .i64 0] 44)).cell? ⟨w2.heap.size, 1, none⟩ = some (.int .i64 0) := by simp
      have q2 : (w2.alloc (.cells #[.int .i64 x, .int .i64 0] 44)).frozen? ⟨w2.heap.size, 1, none⟩ = false := by simp
      have HO2a := Lib.hid (ownsRow_below HO2.out hA2)
      have hgw : w.heap.size < w2.heap.size := by omega
      have C4 := Lib.hid (pick_any _ _ 4 _ HS2a (by omega) (by omega) (by omega))
      have HBa : Hid (Below w.heap.size w (w2.alloc (.cells #[.int .i64 x, .int .i64 0] 44))) := (below_chg HB.out HB.out.size (Nat.le_refl _) HC2.out).trans (hA2.mono (by omega))
      generalize hV : w2.alloc (.cells #[.int .i64 x, .int .i64 0] 44) = w3 at *
      have hs3 : w3.heap.size = w2.heap.size + 1 := by rw [← hV]; simp
      have HV := Lib.hid hV
      clear hV hA2 HS2a
      go_wp2_with (fail)
      rw [HV.out]
      refine C4.out.mono ?_
      rintro e w4 ⟨y, rfl, hy0, hy1, hc, hs⟩
      have z0 := hc.cell q0 (.inr (by dsimp only; omega))
      have z1 := hc.cell q1 (.inr (by dsimp only; omega))
      have f1 := (Chg.frozen hc (p := ⟨w2.heap.size, 1, none⟩) (by dsimp only; omega) (.inr (by dsimp only; omega))).trans q2
      have HB4 := Lib.hid (below_chg HBa.out HBa.out.size (Nat.le_refl _) hc)
      have HO4 := Lib.hid (own_av HO2a.out hc (av_own HO2a.out hgB))
      have hs4 := hc.size
      have HS4 : Hid (Src w.heap.size (2 * (k + 1)) w4) := hs
      clear q0 q1 q2 hc hs C4
      have hOl := HO4.out.lt
      have HO5 := Lib.hid (ownsRow_setCell_other (p := ⟨w2.heap.size, 1, none⟩) HO4.out (fun p hp => by
        have := HO2.out.lt p.block (by rw [hp]; rfl)
        dsimp only; omega) (.int .i64 y))
      have HW : Hid (wr.heap.size ≤ w4.heap.size) := by show _ ≤ _; omega
      have HKn := Lib.hid (HK.out.snoc hx0 hx1 hy0 hy1)
      have ht2 : w2.heap.size < w4.heap.size := by omega
      go_wp2_with (first | (at_builtin; go_must (refine wpList_append_lies _ rfl _ _ 34 rfl w1.heap.size 44 i0 _ 2 16 Try.underlying34 hi hz0 hz1 hz2 rfl (by omega) (.slice oa k oc) k (duoCells ts) rfl (ownsRow_below HO5.out ((Below.refl _ _).alloc (Nat.le_refl _) _)) ⟨w4.heap.size, 0, none⟩ 1 1 [.int .i64 x, .int .i64 y] rfl rfl (new2S _ _ _ _ _ (by simp)) (one2 rfl rfl) (by omega) (by unfold maxLen; omega) (by omega) (by simp; omega) (w4.heap.size + 1) (by simp) ?_); intro gg cap w6 hown1 hg1 hat hlt))
      have hg2 : ((w4.setCell ⟨w2.heap.size, 1, none⟩ (.int .i64 y)).alloc (.cells #[.int .i64 x, .int .i64 y] 44)).grownBy w6 (Value.slice oa k oc).ownBlock := ⟨hg1.os, hg1.tape, hg1.output, hg1.size, hg1.block⟩
      have a1 : Chg w1.heap.size w4.heap.size w4 (w4.setCell ⟨w2.heap.size, 1, none⟩ (.int .i64 y)) := (Chg.refl _ _ w4).set (p := ⟨w2.heap.size, 1, none⟩) _ (by dsimp only; omega) (by dsimp only; omega)
      have a2 : Chg w1.heap.size w4.heap.size (w4.setCell ⟨w2.heap.size, 1, none⟩ (.int .i64 y)) ((w4.setCell ⟨w2.heap.size, 1, none⟩ (.int .i64 y)).alloc (.cells #[.int .i64 x, .int .i64 y] 44)) := Chg.of_below ((Below.refl _ _).alloc (Nat.le_refl _) _) (Nat.le_refl _)
      have a3 := a1.trans (a2.trans (Chg.of_grown (fun p hp => hOl p.block (by rw [hp]; rfl)) hg2))
      have HB6 := Lib.hid (below_chg HB4.out HB4.out.size hsz a3)
      have HS6 := Lib.hid (HS4.out.chg a3 hgB)
      have HO6 : Hid (w6.ownsRow w1.heap.size 44 2 (.slice (some ⟨gg, 0, none⟩) (k + 1) cap) (k + 1) (duoCells (ts ++ [(x, y)]))) := by
        show w6.ownsRow _ _ _ _ _ _
        rw [duo_snoc]
        exact hown1
      have hs6 := a3.size
      have HL6 : Hid ((ts ++ [(x, y)]).length = k + 1) := by show _ = _; rw [List.length_append, HLt.out]; rfl
      clear hg1 hg2 a1 a2 a3 hown1 hat hlt
      go_roundw
      case rel => exact ⟨m - 1, k + 1, _, _, _, by omega, HL6.out, by go_num, rfl, HO6.out, HKn.out, HS6.out, HB6.out, by omega⟩
      case measure => simp [intOf]; omega
    · obtain rfl : m = 0 := by omega
      obtain rfl : k = N := by omega
      have HO9 := Lib.hid (ownsRow_low HO.out hsz)
      clear hsrc
      go_wp2
      go_ret
      exact ⟨_, _, ts, rfl, HB.out, HO9.out, HLt.out, HK.out⟩

end Go.Proofs.Ytnagmeeoeilbcaa
