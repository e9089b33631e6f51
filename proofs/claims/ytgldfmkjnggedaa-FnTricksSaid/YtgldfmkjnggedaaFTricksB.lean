/- The law FnTricks: R8Hands, r8Less. -/
import Derived.Test.YtgldfmkjnggedaaFTricksA
import Derived.Test.YtgldfmkjnggedaaDeckOk
import Derived.Deep.AppendLies
namespace Go.Proofs.Ytgldfmkjnggedaa
open Go.RowKit
set_option linter.unusedVariables false

def pickL (xs : List Int) (o k : Nat) : List Int := (List.range k).map fun i => 2 * xs.getD (2 * i + o) 0
theorem pickL_succ (xs : List Int) (o k : Nat) : pickL xs o (k + 1) = pickL xs o k ++ [2 * xs.getD (2 * k + o) 0] := by simp [pickL, List.range_succ]
theorem nodup_getD {xs : List Int} (h : xs.Nodup) {i j : Nat} (hi : i < xs.length) (hj : j < xs.length) (e : xs.getD i 0 = xs.getD j 0) : i = j := by
  rw [show xs.getD i 0 = xs[i] from by simp [hi], show xs.getD j 0 = xs[j] from by simp [hj]] at e
  rcases Nat.lt_trichotomy i j with hij | hij | hij
  · exact absurd e (List.pairwise_iff_getElem.1 h i j hi hj hij)
  · exact hij
  · exact absurd e.symm (List.pairwise_iff_getElem.1 h j i hj hi hij)
theorem pickL_hand {xs : List Int} (h : xs.Perm (upto 26)) (o n : Nat) (ho : o ≤ 1) (hn : n ≤ 13) : Hand n (pickL xs o n) := by
  obtain ⟨hl, hnd, hr⟩ := upto_ok 26 h
  refine ⟨by simp [pickL], ?_, fun x hx => ?_⟩
  · unfold pickL
    rw [List.nodup_iff_pairwise_ne, List.pairwise_map, List.pairwise_iff_getElem]
    intro i j hi hj hij e
    simp only [List.length_range] at hi hj
    simp only [List.getElem_range] at e
    have := nodup_getD hnd (i := 2 * i + o) (j := 2 * j + o) (by omega) (by omega) (by omega)
    omega
  · unfold pickL at hx
    obtain ⟨i, hi, rfl⟩ := List.mem_map.1 hx
    have hi := List.mem_range.1 hi
    have := hr (xs.getD (2 * i + o) 0) (getD_mem (by omega))
    omega
theorem pickL_two {xs : List Int} (h : xs.Perm (upto 26)) (n : Nat) (hn : n ≤ 13) : TwoH n (pickL xs 0 n) (pickL xs 1 n) := by
  obtain ⟨hl, hnd, hr⟩ := upto_ok 26 h
  refine ⟨pickL_hand h 0 n (by omega) hn, pickL_hand h 1 n (by omega) hn, fun x h1 h2 => ?_⟩
  unfold pickL at h1 h2
  obtain ⟨i, hi, rfl⟩ := List.mem_map.1 h1
  obtain ⟨j, hj, e⟩ := List.mem_map.1 h2
  have hi := List.mem_range.1 hi
  have hj := List.mem_range.1 hj
  have := nodup_getD hnd (i := 2 * j + 1) (j := 2 * i + 0) (by omega) (by omega) (by omega)
  omega
theorem ownNe {g g' n c n' c' : Nat} (h : g ≠ g') : (Value.slice (some ⟨g, 0, none⟩) n c).ownBlock ≠ (Value.slice (some ⟨g', 0, none⟩) n' c').ownBlock := by
  simp only [Value.ownBlock]; intro e; exact h (Option.some.inj e)
theorem blockNe {g n c : Nat} {gg H g' : Nat} (h : (Value.slice (some ⟨g, 0, none⟩) n c).ownBlock = some gg ∨ gg = H) (h1 : g ≠ g') (h2 : g' < H) : gg ≠ g' := by
  rcases h with h | h
  · simp only [Value.ownBlock, Option.some.injEq] at h; omega
  · omega

set_option maxHeartbeats 3200000 in
set_option maxRecDepth 100000 in
theorem drawHands_any (g k n : Nat) (w : World) (h : Src g k w) (hn : n ≤ 6) (hk : k < 1000000) : Calls Try.prog 18 #[.pointer (some ⟨g, 0, none⟩), .int .i64 n] w fun e w' => ∃ g1 c1 g2 c2 M T, e = .returned (.tuple #[.slice (some ⟨g1, 0, none⟩) n c1, .slice (some ⟨g2, 0, none⟩) n c2]) ∧ Chg g (g + 1) w w' ∧ w'.ownsRow w.heap.size 2 1 (.slice (some ⟨g1, 0, none⟩) n c1) n (intCells M) ∧ w'.ownsRow w.heap.size 2 1 (.slice (some ⟨g2, 0, none⟩) n c2) n (intCells T) ∧ TwoH n M T := by
  obtain ⟨i0, hi, hz0, hz1, hz2⟩ := info_parts infoI64
  have C1 := Lib.hid (drawOk_any g k 26 w h (by omega) (by omega) hk)
  clear h
  go_enter Try.func18, Try.ntmps18
  go_wp2_with (fail)
  refine C1.out.mono ?_
  rintro e w1 ⟨d, dc, xs, rfl, hc, _, ho, hp⟩
  have hd := own_in ho _ rfl
  dsimp only at hd
  have HC1 := Lib.hid hc
  have HC2 := Lib.hid hc
  have hs1 := hc.size
  have HD1 := Lib.hid ho
  have HTw := Lib.hid (pickL_two hp n (by omega))
  have hxl : xs.length = 26 := (upto_ok 26 hp).1
  have HXr := Lib.hid (fun j (hj : j < 26) => (upto_ok 26 hp).2.2 (xs.getD j 0) (getD_mem (by omega)))
  clear hc ho hp C1 hxl
  go_wp2
  go_loopw [7, 8, 9] (fun v7 v8 v9 wr => ∃ i g7 c7 g8 c8 : Nat, i ≤ n ∧ v9 = .int .i64 i ∧ v7 = .slice (some ⟨g7, 0, none⟩) i c7 ∧ v8 = .slice (some ⟨g8, 0, none⟩) i c8 ∧ g7 ≠ g8 ∧ wr.ownsRow w1.heap.size 2 1 (.slice (some ⟨g7, 0, none⟩) i c7) i (intCells (pickL xs 0 i)) ∧ wr.ownsRow w1.heap.size 2 1 (.slice (some ⟨g8, 0, none⟩) i c8) i (intCells (pickL xs 1 i)) ∧ wr.ownsRow w.heap.size 2 1 (.slice (some ⟨d, 0, none⟩) 26 dc) 26 (intCells xs) ∧ Below w1.heap.size w1 wr ∧ w1.heap.size ≤ wr.heap.size) (fun _ _ v9 _ => n - (intOf v9).toNat)
  case atStart =>
    have b1 : Below w1.heap.size w1 (w1.alloc (.cells #[] 2)) := (Below.refl _ _).alloc (Nat.le_refl _) _
    have o7 : (w1.alloc (.cells #[] 2)).ownsRow w1.heap.size 2 1 (.slice (some ⟨w1.heap.size, 0, none⟩) 0 0) 0 (intCells (pickL xs 0 0)) := World.ownsRow_made (e := 2) (size := 1) (base := w1.heap.size) w1 #[] 0 (by simp) (Nat.zero_le _) (by simp)
    have o8 : ((w1.alloc (.cells #[] 2)).alloc (.cells #[] 2)).ownsRow w1.heap.size 2 1 (.slice (some ⟨(w1.alloc (.cells #[] 2)).heap.size, 0, none⟩) 0 0) 0 (intCells (pickL xs 1 0)) := World.ownsRow_made (e := 2) (size := 1) (base := w1.heap.size) (w1.alloc (.cells #[] 2)) #[] 0 (by simp) (Nat.zero_le _) (by simp)
    exact ⟨0, w1.heap.size, 0, w1.heap.size + 1, 0, Nat.zero_le _, rfl, rfl, by simp, by omega, o7.alloc _, by simpa using o8, (HD1.out.alloc _).alloc _, b1.alloc (by simp) _, by simp; omega⟩
  case round =>
    obtain ⟨i, g7, c7, g8, c8, hi9, rfl, rfl, rfl, h78, hown7, hown8, hownD, hbel, hsz⟩ := hrel
    have h7 := own_block hown7
    have h8 := own_block hown8
    have HO7 := Lib.hid hown7
    have HO8 := Lib.hid hown8
    have HOD := Lib.hid hownD
    have HB := Lib.hid hbel
    clear hown7 hown8 hownD hbel HC1
    by_cases hlt : i < n
    · have z0 := own_get HOD.out (2 * i) (by omega)
      have z1 := own_get HOD.out (2 * i + 1) (by omega)
      have r0 := HXr.out (2 * i) (by omega)
      have r1 := HXr.out (2 * i + 1) (by omega)
      have HP0 : Hid (pickL xs 0 (i + 1) = pickL xs 0 i ++ [2 * xs.getD (2 * i) 0]) := pickL_succ xs 0 i
      have HP1 : Hid (pickL xs 1 (i + 1) = pickL xs 1 i ++ [2 * xs.getD (2 * i + 1) 0]) := pickL_succ xs 1 i
      generalize xs.getD (2 * i) 0 = y at *
      generalize hZ : xs.getD (2 * i + 1) 0 = z at *
      have HZ := Lib.hid hZ
      clear hZ
      have hw0 : IntKind.i64.wrap (2 * (i : Int)) = 2 * (i : Int) := IntWalk.i64_in _ (by omega)
      have hw1 : IntKind.i64.wrap (2 * y) = 2 * y := IntWalk.i64_in _ (by omega)
      have hw2 : IntKind.i64.wrap (2 * z) = 2 * z := IntWalk.i64_in _ (by omega)
      have hw3 : IntKind.i64.wrap (2 * (i : Int) + 1) = 2 * (i : Int) + 1 := IntWalk.i64_in _ (by omega)
      go_wp2_with (first | (at_builtin; refine wpList_append_lies _ rfl _ _ 25 rfl w1.heap.size 2 i0 _ 1 8 Try.underlying25 hi hz0 hz1 hz2 rfl (by omega) (.slice (some ⟨g7, 0, none⟩) i c7) i (intCells (pickL xs 0 i)) rfl (HO7.out.alloc _) ⟨wr.heap.size, 0, none⟩ 1 1 [.int .i64 (2 * y)] rfl rfl (new1 _ _ _) (one1 rfl) (by omega) (by unfold maxLen; omega) (by omega) (by simp; omega) (wr.heap.size + 1) (by simp) ?_; intro gg cap w5 hown1 hg1 hat hlt5; have HO7n : Hid (w5.ownsRow w1.heap.size 2 1 (.slice (some ⟨gg, 0, none⟩) (i + 1) cap) (i + 1) (intCells (pickL xs 0 (i + 1)))) := (by show w5.ownsRow _ _ _ _ _ _; rw [HP0.out, intCells_snoc]; exact hown1); have HO8n := Lib.hid ((HO8.out.alloc _).kept hg1 (.inr (ownNe (fun e => h78 e.symm)))); have HODn := Lib.hid ((HOD.out.alloc _).kept hg1 (.inr (ownNe (by omega)))); have HBn := Lib.hid (below_app HB.out hsz hg1 HO7.out); have hgn := blockNe hat h78 (by omega); have z2 := own_get HODn.out (2 * i + 1) (by omega); rw [HZ.out] at z2; have hs6 : wr.heap.size + 1 ≤ w5.heap.size := (by have := hg1.size; simpa using this); have h8n : g8 < w5.heap.size := (by omega); have h7n := own_block HO7n.out; clear hown1 hg1 hat z0 z1) | (at_builtin; go_must (refine wpList_append_lies _ rfl _ _ 25 rfl w1.heap.size 2 i0 _ 1 8 Try.underlying25 hi hz0 hz1 hz2 rfl (by omega) (.slice (some ⟨g8, 0, none⟩) i c8) i (intCells (pickL xs 1 i)) rfl (HO8n.out.alloc _) ⟨w5.heap.size, 0, none⟩ 1 1 [.int .i64 (2 * z)] rfl rfl (new1 _ _ _) (one1 rfl) (by omega) (by unfold maxLen; omega) (by omega) (by simp; omega) (w5.heap.size + 1) (by simp) ?_); intro gh caq w6 hown1 hg1 hat hlt6; have HO8m : Hid (w6.ownsRow w1.heap.size 2 1 (.slice (some ⟨gh, 0, none⟩) (i + 1) caq) (i + 1) (intCells (pickL xs 1 (i + 1)))) := (by show w6.ownsRow _ _ _ _ _ _; rw [HP1.out, intCells_snoc]; exact hown1); have HO7m := Lib.hid ((HO7n.out.alloc _).kept hg1 (.inr (ownNe hgn))); have HODm := Lib.hid ((HODn.out.alloc _).kept hg1 (.inr (ownNe (by omega)))); have HBm := Lib.hid (below_app HBn.out (by omega) hg1 HO8n.out); have hgm := blockNe hat (fun e => hgn e.symm) (show gg < _ by omega); have hs7 : w5.heap.size + 1 ≤ w6.heap.size := (by have := hg1.size; simpa using this); clear hown1 hg1 hat z2))
      go_roundw
      case rel => exact ⟨i + 1, gg, cap, gh, caq, by omega, by go_num, rfl, rfl, fun e => hgm e.symm, HO7m.out, HO8m.out, HODm.out, HBm.out, by omega⟩
      case measure => simp [intOf]; omega
    · obtain rfl : i = n := by omega
      have HC9 := Lib.hid (HC2.out.trans (chgB HB.out))
      have HA := Lib.hid (ownsRow_low HO7.out hs1)
      have HE := Lib.hid (ownsRow_low HO8.out hs1)
      go_wp2
      go_ret2
      exact ⟨g7, c7, g8, c8, _, _, rfl, HC9.out, HA.out, HE.out, HTw.out⟩

set_option maxHeartbeats 1600000 in
set_option maxRecDepth 100000 in
theorem R8Hands_any (a : Option Addr) (m c : Nat) (bs : List Int) (n : Nat) (w : World) (h : Bytes w a m c bs) (ok : okB bs) (hn : n ≤ 6) : Calls Try.prog 6 #[.slice a m c, .int .i64 n] w fun e w' => ∃ g1 c1 g2 c2 M T, e = .returned (.tuple #[.slice (some ⟨g1, 0, none⟩) n c1, .slice (some ⟨g2, 0, none⟩) n c2]) ∧ Below w.heap.size w w' ∧ w'.ownsRow w.heap.size 2 1 (.slice (some ⟨g1, 0, none⟩) n c1) n (intCells M) ∧ w'.ownsRow w.heap.size 2 1 (.slice (some ⟨g2, 0, none⟩) n c2) n (intCells T) ∧ TwoH n M T := by
  have C := Lib.hid (l00From_any a m c bs w h ok)
  clear h ok
  go_enter Try.func6, Try.ntmps6
  go_wp2_with (fail)
  refine C.out.mono ?_
  rintro e w1 ⟨rfl, hb, hs⟩
  have HB1 := Lib.hid hb
  have hsz := hb.size
  have C2 := Lib.hid (drawHands_any _ _ n w1 hs hn (by omega))
  clear hb hs C
  go_wp2_with (fail)
  refine C2.out.mono ?_
  rintro e w2 ⟨g1, c1, g2, c2, M, T, rfl, hc, ho1, ho2, ht⟩
  have HB2 := Lib.hid (below_chg HB1.out hsz (Nat.le_refl _) hc)
  have HO1 := Lib.hid (ownsRow_low ho1 hsz)
  have HO2 := Lib.hid (ownsRow_low ho2 hsz)
  have HT := Lib.hid ht
  clear hc ho1 ho2 ht C2
  go_wp2
  go_ret2
  exact ⟨g1, c1, g2, c2, M, T, rfl, HB2.out, HO1.out, HO2.out, HT.out⟩

set_option maxHeartbeats 3200000 in
set_option maxRecDepth 100000 in
theorem r8Less_any (a : Option Addr) (n c : Nat) (xs : List Int) (x y : Int) (w : World) (h : Ints w a n c xs) (hn : n ≤ 64) : Calls Try.prog 15 #[.slice a n c, .int .i64 x, .int .i64 y] w fun e w' => ∃ g c', e = .returned (.slice (some ⟨g, 0, none⟩) (lessB xs x y).length c') ∧ Below w.heap.size w w' ∧ w'.ownsRow w.heap.size 2 1 (.slice (some ⟨g, 0, none⟩) (lessB xs x y).length c') (lessB xs x y).length (intCells (lessB xs x y)) := by
  obtain ⟨i0, hi, hz0, hz1, hz2⟩ := info_parts infoI64
  have hl := Lib.hid h.len
  have HI := Lib.hid h
  obtain ⟨hc, hb, hcell⟩ := h.at
  have HCe := Lib.hid hcell
  have HE : Hid (lessB (xs.take n) x y = lessB xs x y) := by show _ = _; rw [List.take_of_length_le (by rw [hl.out]; exact Nat.le_refl _)]
  clear h hcell
  go_enter Try.func15, Try.ntmps15
  go_wp2
  go_loopw [7, 8] (fun vo vi wr => ∃ k g co : Nat, k ≤ n ∧ vi = .int .i64 k ∧ vo = .slice (some ⟨g, 0, none⟩) (lessB (xs.take k) x y).length co ∧ Below w.heap.size w wr ∧ wr.ownsRow w.heap.size 2 1 (.slice (some ⟨g, 0, none⟩) (lessB (xs.take k) x y).length co) (lessB (xs.take k) x y).length (intCells (lessB (xs.take k) x y))) (fun _ vi _ => n - (intOf vi).toNat)
  case atStart => exact ⟨0, w.heap.size, 0, by omega, rfl, rfl, (Below.refl _ _).alloc (Nat.le_refl _) _, World.ownsRow_made (e := 2) (size := 1) (base := w.heap.size) w #[] 0 (by simp) (Nat.zero_le _) (by simp)⟩
  case round =>
    obtain ⟨k, g, co, hk, rfl, rfl, hbel, hown⟩ := hrel
    have HB := Lib.hid hbel
    have HO := Lib.hid hown
    have hsz := hbel.size
    by_cases hlt : k < n
    · obtain ⟨b, off, rfl, hlb, hx⟩ := HCe.out k hlt
      have z0 := cell_on hbel (hx k hlt)
      have HF := Lib.hid (lessB_take xs x y k (by rw [hl.out]; exact hlt))
      have hfl : (lessB (xs.take k) x y).length ≤ 64 := by have h1 := lessB_len (xs.take k) x y; have h2 := List.length_take_le k xs; omega
      clear hx hbel hown
      generalize xs.getD k 0 = u at *
      generalize lessB (xs.take k) x y = F at *
      rcases Bool.eq_false_or_eq_true (u != x) with e1 | e1
      · rcases Bool.eq_false_or_eq_true (u != y) with e2 | e2
        · have HF2 : Hid (lessB (xs.take (k + 1)) x y = F ++ [u]) := by show _ = _; rw [HF.out, if_pos (by simp only [bne] at e1 e2; rw [e1, e2]; rfl)]
          clear HF
          go_wp2_with (first | (at_builtin; go_must (refine wpList_append_lies _ rfl _ _ 25 rfl w.heap.size 2 i0 _ 1 8 Try.underlying25 hi hz0 hz1 hz2 rfl (by omega) (.slice (some ⟨g, 0, none⟩) F.length co) F.length (intCells F) rfl (HO.out.alloc _) ⟨wr.heap.size, 0, none⟩ 1 1 [.int .i64 u] rfl rfl (new1 _ _ _) (one1 rfl) (by omega) (by unfold maxLen; omega) (by omega) (by simp; omega) (wr.heap.size + 1) (by simp) ?_); intro gg cap w5 hown1 hg1 hat hlt5; have HBn := Lib.hid (below_app HB.out hsz hg1 HO.out); have HOn : Hid (w5.ownsRow w.heap.size 2 1 (.slice (some ⟨gg, 0, none⟩) (F.length + 1) cap) (F.length + 1) (intCells (F ++ [u]))) := (by show w5.ownsRow _ _ _ _ _ _; rw [intCells_snoc]; exact hown1); clear hown1 hg1 hat))
          go_roundw
          case rel =>
            have e3 := HF2.out
            refine ⟨k + 1, gg, cap, by omega, by go_num, ?_, HBn.out, ?_⟩
            · rw [e3]; simp
            · rw [e3, List.length_append]; exact HOn.out
          case measure => simp [intOf]; omega
        · have HF2 : Hid (lessB (xs.take (k + 1)) x y = F) := by show _ = _; rw [HF.out, if_neg (by simp only [bne] at e1 e2; rw [e1, e2]; simp)]
          clear HF
          go_wp2
          go_roundw
          case rel => exact ⟨k + 1, g, co, by omega, by go_num, by rw [HF2.out], HB.out, by rw [HF2.out]; exact HO.out⟩
          case measure => simp [intOf]; omega
      · have HF2 : Hid (lessB (xs.take (k + 1)) x y = F) := by show _ = _; rw [HF.out, if_neg (by simp only [bne] at e1; rw [e1]; simp)]
        clear HF
        go_wp2
        go_roundw
        case rel => exact ⟨k + 1, g, co, by omega, by go_num, by rw [HF2.out], HB.out, by rw [HF2.out]; exact HO.out⟩
        case measure => simp [intOf]; omega
    · obtain rfl : k = n := by omega
      rw [HE.out] at HO
      rw [HE.out]
      clear hbel hown
      go_wp2
      go_ret
      exact ⟨g, co, rfl, HB.out, HO.out⟩

end Go.Proofs.Ytgldfmkjnggedaa
