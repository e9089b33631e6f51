/- The law of tiles: R8Counts. -/
import Derived.Test.YtnagmeeoeilbcaaFTilesB
import Derived.Test.YtnagmeeoeilbcaaAv
import Derived.Deep.OwnRows
namespace Go.Proofs.Ytnagmeeoeilbcaa
open Go.RowKit
set_option linter.unusedVariables false

theorem putI {w : World} {B g n c : Nat} {E : TypeId} {xs : List Int} (h : w.ownsRow B E 1 (.slice (some ⟨g, 0, none⟩) n c) n (intCells xs)) (i : Nat) (v : Int) :
    (w.setCell ⟨g, i, none⟩ (.int .i64 v)).ownsRow B E 1 (.slice (some ⟨g, 0, none⟩) n c) n (intCells (xs.set i v)) := by
  have := (h.stored i (.int .i64 v)).1
  rw [intCells_set] at this
  exact this
theorem getI {w : World} {B g n c : Nat} {E : TypeId} {xs : List Int} (h : w.ownsRow B E 1 (.slice (some ⟨g, 0, none⟩) n c) n (intCells xs)) (i : Nat) (hi : i < n) : w.cell? ⟨g, i, none⟩ = some (.int .i64 (xs.getD i 0)) ∧ w.frozen? ⟨g, i, none⟩ = false := by
  refine ⟨?_, h.frozenAt i⟩
  have hr : Ints w _ n c xs := Rd.own h
  obtain ⟨_, _, hx⟩ := hr.at
  obtain ⟨b, off, e, _, hy⟩ := hx i hi
  obtain ⟨rfl, rfl⟩ : g = b ∧ off = 0 := by have := Option.some.inj e; simp at this; exact ⟨this.1, this.2.symm⟩
  simpa using hy i hi
theorem sum_bump (xs : List Int) (h : xs.length = 9) (i : Nat) (hi : i < 9) (v : Int) : isum (xs.set i v) = isum xs + (v - xs.getD i 0) := by
  have e1 := isum_from (xs.set i v)
  have e2 := isum_from xs
  rw [List.length_set, h] at e1
  rw [h] at e2
  rw [e1, e2, sumFrom_set 9 xs 0 i v (by omega) (by omega) (by omega)]
/-- a hand while it is drawn -/
structure Dr (xs : List Int) (m : Int) : Prop where
  l : xs.length = 9
  b : ∀ i, 0 ≤ xs.getD i 0 ∧ xs.getD i 0 ≤ 4
  s : isum xs ≤ m
  z : 2 ≤ xs.getD 0 0
theorem Dr.zero : Dr [2, 0, 0, 0, 0, 0, 0, 0, 0] 2 := ⟨rfl, fun i => by
  rcases (show i = 0 ∨ i = 1 ∨ i = 2 ∨ i = 3 ∨ i = 4 ∨ i = 5 ∨ i = 6 ∨ i = 7 ∨ i = 8 ∨ 9 ≤ i by omega) with rfl | rfl | rfl | rfl | rfl | rfl | rfl | rfl | rfl | h
  all_goals first
    | decide
    | (rw [List.getD_eq_getElem?_getD, List.getElem?_eq_none (by simpa using h)]; decide), by decide, by decide⟩
theorem Dr.bump {xs : List Int} {m : Int} (h : Dr xs m) (i : Nat) (hi : i < 9) (h4 : xs.getD i 0 < 4) : Dr (xs.set i (xs.getD i 0 + 1)) (m + 1) := by
  have hg : ∀ j, (xs.set i (xs.getD i 0 + 1)).getD j 0 = if i = j then xs.getD i 0 + 1 else xs.getD j 0 := fun j => by
    rw [getD_set]
    by_cases e : i = j
    · subst e; rw [if_pos ⟨rfl, by rw [h.l]; exact hi⟩, if_pos rfl]
    · rw [if_neg (by omega), if_neg e]
  refine ⟨by simp [h.l], fun j => ?_, by rw [sum_bump xs h.l i hi]; have := h.s; omega, ?_⟩
  · rw [hg]; have := h.b j; have := h.b i; split <;> omega
  · rw [hg]; have := h.z; split
    · rename_i e; subst e; omega
    · exact this
theorem Dr.three {xs : List Int} {m : Int} (h : Dr xs m) (i : Nat) (hi : i + 2 < 9) (h0 : xs.getD i 0 < 4) (h1 : xs.getD (i + 1) 0 < 4) (h2 : xs.getD (i + 2) 0 < 4) :
    Dr (((xs.set i (xs.getD i 0 + 1)).set (i + 1) (xs.getD (i + 1) 0 + 1)).set (i + 2) (xs.getD (i + 2) 0 + 1)) (m + 3) := by
  have a := h.bump i (by omega) h0
  have e1 : (xs.set i (xs.getD i 0 + 1)).getD (i + 1) 0 = xs.getD (i + 1) 0 := by rw [getD_set, if_neg (by omega)]
  have b := a.bump (i + 1) (by omega) (by rw [e1]; exact h1)
  rw [e1] at b
  have e2 : ((xs.set i (xs.getD i 0 + 1)).set (i + 1) (xs.getD (i + 1) 0 + 1)).getD (i + 2) 0 = xs.getD (i + 2) 0 := by rw [getD_set, if_neg (by omega), getD_set, if_neg (by omega)]
  have c := b.bump (i + 2) (by omega) (by rw [e2]; exact h2)
  rw [e2] at c
  exact ⟨c.l, c.b, by have := c.s; omega, c.z⟩
theorem Dr.ok {xs : List Int} {m : Int} (h : Dr xs m) (hm : m ≤ 14) : okHand xs = true := by
  unfold okHand
  simp only [Bool.and_eq_true, decide_eq_true_eq, List.all_eq_true]
  refine ⟨h.l, fun x hx => ?_, by have := h.s; omega⟩
  obtain ⟨i, hi, rfl⟩ := List.getElem_of_mem hx
  have := h.b i
  rw [show xs.getD i 0 = xs[i] from by simp [hi]] at this
  exact (inB_iff _ _ _).2 this
theorem Dr.less {xs : List Int} {m : Int} (h : Dr xs m) (hm : m ≤ 14) : okHand (xs.set 0 (xs.getD 0 0 - 1)) = true := by
  have hl : (xs.set 0 (xs.getD 0 0 - 1)).length = 9 := by simp [h.l]
  unfold okHand
  simp only [Bool.and_eq_true, decide_eq_true_eq, List.all_eq_true]
  refine ⟨hl, fun x hx => ?_, by rw [sum_bump xs h.l 0 (by omega)]; have := h.s; omega⟩
  obtain ⟨i, hi, rfl⟩ := List.getElem_of_mem hx
  have h1 : (xs.set 0 (xs.getD 0 0 - 1)).getD i 0 = (xs.set 0 (xs.getD 0 0 - 1))[i] := by rw [List.getD_eq_getElem?_getD, List.getElem?_eq_getElem hi]; rfl
  rw [← h1, getD_set]
  have := h.b i
  have := h.b 0
  have := h.z
  apply (inB_iff _ _ _).2
  split <;> omega

set_option maxHeartbeats 3200000 in
set_option maxRecDepth 100000 in
theorem drawTiles_any (g k : Nat) (w : World) (h : Src g k w) (hk : k < 1000000) : Calls Try.prog 20 #[.pointer (some ⟨g, 0, none⟩)] w fun e w' => ∃ g' c xs, e = .returned (.slice (some ⟨g', 0, none⟩) 9 c) ∧ Chg g (g + 1) w w' ∧ w'.ownsRow w.heap.size 2 1 (.slice (some ⟨g', 0, none⟩) 9 c) 9 (intCells xs) ∧ okHand xs = true := by
  have hlt : g < w.heap.size := by obtain ⟨a, n, c, bs, i, s, hs⟩ := h; exact cell_lt hs.c0
  have HS := Lib.hid h
  clear h
  have HO0 : Hid ((w.alloc (.cells #[.int .i64 2, .int .i64 0, .int .i64 0, .int .i64 0, .int .i64 0, .int .i64 0, .int .i64 0, .int .i64 0, .int .i64 0] 2)).ownsRow w.heap.size 2 1 (.slice (some ⟨w.heap.size, 0, none⟩) 9 9) 9 (intCells [2, 0, 0, 0, 0, 0, 0, 0, 0])) :=
    ⟨rfl, .inr ⟨w.heap.size, 9, _, rfl, Nat.le_refl _, heap_alloc_new w _, Nat.le_refl _, by unfold maxLen; omega, rfl, rfl⟩⟩
  have HB0 : Hid (Below w.heap.size w (w.alloc (.cells #[.int .i64 2, .int .i64 0, .int .i64 0, .int .i64 0, .int .i64 0, .int .i64 0, .int .i64 0, .int .i64 0, .int .i64 0] 2))) := (Below.refl _ _).alloc (Nat.le_refl _) _
  have HS0 : Hid (Src g k (w.alloc (.cells #[.int .i64 2, .int .i64 0, .int .i64 0, .int .i64 0, .int .i64 0, .int .i64 0, .int .i64 0, .int .i64 0, .int .i64 0] 2))) := HS.out.on HB0.out
  have hs0 : (w.alloc (.cells #[.int .i64 2, .int .i64 0, .int .i64 0, .int .i64 0, .int .i64 0, .int .i64 0, .int .i64 0, .int .i64 0, .int .i64 0] 2)).heap.size = w.heap.size + 1 := by simp
  generalize hW : w.alloc (.cells #[.int .i64 2, .int .i64 0, .int .i64 0, .int .i64 0, .int .i64 0, .int .i64 0, .int .i64 0, .int .i64 0, .int .i64 0] 2) = w1 at *
  have HW := Lib.hid hW
  clear hW
  have C1 := Lib.hid (pick_any g k 4 w1 HS0.out (by omega) (by omega) (by omega))
  go_enter Try.func20, Try.ntmps20
  go_wp2_with (fail)
  rw [HW.out]
  refine C1.out.mono ?_
  rintro e w2 ⟨x, rfl, hx0, hx1, hc, hs⟩
  have HC2 := Lib.hid hc
  have HS2 := Lib.hid hs
  have HO2 := Lib.hid (own_av HO0.out hc (fun p hp => by obtain rfl := Option.some.inj hp; exact fun e => by dsimp only at e; omega))
  obtain ⟨x, rfl⟩ : ∃ q : Nat, x = q := ⟨x.toNat, by omega⟩
  clear hc hs C1
  go_wp2
  go_loopw [4] (fun vn wr => ∃ (m : Nat) (xs : List Int), m ≤ x ∧ vn = .int .i64 m ∧ Dr xs (2 + 3 * ((x : Int) - m)) ∧ Src g (k + 5 - m) wr ∧ Chg g (g + 1) w wr ∧ wr.ownsRow w.heap.size 2 1 (.slice (some ⟨w.heap.size, 0, none⟩) 9 9) 9 (intCells xs)) (fun vn _ => (intOf vn).toNat)
  case atStart => exact ⟨x, _, Nat.le_refl _, rfl, by rw [show (2 : Int) + 3 * ((x : Int) - x) = 2 by omega]; exact Dr.zero, HS2.out.more (by omega), (Chg.below HB0.out).trans HC2.out, HO2.out⟩
  case round =>
    obtain ⟨m, xs, hmx, rfl, hdr, hsrc, hchg, hown⟩ := hrel
    have HC := Lib.hid hchg
    have HSr := Lib.hid hsrc
    have HO := Lib.hid hown
    have HD := Lib.hid hdr
    have hsz := hchg.size
    have hltr := hown.lt _ rfl
    clear hchg hown hdr HO2 HC2 HS2
    by_cases hm0 : 0 < m
    · have C3 := Lib.hid (pick_any g _ 7 wr hsrc (by omega) (by omega) (by omega))
      clear hsrc
      go_wp2_with (fail)
      refine C3.out.mono ?_
      rintro e w3 ⟨y, rfl, hy0, hy1, hc, hs⟩
      obtain ⟨y, rfl⟩ : ∃ q : Nat, y = q := ⟨y.toNat, by omega⟩
      have HC3 := Lib.hid (HC.out.trans hc)
      have HS3 := Lib.hid (hs.more (show k + 5 - m + 1 ≤ k + 5 - (m - 1) by omega))
      have HO3 := Lib.hid (own_av HO.out hc (fun p hp => by obtain rfl := Option.some.inj hp; exact fun e => by dsimp only at e; omega))
      clear hc hs C3 HC HSr HO
      have hy2 : y + 2 < 9 := by omega
      obtain ⟨z0, f0⟩ := getI HO3.out y (by omega)
      obtain ⟨z1, f1⟩ := getI HO3.out (y + 1) (by omega)
      obtain ⟨z2, f2⟩ := getI HO3.out (y + 2) (by omega)
      have b0 := HD.out.b y
      have b1 := HD.out.b (y + 1)
      have b2 := HD.out.b (y + 2)
      have HT : Hid (xs.getD y 0 < 4 → xs.getD (y + 1) 0 < 4 → xs.getD (y + 2) 0 < 4 → Dr (((xs.set y (xs.getD y 0 + 1)).set (y + 1) (xs.getD (y + 1) 0 + 1)).set (y + 2) (xs.getD (y + 2) 0 + 1)) (2 + 3 * ((x : Int) - m) + 3)) := fun a b c => HD.out.three y hy2 a b c
      have HU : Hid (Dr xs (2 + 3 * ((x : Int) - m) + 3)) := ⟨HD.out.l, HD.out.b, by have := HD.out.s; omega, HD.out.z⟩
      have hw1 : IntKind.i64.wrap ((y : Int) + 1) = (y : Int) + 1 := IntWalk.i64_in _ (by omega)
      have hw2 : IntKind.i64.wrap ((y : Int) + 2) = (y : Int) + 2 := IntWalk.i64_in _ (by omega)
      generalize xs.getD y 0 = u0 at *
      generalize xs.getD (y + 1) 0 = u1 at *
      generalize xs.getD (y + 2) 0 = u2 at *
      obtain ⟨m', rfl⟩ : ∃ m', m = m' + 1 := ⟨m - 1, by omega⟩
      have hnext : (2 + 3 * ((x : Int) - (m' + 1 : Nat)) + 3) = 2 + 3 * ((x : Int) - m') := by omega
      rw [hnext] at HT HU
      clear hnext HD
      have hwm : IntKind.i64.wrap (((m' + 1 : Nat) : Int) - 1) = (m' : Int) := by rw [IntWalk.i64_in _ (by omega)]; omega
      by_cases h0 : u0 < 4
      · by_cases h1 : u1 < 4
        · by_cases h2 : u2 < 4
          · have HD3 := Lib.hid (HT.out h0 h1 h2)
            have k1 := (((Chg.refl w.heap.size (w.heap.size + 1) w3).set (p := ⟨w.heap.size, y, none⟩) (.int .i64 (u0 + 1)) (Nat.le_refl _) (Nat.lt_succ_self _)).set (p := ⟨w.heap.size, y + 1, none⟩) (.int .i64 (u1 + 1)) (Nat.le_refl _) (Nat.lt_succ_self _)).set (p := ⟨w.heap.size, y + 2, none⟩) (.int .i64 (u2 + 1)) (Nat.le_refl _) (Nat.lt_succ_self _)
            have HS4 := Lib.hid (HS3.out.chg k1 hlt)
            have HC4 := Lib.hid (((HC3.out.setNew (p := ⟨w.heap.size, y, none⟩) (.int .i64 (u0 + 1)) (Nat.le_refl _)).setNew (p := ⟨w.heap.size, y + 1, none⟩) (.int .i64 (u1 + 1)) (Nat.le_refl _)).setNew (p := ⟨w.heap.size, y + 2, none⟩) (.int .i64 (u2 + 1)) (Nat.le_refl _))
            have HO4 := Lib.hid (putI (putI (putI HO3.out y (u0 + 1)) (y + 1) (u1 + 1)) (y + 2) (u2 + 1))
            clear k1
            go_wp2
            go_roundw
            case rel => exact ⟨m', _, by omega, by go_num, HD3.out, HS4.out, HC4.out, HO4.out⟩
            case measure => simp [intOf]
          · go_wp2
            go_roundw
            case rel => exact ⟨m', xs, by omega, by go_num, HU.out, HS3.out, HC3.out, HO3.out⟩
            case measure => simp [intOf]
        · go_wp2
          go_roundw
          case rel => exact ⟨m', xs, by omega, by go_num, HU.out, HS3.out, HC3.out, HO3.out⟩
          case measure => simp [intOf]
      · go_wp2
        go_roundw
        case rel => exact ⟨m', xs, by omega, by go_num, HU.out, HS3.out, HC3.out, HO3.out⟩
        case measure => simp [intOf]
    · obtain rfl : m = 0 := by omega
      have C3 := Lib.hid (one_any g _ 3 wr hsrc (by omega) (by omega) (by omega))
      have hx14 : (2 + 3 * ((x : Int) - (0 : Nat))) ≤ 14 := by omega
      clear hsrc
      go_wp2_with (fail)
      refine C3.out.mono ?_
      rintro e w3 ⟨b, rfl, hc, hs⟩
      have HC3 := Lib.hid (HC.out.trans hc)
      have HO3 := Lib.hid (own_av HO.out hc (fun p hp => by obtain rfl := Option.some.inj hp; exact fun e => by dsimp only at e; omega))
      clear hc hs C3 HC HO
      obtain ⟨z0, f0⟩ := getI HO3.out 0 (by omega)
      have b0 := HD.out.b 0
      cases b
      · go_wp2
        go_ret
        exact ⟨_, _, xs, rfl, HC3.out, HO3.out, HD.out.ok hx14⟩
      · have HK := Lib.hid (HD.out.less hx14)
        have HC4 := Lib.hid (HC3.out.setNew (p := ⟨w.heap.size, 0, none⟩) (.int .i64 (xs.getD 0 0 - 1)) (Nat.le_refl _))
        have HO4 := Lib.hid (putI HO3.out 0 (xs.getD 0 0 - 1))
        generalize xs.getD 0 0 = u0 at *
        go_wp2
        go_ret
        exact ⟨_, _, _, rfl, HC4.out, HO4.out, HK.out⟩

set_option maxRecDepth 100000 in
theorem R8Counts_any (a : Option Addr) (n c : Nat) (bs : List Int) (w : World) (h : Bytes w a n c bs) (ok : okB bs) : Calls Try.prog 5 #[.slice a n c] w fun e w' => ∃ g' c xs, e = .returned (.slice (some ⟨g', 0, none⟩) 9 c) ∧ Below w.heap.size w w' ∧ w'.ownsRow w.heap.size 2 1 (.slice (some ⟨g', 0, none⟩) 9 c) 9 (intCells xs) ∧ okHand xs = true := by
  have C := Lib.hid (l00From_any a n c bs w h ok)
  clear h ok
  go_enter Try.func5, Try.ntmps5
  go_wp2_with (fail)
  refine C.out.mono ?_
  rintro e w1 ⟨rfl, hb, hs⟩
  have HB := Lib.hid hb
  have hsz := hb.size
  have C2 := Lib.hid (drawTiles_any _ _ w1 hs (by omega))
  clear hs C hb
  go_wp2_with (fail)
  refine C2.out.mono ?_
  rintro e w2 ⟨g', c', xs, rfl, hc, ho, hk⟩
  have HB2 := Lib.hid (below_chg HB.out hsz (Nat.le_refl _) hc)
  have HO := Lib.hid (ownsRow_low ho hsz)
  have HK := Lib.hid hk
  clear hc ho hk
  go_wp2
  go_ret
  exact ⟨_, _, _, rfl, HB2.out, HO.out, HK.out⟩

end Go.Proofs.Ytnagmeeoeilbcaa
