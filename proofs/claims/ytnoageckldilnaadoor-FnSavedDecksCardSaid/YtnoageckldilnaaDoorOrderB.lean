/- Orders of cards: l02Has, l02Orders, l02Deck; isOrder, IsDeck. -/
import Derived.Test.YtnoageckldilnaaDoorOrderA
import Derived.Test.YtnoageckldilnaaDoorBasic
import Derived.Test.YtnoageckldilnaaDoorI64
import Derived.Test.YtnoageckldilnaaDoorTally
namespace Go.Proofs.YtnoageckldilnaaDoor
open Go.RowKit
set_option linter.unusedVariables false

theorem infoB : (Tryd.prog.info? 4).map (fun i => (i.zero, i.size, i.bytes)) = some (some (.bool false), 1, 1) := by kernel_rfl

theorem l02Has_any (a : Option Addr) (n c : Nat) (xs : List Int) (x : Int) (w : World) (h : Ints w a n c xs) :
    Calls Tryd.prog 103 #[.slice a n c, .int .i64 x] w (RetS w (.bool (xs.contains x))) := by
  obtain ⟨hc, hb, hcell⟩ := h.at
  have hl := Lib.hid h.len
  clear h
  have HC : Hid (xs.contains x = xs.any (fun y => x == y)) := List.contains_eq_any_beq
  generalize xs.contains x = cr at *
  go_enter Tryd.func103, Tryd.ntmps103
  go_wp2
  go_loop [5] (fun i => ∃ k : Nat, k ≤ n ∧ i = .int .i64 k ∧ NoneTo (fun y => x == y) 0 xs k) (fun i => n - (intOf i).toNat)
  case atStart => exact ⟨0, by omega, rfl, fun j hj => by omega⟩
  case round =>
    obtain ⟨k, hk, rfl, hto⟩ := hrel
    have HT := Lib.hid hto
    clear hto
    by_cases hlt : k < n
    · obtain ⟨b, off, rfl, hlb, hx⟩ := hcell k hlt
      have h0 := hx k hlt
      have HM : Hid (xs.getD k 0 ∈ xs) := getD_mem (by rw [hl.out]; exact hlt)
      have HS : Hid ((x == xs.getD k 0) = false → NoneTo (fun y => x == y) 0 xs (k + 1)) := fun e => HT.out.succ e
      clear hcell hx
      generalize xs.getD k 0 = y at *
      by_cases he : y = x
      · have he1 : (y == x) = true := by simp [he]
        have HE := Lib.hid he
        clear he
        go_wp2
        go_ret
        exact ⟨ret_bool (by rw [HC.out, List.any_eq_true.2 ⟨y, HM.out, by simp [HE.out]⟩]), rfl⟩
      · have he1 : (y == x) = false := by simp [he]
        have HE : Hid ((x == y) = false) := by
          show (x == y) = false
          simp; exact fun e => he e.symm
        clear he
        go_wp2
        go_round
        case rel => exact ⟨k + 1, by omega, by go_num, HS.out HE.out⟩
        case measure => simp [intOf]; omega
    · obtain rfl : k = n := by omega
      clear hcell
      have HN : Hid (xs.any (fun y => x == y) = false) := by
        show xs.any (fun y => x == y) = false
        have h1 := firstIdx_none HT.out hl.out
        rcases Bool.eq_false_or_eq_true (xs.any (fun y => x == y)) with e | e
        · have := (firstIdx_any (fun y => x == y) xs).1 e; omega
        · exact e
      go_wp2
      go_ret
      exact ⟨ret_bool (by rw [HC.out, HN.out]), rfl⟩

theorem l02Orders_any (a : Option Addr) (n c : Nat) (xs : List Int) (w : World) (h : Ints w a n c xs) (hn1 : 1 ≤ n) :
    Calls Tryd.prog 89 #[.slice a n c, .int .i64 n] w (RetQ w (.bool (okOrder xs))) := by
  obtain ⟨hc, hb, hcell⟩ := h.at
  have hl := Lib.hid h.len
  have HH := Lib.hid h
  clear h
  go_enter Tryd.func89, Tryd.ntmps89
  go_wp2
  go_loopw [5] (fun i wr => ∃ k : Nat, k ≤ n ∧ i = .int .i64 k ∧ GoodTo xs k ∧ Quiet w wr) (fun i _ => n - (intOf i).toNat)
  case atStart => exact ⟨0, by omega, rfl, GoodTo.zero _, Quiet.refl _⟩
  case round =>
    obtain ⟨k, hk, rfl, hto, hq⟩ := hrel
    have HT := Lib.hid hto
    have HQ := Lib.hid hq
    clear hto hq
    by_cases hlt : k < n
    · obtain ⟨b, off, rfl, hlb, hx⟩ := hcell k hlt
      have h0 := cell_on (HQ.out.below _) (hx k hlt)
      have HI : Hid (Ints wr (some ⟨b, off, none⟩) k c (xs.take k)) := (HH.out.mono (HQ.out.below _)).take k hk
      have HS : Hid (goodAt xs k = true → GoodTo xs (k + 1)) := fun e => HT.out.succ e
      have HN : Hid (goodAt xs k = false → okOrder xs = false) := fun e => good_not (by rw [hl.out]; exact hlt) e
      have HG : Hid (goodAt xs k = (inB (xs.getD k 0) 0 ((n : Int) - 1) && !(xs.take k).contains (xs.getD k 0))) := by
        show goodAt xs k = _
        rw [goodAt, hl.out]
      clear hcell hx
      generalize xs.getD k 0 = y at *
      have HHas := Lib.hid (fun q => l02Has_any (some ⟨b, off, none⟩) k c (xs.take k) y (wr.drewN q) HI.out)
      generalize (xs.take k).contains y = cb at *
      rcases Bool.eq_false_or_eq_true (inB y 0 ((n : Int) - 1)) with e | e
      · cases cb
        · go_wp2
          go_quiet (first | (go_at_call 88; exact qS (l00In_any _ _ _ _)) | (go_at_call 103; exact qS (HHas.out _)))
          go_wp2
          go_roundw
          case rel => exact ⟨k + 1, by omega, by go_num, HS.out (by rw [HG.out, e]; rfl), HQ.out.trans ⟨_, rfl⟩⟩
          case measure => simp [intOf]; omega
        · go_wp2
          go_quiet (first | (go_at_call 88; exact qS (l00In_any _ _ _ _)) | (go_at_call 103; exact qS (HHas.out _)))
          go_wp2
          go_ret
          exact ⟨ret_bool (HN.out (by rw [HG.out, e]; rfl)).symm, HQ.out.trans ⟨_, rfl⟩⟩
      · go_wp2
        go_quiet (first | (go_at_call 88; exact qS (l00In_any _ _ _ _)) | (go_at_call 103; exact qS (HHas.out _)))
        go_wp2
        go_ret
        exact ⟨ret_bool (HN.out (by rw [HG.out, e]; rfl)).symm, HQ.out.trans ⟨_, rfl⟩⟩
    · obtain rfl : k = n := by omega
      clear hcell
      go_wp2
      go_ret
      exact ⟨ret_bool (HT.out.all hl.out).symm, HQ.out⟩

theorem l02Deck_any (a : Option Addr) (n c : Nat) (xs : List Int) (w : World) (h : Ints w a n c xs) :
    Calls Tryd.prog 67 #[.slice a n c] w (RetQ w (.bool (okDeck xs))) := by
  obtain ⟨hc, hb, _⟩ := h.at
  have hl := Lib.hid h.len
  have HD : Hid (okDeck xs = (decide (1 ≤ xs.length) && (decide (xs.length ≤ 52) && okOrder xs))) := rfl
  by_cases h1 : 1 ≤ n
  · by_cases h2 : n ≤ 52
    · have HC := Lib.hid (l02Orders_any a n c xs w h h1)
      clear h
      go_enter Tryd.func67, Tryd.ntmps67
      go_wp2_with (fail)
      refine HC.out.mono ?_
      rintro e w1 ⟨rfl, hq⟩
      have HQ := Lib.hid hq
      clear hq
      go_wp2
      go_ret
      exact ⟨ret_bool (by rw [HD.out, hl.out]; simp [h1, h2]), HQ.out⟩
    · clear h
      go_enter Tryd.func67, Tryd.ntmps67
      go_wp2
      go_ret
      exact ⟨ret_bool (by rw [HD.out, hl.out]; simp [h2]), Quiet.refl _⟩
  · clear h
    go_enter Tryd.func67, Tryd.ntmps67
    go_wp2
    go_ret
    exact ⟨ret_bool (by rw [HD.out, hl.out]; simp [h1]), Quiet.refl _⟩

theorem isOrder_any (a : Option Addr) (n c : Nat) (xs : List Int) (w : World) (h : Ints w a n c xs) (hn : n ≤ 52) :
    Calls Tryd.prog 70 #[.slice a n c] w (Ret w (.bool (okOrder xs))) := by
  obtain ⟨hc, hb, hcell⟩ := h.at
  have hl := Lib.hid h.len
  clear h
  obtain ⟨i0, hi, hz0, hz1, hz2⟩ := info_parts infoB
  go_enter Tryd.func70, Tryd.ntmps70
  go_wp2_with (first | (at_make; go_must (refine wpList_make_full _ rfl _ _ 130 rfl w.heap.size 4 i0 _ 1 Tryd.underlying130 hi hz0 hz1 _ _ _ _ n rfl rfl rfl rfl (by rw [hz2]; omega) (by unfold maxLen; omega) (by simp) ?_; intro w1 hown1 hg1)))
  have hown1' := Lib.hid hown1
  have hg1' := Lib.hid hg1
  clear hown1 hg1
  go_loopw [11] (fun i wr => ∃ k : Nat, k ≤ n ∧ i = .int .i64 k ∧ GoodTo xs k ∧ Below w.heap.size w wr ∧ wr.ownsRow w.heap.size 4 1 (.slice (some ⟨w.heap.size, 0, none⟩) n n) n ((seenTo xs n k).map Value.bool)) (fun i _ => n - (intOf i).toNat)
  case atStart => exact ⟨0, by omega, rfl, GoodTo.zero _, below_made (Below.refl _ _) (Nat.le_refl _) hg1'.out, by rw [seenTo_zero, List.map_replicate]; have := hown1'.out; rw [made_const _ (.bool false) (by decide) (by intro i hi; match i, hi with | 0, _ => rfl), Nat.mul_one] at this; exact this⟩
  case round =>
    obtain ⟨k, hk, rfl, hto, hbel, hown⟩ := hrel
    have HT := Lib.hid hto
    clear hto
    by_cases hlt : k < n
    · obtain ⟨b, off, rfl, hlb, hx⟩ := hcell k hlt
      have h0 := cell_on hbel (hx k hlt)
      have HS : Hid (goodAt xs k = true → GoodTo xs (k + 1)) := fun e => HT.out.succ e
      have HN : Hid (goodAt xs k = false → okOrder xs = false) := fun e => good_not (by rw [hl.out]; exact hlt) e
      have HG : Hid (goodAt xs k = (inB (xs.getD k 0) 0 ((n : Int) - 1) && !(xs.take k).contains (xs.getD k 0))) := by
        show goodAt xs k = _
        rw [goodAt, hl.out]
      have HST := Lib.hid (fun v => seenTo_set xs n k v (by rw [hl.out]; exact hlt))
      have HB := Lib.hid hbel
      clear hcell hx hbel
      generalize hY : xs.getD k 0 = y at *
      have HY := Lib.hid hY
      clear hY
      rcases Bool.eq_false_or_eq_true (inB y 0 ((n : Int) - 1)) with e | e
      · obtain ⟨y0, y1⟩ := (inB_iff _ _ _).1 e
        obtain ⟨v, rfl⟩ : ∃ v : Nat, y = (v : Int) := ⟨y.toNat, by omega⟩
        have hv : v < n := by omega
        have c0 : wr.cell? ⟨w.heap.size, v, none⟩ = some (.bool ((seenTo xs n k).getD v false)) := by
          rw [hown.cellAt v (by omega), row_get Value.bool false _ _ (by simp [seenTo]; exact hv)]
        rw [seenTo_get _ _ _ _ hv] at c0
        have f := fun j => World.ownsRow.frozenAt hown j
        have HO := Lib.hid hown
        clear hown
        generalize (xs.take k).contains (v : Int) = cb at *
        cases cb
        · go_wp2_with (first | (go_at_call 97; refine (within_any _ _ _ _).mono ?_; rintro e w' ⟨rfl, rfl⟩))
          go_roundw
          case rel =>
            refine ⟨k + 1, by omega, by go_num, HS.out (by rw [HG.out, e]; rfl), HB.out.setCell (Nat.le_refl _) _, ?_⟩
            have h1 := (HO.out.stored v (.bool true)).1
            rw [← HST.out v rfl, List.map_set]
            exact h1
          case measure => simp [intOf]; omega
        · go_wp2_with (first | (go_at_call 97; refine (within_any _ _ _ _).mono ?_; rintro e w' ⟨rfl, rfl⟩))
          go_ret
          exact ⟨ret_bool (HN.out (by rw [HG.out, e]; rfl)).symm, HB.out⟩
      · clear hown
        go_wp2_with (first | (go_at_call 97; refine (within_any _ _ _ _).mono ?_; rintro e w' ⟨rfl, rfl⟩))
        go_ret
        exact ⟨ret_bool (HN.out (by rw [HG.out, e]; rfl)).symm, HB.out⟩
    · obtain rfl : k = n := by omega
      have HB := Lib.hid hbel
      clear hcell hbel hown
      go_wp2
      go_ret
      exact ⟨ret_bool (HT.out.all hl.out).symm, HB.out⟩

theorem IsDeck_any (a : Option Addr) (n c : Nat) (xs : List Int) (w : World) (h : Ints w a n c xs) :
    Calls Tryd.prog 39 #[.slice a n c] w (Ret w (.bool (okDeck xs))) := by
  obtain ⟨hc, hb, _⟩ := h.at
  have hl := Lib.hid h.len
  have HD : Hid (okDeck xs = (decide (1 ≤ xs.length) && (decide (xs.length ≤ 52) && okOrder xs))) := rfl
  by_cases h1 : 1 ≤ n
  · by_cases h2 : n ≤ 52
    · have HC := Lib.hid (isOrder_any a n c xs w h h2)
      clear h
      go_enter Tryd.func39, Tryd.ntmps39
      go_wp2_with (fail)
      refine HC.out.mono ?_
      rintro e w1 ⟨rfl, hb1⟩
      have HB := Lib.hid hb1
      clear hb1
      go_wp2
      go_ret
      exact ⟨ret_bool (by rw [HD.out, hl.out]; simp [h1, h2]), HB.out⟩
    · clear h
      go_enter Tryd.func39, Tryd.ntmps39
      go_wp2
      go_ret
      exact ⟨ret_bool (by rw [HD.out, hl.out]; simp [h2]), Below.refl _ _⟩
  · clear h
    go_enter Tryd.func39, Tryd.ntmps39
    go_wp2
    go_ret
    exact ⟨ret_bool (by rw [HD.out, hl.out]; simp [h1]), Below.refl _ _⟩

end Go.Proofs.YtnoageckldilnaaDoor
