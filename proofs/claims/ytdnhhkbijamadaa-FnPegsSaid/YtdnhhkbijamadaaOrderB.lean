/- Orders of cards: l02Has, l02Orders, l02Deck; isOrder, IsDeck. -/
import Derived.Test.YtdnhhkbijamadaaOrderA
import Derived.Test.YtdnhhkbijamadaaBasic
import Derived.Test.YtdnhhkbijamadaaI64
import Derived.Test.YtdnhhkbijamadaaTally
namespace Go.Proofs.Ytdnhhkbijamadaa
open Go.RowKit
set_option linter.unusedVariables false

theorem infoB : (Try.prog.info? 4).map (fun i => (i.zero, i.size, i.bytes)) = some (some (.bool false), 1, 1) := by kernel_rfl

theorem isOrder_any (a : Option Addr) (n c : Nat) (xs : List Int) (w : World) (h : Ints w a n c xs) (hn : n ≤ 52) :
    Calls Try.prog 24 #[.slice a n c] w (Ret w (.bool (okOrder xs))) := by
  obtain ⟨hc, hb, hcell⟩ := h.at
  have hl := Lib.hid h.len
  clear h
  obtain ⟨i0, hi, hz0, hz1, hz2⟩ := info_parts infoB
  go_enter Try.func24, Try.ntmps24
  go_wp2_with (first | (at_make; go_must (refine wpList_make_full _ rfl _ _ 25 rfl w.heap.size 4 i0 _ 1 Try.underlying25 hi hz0 hz1 _ _ _ _ n rfl rfl rfl rfl (by rw [hz2]; omega) (by unfold maxLen; omega) (by simp) ?_; intro w1 hown1 hg1)))
  have hown1' := Lib.hid hown1
  have hg1' := Lib.hid hg1
  clear hown1 hg1
  go_loopw [11] (fun i wr => ∃ k : Nat, k ≤ n ∧ i = .int .i64 k ∧ GoodTo xs k ∧ Below w.heap.size w wr ∧ wr.ownsRow w.heap.size 4 1 (.slice (some ⟨w.heap.size, 0, none⟩) n n) n ((seenTo xs n k).map Value.bool)) (fun i _ => n - (intOf i).toNat)
  case atStart => exact ⟨0, by omega, rfl, GoodTo.zero _, below_made (Below.refl _ _) (Nat.le_refl _) hg1'.out, by rw [seenTo_zero, List.map_replicate]; have := hown1'.out; rw [made_const _ (.bool false) (by decide) (by intro i hi; match i, hi with | 0, _ => rfl), Nat.mul_one] at this; exact this⟩
  case round =>
    obtain ⟨k, hk, rfl, hto, hbel, hown⟩ := hrel
    have HT := Lib.hid hto
    clear hto
    by_cases hlt : k < n
    · obtain ⟨b, off, rfl, hlb, hx⟩ := hcell k hlt
      have h0 := cell_on hbel (hx k hlt)
      have HS : Hid (goodAt xs k = true → GoodTo xs (k + 1)) := fun e => HT.out.succ e
      have HN : Hid (goodAt xs k = false → okOrder xs = false) := fun e => good_not (by rw [hl.out]; exact hlt) e
      have HG : Hid (goodAt xs k = (inB (xs.getD k 0) 0 ((n : Int) - 1) && !(xs.take k).contains (xs.getD k 0))) := by
        show goodAt xs k = _
        rw [goodAt, hl.out]
      have HST := Lib.hid (fun v => seenTo_set xs n k v (by rw [hl.out]; exact hlt))
      have HB := Lib.hid hbel
      clear hcell hx hbel
      generalize hY : xs.getD k 0 = y at *
      have HY := Lib.hid hY
      clear hY
      rcases Bool.eq_false_or_eq_true (inB y 0 ((n : Int) - 1)) with e | e
      · obtain ⟨y0, y1⟩ := (inB_iff _ _ _).1 e
        obtain ⟨v, rfl⟩ : ∃ v : Nat, y = (v : Int) := ⟨y.toNat, by omega⟩
        have hv : v < n := by omega
        have c0 : wr.cell? ⟨w.heap.size, v, none⟩ = some (.bool ((seenTo xs n k).getD v false)) := by
          rw [hown.cellAt v (by omega), row_get Value.bool false _ _ (by simp [seenTo]; exact hv)]
        rw [seenTo_get _ _ _ _ hv] at c0
        have f := fun j => World.ownsRow.frozenAt hown j
        have HO := Lib.hid hown
        clear hown
        generalize (xs.take k).contains (v : Int) = cb at *
        cases cb
        · go_wp2_with (first | (go_at_call 19; refine (within_any _ _ _ _).mono ?_; rintro e w' ⟨rfl, rfl⟩))
          go_roundw
          case rel =>
            refine ⟨k + 1, by omega, by go_num, HS.out (by rw [HG.out, e]; rfl), HB.out.setCell (Nat.le_refl _) _, ?_⟩
            have h1 := (HO.out.stored v (.bool true)).1
            rw [← HST.out v rfl, List.map_set]
            exact h1
          case measure => simp [intOf]; omega
        · go_wp2_with (first | (go_at_call 19; refine (within_any _ _ _ _).mono ?_; rintro e w' ⟨rfl, rfl⟩))
          go_ret
          exact ⟨ret_bool (HN.out (by rw [HG.out, e]; rfl)).symm, HB.out⟩
      · clear hown
        go_wp2_with (first | (go_at_call 19; refine (within_any _ _ _ _).mono ?_; rintro e w' ⟨rfl, rfl⟩))
        go_ret
        exact ⟨ret_bool (HN.out (by rw [HG.out, e]; rfl)).symm, HB.out⟩
    · obtain rfl : k = n := by omega
      have HB := Lib.hid hbel
      clear hcell hbel hown
      go_wp2
      go_ret
      exact ⟨ret_bool (HT.out.all hl.out).symm, HB.out⟩

theorem IsDeck_any (a : Option Addr) (n c : Nat) (xs : List Int) (w : World) (h : Ints w a n c xs) :
    Calls Try.prog 18 #[.slice a n c] w (Ret w (.bool (okDeck xs))) := by
  obtain ⟨hc, hb, _⟩ := h.at
  have hl := Lib.hid h.len
  have HD : Hid (okDeck xs = (decide (1 ≤ xs.length) && (decide (xs.length ≤ 52) && okOrder xs))) := rfl
  by_cases h1 : 1 ≤ n
  · by_cases h2 : n ≤ 52
    · have HC := Lib.hid (isOrder_any a n c xs w h h2)
      clear h
      go_enter Try.func18, Try.ntmps18
      go_wp2_with (fail)
      refine HC.out.mono ?_
      rintro e w1 ⟨rfl, hb1⟩
      have HB := Lib.hid hb1
      clear hb1
      go_wp2
      go_ret
      exact ⟨ret_bool (by rw [HD.out, hl.out]; simp [h1, h2]), HB.out⟩
    · clear h
      go_enter Try.func18, Try.ntmps18
      go_wp2
      go_ret
      exact ⟨ret_bool (by rw [HD.out, hl.out]; simp [h2]), Below.refl _ _⟩
  · clear h
    go_enter Try.func18, Try.ntmps18
    go_wp2
    go_ret
    exact ⟨ret_bool (by rw [HD.out, hl.out]; simp [h1]), Below.refl _ _⟩

end Go.Proofs.Ytdnhhkbijamadaa
