/- Lines of play, impl: AreHands, CountLines. -/
import Derived.Test.YtgldfmkjnggedaaLinesC
import Derived.Test.YtgldfmkjnggedaaLinesE
import Derived.Test.YtgldfmkjnggedaaConcat
namespace Go.Proofs.Ytgldfmkjnggedaa
open Go.RowKit
set_option linter.unusedVariables false

set_option maxHeartbeats 800000 in
set_option maxRecDepth 100000 in
theorem AreHands_any (ad : Addr) (n c : Nat) (xs : List Int) (ad' : Addr) (n' c' : Nat) (ys : List Int) (w : World) (h : Ints w (some ad) n c xs) (h' : Ints w (some ad') n' c' ys) :
    Calls Try.prog 11 #[.slice (some ad) n c, .slice (some ad') n' c'] w (Ret w (.bool (okHands xs ys))) := by
  have hl := Lib.hid h.len
  have hl' := Lib.hid h'.len
  obtain ⟨hc, hb, _⟩ := h.at
  obtain ⟨hc', hb', _⟩ := h'.at
  by_cases hn : n = n'
  case neg =>
    have HR := Lib.hid (okHands_no (xs := xs) (ys := ys) (by rw [hl.out, hl'.out]; exact fun e => hn e.1))
    have hne : ((n : Int) == n') = false := by simp only [beq_eq_false_iff_ne]; omega
    clear h h'
    generalize okHands xs ys = r at *
    go_enter Try.func11, Try.ntmps11
    go_wp2
    go_ret
    exact ⟨ret_bool HR.out.symm, Below.refl _ _⟩
  subst hn
  by_cases h6 : n ≤ 6
  case neg =>
    have HR := Lib.hid (okHands_no (xs := xs) (ys := ys) (by rw [hl.out]; exact fun e => h6 e.2))
    clear h h'
    generalize okHands xs ys = r at *
    go_enter Try.func11, Try.ntmps11
    go_wp2
    go_ret
    exact ⟨ret_bool HR.out.symm, Below.refl _ _⟩
  have HR := Lib.hid (okHands_yes (xs := xs) (ys := ys) ⟨by rw [hl.out, hl'.out], by rw [hl.out]; exact h6⟩)
  by_cases h0 : n = 0
  case pos =>
    subst h0
    have hx : xs = [] := List.eq_nil_of_length_eq_zero hl.out
    have hy : ys = [] := List.eq_nil_of_length_eq_zero hl'.out
    have HR2 : Hid (okHands xs ys = true) := by show _ = _; rw [HR.out, hx, hy]; rfl
    clear h h' HR hx hy
    generalize okHands xs ys = r at *
    go_enter Try.func11, Try.ntmps11
    go_wp2
    go_ret
    exact ⟨ret_bool HR2.out.symm, Below.refl _ _⟩
  have hn0 : ((n : Int) == 0) = false := by simp only [beq_eq_false_iff_ne]; omega
  have HB0 : Hid (Below w.heap.size w (w.alloc (.cells #[.slice (some ad) n c, .slice (some ad') n c'] 25))) := (Below.refl _ _).alloc (Nat.le_refl _) _
  have CC := Lib.hid (concat2_any w.heap.size ad n c xs ad' n c' ys _ (h.mono HB0.out) (h'.mono HB0.out) (by simp) (by simp) (by omega) (by omega))
  have CH := Lib.hid (fun (a : Option Addr) (c2 : Nat) W hi => isHand_any a (n + n) c2 (xs ++ ys) 2 12 W hi (by omega) (by omega))
  have HT : Hid ((decide (2 ≤ n + n) && decide (n + n ≤ 12) && okCards (xs ++ ys)) = okCards (xs ++ ys)) := by
    show _ = _
    rw [decide_eq_true (show 2 ≤ n + n by omega), decide_eq_true (show n + n ≤ 12 by omega)]
    rfl
  clear h h'
  generalize okHands xs ys = r at *
  generalize (decide (2 ≤ n + n) && decide (n + n ≤ 12) && okCards (xs ++ ys)) = r2 at *
  go_enter Try.func11, Try.ntmps11
  go_wp2_with (fail)
  refine CC.out.mono ?_
  rintro e w1 ⟨a1, c1, rfl, hb1, ho1⟩
  have HB1 := Lib.hid (HB0.out.trans (hb1.mono HB0.out.size))
  have HI1 := Lib.hid (Rd.own ho1)
  clear hb1 ho1
  go_wp2_with (fail)
  refine (CH.out _ _ _ HI1.out).mono ?_
  rintro e w2 ⟨rfl, rfl⟩
  go_wp2
  go_ret
  exact ⟨ret_bool (HT.out.trans HR.out.symm), HB1.out⟩

theorem implCountLines_any (ad : Addr) (n c : Nat) (xs : List Int) (ad' : Addr) (n' c' : Nat) (ys : List Int) (w : World) (h : Ints w (some ad) n c xs) (h' : Ints w (some ad') n' c' ys) :
    Calls Try.prog 16 #[.slice (some ad) n c, .slice (some ad') n' c'] w (Ret w (.tuple #[.int .i64 (linesRes xs ys).1, .bool (linesRes xs ys).2])) := by
  have hl := Lib.hid h.len
  have hl' := Lib.hid h'.len
  have C1 := Lib.hid (AreHands_any ad n c xs ad' n' c' ys w h h')
  obtain ⟨hc, hb, _⟩ := h.at
  obtain ⟨hc', hb', _⟩ := h'.at
  rcases Bool.eq_false_or_eq_true (okHands xs ys) with e | e
  case inr =>
    have HR := Lib.hid (linesRes_no (xs := xs) (ys := ys) (by rw [e]; simp))
    clear h h'
    generalize linesRes xs ys = r at *
    obtain rfl := HR.out
    go_enter Try.func16, Try.ntmps16
    go_wp2_with (fail)
    refine C1.out.mono ?_
    rintro e w1 ⟨rfl, hb1⟩
    have HB1 := Lib.hid hb1
    clear hb1
    go_wp2
    go_ret2
    exact ⟨rfl, HB1.out⟩
  by_cases h4 : n ≤ 4
  case neg =>
    have HR := Lib.hid (linesRes_no (xs := xs) (ys := ys) (by rw [hl.out]; exact fun e => h4 e.2))
    clear h h'
    generalize linesRes xs ys = r at *
    obtain rfl := HR.out
    go_enter Try.func16, Try.ntmps16
    go_wp2_with (fail)
    refine C1.out.mono ?_
    rintro e w1 ⟨rfl, hb1⟩
    have HB1 := Lib.hid hb1
    clear hb1
    go_wp2
    go_ret2
    exact ⟨rfl, HB1.out⟩
  have ho := (okHands_iff xs ys).1 e
  have hh := hands_of_ok ho.2.2
  have hnn : n' = n := by rw [← hl.out, ← hl'.out, ho.1]
  subst hnn
  have HR : Hid (linesRes xs ys = (waysF n' xs ys, true)) := by
    show _ = _
    unfold linesRes
    rw [if_pos ⟨e, by rw [hl.out]; exact h4⟩, hl.out]
  have hx := hh.1
  have hy := hh.2
  rw [hl.out] at hx
  rw [hl'.out] at hy
  have C2 := Lib.hid (fun W (hW : Below w.heap.size w W) => countLines_any n' h4 _ _ _ _ _ _ W (h.mono hW) (h'.mono hW) hx hy)
  clear h h' ho hh hx hy
  generalize linesRes xs ys = r at *
  generalize waysF n' xs ys = v at *
  obtain rfl := HR.out
  go_enter Try.func16, Try.ntmps16
  go_wp2_with (fail)
  refine C1.out.mono ?_
  rintro e w1 ⟨rfl, hb1⟩
  have HB1 := Lib.hid hb1
  clear hb1
  go_wp2_with (fail)
  refine (C2.out _ HB1.out).mono ?_
  rintro e w2 ⟨rfl, hb2⟩
  have HB2 := Lib.hid (HB1.out.trans (hb2.mono HB1.out.size))
  clear hb2
  go_wp2
  go_ret2
  exact ⟨rfl, HB2.out⟩

end Go.Proofs.Ytgldfmkjnggedaa
