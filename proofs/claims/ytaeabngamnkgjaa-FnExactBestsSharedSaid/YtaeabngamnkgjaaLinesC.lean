/- Lines of play, spec: l06Hands, CountLines. -/
import Derived.Test.YtaeabngamnkgjaaLinesB
namespace Go.Proofs.Ytaeabngamnkgjaa
open Go.RowKit
set_option linter.unusedVariables false

theorem okHands_no {xs ys : List Int} (h : ¬ (xs.length = ys.length ∧ xs.length ≤ 6)) : okHands xs ys = false := by
  rw [← Bool.not_eq_true, okHands_iff]
  exact fun e => h ⟨e.1, e.2.1⟩
theorem okHands_yes {xs ys : List Int} (h : xs.length = ys.length ∧ xs.length ≤ 6) : okHands xs ys = okCards (xs ++ ys) := by
  unfold okHands
  rw [decide_eq_true h.1, decide_eq_true h.2]
  rfl

set_option maxHeartbeats 800000 in
set_option maxRecDepth 100000 in
theorem l06Hands_any (ad : Addr) (n c : Nat) (xs : List Int) (ad' : Addr) (n' c' : Nat) (ys : List Int) (w : World) (h : Ints w (some ad) n c xs) (h' : Ints w (some ad') n' c' ys) :
    Calls Try.prog 58 #[.slice (some ad) n c, .slice (some ad') n' c'] w (Ret w (.bool (okHands xs ys))) := by
  obtain ⟨i0, hi, hz0, hz1, hz2⟩ := info_parts infoI64
  have hl := Lib.hid h.len
  have hl' := Lib.hid h'.len
  obtain ⟨hc, hb, _⟩ := h.at
  obtain ⟨hc', hb', _⟩ := h'.at
  by_cases hn : n = n'
  case neg =>
    have HR := Lib.hid (okHands_no (xs := xs) (ys := ys) (by rw [hl.out, hl'.out]; exact fun e => hn e.1))
    have hne : ((n : Int) != n') = true := by simp; omega
    clear h h'
    generalize okHands xs ys = r at *
    go_enter Try.func58, Try.ntmps58
    go_wp2
    go_ret
    exact ⟨ret_bool HR.out.symm, Below.refl _ _⟩
  subst hn
  by_cases h6 : n ≤ 6
  case neg =>
    have HR := Lib.hid (okHands_no (xs := xs) (ys := ys) (by rw [hl.out]; exact fun e => h6 e.2))
    clear h h'
    generalize okHands xs ys = r at *
    go_enter Try.func58, Try.ntmps58
    go_wp2
    go_ret
    exact ⟨ret_bool HR.out.symm, Below.refl _ _⟩
  have HR := Lib.hid (okHands_yes (xs := xs) (ys := ys) ⟨by rw [hl.out, hl'.out], by rw [hl.out]; exact h6⟩)
  have hN := Lib.hid h.news
  have hN' := Lib.hid h'.news
  have hL : Hid ((intCells xs).length = n * 1) := h.1
  have hL' : Hid ((intCells ys).length = n * 1) := h'.1
  have HI' := Lib.hid h'
  clear h h'
  generalize okHands xs ys = r at *
  go_enter Try.func58, Try.ntmps58
  go_wp2_with (first
    | (at_builtin; refine wpList_append_own _ rfl (.tmp 15) (.tmp 16) 25 rfl w.heap.size 2 i0 (.int .i64 0) 1 8 Try.underlying25 hi hz0 hz1 hz2 rfl (by decide) (.slice (some ⟨w.heap.size, 0, none⟩) 0 0) 0 [] rfl (World.ownsRow_made w #[] 0 (Nat.le_refl _) (Nat.zero_le _) (by simp)) ad n c (intCells xs) rfl hL.out (fun j u hu => cell_on ((Below.refl _ _).alloc (Nat.le_refl _) _) (hN.out j u hu)) (intCells_one xs) (by unfold maxLen; omega) (by omega) (by simp) ?_; intro v1 w1 hown1 hg1 _; have HB1 := Lib.hid (below_grown ((Below.refl w.heap.size w).alloc (Nat.le_refl _) _) (by simp) hg1 (World.ownsRow_made (e := 2) (size := 1) w #[] 0 (Nat.le_refl w.heap.size) (Nat.zero_le _) (by simp))); simp only [Nat.zero_add, List.nil_append] at hown1; have hs1 := HB1.out.size; clear hg1)
    | (at_builtin; refine wpList_append_own _ rfl (.tmp 17) (.tmp 18) 25 rfl w.heap.size 2 i0 (.int .i64 0) 1 8 Try.underlying25 hi hz0 hz1 hz2 rfl (by decide) v1 n (intCells xs) rfl hown1 ad' n c' (intCells ys) rfl hL'.out (fun j u hu => cell_on HB1.out (hN'.out j u hu)) (intCells_one ys) (by unfold maxLen; omega) (by omega) hs1 ?_; intro v2 w2 hown2 hg2 _; obtain ⟨a2, c2, rfl⟩ := own_form hown2))
  have HB2 := Lib.hid (below_grown HB1.out hs1 hg2 hown1)
  have hs2 := HB2.out.size
  have CC := Lib.hid (l06Cards_any a2 (n + n) c2 (xs ++ ys) w2 (by
    have := Rd.own hown2
    rw [show intCells xs ++ intCells ys = intCells (xs ++ ys) from List.map_append.symm] at this
    exact this))
  clear hown1 hown2 hg2
  go_wp2_with (fail)
  refine CC.out.mono ?_
  rintro e w3 ⟨rfl, hq⟩
  have HB3 := Lib.hid (HB2.out.trans (hq.below _))
  clear hq
  go_wp2
  go_ret
  exact ⟨ret_bool HR.out.symm, HB3.out⟩

theorem linesRes_no {xs ys : List Int} (h : ¬ (okHands xs ys = true ∧ xs.length ≤ 4)) : linesRes xs ys = (0, false) := by
  unfold linesRes
  rw [if_neg h]

theorem specCountLines_any (ad : Addr) (n c : Nat) (xs : List Int) (ad' : Addr) (n' c' : Nat) (ys : List Int) (w : World) (h : Ints w (some ad) n c xs) (h' : Ints w (some ad') n' c' ys) :
    Calls Try.prog 28 #[.slice (some ad) n c, .slice (some ad') n' c'] w (Ret w (.tuple #[.int .i64 (linesRes xs ys).1, .bool (linesRes xs ys).2])) := by
  have hl := Lib.hid h.len
  have hl' := Lib.hid h'.len
  have C1 := Lib.hid (l06Hands_any ad n c xs ad' n' c' ys w h h')
  obtain ⟨hc, hb, _⟩ := h.at
  obtain ⟨hc', hb', _⟩ := h'.at
  rcases Bool.eq_false_or_eq_true (okHands xs ys) with e | e
  case inr =>
    have HR := Lib.hid (linesRes_no (xs := xs) (ys := ys) (by rw [e]; simp))
    clear h h'
    generalize linesRes xs ys = r at *
    obtain rfl := HR.out
    go_enter Try.func28, Try.ntmps28
    go_wp2_with (fail)
    refine C1.out.mono ?_
    rintro e w1 ⟨rfl, hb1⟩
    have HB1 := Lib.hid hb1
    clear hb1
    go_wp2
    go_ret2
    exact ⟨rfl, HB1.out⟩
  by_cases h4 : n ≤ 4
  case neg =>
    have HR := Lib.hid (linesRes_no (xs := xs) (ys := ys) (by rw [hl.out]; exact fun e => h4 e.2))
    clear h h'
    generalize linesRes xs ys = r at *
    obtain rfl := HR.out
    go_enter Try.func28, Try.ntmps28
    go_wp2_with (fail)
    refine C1.out.mono ?_
    rintro e w1 ⟨rfl, hb1⟩
    have HB1 := Lib.hid hb1
    clear hb1
    go_wp2
    go_ret2
    exact ⟨rfl, HB1.out⟩
  have ho := (okHands_iff xs ys).1 e
  have hh := hands_of_ok ho.2.2
  have hnn : n' = n := by rw [← hl.out, ← hl'.out, ho.1]
  subst hnn
  have HR : Hid (linesRes xs ys = (waysF n' xs ys, true)) := by
    show _ = _
    unfold linesRes
    rw [if_pos ⟨e, by rw [hl.out]; exact h4⟩, hl.out]
  have hx := hh.1
  have hy := hh.2
  rw [hl.out] at hx
  rw [hl'.out] at hy
  have C2 := Lib.hid (fun W (hW : Below w.heap.size w W) => l06Ways_any n' h4 _ _ _ _ _ _ W (h.mono hW) (h'.mono hW) hx hy)
  clear h h' ho hh hx hy
  generalize linesRes xs ys = r at *
  generalize waysF n' xs ys = v at *
  obtain rfl := HR.out
  go_enter Try.func28, Try.ntmps28
  go_wp2_with (fail)
  refine C1.out.mono ?_
  rintro e w1 ⟨rfl, hb1⟩
  have HB1 := Lib.hid hb1
  clear hb1
  go_wp2_with (fail)
  refine (C2.out _ HB1.out).mono ?_
  rintro e w2 ⟨rfl, hb2⟩
  have HB2 := Lib.hid (HB1.out.trans (hb2.mono HB1.out.size))
  clear hb2
  go_wp2
  go_ret2
  exact ⟨rfl, HB2.out⟩

end Go.Proofs.Ytaeabngamnkgjaa
