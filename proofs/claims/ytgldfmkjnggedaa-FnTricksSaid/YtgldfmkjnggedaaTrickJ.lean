/- Tricks, impl: TrickBest, TrickCard. -/
import Derived.Test.YtgldfmkjnggedaaTrickH
namespace Go.Proofs.Ytgldfmkjnggedaa
open Go.RowKit
set_option linter.unusedVariables false

theorem best_zero (t : Int) (M : Nat) (a : Option Addr) (c : Nat) (a' : Option Addr) (n' c' : Nat) (w : World) (hc : c ≤ 9223372036854775807) (hn' : n' ≤ c') (hc' : c' ≤ 9223372036854775807) :
    Calls Try.prog 21 #[.agg #[.int .i64 t, .map (some M)], .slice a 0 c, .slice a' n' c'] w (Ret w (.int .i64 0)) := by
  go_enter Try.func21, Try.ntmps21
  go_wp2_with (fail)
  go_ret
  exact ⟨rfl, (Below.refl _ _).alloc (Nat.le_refl _) _⟩

/-- An argument's row of one card or more lies in old blocks. -/
theorem av_old {w : World} {ad : Addr} {n c M : Nat} {xs : List Int} (h : Ints w (some ad) n c xs) (hn : 0 < n) (hM : w.heap.size ≤ M) : Av M (some ad) := fun x hx => by
  have := Rd.in_heap h hn x hx
  omega

set_option maxHeartbeats 1600000 in
theorem implTrickBest_any (ad : Addr) (n c : Nat) (xs : List Int) (ad' : Addr) (n' c' : Nat) (ys : List Int) (b : Bool) (t : Int) (w : World) (h : Ints w (some ad) n c xs) (h' : Ints w (some ad') n' c' ys) :
    Calls Try.prog 7 #[.slice (some ad) n c, .slice (some ad') n' c', .bool b, .int .i64 t] w (Ret w (.tuple #[.int .i64 (bestRes xs ys b t).1, .bool (bestRes xs ys b t).2])) := by
  have hl := Lib.hid h.len
  have hl' := Lib.hid h'.len
  have C1 := isGame_any ad n c xs ad' n' c' ys t w h h'
  obtain ⟨hc, hb, _⟩ := h.at
  obtain ⟨hc', hb', _⟩ := h'.at
  rcases Bool.eq_false_or_eq_true (okGameB xs ys t) with e | e
  case inr =>
    have HR : Hid (bestRes xs ys b t = (0, false)) := by show _ = _; unfold bestRes; rw [if_neg (by rw [e]; exact Bool.false_ne_true)]
    rw [e] at C1
    have C1 := Lib.hid C1
    clear h h' e
    generalize bestRes xs ys b t = r at *
    obtain rfl := HR.out
    go_enter Try.func7, Try.ntmps7
    go_wp2_with (fail)
    refine C1.out.mono ?_
    rintro e w1 ⟨rfl, hb1⟩
    have HB1 := Lib.hid hb1
    clear hb1
    go_wp2
    go_ret2
    exact ⟨rfl, HB1.out⟩
  rw [e] at C1
  have C1 := Lib.hid C1
  obtain ⟨g1, g2, g3, g4, _⟩ := okGame_hands e
  have hnn : n' = n := by rw [← hl.out, ← hl'.out, g1]
  subst hnn
  rw [hl.out] at g2 g3 g4
  have HR : Hid (bestRes xs ys b t = ((if b = true then bestF t n' xs ys else (n' : Int) - bestF t n' ys xs), true)) := by
    show _ = _
    unfold bestRes
    rw [if_pos e, hl.out]
  have CN := Lib.hid (fun W => newTable_any t W)
  have HA := Lib.hid (fun M (hM : w.heap.size ≤ M) => And.intro (fun hn : 0 < n' => av_old h hn hM) (fun hn : 0 < n' => av_old h' hn hM))
  have CZ : Hid (∀ M W, n' = 0 → Calls Try.prog 21 #[.agg #[.int .i64 t, .map (some M)], .slice (some ad) n' c, .slice (some ad') n' c'] W (Ret W (.int .i64 0)) ∧ Calls Try.prog 21 #[.agg #[.int .i64 t, .map (some M)], .slice (some ad') n' c', .slice (some ad) n' c] W (Ret W (.int .i64 0))) := fun M W hn => by
    subst hn
    exact ⟨best_zero t M _ c _ 0 c' W hb hc' hb', best_zero t M _ c' _ 0 c W hb' hc hb⟩
  have CB : Hid (∀ M W, w.heap.size ≤ M → Below w.heap.size w W → TabAt M 0 t W → Calls Try.prog 21 #[.agg #[.int .i64 t, .map (some M)], .slice (some ad) n' c, .slice (some ad') n' c'] W (fun e w' => e = .returned (.int .i64 (bestF t n' xs ys)) ∧ Chg M (M + 1) W w')) := fun M W hM hW hT => by
    by_cases hn : n' = 0
    · have hx0 : bestF t n' xs ys = 0 := by subst hn; rfl
      rw [hx0]
      exact ((CZ.out M W hn).1).mono fun e w' ⟨h1, h2⟩ => ⟨h1, Chg.below h2⟩
    · exact (best_any t M n' g2 0 _ c xs _ c' ys W (h.mono hW) (h'.mono hW) ((HA.out M hM).1 (by omega)) ((HA.out M hM).2 (by omega)) g3 g4 hT (by have := cb_le g2; omega)).mono fun e w' ⟨h1, h2, _⟩ => ⟨h1, h2⟩
  have CB' : Hid (∀ M W, w.heap.size ≤ M → Below w.heap.size w W → TabAt M 0 t W → Calls Try.prog 21 #[.agg #[.int .i64 t, .map (some M)], .slice (some ad') n' c', .slice (some ad) n' c] W (fun e w' => e = .returned (.int .i64 (bestF t n' ys xs)) ∧ Chg M (M + 1) W w')) := fun M W hM hW hT => by
    by_cases hn : n' = 0
    · have hx0 : bestF t n' ys xs = 0 := by subst hn; rfl
      rw [hx0]
      exact ((CZ.out M W hn).2).mono fun e w' ⟨h1, h2⟩ => ⟨h1, Chg.below h2⟩
    · exact (best_any t M n' g2 0 _ c' ys _ c xs W (h'.mono hW) (h.mono hW) ((HA.out M hM).2 (by omega)) ((HA.out M hM).1 (by omega)) g4 g3 hT (by have := cb_le g2; omega)).mono fun e w' ⟨h1, h2, _⟩ => ⟨h1, h2⟩
  have b1 := bestF_bd t n' _ _ g3 g4
  have b2 := bestF_bd t n' _ _ g4 g3
  clear h h' e g1 g3 g4 HA CZ
  generalize bestRes xs ys b t = r at *
  generalize bestF t n' xs ys = B1 at *
  generalize bestF t n' ys xs = B2 at *
  obtain rfl := HR.out
  cases b
  · go_enter Try.func7, Try.ntmps7
    go_wp2_with (fail)
    refine C1.out.mono ?_
    rintro e w1 ⟨rfl, hb1⟩
    have HB1 := Lib.hid hb1
    clear hb1
    go_wp2_with (fail)
    refine (CN.out _).mono ?_
    rintro e w2 ⟨M, rfl, hb2, hM, hT⟩
    have HB2 := Lib.hid (HB1.out.trans (hb2.mono HB1.out.size))
    have hM2 : w.heap.size ≤ M := Nat.le_trans HB1.out.size hM
    have CC := Lib.hid (CB'.out M w2 hM2 HB2.out hT)
    clear hb2 hT
    go_wp2_with (fail)
    refine CC.out.mono ?_
    rintro e w3 ⟨rfl, hc3⟩
    have HB3 := Lib.hid (below_chg HB2.out HB2.out.size hM2 hc3)
    clear hc3
    go_wp2
    go_ret2
    exact ⟨rfl, HB3.out⟩
  · go_enter Try.func7, Try.ntmps7
    go_wp2_with (fail)
    refine C1.out.mono ?_
    rintro e w1 ⟨rfl, hb1⟩
    have HB1 := Lib.hid hb1
    clear hb1
    go_wp2_with (fail)
    refine (CN.out _).mono ?_
    rintro e w2 ⟨M, rfl, hb2, hM, hT⟩
    have HB2 := Lib.hid (HB1.out.trans (hb2.mono HB1.out.size))
    have hM2 : w.heap.size ≤ M := Nat.le_trans HB1.out.size hM
    have CC := Lib.hid (CB.out M w2 hM2 HB2.out hT)
    clear hb2 hT
    go_wp2_with (fail)
    refine CC.out.mono ?_
    rintro e w3 ⟨rfl, hc3⟩
    have HB3 := Lib.hid (below_chg HB2.out HB2.out.size hM2 hc3)
    clear hc3
    go_wp2
    go_ret2
    exact ⟨rfl, HB3.out⟩

set_option maxHeartbeats 1600000 in
theorem implTrickCard_any (ad : Addr) (n c : Nat) (xs : List Int) (ad' : Addr) (n' c' : Nat) (ys : List Int) (b : Bool) (t : Int) (w : World) (h : Ints w (some ad) n c xs) (h' : Ints w (some ad') n' c' ys) :
    Calls Try.prog 8 #[.slice (some ad) n c, .slice (some ad') n' c', .bool b, .int .i64 t] w (Ret w (.tuple #[.int .i64 (cardRes xs ys b t).1, .bool (cardRes xs ys b t).2])) := by
  have hl := Lib.hid h.len
  have hl' := Lib.hid h'.len
  have C1 := isGame_any ad n c xs ad' n' c' ys t w h h'
  obtain ⟨hc, hb, _⟩ := h.at
  obtain ⟨hc', hb', _⟩ := h'.at
  rcases Bool.eq_false_or_eq_true (okGameB xs ys t) with e | e
  case inr =>
    have HR : Hid (cardRes xs ys b t = (0, false)) := by show _ = _; unfold cardRes; rw [if_neg (by rw [e]; exact fun h => Bool.false_ne_true h.1)]
    rw [e] at C1
    have C1 := Lib.hid C1
    clear h h' e
    generalize cardRes xs ys b t = r at *
    obtain rfl := HR.out
    go_enter Try.func8, Try.ntmps8
    go_wp2_with (fail)
    refine C1.out.mono ?_
    rintro e w1 ⟨rfl, hb1⟩
    have HB1 := Lib.hid hb1
    clear hb1
    go_wp2
    go_ret2
    exact ⟨rfl, HB1.out⟩
  rw [e] at C1
  have C1 := Lib.hid C1
  obtain ⟨g1, g2, g3, g4, _⟩ := okGame_hands e
  have hnn : n' = n := by rw [← hl.out, ← hl'.out, g1]
  subst hnn
  rw [hl.out] at g2 g3 g4
  cases n' with
  | zero =>
    have HR : Hid (cardRes xs ys b t = (0, false)) := by show _ = _; unfold cardRes; rw [if_neg (fun h => h.2 hl.out)]
    clear h h' e g1 g3 g4
    generalize cardRes xs ys b t = r at *
    obtain rfl := HR.out
    go_enter Try.func8, Try.ntmps8
    go_wp2_with (fail)
    refine C1.out.mono ?_
    rintro e w1 ⟨rfl, hb1⟩
    have HB1 := Lib.hid hb1
    clear hb1
    go_wp2
    go_ret2
    exact ⟨rfl, HB1.out⟩
  | succ f =>
    have HR : Hid (cardRes xs ys b t = ((if b = true then leadC t f xs ys else leadC t f ys xs), true)) := by
      show _ = _
      unfold cardRes
      rw [if_pos ⟨e, by rw [hl.out]; omega⟩, hl.out]
      rfl
    have CN := Lib.hid (fun W => newTable_any t W)
    have CB : Hid (∀ M W, w.heap.size ≤ M → Below w.heap.size w W → TabAt M 0 t W → Calls Try.prog 22 #[.agg #[.int .i64 t, .map (some M)], .slice (some ad) (f + 1 : Nat) c, .slice (some ad') (f + 1 : Nat) c'] W (fun e w' => e = .returned (.int .i64 (leadC t f xs ys)) ∧ Chg M (M + 1) W w')) := fun M W hM hW hT =>
      (leadCard_any t M f (by omega) 0 _ c xs _ c' ys W (h.mono hW) (h'.mono hW) (av_old h (by omega) hM) (av_old h' (by omega) hM) g3 g4 hT (by omega)).mono fun e w' ⟨h1, h2, _⟩ => ⟨h1, h2⟩
    have CB' : Hid (∀ M W, w.heap.size ≤ M → Below w.heap.size w W → TabAt M 0 t W → Calls Try.prog 22 #[.agg #[.int .i64 t, .map (some M)], .slice (some ad') (f + 1 : Nat) c', .slice (some ad) (f + 1 : Nat) c] W (fun e w' => e = .returned (.int .i64 (leadC t f ys xs)) ∧ Chg M (M + 1) W w')) := fun M W hM hW hT =>
      (leadCard_any t M f (by omega) 0 _ c' ys _ c xs W (h'.mono hW) (h.mono hW) (av_old h' (by omega) hM) (av_old h (by omega) hM) g4 g3 hT (by omega)).mono fun e w' ⟨h1, h2, _⟩ => ⟨h1, h2⟩
    have hn0 : (((f : Int) + 1) == 0) = false := by simp only [beq_eq_false_iff_ne]; omega
    clear h h' e g1 g3 g4
    generalize cardRes xs ys b t = r at *
    generalize leadC t f xs ys = B1 at *
    generalize leadC t f ys xs = B2 at *
    generalize hn : f + 1 = m at *
    have hm : (m : Int) = (f : Int) + 1 := by omega
    have hm0 : ((m : Int) == 0) = false := by simp only [beq_eq_false_iff_ne]; omega
    clear hn hm hn0
    obtain rfl := HR.out
    cases b
    · go_enter Try.func8, Try.ntmps8
      go_wp2_with (fail)
      refine C1.out.mono ?_
      rintro e w1 ⟨rfl, hb1⟩
      have HB1 := Lib.hid hb1
      clear hb1
      go_wp2_with (fail)
      refine (CN.out _).mono ?_
      rintro e w2 ⟨M, rfl, hb2, hM, hT⟩
      have HB2 := Lib.hid (HB1.out.trans (hb2.mono HB1.out.size))
      have hM2 : w.heap.size ≤ M := Nat.le_trans HB1.out.size hM
      have CC := Lib.hid (CB'.out M w2 hM2 HB2.out hT)
      clear hb2 hT
      go_wp2_with (fail)
      refine CC.out.mono ?_
      rintro e w3 ⟨rfl, hc3⟩
      have HB3 := Lib.hid (below_chg HB2.out HB2.out.size hM2 hc3)
      clear hc3
      go_wp2
      go_ret2
      exact ⟨rfl, HB3.out⟩
    · go_enter Try.func8, Try.ntmps8
      go_wp2_with (fail)
      refine C1.out.mono ?_
      rintro e w1 ⟨rfl, hb1⟩
      have HB1 := Lib.hid hb1
      clear hb1
      go_wp2_with (fail)
      refine (CN.out _).mono ?_
      rintro e w2 ⟨M, rfl, hb2, hM, hT⟩
      have HB2 := Lib.hid (HB1.out.trans (hb2.mono HB1.out.size))
      have hM2 : w.heap.size ≤ M := Nat.le_trans HB1.out.size hM
      have CC := Lib.hid (CB.out M w2 hM2 HB2.out hT)
      clear hb2 hT
      go_wp2_with (fail)
      refine CC.out.mono ?_
      rintro e w3 ⟨rfl, hc3⟩
      have HB3 := Lib.hid (below_chg HB2.out HB2.out.size hM2 hc3)
      clear hc3
      go_wp2
      go_ret2
      exact ⟨rfl, HB3.out⟩

end Go.Proofs.Ytgldfmkjnggedaa
