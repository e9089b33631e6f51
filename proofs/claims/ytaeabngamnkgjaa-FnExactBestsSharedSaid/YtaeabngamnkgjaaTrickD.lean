/- Tricks, spec: TrickBest, TrickCard. -/
import Derived.Test.YtaeabngamnkgjaaTrickC
namespace Go.Proofs.Ytaeabngamnkgjaa
open Go.RowKit
set_option linter.unusedVariables false

def okGameB (xs ys : List Int) (t : Int) : Bool := okHands xs ys && inB t (-1) 3
/-- what TrickBest tells -/
def bestRes (xs ys : List Int) (b : Bool) (t : Int) : Int × Bool := if okGameB xs ys t = true then ((if b = true then bestF t xs.length xs ys else (xs.length : Int) - bestF t xs.length ys xs), true) else (0, false)
/-- what TrickCard tells -/
def cardRes (xs ys : List Int) (b : Bool) (t : Int) : Int × Bool := if okGameB xs ys t = true ∧ xs.length ≠ 0 then ((if b = true then cardF t xs.length xs ys else cardF t xs.length ys xs), true) else (0, false)
theorem okGame_hands {xs ys : List Int} {t : Int} (h : okGameB xs ys t = true) : xs.length = ys.length ∧ xs.length ≤ 6 ∧ Hand xs.length xs ∧ Hand xs.length ys ∧ -1 ≤ t ∧ t ≤ 3 := by
  simp only [okGameB, Bool.and_eq_true] at h
  have h1 := (okHands_iff xs ys).1 h.1
  have h2 := hands_of_ok h1.2.2
  have h3 := (inB_iff _ _ _).1 h.2
  exact ⟨h1.1, h1.2.1, h2.1, by rw [h1.1]; exact h2.2, h3.1, h3.2⟩

theorem l06Best_any (a : Option Addr) (n c : Nat) (xs : List Int) (a' : Option Addr) (c' : Nat) (ys : List Int) (b : Bool) (t : Int) (w : World) (h : Ints w a n c xs) (h' : Ints w a' n c' ys) (hx : Hand n xs) (hy : Hand n ys) (hn : n ≤ 6) :
    Calls Try.prog 60 #[.slice a n c, .slice a' n c', .bool b, .int .i64 t] w (Ret w (.int .i64 (if b = true then bestF t n xs ys else (n : Int) - bestF t n ys xs))) := by
  have C1 := Lib.hid (l06Lead_any t n hn a c xs a' c' ys w h h' hx hy)
  have C2 := Lib.hid (l06Lead_any t n hn a' c' ys a c xs w h' h hy hx)
  have b1 := bestF_bd t n _ _ hx hy
  have b2 := bestF_bd t n _ _ hy hx
  clear h h' hx hy
  generalize bestF t n xs ys = B1 at *
  generalize bestF t n ys xs = B2 at *
  generalize cardF t n xs ys = K1 at *
  generalize cardF t n ys xs = K2 at *
  cases b
  · go_enter Try.func60, Try.ntmps60
    go_wp2_with (fail)
    refine C2.out.mono ?_
    rintro e w1 ⟨rfl, hb1⟩
    have HB1 := Lib.hid hb1
    clear hb1
    go_wp2
    go_ret
    exact ⟨rfl, HB1.out⟩
  · go_enter Try.func60, Try.ntmps60
    go_wp2_with (fail)
    refine C1.out.mono ?_
    rintro e w1 ⟨rfl, hb1⟩
    have HB1 := Lib.hid hb1
    clear hb1
    go_wp2
    go_ret
    exact ⟨rfl, HB1.out⟩

theorem specTrickBest_any (ad : Addr) (n c : Nat) (xs : List Int) (ad' : Addr) (n' c' : Nat) (ys : List Int) (b : Bool) (t : Int) (w : World) (h : Ints w (some ad) n c xs) (h' : Ints w (some ad') n' c' ys) :
    Calls Try.prog 29 #[.slice (some ad) n c, .slice (some ad') n' c', .bool b, .int .i64 t] w (Ret w (.tuple #[.int .i64 (bestRes xs ys b t).1, .bool (bestRes xs ys b t).2])) := by
  have hl := Lib.hid h.len
  have hl' := Lib.hid h'.len
  have C1 := Lib.hid (l06Hands_any ad n c xs ad' n' c' ys w h h')
  have HRn : Hid (okGameB xs ys t = false → bestRes xs ys b t = (0, false)) := fun e => by unfold bestRes; rw [if_neg (by rw [e]; exact Bool.false_ne_true)]
  have HG : Hid (okGameB xs ys t = (okHands xs ys && inB t (-1) 3)) := rfl
  rcases Bool.eq_false_or_eq_true (okHands xs ys) with e | e
  case inr =>
    have HR := Lib.hid (HRn.out (by rw [HG.out, e]; rfl))
    clear h h' HRn HG
    generalize bestRes xs ys b t = r at *
    obtain rfl := HR.out
    go_enter Try.func29, Try.ntmps29
    go_wp2_with (fail)
    refine C1.out.mono ?_
    rintro e w1 ⟨rfl, hb1⟩
    have HB1 := Lib.hid hb1
    clear hb1
    go_wp2
    go_ret2
    exact ⟨rfl, HB1.out⟩
  rcases Bool.eq_false_or_eq_true (inB t (-1) 3) with e2 | e2
  case inr =>
    have HR := Lib.hid (HRn.out (by rw [HG.out, e, e2]; rfl))
    have CI : Hid (∀ W, Calls Try.prog 56 #[.int .i64 t, .int .i64 (-1), .int .i64 3] W (RetS W (.bool false))) := fun W => by rw [← e2]; exact l00In_any _ _ _ _
    clear h h' HRn HG e2
    generalize bestRes xs ys b t = r at *
    obtain rfl := HR.out
    go_enter Try.func29, Try.ntmps29
    go_wp2_with (fail)
    refine C1.out.mono ?_
    rintro e w1 ⟨rfl, hb1⟩
    have HB1 := Lib.hid hb1
    clear hb1
    go_wp2_with (fail)
    refine (CI.out _).mono ?_
    rintro e w2 ⟨rfl, rfl⟩
    go_wp2
    go_ret2
    exact ⟨rfl, HB1.out⟩
  have CI : Hid (∀ W, Calls Try.prog 56 #[.int .i64 t, .int .i64 (-1), .int .i64 3] W (RetS W (.bool true))) := fun W => by rw [← e2]; exact l00In_any _ _ _ _
  have hg : okGameB xs ys t = true := by rw [HG.out, e, e2]; rfl
  obtain ⟨g1, g2, g3, g4, _⟩ := okGame_hands hg
  have hnn : n' = n := by rw [← hl.out, ← hl'.out, g1]
  subst hnn
  rw [hl.out] at g2 g3 g4
  have HR : Hid (bestRes xs ys b t = ((if b = true then bestF t n' xs ys else (n' : Int) - bestF t n' ys xs), true)) := by
    show _ = _
    unfold bestRes
    rw [if_pos hg, hl.out]
  have C2 := Lib.hid (fun W (hW : Below w.heap.size w W) => l06Best_any _ _ _ _ _ _ _ b t W (h.mono hW) (h'.mono hW) g3 g4 g2)
  clear h h' HRn HG hg g1 g2 g3 g4 e2
  generalize bestRes xs ys b t = r at *
  generalize (if b = true then bestF t n' xs ys else (n' : Int) - bestF t n' ys xs) = v at *
  obtain rfl := HR.out
  go_enter Try.func29, Try.ntmps29
  go_wp2_with (fail)
  refine C1.out.mono ?_
  rintro e w1 ⟨rfl, hb1⟩
  have HB1 := Lib.hid hb1
  clear hb1
  go_wp2_with (fail)
  refine (CI.out _).mono ?_
  rintro e w2 ⟨rfl, rfl⟩
  go_wp2_with (fail)
  refine (C2.out _ HB1.out).mono ?_
  rintro e w3 ⟨rfl, hb3⟩
  have HB3 := Lib.hid (HB1.out.trans (hb3.mono HB1.out.size))
  clear hb3
  go_wp2
  go_ret2
  exact ⟨rfl, HB3.out⟩

theorem specTrickCard_any (ad : Addr) (n c : Nat) (xs : List Int) (ad' : Addr) (n' c' : Nat) (ys : List Int) (b : Bool) (t : Int) (w : World) (h : Ints w (some ad) n c xs) (h' : Ints w (some ad') n' c' ys) :
    Calls Try.prog 30 #[.slice (some ad) n c, .slice (some ad') n' c', .bool b, .int .i64 t] w (Ret w (.tuple #[.int .i64 (cardRes xs ys b t).1, .bool (cardRes xs ys b t).2])) := by
  have hl := Lib.hid h.len
  have hl' := Lib.hid h'.len
  have C1 := Lib.hid (l06Hands_any ad n c xs ad' n' c' ys w h h')
  have HRn : Hid (¬ (okGameB xs ys t = true ∧ n ≠ 0) → cardRes xs ys b t = (0, false)) := fun e => by unfold cardRes; rw [hl.out, if_neg e]
  have HG : Hid (okGameB xs ys t = (okHands xs ys && inB t (-1) 3)) := rfl
  rcases Bool.eq_false_or_eq_true (okHands xs ys) with e | e
  case inr =>
    have HR := Lib.hid (HRn.out (by rw [HG.out, e]; simp))
    clear h h' HRn HG
    generalize cardRes xs ys b t = r at *
    obtain rfl := HR.out
    go_enter Try.func30, Try.ntmps30
    go_wp2_with (fail)
    refine C1.out.mono ?_
    rintro e w1 ⟨rfl, hb1⟩
    have HB1 := Lib.hid hb1
    clear hb1
    go_wp2
    go_ret2
    exact ⟨rfl, HB1.out⟩
  rcases Bool.eq_false_or_eq_true (inB t (-1) 3) with e2 | e2
  case inr =>
    have HR := Lib.hid (HRn.out (by rw [HG.out, e, e2]; simp))
    have CI : Hid (∀ W, Calls Try.prog 56 #[.int .i64 t, .int .i64 (-1), .int .i64 3] W (RetS W (.bool false))) := fun W => by rw [← e2]; exact l00In_any _ _ _ _
    clear h h' HRn HG e2
    generalize cardRes xs ys b t = r at *
    obtain rfl := HR.out
    go_enter Try.func30, Try.ntmps30
    go_wp2_with (fail)
    refine C1.out.mono ?_
    rintro e w1 ⟨rfl, hb1⟩
    have HB1 := Lib.hid hb1
    clear hb1
    go_wp2_with (fail)
    refine (CI.out _).mono ?_
    rintro e w2 ⟨rfl, rfl⟩
    go_wp2
    go_ret2
    exact ⟨rfl, HB1.out⟩
  have CI : Hid (∀ W, Calls Try.prog 56 #[.int .i64 t, .int .i64 (-1), .int .i64 3] W (RetS W (.bool true))) := fun W => by rw [← e2]; exact l00In_any _ _ _ _
  have hg : okGameB xs ys t = true := by rw [HG.out, e, e2]; rfl
  by_cases hn0 : n = 0
  case pos =>
    have HR := Lib.hid (HRn.out (fun e => e.2 hn0))
    clear h h' HRn HG e2 hg
    generalize cardRes xs ys b t = r at *
    obtain rfl := HR.out
    subst hn0
    go_enter Try.func30, Try.ntmps30
    go_wp2_with (fail)
    refine C1.out.mono ?_
    rintro e w1 ⟨rfl, hb1⟩
    have HB1 := Lib.hid hb1
    clear hb1
    go_wp2_with (fail)
    refine (CI.out _).mono ?_
    rintro e w2 ⟨rfl, rfl⟩
    go_wp2
    go_ret2
    exact ⟨rfl, HB1.out⟩
  obtain ⟨g1, g2, g3, g4, _⟩ := okGame_hands hg
  have hnn : n' = n := by rw [← hl.out, ← hl'.out, g1]
  subst hnn
  rw [hl.out] at g2 g3 g4
  have HR : Hid (cardRes xs ys b t = ((if b = true then cardF t n' xs ys else cardF t n' ys xs), true)) := by
    show _ = _
    unfold cardRes
    rw [hl.out, if_pos ⟨hg, hn0⟩]
  have C2 := Lib.hid (fun W (hW : Below w.heap.size w W) => l06Lead_any t n' g2 _ _ _ _ _ _ W (h.mono hW) (h'.mono hW) g3 g4)
  have C3 := Lib.hid (fun W (hW : Below w.heap.size w W) => l06Lead_any t n' g2 _ _ _ _ _ _ W (h'.mono hW) (h.mono hW) g4 g3)
  have hn0' : ((n' : Int) == 0) = false := by simp only [beq_eq_false_iff_ne]; omega
  clear h h' HRn HG hg g1 g2 g3 g4 e2 hn0
  generalize cardRes xs ys b t = r at *
  generalize cardF t n' xs ys = K1 at *
  generalize cardF t n' ys xs = K2 at *
  generalize bestF t n' xs ys = B1 at *
  generalize bestF t n' ys xs = B2 at *
  cases b
  · obtain rfl := HR.out
    go_enter Try.func30, Try.ntmps30
    go_wp2_with (fail)
    refine C1.out.mono ?_
    rintro e w1 ⟨rfl, hb1⟩
    have HB1 := Lib.hid hb1
    clear hb1
    go_wp2_with (fail)
    refine (CI.out _).mono ?_
    rintro e w2 ⟨rfl, rfl⟩
    go_wp2_with (fail)
    refine (C3.out _ HB1.out).mono ?_
    rintro e w3 ⟨rfl, hb3⟩
    have HB3 := Lib.hid (HB1.out.trans (hb3.mono HB1.out.size))
    clear hb3
    go_wp2
    go_ret2
    exact ⟨rfl, HB3.out⟩
  · obtain rfl := HR.out
    go_enter Try.func30, Try.ntmps30
    go_wp2_with (fail)
    refine C1.out.mono ?_
    rintro e w1 ⟨rfl, hb1⟩
    have HB1 := Lib.hid hb1
    clear hb1
    go_wp2_with (fail)
    refine (CI.out _).mono ?_
    rintro e w2 ⟨rfl, rfl⟩
    go_wp2_with (fail)
    refine (C2.out _ HB1.out).mono ?_
    rintro e w3 ⟨rfl, hb3⟩
    have HB3 := Lib.hid (HB1.out.trans (hb3.mono HB1.out.size))
    clear hb3
    go_wp2
    go_ret2
    exact ⟨rfl, HB3.out⟩

end Go.Proofs.Ytaeabngamnkgjaa
