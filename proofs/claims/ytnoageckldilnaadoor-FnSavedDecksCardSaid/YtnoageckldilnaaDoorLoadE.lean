/- Reading one saved game: the two functions LoadSaved. -/
import Derived.Test.YtnoageckldilnaaDoorBegC
namespace Go.Proofs.YtnoageckldilnaaDoor
open Go.RowKit
set_option linter.unusedVariables false

/-- What is read: all of the text, or nothing. -/
def lsY (l : List UInt8) : AS := if ldN l ≠ 0 ∧ ldN l = l.length then ldX l else (⟨#[]⟩, [], [])
def lsB (l : List UInt8) : Bool := decide (ldN l ≠ 0 ∧ ldN l = l.length)
theorem lsB_iff (l : List UInt8) : lsB l = decide (ldN l ≠ 0 ∧ ldN l = l.length) := by unfold lsB; exact Eq.refl _
theorem lsY_iff (l : List UInt8) : lsY l = if ldN l ≠ 0 ∧ ldN l = l.length then ldX l else (⟨#[]⟩, [], []) := by unfold lsY; exact Eq.refl _
theorem lsY_ok (l : List UInt8) (h : ldN l ≠ 0 ∧ ldN l = l.length) : lsY l = ldX l := by rw [lsY_iff, if_pos h]
theorem lsB_ok (l : List UInt8) (h : ldN l ≠ 0 ∧ ldN l = l.length) : lsB l = true := by rw [lsB_iff, decide_eq_true h]
theorem lsY_no (l : List UInt8) (h : ¬ (ldN l ≠ 0 ∧ ldN l = l.length)) : lsY l = (⟨#[]⟩, [], []) := by rw [lsY_iff, if_neg h]
theorem lsB_no (l : List UInt8) (h : ¬ (ldN l ≠ 0 ∧ ldN l = l.length)) : lsB l = false := by rw [lsB_iff, decide_eq_false h]

theorem totTo_le (xss : List (List Int)) (B : Nat) (h : ∀ i, i < xss.length → (xss.getD i []).length ≤ B) : ∀ k, k ≤ xss.length → totTo xss k ≤ k * B := by
  intro k
  induction k with
  | zero => intro _; rw [totTo_zero]; omega
  | succ k ih =>
    intro hk
    rw [totTo_succ xss k (by omega), Nat.succ_mul]
    have := ih (by omega)
    have := h k (by omega)
    omega

theorem ldX_small (l : List UInt8) (h : ldN l ≠ 0) : (ldX l).1.size ≤ 8 ∧ (ldX l).2.1.length ≤ 52 ∧ tot (ldX l).2.2 ≤ 72 := by
  rw [ldN_eq] at h
  rw [ldX_eq]
  generalize ofL (ld2 l).1 = nm at *
  generalize (ld3 l).1 = xd at *
  generalize ld5 l = z at *
  by_cases hg : z.2.2 = false ∧ okSaved nm xd z.1 = true ∧ (storeL nm xd z.1).isPrefixOf l = true
  · obtain ⟨h1, h2, h3, h4, h5⟩ := ok_bounds hg.2.1
    refine ⟨h2, h3, ?_⟩
    have := totTo_le z.1 12 h5 _ (Nat.le_refl _)
    unfold tot
    show totTo z.1 z.1.length ≤ 72
    omega
  · rw [if_neg hg] at h
    exact absurd rfl h

theorem lsY_small (l : List UInt8) : (lsY l).1.size ≤ 8 ∧ (lsY l).2.1.length ≤ 52 ∧ tot (lsY l).2.2 ≤ 72 := by
  rw [lsY_iff]
  by_cases h : ldN l ≠ 0 ∧ ldN l = l.length
  · rw [if_pos h]; exact ldX_small l h.1
  · rw [if_neg h]; refine ⟨?_, ?_, ?_⟩ <;> decide

/-- What LoadSaved leaves, owned. -/
def LsPost (Y : AS) (b : Bool) (w : World) (e : Ending) (w' : World) : Prop :=
  Below w.heap.size w w' ∧ ∃ a0 n0 c0 a1 n1 c1 ts l1, e = .returned (.tuple #[.agg #[.string Y.1, .slice a0 n0 c0, .slice a1 n1 c1], .bool b]) ∧ w.heap.size ≤ l1 ∧ l1 ≤ w'.heap.size ∧
    w'.ownsRow w.heap.size 2 1 (.slice a0 n0 c0) n0 (intCells Y.2.1) ∧ In w.heap.size l1 a0 ∧ OwnDS l1 w'.heap.size w' a1 n1 c1 ts Y.2.2

theorem ints_nil (w : World) : Ints w none 0 0 [] := ints_own (B := 0) (World.ownsRow_nil _ _ _ _)
theorem intSS_nil (w : World) : IntSS w none 0 0 [] [] := (ownDS_nil 0 w.heap.size w).rd
theorem lsPost_nil {Y : AS} {b : Bool} {w w' : World} {e : Ending} (hY : Y = (⟨#[]⟩, [], [])) (hb : b = false) (h : Below w.heap.size w w') (he : e = .returned (.tuple #[.agg #[.string ⟨#[]⟩, .slice none 0 0, .slice none 0 0], .bool false])) : LsPost Y b w e w' := by
  subst hY hb
  exact ⟨h, none, 0, 0, none, 0, 0, [], w.heap.size, he, Nat.le_refl _, h.size, World.ownsRow_nil _ _ _ _, fun x hx => (by cases hx), ownDS_nil _ _ _⟩

set_option maxHeartbeats 800000 in
theorem implLoadSaved_any (l : List UInt8) (Y : AS) (hY : Y = lsY l) (b : Bool) (hb : b = lsB l) (w : World) (hl : l.length ≤ 1048576) :
    Calls Tryd.prog 23 #[.string (ofL l)] w (LsPost Y b w) := by
  have hs := ofL_sz l
  obtain ⟨N, hN⟩ : ∃ N, N = ldN l := ⟨_, rfl⟩
  obtain ⟨X, hX⟩ : ∃ X, X = ldX l := ⟨_, rfl⟩
  have C : Hid (∀ W, Calls Tryd.prog 52 #[.string (ofL l)] W fun e w' => Below W.heap.size W w' ∧ (N = 0 → e = .returned (.tuple #[.agg #[.string ⟨#[]⟩, .slice none 0 0, .slice none 0 0], .int .i64 0, .bool false])) ∧
      (N ≠ 0 → ∃ a0 n0 c0 a1 n1 c1 ts l1, e = .returned (.tuple #[.agg #[.string X.1, .slice a0 n0 c0, .slice a1 n1 c1], .int .i64 (N : Nat), .bool true]) ∧ W.heap.size ≤ l1 ∧ l1 ≤ w'.heap.size ∧ w'.ownsRow W.heap.size 2 1 (.slice a0 n0 c0) n0 (intCells X.2.1) ∧ In W.heap.size l1 a0 ∧ OwnDS l1 w'.heap.size w' a1 n1 c1 ts X.2.2)) := fun W => by
    have := load_any l W hl
    unfold LoadPost at this
    rw [← hN, ← hX] at this
    exact this
  have HYg : Hid (N ≠ 0 ∧ N = l.length → Y = X ∧ b = true) := fun h => by
    rw [hN] at h
    exact ⟨by rw [hY, lsY_ok l h, hX], by rw [hb, lsB_ok l h]⟩
  have HYn : Hid (¬ (N ≠ 0 ∧ N = l.length) → Y = (⟨#[]⟩, [], []) ∧ b = false) := fun h => by
    rw [hN] at h
    exact ⟨by rw [hY, lsY_no l h], by rw [hb, lsB_no l h]⟩
  clear hY hb hN hX
  have hB0 : Below w.heap.size w (w.alloc (.cells #[.string ⟨#[]⟩, .slice none 0 0, .slice none 0 0] 30)) := (Below.refl _ _).alloc (Nat.le_refl _) _
  have hR0 : ResAt (w.alloc (.cells #[.string ⟨#[]⟩, .slice none 0 0, .slice none 0 0] 30)) w.heap.size := ⟨by go_simp, by go_simp, by go_simp, fun j => by go_simp⟩
  have hz0 : (w.alloc (.cells #[.string ⟨#[]⟩, .slice none 0 0, .slice none 0 0] 30)).heap.size = w.heap.size + 1 := by simp
  have HB0 := Lib.hid hB0
  have HR0 := Lib.hid hR0
  clear hB0 hR0
  generalize ofL l = sx at *
  go_enter Tryd.func23, Tryd.ntmps23
  go_wp2_with (fail)
  refine (C.out _).mono ?_
  generalize w.alloc (.cells #[.string ⟨#[]⟩, .slice none 0 0, .slice none 0 0] 30) = wa at *
  rintro e w1 ⟨hb1, hbad, hgood⟩
  by_cases h0 : N = 0
  · obtain rfl := hbad h0
    have HY : Hid (Y = (⟨#[]⟩, [], [])) := (HYn.out (fun h => h.1 h0)).1
    have HBb : Hid (b = false) := (HYn.out (fun h => h.1 h0)).2
    have hX : Below w1.heap.size w1 (w1.alloc (.cells #[.string ⟨#[]⟩, .slice none 0 0, .slice none 0 0] 30)) := (Below.refl _ _).alloc (Nat.le_refl _) _
    have hR : ResAt (w1.alloc (.cells #[.string ⟨#[]⟩, .slice none 0 0, .slice none 0 0] 30)) w.heap.size := (HR0.out.chg (Chg.of_below (lo := 0) (hi := 0) hb1 (Nat.le_refl _)) (.inr (Nat.zero_le _))).chg (Chg.of_below (lo := 0) (hi := 0) hX (Nat.le_refl _)) (.inr (Nat.zero_le _))
    have hB : Below w.heap.size w (w1.alloc (.cells #[.string ⟨#[]⟩, .slice none 0 0, .slice none 0 0] 30)) := (HB0.out.trans (hb1.mono (by omega))).trans (hX.mono (by have := hb1.size; omega))
    have HB := Lib.hid hB
    have g0 := hR.fr
    have r0 := hR.c0
    have r1 := hR.c1
    have r2 := hR.c2
    clear hbad hgood hX hB
    go_wp2
    refine bodyPost_ret (v := .tuple #[.agg #[.string ⟨#[]⟩, .slice none 0 0, .slice none 0 0], .bool false]) (by simp [results, Tryd.results23, go_sem, hR.c0, hR.c1, hR.c2]) rfl (lsPost_nil HY.out HBb.out ?_ rfl)
    exact ((HB.out.setCell (Nat.le_refl _) _).setCell (Nat.le_refl _) _).setCell (Nat.le_refl _) _
  · obtain ⟨a0, n0, c0, a1, n1, c1, ts, l1, rfl, k1, k2, ho, hi, hD⟩ := hgood h0
    have hz1 := hb1.size
    have hX : Below w1.heap.size w1 (w1.alloc (.cells #[.string X.1, .slice a0 n0 c0, .slice a1 n1 c1] 30)) := (Below.refl _ _).alloc (Nat.le_refl _) _
    have hR : ResAt (w1.alloc (.cells #[.string X.1, .slice a0 n0 c0, .slice a1 n1 c1] 30)) w.heap.size := (HR0.out.chg (Chg.of_below (lo := 0) (hi := 0) hb1 (Nat.le_refl _)) (.inr (Nat.zero_le _))).chg (Chg.of_below (lo := 0) (hi := 0) hX (Nat.le_refl _)) (.inr (Nat.zero_le _))
    have hB : Below w.heap.size w (w1.alloc (.cells #[.string X.1, .slice a0 n0 c0, .slice a1 n1 c1] 30)) := (HB0.out.trans (hb1.mono (by omega))).trans (hX.mono (by omega))
    have HB := Lib.hid hB
    have HXb := Lib.hid hX
    have HO := Lib.hid ho
    have HD := Lib.hid hD
    have g0 := hR.fr
    have r0 := hR.c0
    have r1 := hR.c1
    have r2 := hR.c2
    have b0 : (w1.alloc (.cells #[.string X.1, .slice a0 n0 c0, .slice a1 n1 c1] 30)).cell? ⟨w1.heap.size, 0, none⟩ = some (.string X.1) := by go_simp
    have b1 : (w1.alloc (.cells #[.string X.1, .slice a0 n0 c0, .slice a1 n1 c1] 30)).cell? ⟨w1.heap.size, 1, none⟩ = some (.slice a0 n0 c0) := by go_simp
    have b2 : (w1.alloc (.cells #[.string X.1, .slice a0 n0 c0, .slice a1 n1 c1] 30)).cell? ⟨w1.heap.size, 2, none⟩ = some (.slice a1 n1 c1) := by go_simp
    have hsz : (w1.alloc (.cells #[.string X.1, .slice a0 n0 c0, .slice a1 n1 c1] 30)).heap.size = w1.heap.size + 1 := by simp
    clear hbad hgood hX hB ho hD
    by_cases hn : N = sx.size
    · have HG := HYg.out ⟨h0, by omega⟩
      have HY : Hid (Y = X) := HG.1
      have HBb : Hid (b = true) := HG.2
      have hne : ¬ ((N : Nat) : Int) = 0 := by omega
      have hne1 : ((N : Nat) : Int) = ((sx.size : Nat) : Int) := by omega
      have hne2 : ¬ sx.size = 0 := by omega
      have hne3 : ¬ ((sx.size : Nat) : Int) = 0 := by omega
      clear HG hn h0 hs
      go_wp2
      refine bodyPost_ret (v := .tuple #[.agg #[.string X.1, .slice a0 n0 c0, .slice a1 n1 c1], .bool true]) (by simp [results, Tryd.results23, go_sem, hR.c0, hR.c1, hR.c2]) rfl ?_
      refine ⟨?_, a0, n0, c0, a1, n1, c1, ts, l1, by rw [HY.out, HBb.out], ?_, ?_, ?_, ?_, ?_⟩
      · exact ((HB.out.setCell (Nat.le_refl _) _).setCell (Nat.le_refl _) _).setCell (Nat.le_refl _) _
      · omega
      · simp; omega
      · have q := ownsRow_low (ownsRow_below HO.out HXb.out) (base' := w.heap.size) (by omega)
        have ha : ∀ y : Addr, a0 = some y → w.heap.size + 1 ≤ y.block := fun y hy => by have := (hi y hy).1; omega
        rw [HY.out]
        exact ownsRow_setCell_other (ownsRow_setCell_other (ownsRow_setCell_other q (fun y hy => by have := ha y hy; dsimp only; omega) _) (fun y hy => by have := ha y hy; dsimp only; omega) _) (fun y hy => by have := ha y hy; dsimp only; omega) _
      · exact fun x hx => ⟨by have := (hi x hx).1; omega, (hi x hx).2⟩
      · rw [HY.out]
        have q := (HD.out.below HXb.out).wide (hi' := (w1.alloc (.cells #[.string X.1, .slice a0 n0 c0, .slice a1 n1 c1] 30)).heap.size) HXb.out.size
        have q2 := ((q.set ⟨w.heap.size, 0, none⟩ (.inl (by dsimp only; omega)) (.string X.1)).set ⟨w.heap.size, 1, none⟩ (.inl (by dsimp only; omega)) (.slice a0 n0 c0)).set ⟨w.heap.size, 2, none⟩ (.inl (by dsimp only; omega)) (.slice a1 n1 c1)
        exact q2.wide (by simp)
    · have HY : Hid (Y = (⟨#[]⟩, [], [])) := (HYn.out (fun h => hn (by omega))).1
      have HBb : Hid (b = false) := (HYn.out (fun h => hn (by omega))).2
      have hne : ¬ ((N : Nat) : Int) = 0 := by omega
      have hne1 : ¬ ((N : Nat) : Int) = ((sx.size : Nat) : Int) := by omega
      have hne2 : (((N : Nat) : Int) != ((sx.size : Nat) : Int)) = true := by simp only [bne_iff_ne, ne_eq]; omega
      have hne3 : (((N : Nat) : Int) == 0) = false := by simp only [beq_eq_false_iff_ne, ne_eq]; omega
      clear hn h0 hs
      go_wp2
      refine bodyPost_ret (v := .tuple #[.agg #[.string ⟨#[]⟩, .slice none 0 0, .slice none 0 0], .bool false]) (by simp [results, Tryd.results23, go_sem, hR.c0, hR.c1, hR.c2]) rfl (lsPost_nil HY.out HBb.out ?_ rfl)
      exact ((HB.out.setCell (Nat.le_refl _) _).setCell (Nat.le_refl _) _).setCell (Nat.le_refl _) _

set_option maxHeartbeats 800000 in
theorem specLoadSaved_any (l : List UInt8) (Y : AS) (hY : Y = lsY l) (b : Bool) (hb : b = lsB l) (w : World) (hl : l.length ≤ 1048576) :
    Calls Tryd.prog 27 #[.string (ofL l)] w (LsPost Y b w) := by
  have hs := ofL_sz l
  obtain ⟨N, hN⟩ : ∃ N, N = ldN l := ⟨_, rfl⟩
  obtain ⟨X, hX⟩ : ∃ X, X = ldX l := ⟨_, rfl⟩
  have C : Hid (∀ W, Calls Tryd.prog 58 #[.string (ofL l)] W fun e w' => Below W.heap.size W w' ∧ (N = 0 → e = .returned (.tuple #[.agg #[.string ⟨#[]⟩, .slice none 0 0, .slice none 0 0], .int .i64 0])) ∧
      (N ≠ 0 → ∃ a0 n0 c0 a1 n1 c1 ts l1, e = .returned (.tuple #[.agg #[.string X.1, .slice a0 n0 c0, .slice a1 n1 c1], .int .i64 (N : Nat)]) ∧ W.heap.size ≤ l1 ∧ l1 ≤ w'.heap.size ∧ w'.ownsRow W.heap.size 2 1 (.slice a0 n0 c0) n0 (intCells X.2.1) ∧ In W.heap.size l1 a0 ∧ OwnDS l1 w'.heap.size w' a1 n1 c1 ts X.2.2)) := fun W => by
    exact l07Begin_any l N hN X hX W hl
  have HYg : Hid (N ≠ 0 ∧ N = l.length → Y = X ∧ b = true) := fun h => by
    rw [hN] at h
    exact ⟨by rw [hY, lsY_ok l h, hX], by rw [hb, lsB_ok l h]⟩
  have HYn : Hid (¬ (N ≠ 0 ∧ N = l.length) → Y = (⟨#[]⟩, [], []) ∧ b = false) := fun h => by
    rw [hN] at h
    exact ⟨by rw [hY, lsY_no l h], by rw [hb, lsB_no l h]⟩
  clear hY hb hN hX
  have hB0 : Below w.heap.size w (w.alloc (.cells #[.string ⟨#[]⟩, .slice none 0 0, .slice none 0 0] 30)) := (Below.refl _ _).alloc (Nat.le_refl _) _
  have hR0 : ResAt (w.alloc (.cells #[.string ⟨#[]⟩, .slice none 0 0, .slice none 0 0] 30)) w.heap.size := ⟨by go_simp, by go_simp, by go_simp, fun j => by go_simp⟩
  have hz0 : (w.alloc (.cells #[.string ⟨#[]⟩, .slice none 0 0, .slice none 0 0] 30)).heap.size = w.heap.size + 1 := by simp
  have HB0 := Lib.hid hB0
  have HR0 := Lib.hid hR0
  clear hB0 hR0
  generalize ofL l = sx at *
  go_enter Tryd.func27, Tryd.ntmps27
  go_wp2_with (fail)
  refine (C.out _).mono ?_
  generalize w.alloc (.cells #[.string ⟨#[]⟩, .slice none 0 0, .slice none 0 0] 30) = wa at *
  rintro e w1 ⟨hb1, hbad, hgood⟩
  by_cases h0 : N = 0
  · obtain rfl := hbad h0
    have HY : Hid (Y = (⟨#[]⟩, [], [])) := (HYn.out (fun h => h.1 h0)).1
    have HBb : Hid (b = false) := (HYn.out (fun h => h.1 h0)).2
    have hX : Below w1.heap.size w1 (w1.alloc (.cells #[.string ⟨#[]⟩, .slice none 0 0, .slice none 0 0] 30)) := (Below.refl _ _).alloc (Nat.le_refl _) _
    have hR : ResAt (w1.alloc (.cells #[.string ⟨#[]⟩, .slice none 0 0, .slice none 0 0] 30)) w.heap.size := (HR0.out.chg (Chg.of_below (lo := 0) (hi := 0) hb1 (Nat.le_refl _)) (.inr (Nat.zero_le _))).chg (Chg.of_below (lo := 0) (hi := 0) hX (Nat.le_refl _)) (.inr (Nat.zero_le _))
    have hB : Below w.heap.size w (w1.alloc (.cells #[.string ⟨#[]⟩, .slice none 0 0, .slice none 0 0] 30)) := (HB0.out.trans (hb1.mono (by omega))).trans (hX.mono (by have := hb1.size; omega))
    have HB := Lib.hid hB
    have g0 := hR.fr
    have r0 := hR.c0
    have r1 := hR.c1
    have r2 := hR.c2
    clear hbad hgood hX hB
    go_wp2
    refine bodyPost_ret (v := .tuple #[.agg #[.string ⟨#[]⟩, .slice none 0 0, .slice none 0 0], .bool false]) (by simp [results, Tryd.results27, go_sem, hR.c0, hR.c1, hR.c2]) rfl (lsPost_nil HY.out HBb.out ?_ rfl)
    exact ((HB.out.setCell (Nat.le_refl _) _).setCell (Nat.le_refl _) _).setCell (Nat.le_refl _) _
  · obtain ⟨a0, n0, c0, a1, n1, c1, ts, l1, rfl, k1, k2, ho, hi, hD⟩ := hgood h0
    have hz1 := hb1.size
    have hX : Below w1.heap.size w1 (w1.alloc (.cells #[.string X.1, .slice a0 n0 c0, .slice a1 n1 c1] 30)) := (Below.refl _ _).alloc (Nat.le_refl _) _
    have hR : ResAt (w1.alloc (.cells #[.string X.1, .slice a0 n0 c0, .slice a1 n1 c1] 30)) w.heap.size := (HR0.out.chg (Chg.of_below (lo := 0) (hi := 0) hb1 (Nat.le_refl _)) (.inr (Nat.zero_le _))).chg (Chg.of_below (lo := 0) (hi := 0) hX (Nat.le_refl _)) (.inr (Nat.zero_le _))
    have hB : Below w.heap.size w (w1.alloc (.cells #[.string X.1, .slice a0 n0 c0, .slice a1 n1 c1] 30)) := (HB0.out.trans (hb1.mono (by omega))).trans (hX.mono (by omega))
    have HB := Lib.hid hB
    have HXb := Lib.hid hX
    have HO := Lib.hid ho
    have HD := Lib.hid hD
    have g0 := hR.fr
    have r0 := hR.c0
    have r1 := hR.c1
    have r2 := hR.c2
    have b0 : (w1.alloc (.cells #[.string X.1, .slice a0 n0 c0, .slice a1 n1 c1] 30)).cell? ⟨w1.heap.size, 0, none⟩ = some (.string X.1) := by go_simp
    have b1 : (w1.alloc (.cells #[.string X.1, .slice a0 n0 c0, .slice a1 n1 c1] 30)).cell? ⟨w1.heap.size, 1, none⟩ = some (.slice a0 n0 c0) := by go_simp
    have b2 : (w1.alloc (.cells #[.string X.1, .slice a0 n0 c0, .slice a1 n1 c1] 30)).cell? ⟨w1.heap.size, 2, none⟩ = some (.slice a1 n1 c1) := by go_simp
    have hsz : (w1.alloc (.cells #[.string X.1, .slice a0 n0 c0, .slice a1 n1 c1] 30)).heap.size = w1.heap.size + 1 := by simp
    clear hbad hgood hX hB ho hD
    by_cases hn : N = sx.size
    · have HG := HYg.out ⟨h0, by omega⟩
      have HY : Hid (Y = X) := HG.1
      have HBb : Hid (b = true) := HG.2
      have hne : ¬ ((N : Nat) : Int) = 0 := by omega
      have hne1 : ((N : Nat) : Int) = ((sx.size : Nat) : Int) := by omega
      have hne2 : ¬ sx.size = 0 := by omega
      have hne3 : ¬ ((sx.size : Nat) : Int) = 0 := by omega
      clear HG hn h0 hs
      go_wp2
      refine bodyPost_ret (v := .tuple #[.agg #[.string X.1, .slice a0 n0 c0, .slice a1 n1 c1], .bool true]) (by simp [results, Tryd.results27, go_sem, hR.c0, hR.c1, hR.c2]) rfl ?_
      refine ⟨?_, a0, n0, c0, a1, n1, c1, ts, l1, by rw [HY.out, HBb.out], ?_, ?_, ?_, ?_, ?_⟩
      · exact ((HB.out.setCell (Nat.le_refl _) _).setCell (Nat.le_refl _) _).setCell (Nat.le_refl _) _
      · omega
      · simp; omega
      · have q := ownsRow_low (ownsRow_below HO.out HXb.out) (base' := w.heap.size) (by omega)
        have ha : ∀ y : Addr, a0 = some y → w.heap.size + 1 ≤ y.block := fun y hy => by have := (hi y hy).1; omega
        rw [HY.out]
        exact ownsRow_setCell_other (ownsRow_setCell_other (ownsRow_setCell_other q (fun y hy => by have := ha y hy; dsimp only; omega) _) (fun y hy => by have := ha y hy; dsimp only; omega) _) (fun y hy => by have := ha y hy; dsimp only; omega) _
      · exact fun x hx => ⟨by have := (hi x hx).1; omega, (hi x hx).2⟩
      · rw [HY.out]
        have q := (HD.out.below HXb.out).wide (hi' := (w1.alloc (.cells #[.string X.1, .slice a0 n0 c0, .slice a1 n1 c1] 30)).heap.size) HXb.out.size
        have q2 := ((q.set ⟨w.heap.size, 0, none⟩ (.inl (by dsimp only; omega)) (.string X.1)).set ⟨w.heap.size, 1, none⟩ (.inl (by dsimp only; omega)) (.slice a0 n0 c0)).set ⟨w.heap.size, 2, none⟩ (.inl (by dsimp only; omega)) (.slice a1 n1 c1)
        exact q2.wide (by simp)
    · have HY : Hid (Y = (⟨#[]⟩, [], [])) := (HYn.out (fun h => hn (by omega))).1
      have HBb : Hid (b = false) := (HYn.out (fun h => hn (by omega))).2
      have hne : ¬ ((N : Nat) : Int) = 0 := by omega
      have hne1 : ¬ ((N : Nat) : Int) = ((sx.size : Nat) : Int) := by omega
      have hne2 : (((N : Nat) : Int) != ((sx.size : Nat) : Int)) = true := by simp only [bne_iff_ne, ne_eq]; omega
      have hne3 : (((N : Nat) : Int) == 0) = false := by simp only [beq_eq_false_iff_ne, ne_eq]; omega
      clear hn h0 hs
      go_wp2
      refine bodyPost_ret (v := .tuple #[.agg #[.string ⟨#[]⟩, .slice none 0 0, .slice none 0 0], .bool false]) (by simp [results, Tryd.results27, go_sem, hR.c0, hR.c1, hR.c2]) rfl (lsPost_nil HY.out HBb.out ?_ rfl)
      exact ((HB.out.setCell (Nat.le_refl _) _).setCell (Nat.le_refl _) _).setCell (Nat.le_refl _) _

end Go.Proofs.YtnoageckldilnaaDoor
