/- What is saved is the same: the program's SameSaved. -/
import Derived.Test.YtnoageckldilnaaDoorSavS
import Derived.Test.YtnoageckldilnaaDoorEqI64
import Derived.Test.YtnoageckldilnaaDoorStrA
import Derived.Shelf.Abstract
namespace Go.Proofs.YtnoageckldilnaaDoor
open Go.RowKit
set_option linter.unusedVariables false

theorem SameDie_any (a : Option Addr) (n c : Nat) (xs : List Int) (a' : Option Addr) (n' c' : Nat) (ys : List Int) (w : World) (h : Ints w a n c xs) (h' : Ints w a' n' c' ys) :
    Calls Tryd.prog 57 #[.agg #[.slice a n c], .agg #[.slice a' n' c']] w (Ret w (.bool (decide (xs = ys)))) := by
  have hB : Below w.heap.size w ((w.alloc (.cells #[.slice a n c] 82)).alloc (.cells #[.slice a' n' c'] 82)) := ((Below.refl w.heap.size w).alloc (Nat.le_refl _) _).alloc (by simp) _
  have C := Lib.hid (slicesEqualI64_any a n c xs a' n' c' ys _ (h.mono hB) (h'.mono hB))
  go_enter Tryd.func57, Tryd.ntmps57
  go_wp2_with (fail)
  refine C.out.mono ?_
  rintro e w1 ⟨rfl, hq1⟩
  have HB1 := hB.trans (hq1.b.mono hB.size)
  clear hq1
  go_wp2
  go_ret
  exact ⟨rfl, HB1⟩

theorem bool_em (p : Prop) [Decidable p] : (p ∧ decide p = true) ∨ (¬ p ∧ decide p = false) := by
  by_cases h : p
  · exact .inl ⟨h, decide_eq_true h⟩
  · exact .inr ⟨h, decide_eq_false h⟩

set_option maxHeartbeats 1600000 in
theorem eqFuncDie_any (a : Option Addr) (n c : Nat) (ss : List Spot) (xss : List (List Int)) (a' : Option Addr) (n' c' : Nat) (ss' : List Spot) (yss : List (List Int)) (w : World) (h : IntSS w a n c ss xss) (h' : IntSS w a' n' c' ss' yss) :
    Calls Tryd.prog 56 #[.slice a n c, .slice a' n' c', .func (.func 57) #[] #[]] w (Ret w (.bool (decide (xss = yss)))) := by
  obtain ⟨hc, hb, hcell⟩ := h.at
  obtain ⟨hc', hb', hcell'⟩ := h'.at
  have hl := h.len
  have hl' := h'.len
  have eg : ∀ args W, (callFunc 57 args).run Tryd.prog W = .ok (.enter 57 args) W := enters_of Tryd.func57 (by kernel_rfl) rfl
  have HC := Lib.hid hcell
  have HC' := Lib.hid hcell'
  by_cases hn : n = n'
  · subst hn
    have CE := Lib.hid (fun k (hk : k < n) W (hW : Below w.heap.size w W) => SameDie_any _ _ _ _ _ _ _ _ W ((h.row k hk).mono hW) ((h'.row k hk).mono hW))
    have hH := Lib.hid hl
    have hH' := Lib.hid hl'
    clear hl hl' h h' hcell hcell'
    go_enter Tryd.func56, Tryd.ntmps56
    go_wp2
    go_loopw [17] (fun i wr => ∃ k : Nat, k ≤ n ∧ i = .int .i64 k ∧ AlikeTo [] xss yss k ∧ Below w.heap.size w wr) (fun i _ => n - (intOf i).toNat)
    case atStart => exact ⟨0, by omega, rfl, AlikeTo.zero _ _ _, Below.refl _ _⟩
    case round =>
      obtain ⟨k, hk, rfl, heq, hbel⟩ := hrel
      have HQ := Lib.hid heq
      have HW := Lib.hid hbel
      have hsz := hbel.size
      clear heq
      by_cases hlt : k < n
      · obtain ⟨b, off, rfl, hlb, hx⟩ := HC.out k hlt
        obtain ⟨b', off', rfl, hlb', hy⟩ := HC'.out k hlt
        have hxk := cell_on hbel (hx k hlt)
        have hyk := cell_on hbel (hy k hlt)
        have CC := Lib.hid (fun W (hW : Below w.heap.size w W) => CE.out k hlt W hW)
        clear hx hy CE hbel
        rcases hsx : ss.getD k spot0 with ⟨A, L, C⟩
        rcases hsy : ss'.getD k spot0 with ⟨A', L', C'⟩
        rw [hsx] at hxk CC
        rw [hsy] at hyk CC
        dsimp only at hxk hyk CC
        clear hsx hsy
        have hBx : Below w.heap.size w ((wr.alloc (.cells #[.slice A L C] 82)).alloc (.cells #[.slice A' L' C'] 82)) := (HW.out.alloc hsz _).alloc (by simp; omega) _
        have HBx := Lib.hid hBx
        have C1 := Lib.hid (CC.out _ hBx)
        have hyk := cell_on ((Below.refl wr.heap.size wr).alloc (Nat.le_refl _) (.cells #[.slice A L C] 82)) hyk
        clear CC hBx
        rcases bool_em (xss.getD k [] = yss.getD k []) with ⟨he, e2⟩ | ⟨he, e2⟩
        · rw [e2] at C1
          have HE := Lib.hid he
          clear he e2
          go_wp2_with (fail)
          refine C1.out.mono ?_
          rintro e w3 ⟨rfl, hb3⟩
          have HB3 := Lib.hid (HBx.out.trans (hb3.mono HBx.out.size))
          clear hb3 C1
          go_wp2
          go_roundw
          case rel => exact ⟨k + 1, by omega, by go_num, HQ.out.succ HE.out, HB3.out⟩
          case measure => simp [intOf]; omega
        · rw [e2] at C1
          have HE := Lib.hid he
          clear he e2
          go_wp2_with (fail)
          refine C1.out.mono ?_
          rintro e w3 ⟨rfl, hb3⟩
          have HB3 := Lib.hid (HBx.out.trans (hb3.mono HBx.out.size))
          clear hb3 C1
          go_wp2
          go_ret
          exact ⟨ret_bool (decide_eq_false (ne_of_getD HE.out)).symm, HB3.out⟩
      · obtain rfl : k = n := by omega
        clear hbel
        go_wp2
        go_ret
        exact ⟨ret_bool (decide_eq_true (HQ.out.eq hH.out hH'.out)).symm, HW.out⟩
  · have hne : xss ≠ yss := fun e => hn (by rw [← hl, ← hl', e])
    have HN := Lib.hid hne
    clear hne hl hl' h h' hcell hcell'
    go_enter Tryd.func56, Tryd.ntmps56
    go_wp2
    go_ret
    exact ⟨ret_bool (decide_eq_false HN.out).symm, Below.refl _ _⟩

set_option maxHeartbeats 1600000 in
theorem sameOne_any (nm : ByteArray) (a0 : Option Addr) (n0 c0 : Nat) (x0 : List Int) (a1 : Option Addr) (n1 c1 : Nat) (ss : List Spot) (xss : List (List Int)) (nm' : ByteArray) (b0 : Option Addr) (m0 d0 : Nat) (y0 : List Int) (b1 : Option Addr) (m1 d1 : Nat) (ss' : List Spot) (yss : List (List Int)) (w : World)
    (h0 : Ints w a0 n0 c0 x0) (h1 : IntSS w a1 n1 c1 ss xss) (k0 : Ints w b0 m0 d0 y0) (k1 : IntSS w b1 m1 d1 ss' yss) :
    Calls Tryd.prog 54 #[.agg #[.string nm, .slice a0 n0 c0, .slice a1 n1 c1], .agg #[.string nm', .slice b0 m0 d0, .slice b1 m1 d1]] w (Ret w (.bool (decide (((nm, x0, xss) : AS) = (nm', y0, yss))))) := by
  have hB : Below w.heap.size w ((w.alloc (.cells #[.string nm, .slice a0 n0 c0, .slice a1 n1 c1] 30)).alloc (.cells #[.string nm', .slice b0 m0 d0, .slice b1 m1 d1] 30)) := ((Below.refl w.heap.size w).alloc (Nat.le_refl _) _).alloc (by simp) _
  have p2 : ((w.alloc (.cells #[.string nm, .slice a0 n0 c0, .slice a1 n1 c1] 30)).alloc (.cells #[.string nm', .slice b0 m0 d0, .slice b1 m1 d1] 30)).cell? ⟨w.heap.size, 2, none⟩ = some (.slice a1 n1 c1) := by go_simp
  have q2 : ((w.alloc (.cells #[.string nm, .slice a0 n0 c0, .slice a1 n1 c1] 30)).alloc (.cells #[.string nm', .slice b0 m0 d0, .slice b1 m1 d1] 30)).cell? ⟨w.heap.size + 1, 2, none⟩ = some (.slice b1 m1 d1) := by go_simp
  have HP := Lib.hid (And.intro p2 q2)
  have C1 := Lib.hid (slicesEqualI64_any a0 n0 c0 x0 b0 m0 d0 y0 _ (h0.mono hB) (k0.mono hB))
  have C2 := Lib.hid (fun W (hW : Below w.heap.size w W) => eqFuncDie_any a1 n1 c1 ss xss b1 m1 d1 ss' yss W (h1.mono hW) (k1.mono hW))
  have hse := strEq nm nm'
  have HR : Hid (decide (((nm, x0, xss) : AS) = (nm', y0, yss)) = (decide (nm = nm') && (decide (x0 = y0) && decide (xss = yss)))) := by
    show _ = _
    by_cases e1 : nm = nm' <;> by_cases e2 : x0 = y0 <;> by_cases e3 : xss = yss <;> simp [e1, e2, e3]
  clear p2 q2 h0 h1 k0 k1
  generalize decide (((nm, x0, xss) : AS) = (nm', y0, yss)) = R at *
  rcases bool_em (nm = nm') with ⟨rfl, e1⟩ | ⟨_, e1⟩
  · rw [e1] at hse
    have HR1 : Hid (R = (decide (x0 = y0) && decide (xss = yss))) := by show _ = _; rw [HR.out, e1]; simp
    clear e1 HR
    rcases bool_em (x0 = y0) with ⟨_, e2⟩ | ⟨_, e2⟩
    · rw [e2] at C1
      have HR2 : Hid (R = decide (xss = yss)) := by show _ = _; rw [HR1.out, e2]; simp
      clear e2 HR1
      go_enter Tryd.func54, Tryd.ntmps54
      go_wp2_with (fail)
      refine C1.out.mono ?_
      rintro e w1 ⟨rfl, hq1⟩
      obtain ⟨p2, q2⟩ := HP.out
      have p2 := cell_on hq1.b p2
      have q2 := cell_on hq1.b q2
      have HB1 := Lib.hid (hB.trans (hq1.b.mono hB.size))
      have C3 := Lib.hid (C2.out _ HB1.out)
      rw [← HR2.out] at C3
      clear hq1 C1 C2
      go_wp2_with (fail)
      refine C3.out.mono ?_
      rintro e w2 ⟨rfl, hb2⟩
      have HB2 := Lib.hid (HB1.out.trans (hb2.mono HB1.out.size))
      clear hb2
      go_wp2
      go_ret
      exact ⟨rfl, HB2.out⟩
    · rw [e2] at C1
      have HR2 : Hid (R = false) := by show _ = _; rw [HR1.out, e2]; simp
      clear e2 HR1
      go_enter Tryd.func54, Tryd.ntmps54
      go_wp2_with (fail)
      refine C1.out.mono ?_
      rintro e w1 ⟨rfl, hq1⟩
      have HB1 := Lib.hid (hB.trans (hq1.b.mono hB.size))
      clear hq1 C1 C2
      go_wp2
      go_ret
      exact ⟨ret_bool HR2.out.symm, HB1.out⟩
  · rw [e1] at hse
    have HR1 : Hid (R = false) := by show _ = _; rw [HR.out, e1]; simp
    clear e1 HR C1 C2
    go_enter Tryd.func54, Tryd.ntmps54
    go_wp2
    go_ret
    exact ⟨ret_bool HR1.out.symm, hB⟩

set_option maxHeartbeats 1600000 in
theorem implSameSaved_any (a : Option Addr) (n c : Nat) (ms : List MS) (xs : List AS) (a' : Option Addr) (n' c' : Nat) (ms' : List MS) (ys : List AS) (w : World) (h : SavS w a n c ms xs) (h' : SavS w a' n' c' ms' ys) :
    Calls Tryd.prog 53 #[.slice a n c, .slice a' n' c', .func (.func 54) #[] #[]] w (Ret w (.bool (decide (xs = ys)))) := by
  obtain ⟨hc, hb, hcell⟩ := h.at
  obtain ⟨hc', hb', hcell'⟩ := h'.at
  have hl := h.len
  have hl' := h'.len
  have eg : ∀ args W, (callFunc 54 args).run Tryd.prog W = .ok (.enter 54 args) W := enters_of Tryd.func54 (by kernel_rfl) rfl
  have HC := Lib.hid hcell
  have HC' := Lib.hid hcell'
  by_cases hn : n = n'
  · subst hn
    have HE1 := Lib.hid h.el
    have HE2 := Lib.hid h'.el
    have hH := Lib.hid hl
    have hH' := Lib.hid hl'
    clear hl hl' h h' hcell hcell'
    go_enter Tryd.func53, Tryd.ntmps53
    go_wp2
    go_loopw [17] (fun i wr => ∃ k : Nat, k ≤ n ∧ i = .int .i64 k ∧ AlikeTo as0 xs ys k ∧ Below w.heap.size w wr) (fun i _ => n - (intOf i).toNat)
    case atStart => exact ⟨0, by omega, rfl, AlikeTo.zero _ _ _, Below.refl _ _⟩
    case round =>
      obtain ⟨k, hk, rfl, heq, hbel⟩ := hrel
      have HQ := Lib.hid heq
      have HW := Lib.hid hbel
      have hsz := hbel.size
      clear heq
      by_cases hlt : k < n
      · obtain ⟨b, off, rfl, hlb, hx⟩ := HC.out k hlt
        obtain ⟨b', off', rfl, hlb', hy⟩ := HC'.out k hlt
        obtain ⟨x0, x1, x2⟩ := hx k hlt
        obtain ⟨y0, y1, y2⟩ := hy k hlt
        have r0 := cell_on hbel x0
        have r1 := cell_on hbel x1
        have r2 := cell_on hbel x2
        obtain ⟨_, d1, ss1, e1⟩ := (HE1.out k hlt).mono hbel
        obtain ⟨_, d2, ss2, e2⟩ := (HE2.out k hlt).mono hbel
        rcases hM : ms.getD k ms0 with ⟨nm1, ⟨A0, L0, C0⟩, ⟨A1, L1, C1⟩⟩
        rcases hM' : ms'.getD k ms0 with ⟨nm2, ⟨B0, K0, F0⟩, ⟨B1, K1, F1⟩⟩
        rw [hM] at r1 r2 d1 e1
        rw [hM'] at y1 y2 d2 e2
        dsimp only at r1 r2 d1 e1 y1 y2 d2 e2
        clear hM hM'
        have hBa := HW.out.alloc hsz (.cells #[.string (xs.getD k as0).1, .slice A0 L0 C0, .slice A1 L1 C1] 30)
        have s0 := cell_on hBa y0
        have s1 := cell_on hBa y1
        have s2 := cell_on hBa y2
        have hBx : Below wr.heap.size wr ((wr.alloc (.cells #[.string (xs.getD k as0).1, .slice A0 L0 C0, .slice A1 L1 C1] 30)).alloc (.cells #[.string (ys.getD k as0).1, .slice B0 K0 F0, .slice B1 K1 F1] 30)) := ((Below.refl _ _).alloc (Nat.le_refl _) _).alloc (by simp) _
        have C1' := Lib.hid (sameOne_any (xs.getD k as0).1 A0 L0 C0 _ A1 L1 C1 ss1 _ (ys.getD k as0).1 B0 K0 F0 _ B1 K1 F1 ss2 _ _ (d1.mono hBx) (e1.mono hBx) (d2.mono hBx) (e2.mono hBx))
        have HBx := Lib.hid (HW.out.trans (hBx.mono hsz))
        have HEq : Hid ((((xs.getD k as0).1, (xs.getD k as0).2.1, (xs.getD k as0).2.2) : AS) = ((ys.getD k as0).1, (ys.getD k as0).2.1, (ys.getD k as0).2.2) ↔ xs.getD k as0 = ys.getD k as0) := by
          generalize xs.getD k as0 = x
          generalize ys.getD k as0 = y
          exact Iff.rfl
        clear hx hy x0 x1 x2 y0 y1 y2 hbel hBa hBx d1 e1 d2 e2
        rcases bool_em (((xs.getD k as0).1, (xs.getD k as0).2.1, (xs.getD k as0).2.2) = (((ys.getD k as0).1, (ys.getD k as0).2.1, (ys.getD k as0).2.2) : AS)) with ⟨he, e2⟩ | ⟨he, e2⟩
        · rw [e2] at C1'
          have HE := Lib.hid (HEq.out.1 he)
          clear he e2 HEq
          generalize (xs.getD k as0).1 = nx at *
          generalize (ys.getD k as0).1 = ny at *
          go_wp2_with (fail)
          refine C1'.out.mono ?_
          rintro e w3 ⟨rfl, hb3⟩
          have HB3 := Lib.hid (HBx.out.trans (hb3.mono HBx.out.size))
          clear hb3 C1'
          go_wp2
          go_roundw
          case rel => exact ⟨k + 1, by omega, by go_num, HQ.out.succ HE.out, HB3.out⟩
          case measure => simp [intOf]; omega
        · rw [e2] at C1'
          have HE := Lib.hid (fun q => he (HEq.out.2 q))
          clear he e2 HEq
          generalize (xs.getD k as0).1 = nx at *
          generalize (ys.getD k as0).1 = ny at *
          go_wp2_with (fail)
          refine C1'.out.mono ?_
          rintro e w3 ⟨rfl, hb3⟩
          have HB3 := Lib.hid (HBx.out.trans (hb3.mono HBx.out.size))
          clear hb3 C1'
          go_wp2
          go_ret
          exact ⟨ret_bool (decide_eq_false (ne_of_getD HE.out)).symm, HB3.out⟩
      · obtain rfl : k = n := by omega
        clear hbel
        go_wp2
        go_ret
        exact ⟨ret_bool (decide_eq_true (HQ.out.eq hH.out hH'.out)).symm, HW.out⟩
  · have hne : xs ≠ ys := fun e => hn (by rw [← hl, ← hl', e])
    have HN := Lib.hid hne
    clear hne hl hl' h h' hcell hcell'
    go_enter Tryd.func53, Tryd.ntmps53
    go_wp2
    go_ret
    exact ⟨ret_bool (decide_eq_false HN.out).symm, Below.refl _ _⟩

theorem implSame_any (a : Option Addr) (n c : Nat) (ms : List MS) (xs : List AS) (a' : Option Addr) (n' c' : Nat) (ms' : List MS) (ys : List AS) (w : World) (h : SavS w a n c ms xs) (h' : SavS w a' n' c' ms' ys) :
    Calls Tryd.prog 24 #[.slice a n c, .slice a' n' c'] w (Ret w (.bool (decide (xs = ys)))) := by
  have C := Lib.hid (implSameSaved_any a n c ms xs a' n' c' ms' ys w h h')
  generalize decide (xs = ys) = R at *
  go_enter Tryd.func24, Tryd.ntmps24
  go_wp2_with (fail)
  refine C.out.mono ?_
  rintro e w1 ⟨rfl, hb1⟩
  go_wp2
  go_ret
  exact ⟨rfl, hb1⟩

end Go.Proofs.YtnoageckldilnaaDoor
