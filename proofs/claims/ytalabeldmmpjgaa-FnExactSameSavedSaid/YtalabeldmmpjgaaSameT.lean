/- What is saved is the same: the reference. -/
import Derived.Test.YtalabeldmmpjgaaSameS
namespace Go.Proofs.Ytalabeldmmpjgaa
open Go.RowKit
set_option linter.unusedVariables false

theorem l00Same_any (a : Option Addr) (n c : Nat) (xs : List Int) (a' : Option Addr) (n' c' : Nat) (ys : List Int) (w : World) (h : Ints w a n c xs) (h' : Ints w a' n' c' ys) :
    Calls Try.prog 10 #[.slice a n c, .slice a' n' c'] w (RetQ w (.bool (decide (xs = ys)))) := by
  obtain ⟨hc, hb, hcell⟩ := h.at
  obtain ⟨hc', hb', hcell'⟩ := h'.at
  have hl := h.len
  have hl' := h'.len
  clear h h'
  by_cases hn : n = n'
  · subst hn
    have hH := Lib.hid hl
    have hH' := Lib.hid hl'
    clear hl hl'
    go_enter Try.func10, Try.ntmps10
    go_wp2
    go_loopw [5] (fun i wr => ∃ k : Nat, k ≤ n ∧ i = .int .i64 k ∧ AlikeTo 0 xs ys k ∧ Quiet w wr) (fun i _ => n - (intOf i).toNat)
    case atStart => exact ⟨0, by omega, rfl, AlikeTo.zero _ _ _, Quiet.refl _⟩
    case round =>
      obtain ⟨k, hk, rfl, heq, hq⟩ := hrel
      have HQ := Lib.hid heq
      have HW := Lib.hid hq
      clear heq hq
      by_cases hlt : k < n
      · obtain ⟨b, off, rfl, hlb, hx⟩ := hcell k hlt
        obtain ⟨b', off', rfl, hlb', hy⟩ := hcell' k hlt
        have hxk := cell_on (HW.out.below _) (hx k hlt)
        have hyk := cell_on (HW.out.below _) (hy k hlt)
        have HS : Hid (xs.getD k 0 = ys.getD k 0 → AlikeTo 0 xs ys (k + 1)) := fun e => HQ.out.succ e
        have HN : Hid (xs.getD k 0 ≠ ys.getD k 0 → xs ≠ ys) := fun e => ne_of_getD e
        clear hcell hcell' hx hy
        generalize xs.getD k 0 = gx at *
        generalize ys.getD k 0 = gy at *
        go_wp2
        go_quiet (fail)
        go_wp2
        · go_ret
          have hne : (gx != gy) = true := by assumption
          exact ⟨ret_bool (decide_eq_false (HN.out (by simpa using hne))).symm, HW.out.trans ⟨_, rfl⟩⟩
        · have he : (gx != gy) = false := by assumption
          go_roundw
          case rel => exact ⟨k + 1, by omega, by go_num, HS.out (by simpa using he), HW.out.trans ⟨_, rfl⟩⟩
          case measure => simp [intOf]; omega
      · obtain rfl : k = n := by omega
        clear hcell hcell'
        go_wp2
        go_ret
        exact ⟨ret_bool (decide_eq_true (HQ.out.eq hH.out hH'.out)).symm, HW.out⟩
  · have hne : xs ≠ ys := fun e => hn (by rw [← hl, ← hl', e])
    have HN := Lib.hid hne
    clear hne hl hl' hcell hcell'
    go_enter Try.func10, Try.ntmps10
    go_wp2
    go_ret
    exact ⟨ret_bool (decide_eq_false HN.out).symm, Quiet.refl _⟩

theorem as_ne_nm {x y : AS} (h : x.1 ≠ y.1) : x ≠ y := fun e => h (by rw [e])
theorem as_ne_deck {x y : AS} (h : x.2.1 ≠ y.2.1) : x ≠ y := fun e => h (by rw [e])
theorem as_ne_dice {x y : AS} (h : x.2.2 ≠ y.2.2) : x ≠ y := fun e => h (by rw [e])
theorem as_eq {x y : AS} (h1 : x.1 = y.1) (h2 : x.2.1 = y.2.1) (h3 : x.2.2 = y.2.2) : x = y := by
  obtain ⟨a, b, c⟩ := x
  obtain ⟨a', b', c'⟩ := y
  dsimp only at h1 h2 h3
  subst h1 h2 h3
  rfl

set_option maxHeartbeats 6400000 in
set_option maxRecDepth 100000 in
theorem specSame_any (a : Option Addr) (n c : Nat) (ms : List MS) (xs : List AS) (a' : Option Addr) (n' c' : Nat) (ms' : List MS) (ys : List AS) (w : World) (h : SavS w a n c ms xs) (h' : SavS w a' n' c' ms' ys) :
    Calls Try.prog 5 #[.slice a n c, .slice a' n' c'] w (Ret w (.bool (decide (xs = ys)))) := by
  obtain ⟨hc, hb, hcell⟩ := h.at
  obtain ⟨hc', hb', hcell'⟩ := h'.at
  have hl := h.len
  have hl' := h'.len
  have HC := Lib.hid hcell
  have HC' := Lib.hid hcell'
  by_cases hn : n = n'
  · subst hn
    have HE1 := Lib.hid h.el
    have HE2 := Lib.hid h'.el
    have hH := Lib.hid hl
    have hH' := Lib.hid hl'
    clear hl hl' h h' hcell hcell'
    go_enter Try.func5, Try.ntmps5
    go_wp2
    go_loopw [14] (fun i wr => ∃ k : Nat, k ≤ n ∧ i = .int .i64 k ∧ AlikeTo as0 xs ys k ∧ Quiet w wr) (fun i _ => n - (intOf i).toNat)
    case atStart => exact ⟨0, by omega, rfl, AlikeTo.zero _ _ _, Quiet.refl _⟩
    case round =>
      obtain ⟨k, hk, rfl, heq, hq⟩ := hrel
      have HQ := Lib.hid heq
      have HW := Lib.hid hq
      have hbel := hq.b
      clear heq hq
      by_cases hlt : k < n
      · obtain ⟨b, off, rfl, hlb, hx⟩ := HC.out k hlt
        obtain ⟨b', off', rfl, hlb', hy⟩ := HC'.out k hlt
        obtain ⟨x0, x1, x2⟩ := hx k hlt
        obtain ⟨y0, y1, y2⟩ := hy k hlt
        have r0 := cell_on hbel x0
        have r1 := cell_on hbel x1
        have r2 := cell_on hbel x2
        have s0 := cell_on hbel y0
        have s1 := cell_on hbel y1
        have s2 := cell_on hbel y2
        obtain ⟨_, d1, ss1, e1⟩ := (HE1.out k hlt).mono hbel
        obtain ⟨_, d2, ss2, e2⟩ := (HE2.out k hlt).mono hbel
        rcases hM : ms.getD k ms0 with ⟨nm1, ⟨A0, L0, C0⟩, ⟨A1, L1, C1⟩⟩
        rcases hM' : ms'.getD k ms0 with ⟨nm2, ⟨B0, K0, F0⟩, ⟨B1, K1, F1⟩⟩
        rw [hM] at r1 r2 d1 e1
        rw [hM'] at s1 s2 d2 e2
        dsimp only at r1 r2 d1 e1 s1 s2 d2 e2
        clear hM hM'
        have CD := Lib.hid (fun q => l00Same_any A0 L0 C0 _ B0 K0 F0 _ (wr.drewN q) (d1.mono (Quiet.b ⟨q, rfl⟩)) (d2.mono (Quiet.b ⟨q, rfl⟩)))
        have HN : Hid (xs.getD k as0 ≠ ys.getD k as0 → xs ≠ ys) := fun e => ne_of_getD e
        have HSu : Hid (xs.getD k as0 = ys.getD k as0 → AlikeTo as0 xs ys (k + 1)) := fun e => HQ.out.succ e
        have HZ1 := Lib.hid e1
        have HZ2 := Lib.hid e2
        have hz1 := e1.at.1
        have hz2 := e1.at.2.1
        have hz3 := e2.at.1
        have hz4 := e2.at.2.1
        clear hx hy x0 x1 x2 y0 y1 y2 d1 d2 e1 e2 hbel
        generalize xs.getD k as0 = x at *
        generalize ys.getD k as0 = y at *
        obtain ⟨nx, dx, xss⟩ := x
        obtain ⟨ny, dy, yss⟩ := y
        dsimp only at *
        have hse := strEq nx ny
        rcases bool_em (nx = ny) with ⟨hnm, q1⟩ | ⟨hnm, q1⟩
        · subst hnm
          clear q1 hse
          rcases bool_em (dx = dy) with ⟨hd, q2⟩ | ⟨hd, q2⟩
          · simp only [q2] at CD
            subst hd
            clear q2
            by_cases hll : L1 = K1
            · subst hll
              have hM2 : Hid (((nx, dx, xss) : AS) ≠ (nx, dx, yss) ∨ xss = yss) := by
                by_cases q : xss = yss
                · exact .inr q
                · exact .inl (as_ne_dice q)
              go_wp2
              go_quiet (first | (go_at_call 10; exact qQ (CD.out _)))
              have HW2 := Lib.hid (HW.out.drewN nq)
              have t2 := cell_on (Quiet.b ⟨nq, rfl⟩ : Below wr.heap.size wr (wr.drewN nq)) r2
              have u2 := cell_on (Quiet.b ⟨nq, rfl⟩ : Below wr.heap.size wr (wr.drewN nq)) s2
              have HZ1 := Lib.hid (HZ1.out.drewN nq)
              have HZ2 := Lib.hid (HZ2.out.drewN nq)
              clear r0 r1 r2 s0 s1 s2 CD
              generalize wr.drewN nq = wq at *
              go_wp2
              go_loopw [63] (fun i wr2 => ∃ j : Nat, j ≤ L1 ∧ i = .int .i64 j ∧ AlikeTo [] xss yss j ∧ Quiet wq wr2) (fun i _ => L1 - (intOf i).toNat)
              case atStart => exact ⟨0, by omega, rfl, AlikeTo.zero _ _ _, Quiet.refl _⟩
              case round =>
                obtain ⟨j, hj, rfl, hal, hq2⟩ := hrel
                have HAl := Lib.hid hal
                have HW3 := Lib.hid hq2
                have t2 := cell_on hq2.b t2
                have u2 := cell_on hq2.b u2
                clear hal
                by_cases hjl : j < L1
                · obtain ⟨_, _, hv⟩ := HZ1.out.at
                  obtain ⟨_, _, hv'⟩ := HZ2.out.at
                  obtain ⟨p, po, rfl, _, hp⟩ := hv j hjl
                  obtain ⟨p', po', rfl, _, hp'⟩ := hv' j hjl
                  have v1 := cell_on hq2.b (hp j hjl)
                  have v2 := cell_on hq2.b (hp' j hjl)
                  have g1 := HZ1.out.row j hjl
                  have g2 := HZ2.out.row j hjl
                  rcases hsx : ss1.getD j spot0 with ⟨A, L, C⟩
                  rcases hsy : ss2.getD j spot0 with ⟨A', L', C'⟩
                  rw [hsx] at v1 g1
                  rw [hsy] at v2 g2
                  dsimp only at v1 v2 g1 g2
                  clear hsx hsy hv hv' hp hp'
                  have CE := Lib.hid (fun q => l00Same_any A L C _ A' L' C' _ (wr.drewN q) (g1.mono (HW3.out.drewN q).b) (g2.mono (HW3.out.drewN q).b))
                  clear g1 g2 hq2
                  rcases bool_em (xss.getD j [] = yss.getD j []) with ⟨he, q3⟩ | ⟨he, q3⟩
                  · simp only [q3] at CE
                    have HE := Lib.hid he
                    clear he q3
                    go_wp2
                    go_quiet (first | (go_at_call 10; exact qQ (CE.out _)))
                    go_wp2
                    go_roundw
                    case rel => exact ⟨j + 1, by omega, by go_num, HAl.out.succ HE.out, HW3.out.drewN _⟩
                    case measure => simp [intOf]; omega
                  · simp only [q3] at CE
                    have HE := Lib.hid he
                    clear he q3
                    go_wp2
                    go_quiet (first | (go_at_call 10; exact qQ (CE.out _)))
                    go_wp2
                    go_ret
                    exact ⟨ret_bool (decide_eq_false (HN.out (as_ne_dice (ne_of_getD HE.out)))).symm, ((HW2.out.trans HW3.out).drewN _).b⟩
                · obtain rfl : j = L1 := by omega
                  have HE := Lib.hid (HAl.out.eq HZ1.out.len HZ2.out.len)
                  clear hq2
                  go_wp2
                  go_roundw
                  case rel => exact ⟨k + 1, by omega, by go_num, HSu.out (by rw [HE.out]), HW2.out.trans HW3.out⟩
                  case measure => simp [intOf]; omega
            · have hM2 : Hid (((nx, dx, xss) : AS) ≠ (nx, dx, yss)) := as_ne_dice fun q => hll (by have q2 : xss = yss := q; rw [← HZ1.out.len, ← HZ2.out.len, q2])
              have hne2 : ((L1 : Int) != (K1 : Int)) = true := by simp; omega
              go_wp2
              go_quiet (first | (go_at_call 10; exact qQ (CD.out _)))
              go_wp2
              go_ret
              exact ⟨ret_bool (decide_eq_false (HN.out hM2.out)).symm, (HW.out.drewN _).b⟩
          · simp only [q2] at CD
            have hM2 : Hid (((nx, dx, xss) : AS) ≠ (nx, dy, yss)) := as_ne_deck hd
            clear hd q2
            go_wp2
            go_quiet (first | (go_at_call 10; exact qQ (CD.out _)))
            go_wp2
            go_ret
            exact ⟨ret_bool (decide_eq_false (HN.out hM2.out)).symm, (HW.out.drewN _).b⟩
        · rw [q1] at hse
          have hM2 : Hid (((nx, dx, xss) : AS) ≠ (ny, dy, yss)) := as_ne_nm hnm
          clear hnm q1 CD
          go_wp2
          go_quiet (fail)
          go_wp2
          go_ret
          exact ⟨ret_bool (decide_eq_false (HN.out hM2.out)).symm, (HW.out.drewN _).b⟩
      · obtain rfl : k = n := by omega
        clear hbel
        go_wp2
        go_ret
        exact ⟨ret_bool (decide_eq_true (HQ.out.eq hH.out hH'.out)).symm, HW.out.b⟩
  · have hne : xs ≠ ys := fun e => hn (by rw [← hl, ← hl', e])
    have HN := Lib.hid hne
    clear hne hl hl' h h' hcell hcell'
    go_enter Try.func5, Try.ntmps5
    go_wp2
    go_ret
    exact ⟨ret_bool (decide_eq_false HN.out).symm, Below.refl _ _⟩

end Go.Proofs.Ytalabeldmmpjgaa
