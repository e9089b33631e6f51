/- Chances: the reference's KnockChances. -/
import Derived.Test.YthakjkhceeocfaaKcC
namespace Go.Proofs.Ythakjkhceeocfaa
open Go.RowKit
set_option linter.unusedVariables false
set_option linter.unusedSimpArgs false

theorem wrap_small {z : Nat} (h : z ≤ 100) : IntKind.i64.wrap (z : Int) = (z : Int) := IntWalk.i64_in _ (by omega)
theorem all_step {W : List Nat} {k : Nat} (h : ∀ j, j < k → isCh (W.getD j 0) = true) (e : isCh (W.getD k 0) = true) : ∀ j, j < k + 1 → isCh (W.getD j 0) = true := fun j hj => by
  by_cases q : j = k
  · subst q; exact e
  · exact h j (by omega)
theorem all_yes {W : List Nat} (h : ∀ j, j < W.length → isCh (W.getD j 0) = true) : W.all isCh = true := by
  rw [List.all_eq_true]
  intro x hx
  obtain ⟨j, hj, rfl⟩ := List.getElem_of_mem hx
  have := h j hj
  rw [List.getD_eq_getElem?_getD, List.getElem?_eq_getElem hj] at this
  exact this
theorem all_no {W : List Nat} {k : Nat} (hk : k < W.length) (e : isCh (W.getD k 0) = false) : W.all isCh = false := by
  rw [List.all_eq_false]
  refine ⟨W[k], List.getElem_mem hk, ?_⟩
  rw [List.getD_eq_getElem?_getD, List.getElem?_eq_getElem hk] at e
  have e2 : isCh W[k] = false := e
  simp [e2]

set_option maxHeartbeats 3200000 in
set_option maxRecDepth 100000 in
theorem specKnockChances_any (a : Option Addr) (n c : Nat) (W : List Nat) (w : World) (h : Floats w a n c W) (hn : n ≤ 1048576) :
    Calls Try.prog 7 #[.slice a n c] w fun e w' => ∃ ra rn rc, e = .returned (.tuple #[.slice ra rn rc, .bool (kRes W).2]) ∧ Below w.heap.size w w' ∧ w'.ownsRow w.heap.size 27 1 (.slice ra rn rc) rn ((kRes W).1.map (Value.float .f32)) := by
  obtain ⟨hc, hb, hcell⟩ := h.at 0
  have hl := h.len
  have HW := Lib.hid h
  have HRes : Hid (kRes W = if kN n ≠ 0 ∧ W.all isCh = true then (kTo W (kN n) (kL n), true) else ([], false)) := by show _ = _; unfold kRes; rw [hl]
  generalize kRes W = R at *
  have HTry := Lib.hid (kTry_full n)
  have hst := st_f32 Try.prog
  obtain ⟨i0, hi, hz0, hz1, hz2⟩ := info_parts infoF32
  have hlw := hl
  clear h hcell
  generalize h4 : ((n : Int) == 4) = b4 at *
  generalize h16 : ((n : Int) == 16) = b16 at *
  generalize h64 : ((n : Int) == 64) = b64 at *
  have h4' : ((4 : Int) == (n : Int)) = b4 := by rw [← h4]; exact Bool.beq_comm
  have h16' : ((16 : Int) == (n : Int)) = b16 := by rw [← h16]; exact Bool.beq_comm
  have h64' : ((64 : Int) == (n : Int)) = b64 := by rw [← h64]; exact Bool.beq_comm
  go_enter Try.func7, Try.ntmps7
  go_upto_block 0 with fail
  go_cut [4] from 4 to 5 (fun v wr => v = .int .i64 (kN n : Nat) ∧ wr = w)
  case first => as_aux_lemma =>
    go_wp2_with fail
    go_loop [4, 5] (fun v i => ∃ k : Nat, k ≤ 3 ∧ i = .int .i64 ((2 ^ (k + 1) : Nat) : Int) ∧ v = .int .i64 (kTry b4 b16 b64 k)) (fun _ i => 16 - (intOf i).toNat)
    case atStart => exact ⟨0, by omega, rfl, rfl⟩
    case round =>
      obtain ⟨k, hk, rfl, rfl⟩ := hrel
      clear HW HRes
      have hk4 : k = 0 ∨ k = 1 ∨ k = 2 ∨ k = 3 := by omega
      rcases hk4 with rfl | rfl | rfl | rfl
      · cases b4
        all_goals
          go_wp2
          go_round
          case rel => exact ⟨1, by omega, by first | rfl | go_num, by first | rfl | simp [kTry]⟩
          case measure => simp [intOf]
      · cases b16
        all_goals
          go_wp2
          go_round
          case rel => exact ⟨2, by omega, by first | rfl | go_num, by first | rfl | simp [kTry]⟩
          case measure => simp [intOf]
      · cases b64
        all_goals
          go_wp2
          go_round
          case rel => exact ⟨3, by omega, by first | rfl | go_num, by first | rfl | simp [kTry]⟩
          case measure => simp [intOf]
      · go_wp2
        go_meet
        case rel => exact ⟨by rw [HTry.out], rfl⟩
  case rest =>
  obtain ⟨rfl, rfl⟩ := hcut
  clear HTry h4 h16 h64 h4' h16' h64'
  have hpow := kN_pow (n := n)
  generalize kN n = N at *
  generalize kL n = L at *
  obtain ⟨_, _, hcx⟩ := HW.out.at 0
  have HCx := Lib.hid hcx
  clear hcx
  go_wp2
  go_loop [27] (fun i => ∃ k : Nat, k ≤ n ∧ i = .int .i64 k ∧ Hid (∀ j, j < k → isCh (W.getD j 0) = true)) (fun i => n - (intOf i).toNat)
  case atStart => exact ⟨0, by omega, rfl, fun j hj => absurd hj (Nat.not_lt_zero _)⟩
  case round =>
    obtain ⟨k, hk, rfl, HA⟩ := hrel
    by_cases hlt : k < n
    · obtain ⟨b, off, rfl, hlb, hx⟩ := HCx.out k hlt
      have z0 := hx k hlt
      have HY : Hid (isCh (W.getD k 0) = true → ∀ j, j < k + 1 → isCh (W.getD j 0) = true) := fun e => all_step HA.out e
      have HNo : Hid (isCh (W.getD k 0) = false → R = ([], false)) := fun e => HRes.out.trans (if_neg (by rw [all_no (by rw [hlw]; exact hlt) e]; simp))
      have C1 := Lib.hid (fun W' => l02Share_any (W.getD k 0) W')
      clear hx HRes hpow
      generalize W.getD k 0 = x at *
      rcases Bool.eq_false_or_eq_true (isCh x) with e | e
      · rw [e] at C1
        go_wp2_with (fail)
        refine (C1.out _).mono ?_
        rintro e2 w2 ⟨rfl, rfl⟩
        go_wp2
        go_round
        case rel => exact ⟨k + 1, by omega, by go_num, HY.out e⟩
        case measure => simp [intOf]; omega
      · rw [e] at C1
        have hR := Lib.hid (HNo.out e)
        go_wp2_with (fail)
        refine (C1.out _).mono ?_
        rintro e2 w2 ⟨rfl, rfl⟩
        go_wp2
        go_ret2
        exact ⟨none, 0, 0, by rw [hR.out]; rfl, Below.refl _ _, by rw [hR.out]; exact World.ownsRow_nil _ _ _ _⟩
    · obtain rfl : n = k := by omega
      have hall : W.all isCh = true := all_yes (by rw [hlw]; exact HA.out)
      clear HA
      by_cases hN0 : N = 0
      · subst hN0
        have hR := Lib.hid (HRes.out.trans (if_neg (by simp)))
        clear hpow HRes hall
        go_wp2
        go_ret2
        exact ⟨none, 0, 0, by rw [hR.out]; rfl, Below.refl _ _, by rw [hR.out]; exact World.ownsRow_nil _ _ _ _⟩
      obtain ⟨hnN, hNL, hN8, hN2, hL3, hL1⟩ := hpow hN0
      have hN0' : ((N : Int) == 0) = false := by simpa using hN0
      have hR := Lib.hid (HRes.out.trans (if_pos ⟨hN0, hall⟩))
      have HWF := Lib.hid (all_fb hall)
      have HNN := Lib.hid hnN
      have HNL := Lib.hid hNL
      clear HRes hnN hNL hall hN0 hpow
      have HO2 : Hid ((wc.alloc (.cells #[] 27)).ownsRow wc.heap.size 27 1 (.slice (some ⟨wc.heap.size, 0, none⟩) 0 0) 0 ((List.replicate 0 1065353216).map (Value.float .f32))) := World.ownsRow_made (e := 27) (size := 1) (base := wc.heap.size) wc #[] 0 (Nat.le_refl _) (Nat.zero_le _) (by simp)
      go_wp2
      go_loopw [7, 8] (fun v i wr => ∃ (k g cc : Nat), k ≤ N ∧ i = .int .i64 k ∧ v = .slice (some ⟨g, 0, none⟩) k cc ∧ wr.ownsRow wc.heap.size 27 1 (.slice (some ⟨g, 0, none⟩) k cc) k ((List.replicate k 1065353216).map (Value.float .f32)) ∧ Below wc.heap.size wc wr) (fun _ i _ => N - (intOf i).toNat)
      case atStart => exact ⟨0, wc.heap.size, 0, by omega, rfl, rfl, HO2.out, (Below.refl _ _).alloc (Nat.le_refl _) _⟩
      case round =>
        obtain ⟨k, g, cc, hk, rfl, rfl, ho, hb⟩ := hrel
        have HO := Lib.hid ho
        have HB := Lib.hid hb
        have hsz := hb.size
        clear ho hb HO2
        by_cases hlt : k < N
        · have hrep : List.replicate k 1065353216 ++ [1065353216] = List.replicate (k + 1) 1065353216 := List.replicate_succ'.symm
          go_wp2_with (first | (at_builtin; go_must (refine wpList_append_lies _ rfl _ _ 26 rfl wc.heap.size 27 i0 _ 1 4 Try.underlying26 hi hz0 hz1 hz2 rfl (by omega) (.slice (some ⟨g, 0, none⟩) k cc) k ((List.replicate k 1065353216).map (Value.float .f32)) rfl (HO.out.alloc _) ⟨_, 0, none⟩ 1 1 [.float .f32 1065353216] rfl rfl (new1 _ _ _) (one1 rfl) (by omega) (by unfold maxLen; omega) (by omega) (by simp; omega) _ rfl ?_); intro gg cap w5 hown1 hg1 hat hlt5; rw [← mapF_snoc] at hown1; rw [hrep] at hown1; have HBn := Lib.hid (below_app HB.out hsz hg1 HO.out); have HOn := Lib.hid hown1; clear hown1 hg1 hat))
          go_roundw
          case rel => exact ⟨k + 1, gg, cap, by omega, by go_num, rfl, HOn.out, HBn.out⟩
          case measure => simp [intOf]; omega
        · obtain rfl : k = N := by omega
          have HO0 : Hid (World.ownsRow _ wc.heap.size 27 1 (.slice (some ⟨g, 0, none⟩) k cc) k ((kTo W k 0).map (Value.float .f32))) := HO.out
          clear HO
          go_wp2
          go_loopw [7, 9] (fun v s wr => ∃ (j g cc : Nat), j ≤ L ∧ s = .int .i64 ((2 ^ j : Nat) : Int) ∧ v = .slice (some ⟨g, 0, none⟩) k cc ∧ wr.ownsRow wc.heap.size 27 1 (.slice (some ⟨g, 0, none⟩) k cc) k ((kTo W k j).map (Value.float .f32)) ∧ Below wc.heap.size wc wr) (fun _ s _ => 16 - (intOf s).toNat)
          case atStart => exact ⟨0, g, cc, by omega, rfl, rfl, HO0.out, HB.out⟩
          case round =>
            obtain ⟨j, g, cc, hj, rfl, rfl, ho, hb⟩ := hrel
            obtain ⟨wS, hwS⟩ : ∃ x : World, x = wr := ⟨_, rfl⟩
            subst hwS
            have HO := Lib.hid ho
            have HBS := Lib.hid hb
            have hszS := hb.size
            clear HO0 HB
            by_cases hjL : j < L
            · have hh : 2 ^ j = 1 ∨ 2 ^ j = 2 ∨ 2 ^ j = 4 := by
                have : j = 0 ∨ j = 1 ∨ j = 2 := by omega
                rcases this with rfl | rfl | rfl <;> simp
              have hlN : (2 : Nat) ^ j < k := by rw [HNL.out]; exact Nat.pow_lt_pow_right (by omega) hjL
              have hE : kE j ≤ 21 := by
                have : j = 0 ∨ j = 1 ∨ j = 2 := by omega
                rcases this with rfl | rfl | rfl <;> decide
              have HcF := Lib.hid (kTo_fb hN8 HWF.out j (by omega))
              have HCS := Lib.hid (show Floats wS (some ⟨g, 0, none⟩) k cc (kTo W k j) from Rd.own ho)
              have hdb : IntKind.i64.wrap (((2 ^ j : Nat) : Int) * 2) = ((2 ^ (j + 1) : Nat) : Int) := by rw [IntWalk.i64_in _ (by omega), Nat.pow_succ]; omega
              have HNx : Hid (kRound W (kTo W k j) k (2 ^ j) = kTo W k (j + 1)) := rfl
              have HCl : Hid ((kTo W k j).length = k) := kTo_len _ _ _
              have hpj : (2 : Nat) ^ (j + 1) = 2 ^ j * 2 := Nat.pow_succ 2 j
              generalize hC : kTo W k j = C at *
              generalize kE j = E at *
              generalize hP2x : (2 : Nat) ^ (j + 1) = h2 at *
              generalize hP : (2 : Nat) ^ j = h at *
              have HRl : Hid ((kRound W C k h).length = k) := kRound_len _ _ _ _
              have HRs := Lib.hid (show ∀ i, i < k → List.take (i + 1) (kRound W C k h) = List.take i (kRound W C k h) ++ [fM (C.getD i 0) (kSum W C k h i k)] from fun i hi => range_take (f := fun i => fM (C.getD i 0) (kSum W C k h i k)) hi)
              have HO4a : Hid ((wS.alloc (.cells #[] 27)).ownsRow wS.heap.size 27 1 (.slice (some ⟨wS.heap.size, 0, none⟩) 0 0) 0 ((List.take 0 (kRound W C k h)).map (Value.float .f32))) := World.ownsRow_made (e := 27) (size := 1) (base := wS.heap.size) wS #[] 0 (Nat.le_refl _) (Nat.zero_le _) (by simp)
              have hhN : (h : Int) < (k : Int) := by omega
              have hh0 : ¬ (h : Int) = 0 := by omega
              have hP2x := Lib.hid hP2x
              clear hC hP ho hb HO
              go_wp2
              go_loopw [10, 11] (fun v i wr => ∃ (i' g2 c2 : Nat), i' ≤ k ∧ i = .int .i64 i' ∧ v = .slice (some ⟨g2, 0, none⟩) i' c2 ∧ wr.ownsRow wS.heap.size 27 1 (.slice (some ⟨g2, 0, none⟩) i' c2) i' ((List.take i' (kRound W C k h)).map (Value.float .f32)) ∧ Below wS.heap.size wS wr) (fun _ i _ => k - (intOf i).toNat)
              case atStart => exact ⟨0, wS.heap.size, 0, by omega, rfl, rfl, HO4a.out, (Below.refl _ _).alloc (Nat.le_refl _) _⟩
              case round =>
                obtain ⟨i, g2, c2, hik, rfl, rfl, ho4, hb4⟩ := hrel
                have HO4 := Lib.hid ho4
                have HB4 := Lib.hid hb4
                have hsz4 := hb4.size
                clear ho4 HO4a
                by_cases hil : i < k
                · have hRd4 := Row.mono HCS.out hb4
                  obtain ⟨hcc, hcc2, _⟩ := hRd4.at 0
                  have zi := floats_at0 hRd4 hil
                  have HXX := Lib.hid (fun q (hq : q < k) => floats_at0 hRd4 hq)
                  obtain ⟨ci, hci⟩ : ∃ x, C.getD i 0 = x := ⟨_, rfl⟩
                  rw [hci] at zi
                  have HCi := Lib.hid hci
                  clear hci
                  have HKc := Lib.hid (fun q (hq : q ≤ 8) => kCnt_le h (by omega) i (by omega) q hq)
                  have HMul := Lib.hid (kRound_step (n := k) (i := i) HcF.out HWF.out hE (Nat.le_trans (HKc.out k hN8) (by omega)))
                  clear hRd4
                  obtain ⟨w4, hw4⟩ : ∃ x : World, x = wr := ⟨_, rfl⟩
                  subst hw4
                  go_wp2
                  go_loopw [12, 13] (fun v q wr => ∃ (q' : Nat), q' ≤ k ∧ q = .int .i64 q' ∧ v = .float .f32 (kSum W C k h i q') ∧ Quiet w4 wr) (fun _ q _ => k - (intOf q).toNat)
                  case atStart => exact ⟨0, by omega, rfl, rfl, Quiet.refl _⟩
                  case round =>
                    obtain ⟨q, hqk, rfl, rfl, hqu⟩ := hrel
                    have HQ := Lib.hid hqu
                    by_cases hql : q < k
                    · have zq := cell_on (HQ.out.below w4.heap.size) (HXX.out q hql)
                      have hJ : i * k + q < n := by
                        have h1 : (i + 1) * k ≤ k * k := Nat.mul_le_mul_right k (by omega)
                        rw [Nat.succ_mul] at h1
                        rw [HNN.out]
                        omega
                      obtain ⟨hcw, hcw2, hwx⟩ := HW.out.at 0
                      obtain ⟨wb, wo, rfl, _, hwy⟩ := hwx (i * k + q) hJ
                      have zw := cell_on (HQ.out.below w4.heap.size) (cell_on HB4.out (cell_on HBS.out (hwy (i * k + q) hJ)))
                      have HSt := Lib.hid (fun e => kSum_step (n := k) (i := i) (k := q) HcF.out HWF.out (show E ≤ 60 by omega) (Nat.le_trans (HKc.out q (by omega)) (by omega)) e)
                      have HSk := Lib.hid (fun e => kSum_skip (W := W) (c := C) (n := k) (h := h) (i := i) (k := q) e)
                      have hA0 : (i : Int) * (k : Int) = ((i * k : Nat) : Int) := (Int.natCast_mul _ _).symm
                      have hA64 : i * k ≤ 64 := Nat.mul_le_mul (show i ≤ 8 by omega) hN8
                      have hkc := kc_two h hh i (by omega) q (by omega)
                      have hH20 : ¬ 2 * (h : Int) = 0 := by omega
                      have hw2h : IntKind.i64.wrap (2 * (h : Int)) = 2 * (h : Int) := IntWalk.i64_in _ (by omega)
                      have hQ1 : (q : Int) / (h : Int) = ((q / h : Nat) : Int) := (Int.natCast_ediv q h).symm
                      have hQ2 : (i : Int) / (h : Int) = ((i / h : Nat) : Int) := (Int.natCast_ediv i h).symm
                      have hQ3 : (q : Int) / (2 * (h : Int)) = ((q / (2 * h) : Nat) : Int) := by rw [show 2 * (h : Int) = ((2 * h : Nat) : Int) by omega]; exact (Int.natCast_ediv q (2 * h)).symm
                      have hQ4 : (i : Int) / (2 * (h : Int)) = ((i / (2 * h) : Nat) : Int) := by rw [show 2 * (h : Int) = ((2 * h : Nat) : Int) by omega]; exact (Int.natCast_ediv i (2 * h)).symm
                      have hW1 : IntKind.i64.wrap ((q / h : Nat) : Int) = ((q / h : Nat) : Int) := wrap_small (Nat.le_trans (Nat.div_le_self _ _) (by omega))
                      have hW2 : IntKind.i64.wrap ((i / h : Nat) : Int) = ((i / h : Nat) : Int) := wrap_small (Nat.le_trans (Nat.div_le_self _ _) (by omega))
                      have hW3 : IntKind.i64.wrap ((q / (2 * h) : Nat) : Int) = ((q / (2 * h) : Nat) : Int) := wrap_small (Nat.le_trans (Nat.div_le_self _ _) (by omega))
                      have hW4 : IntKind.i64.wrap ((i / (2 * h) : Nat) : Int) = ((i / (2 * h) : Nat) : Int) := wrap_small (Nat.le_trans (Nat.div_le_self _ _) (by omega))
                      clear hwx hwy
                      generalize q / (2 * h) = Q3 at *
                      generalize i / (2 * h) = Q4 at *
                      generalize i / h = Q2 at *
                      generalize q / h = Q1 at *
                      generalize hA : i * k = A at *
                      have hwA : IntKind.i64.wrap ((i : Int) * (k : Int)) = (A : Int) := by rw [hA0]; exact IntWalk.i64_in _ (by omega)
                      have hwJ : IntKind.i64.wrap ((A : Int) + (q : Int)) = ((A + q : Nat) : Int) := by rw [IntWalk.i64_in _ (by omega)]; omega
                      generalize C.getD q 0 = cq at *
                      generalize W.getD (A + q) 0 = wq at *
                      by_cases e3 : Q3 = Q4
                      · have hb3 : ((Q3 : Int) == (Q4 : Int)) = true := by simp [e3]
                        by_cases e1 : Q1 = Q2
                        · have hb1 : ((Q1 : Int) != (Q2 : Int)) = false := by simp [e1]
                          have e : kc h i q = false := by rw [hkc]; simp [e1]
                          have hSk := HSk.out e
                          clear HSt HSk hA hA0 hqu e3 e1 hkc
                          go_wp2
                          go_quiet (fail)
                          go_wp2
                          go_roundw
                          case rel => exact ⟨q + 1, by omega, by go_num, by rw [hSk], HQ.out.trans ⟨_, rfl⟩⟩
                          case measure => simp [intOf]; omega
                        · have hb1 : ((Q1 : Int) != (Q2 : Int)) = true := by simp; omega
                          have e : kc h i q = true := by rw [hkc]; simp [e1, e3]
                          obtain ⟨f1, f2⟩ := HSt.out e
                          generalize hS1 : kSum W C k h i (q + 1) = s1 at *
                          have HS1 := Lib.hid hS1
                          generalize kSum W C k h i q = s0 at *
                          generalize fM cq wq = p at *
                          have hopM : ∀ t W, (binOp .mul t (.float .f32 cq) (.float .f32 wq)).run Try.prog W = .ok (.float .f32 p) W := fun t W => run_float_arith W .mul t .f32 _ _ p f1
                          have hopA : ∀ t W, (binOp .add t (.float .f32 s0) (.float .f32 p)).run Try.prog W = .ok (.float .f32 s1) W := fun t W => run_float_arith W .add t .f32 _ _ s1 f2
                          clear f1 f2 HSt HSk hS1 hA hA0 hqu e3 e1 hkc
                          go_wp2
                          go_quiet (fail)
                          go_wp2
                          go_quiet (fail)
                          go_wp2
                          go_roundw
                          case rel => exact ⟨q + 1, by omega, by go_num, by rw [HS1.out], HQ.out.trans ⟨_, rfl⟩⟩
                          case measure => simp [intOf]; omega
                      · have hb3 : ((Q3 : Int) == (Q4 : Int)) = false := by simp; omega
                        have e : kc h i q = false := by rw [hkc]; simp [e3]
                        have hSk := HSk.out e
                        clear HSt HSk hA hA0 hqu e3 hkc
                        go_wp2
                        go_quiet (fail)
                        go_wp2
                        go_roundw
                        case rel => exact ⟨q + 1, by omega, by go_num, by rw [hSk], HQ.out.trans ⟨_, rfl⟩⟩
                        case measure => simp [intOf]; omega
                    · obtain rfl : q = k := by omega
                      have HRR := Lib.hid (HRs.out i hil).symm
                      have zi := cell_on (hqu.below w4.heap.size) zi
                      have HO5 := Lib.hid (ownsRow_below HO4.out hqu.b)
                      have HB5 := Lib.hid (HB4.out.trans (hqu.b.mono hsz4))
                      have hsz5 := HB5.out.size
                      have f1 := HMul.out
                      rw [HCi.out] at f1 HRR
                      have hlti : i ≤ 8 := by omega
                      clear hqu HQ HXX HMul HO4 HB4
                      generalize fM ci (kSum W C q h i q) = nv at *
                      generalize kSum W C q h i q = s0 at *
                      generalize hRR : kRound W C q h = RR at *
                      have hopN : ∀ t W, (binOp .mul t (.float .f32 ci) (.float .f32 s0)).run Try.prog W = .ok (.float .f32 nv) W := fun t W => run_float_arith W .mul t .f32 _ _ nv f1
                      have HRx := Lib.hid hRR
                      clear f1 hRR HKc
                      go_wp2_with (first | (at_builtin; go_must (refine wpList_append_lies _ rfl _ _ 26 rfl wS.heap.size 27 i0 _ 1 4 Try.underlying26 hi hz0 hz1 hz2 rfl (by omega) (.slice (some ⟨g2, 0, none⟩) i c2) i ((List.take i RR).map (Value.float .f32)) rfl (HO5.out.alloc _) ⟨_, 0, none⟩ 1 1 [.float .f32 nv] rfl rfl (new1 _ _ _) (one1 rfl) (by omega) (by unfold maxLen; omega) (by omega) (by simp; omega) _ rfl ?_); intro gg cap w5 hown1 hg1 hat hlt5; rw [← mapF_snoc, HRR.out] at hown1; have HBn := Lib.hid (below_app HB5.out hsz5 hg1 HO5.out); have HOn := Lib.hid hown1; clear hown1 hg1 hat) | (simp only [hopN]))
                      go_roundw
                      case rel => exact ⟨i + 1, gg, cap, by omega, by go_num, rfl, by rw [HRx.out]; exact HOn.out, HBn.out⟩
                      case measure => simp [intOf]; omega
                · obtain rfl : i = k := by omega
                  have HOf := Lib.hid (ownsRow_low HO4.out hszS)
                  rw [List.take_of_length_le (by rw [HRl.out]; exact Nat.le_refl _), HNx.out] at HOf
                  have HBf := Lib.hid (HBS.out.trans (HB4.out.mono hszS))
                  clear HO4 HB4 hb4
                  go_wp2
                  go_roundw
                  case rel => exact ⟨j + 1, g2, c2, by omega, by rw [hP2x.out, hpj]; first | rfl | (congr 1; omega) | go_num, rfl, HOf.out, HBf.out⟩
                  case measure => simp [intOf]; omega
            · obtain rfl : j = L := by omega
              have hend : ¬ ((2 ^ j : Nat) : Int) < (k : Int) := by rw [HNL.out]; omega
              clear ho hb
              generalize kTo W k j = C at *
              generalize kE j = E at *
              go_wp2
              go_ret2
              exact ⟨_, _, _, by rw [hR.out]; rfl, HBS.out, by rw [hR.out]; exact HO.out⟩

    end Go.Proofs.Ythakjkhceeocfaa
