/- Chances: the program's KnockChances. -/
import Derived.Test.YthakjkhceeocfaaKcB
import Derived.Test.YthakjkhceeocfaaChg
import Derived.Deep.AppendLies
import Derived.Deep.Cut
import Derived.Deep.CutBlock
namespace Go.Proofs.Ythakjkhceeocfaa
open Go.RowKit
set_option linter.unusedVariables false
set_option linter.unusedSimpArgs false

/-- which of the first k are the number of players -/
def kTry (b4 b16 b64 : Bool) : Nat → Int
  | 0 => 0
  | 1 => if b4 then 2 else 0
  | 2 => if b16 then 4 else if b4 then 2 else 0
  | _ => if b64 then 8 else if b16 then 4 else if b4 then 2 else 0
theorem kTry_full (n : Nat) : kTry ((n : Int) == 4) ((n : Int) == 16) ((n : Int) == 64) 3 = (kN n : Int) := by
  show (if ((n : Int) == 64) = true then (8 : Int) else if ((n : Int) == 16) = true then 4 else if ((n : Int) == 4) = true then 2 else 0) = _
  unfold kN
  by_cases h4 : n = 4
  · subst h4; rfl
  · by_cases h16 : n = 16
    · subst h16; rfl
    · by_cases h64 : n = 64
      · subst h64; rfl
      · rw [if_neg h4, if_neg h16, if_neg h64, if_neg (by simp; omega), if_neg (by simp; omega), if_neg (by simp; omega)]
        rfl
theorem kN_pow {n : Nat} (h : kN n ≠ 0) : n = kN n * kN n ∧ kN n = 2 ^ kL n ∧ kN n ≤ 8 ∧ 2 ≤ kN n ∧ kL n ≤ 3 ∧ 1 ≤ kL n := by
  unfold kN at h ⊢
  unfold kL
  by_cases h4 : n = 4
  · subst h4; decide
  · by_cases h16 : n = 16
    · subst h16; decide
    · by_cases h64 : n = 64
      · subst h64; decide
      · rw [if_neg h4, if_neg h16, if_neg h64] at h
        exact absurd rfl h
theorem xor_one : ∀ q : Nat, q < 8 → bits .xor .i64 (q : Int) 1 = ((q ^^^ 1 : Nat) : Int) := by decide
theorem mem_fb {xs : List Nat} {e : Nat} (h : ∀ i, FB e (xs.getD i 0)) : ∀ x ∈ xs, FB e x := fun x hx => by
  obtain ⟨i, hi, rfl⟩ := List.getElem_of_mem hx
  have := h i
  rw [List.getD_eq_getElem?_getD, List.getElem?_eq_getElem hi] at this
  exact this
theorem range_take {f : Nat → Nat} {n i : Nat} (hi : i < n) : ((List.range n).map f).take (i + 1) = ((List.range n).map f).take i ++ [f i] := by
  rw [List.take_add_one, List.getElem?_eq_getElem (by simp; exact hi)]
  simp
theorem mapF_snoc (xs : List Nat) (x : Nat) : (xs ++ [x]).map (Value.float .f32) = xs.map (Value.float .f32) ++ [.float .f32 x] := by simp

theorem floats_at0 {w : World} {g n c : Nat} {xs : List Nat} (h : Floats w (some ⟨g, 0, none⟩) n c xs) {i : Nat} (hi : i < n) : w.cell? ⟨g, i, none⟩ = some (.float .f32 (xs.getD i 0)) := by
  obtain ⟨_, _, hx⟩ := h.at 0
  obtain ⟨b, off, e, _, hy⟩ := hx i hi
  simp only [Option.some.injEq, Addr.mk.injEq] at e
  obtain ⟨rfl, rfl, _⟩ := e
  have := hy i hi
  rw [Nat.zero_add] at this
  exact this
theorem new3 (W : World) (u v x : Value) (T : TypeId) : (W.alloc (.cells #[u, v, x] T)).cell? ⟨W.heap.size, 0, none⟩ = some u ∧ (W.alloc (.cells #[u, v, x] T)).cell? ⟨W.heap.size, 1, none⟩ = some v ∧ (W.alloc (.cells #[u, v, x] T)).cell? ⟨W.heap.size, 2, none⟩ = some x := by
  refine ⟨?_, ?_, ?_⟩ <;> simp

set_option maxHeartbeats 3200000 in
set_option maxRecDepth 100000 in
theorem implKnockChances_any (a : Option Addr) (n c : Nat) (W : List Nat) (w : World) (h : Floats w a n c W) (hn : n ≤ 1048576) :
    Calls Try.prog 6 #[.slice a n c] w fun e w' => ∃ ra rn rc, e = .returned (.tuple #[.slice ra rn rc, .bool (kRes W).2]) ∧ Below w.heap.size w w' ∧ w'.ownsRow w.heap.size 27 1 (.slice ra rn rc) rn ((kRes W).1.map (Value.float .f32)) := by
  obtain ⟨hc, hb, hcell⟩ := h.at 0
  have hl := h.len
  have CC := Lib.hid (fun W' (hW : Below w.heap.size w W') => containsFuncF32_any (fun x => !isCh x) 23 #[] (enters_of Try.func23 (by kernel_rfl) rfl) a n c W W' (Row.mono h hW) (fun W2 _ x _ => KnockChances1_any x W2))
  have HW := Lib.hid h
  have HRes : Hid (kRes W = if kN n ≠ 0 ∧ W.all isCh = true then (kTo W (kN n) (kL n), true) else ([], false)) := by show _ = _; unfold kRes; rw [hl]
  generalize kRes W = R at *
  have HTry := Lib.hid (kTry_full n)
  have hall : W.any (fun x => !isCh x) = !W.all isCh := by rw [List.not_all_eq_any_not]
  rw [hall] at CC
  have hst := st_f32 Try.prog
  obtain ⟨i0, hi, hz0, hz1, hz2⟩ := info_parts infoF32
  obtain ⟨z2, z4, z8⟩ := new3 w (.int .i64 2) (.int .i64 4) (.int .i64 8) 3
  have HB0 : Hid (Below w.heap.size w (w.alloc (.cells #[.int .i64 2, .int .i64 4, .int .i64 8] 3))) := (Below.refl _ _).alloc (Nat.le_refl _) _
  clear h hall hcell
  generalize h4 : ((n : Int) == 4) = b4 at *
  generalize h16 : ((n : Int) == 16) = b16 at *
  generalize h64 : ((n : Int) == 64) = b64 at *
  go_enter Try.func6, Try.ntmps6
  go_upto_block 0 with fail
  go_cut [4] from 4 to 4 (fun v wr => v = .int .i64 (kN n : Nat) ∧ wr = w.alloc (.cells #[.int .i64 2, .int .i64 4, .int .i64 8] 3))
  case first => as_aux_lemma =>
    go_wp2_with fail
    go_loop [4, 17] (fun v i => ∃ k : Nat, k ≤ 3 ∧ i = .int .i64 k ∧ v = .int .i64 (kTry b4 b16 b64 k)) (fun _ i => 3 - (intOf i).toNat)
    case atStart => exact ⟨0, by omega, rfl, rfl⟩
    case round =>
      obtain ⟨k, hk, rfl, rfl⟩ := hrel
      clear CC HW HRes HB0
      have hk4 : k = 0 ∨ k = 1 ∨ k = 2 ∨ k = 3 := by omega
      rcases hk4 with rfl | rfl | rfl | rfl
      · cases b4
        all_goals
          go_wp2
          go_round
          case rel => exact ⟨1, by omega, by first | rfl | go_num, by first | rfl | simp [kTry]⟩
          case measure => simp [intOf]
      · cases b16
        all_goals
          go_wp2
          go_round
          case rel => exact ⟨2, by omega, by first | rfl | go_num, by first | rfl | simp [kTry]⟩
          case measure => simp [intOf]
      · cases b64
        all_goals
          go_wp2
          go_round
          case rel => exact ⟨3, by omega, by first | rfl | go_num, by first | rfl | simp [kTry]⟩
          case measure => simp [intOf]
      · go_wp2
        go_meet
        case rel => exact ⟨by rw [HTry.out], rfl⟩
  case rest =>
  obtain ⟨rfl, rfl⟩ := hcut
  clear HTry z2 z4 z8 h4 h16 h64
  generalize w.alloc (.cells #[.int .i64 2, .int .i64 4, .int .i64 8] 3) = w1 at *
  have hpow := kN_pow (n := n)
  generalize kN n = N at *
  generalize kL n = L at *
  by_cases hN0 : N = 0
  · subst hN0
    have hR := Lib.hid (HRes.out.trans (if_neg (by simp)))
    clear hpow CC HRes
    go_wp2
    go_ret2
    exact ⟨none, 0, 0, by rw [hR.out]; rfl, HB0.out, by rw [hR.out]; exact World.ownsRow_nil _ _ _ _⟩
  obtain ⟨hnN, hNL, hN8, hN2, hL3, hL1⟩ := hpow hN0
  have hN0' : ((N : Int) == 0) = false := by simpa using hN0
  have C1 := Lib.hid (CC.out w1 HB0.out)
  have hs1 := HB0.out.size
  clear hpow CC
  rcases Bool.eq_false_or_eq_true (W.all isCh) with hall | hall
  case inr =>
    have hR := Lib.hid (HRes.out.trans (if_neg (by rw [hall]; simp)))
    rw [hall] at C1
    clear HRes hnN hNL
    go_wp2_with (fail)
    refine C1.out.mono ?_
    rintro e w2 ⟨rfl, hb2⟩
    have HB2 := Lib.hid (HB0.out.trans (hb2.mono hs1))
    clear hb2 C1
    go_wp2
    go_ret2
    exact ⟨none, 0, 0, by rw [hR.out]; rfl, HB2.out, by rw [hR.out]; exact World.ownsRow_nil _ _ _ _⟩
  have hR := Lib.hid (HRes.out.trans (if_pos ⟨hN0, hall⟩))
  rw [hall] at C1
  have HWF := Lib.hid (all_fb hall)
  have HNN := Lib.hid hnN
  have HNL := Lib.hid hNL
  clear HRes hnN hNL hall hN0
  go_wp2_with (fail)
  refine C1.out.mono ?_
  rintro e w2 ⟨rfl, hb2⟩
  have HB2 := Lib.hid (HB0.out.trans (hb2.mono hs1))
  have hs2 := HB2.out.size
  have HO2 : Hid ((w2.alloc (.cells #[] 27)).ownsRow w.heap.size 27 1 (.slice (some ⟨w2.heap.size, 0, none⟩) 0 0) 0 ((List.replicate 0 1065353216).map (Value.float .f32))) := World.ownsRow_made (e := 27) (size := 1) (base := w.heap.size) w2 #[] 0 hs2 (Nat.zero_le _) (by simp)
  clear hb2 C1 HB0
  go_wp2
  go_loopw [7, 37] (fun v i wr => ∃ (k g cc : Nat), k ≤ N ∧ i = .int .i64 k ∧ v = .slice (some ⟨g, 0, none⟩) k cc ∧ wr.ownsRow w.heap.size 27 1 (.slice (some ⟨g, 0, none⟩) k cc) k ((List.replicate k 1065353216).map (Value.float .f32)) ∧ Below w.heap.size w wr) (fun _ i _ => N - (intOf i).toNat)
  case atStart => exact ⟨0, w2.heap.size, 0, by omega, rfl, rfl, HO2.out, HB2.out.alloc hs2 _⟩
  case round =>
    obtain ⟨k, g, cc, hk, rfl, rfl, ho, hb⟩ := hrel
    have HO := Lib.hid ho
    have HB := Lib.hid hb
    have hsz := hb.size
    clear ho hb HO2 HB2
    by_cases hlt : k < N
    · have hrep : List.replicate k 1065353216 ++ [1065353216] = List.replicate (k + 1) 1065353216 := List.replicate_succ'.symm
      go_wp2_with (first | (at_builtin; go_must (refine wpList_append_lies _ rfl _ _ 26 rfl w.heap.size 27 i0 _ 1 4 Try.underlying26 hi hz0 hz1 hz2 rfl (by omega) (.slice (some ⟨g, 0, none⟩) k cc) k ((List.replicate k 1065353216).map (Value.float .f32)) rfl (HO.out.alloc _) ⟨_, 0, none⟩ 1 1 [.float .f32 1065353216] rfl rfl (new1 _ _ _) (one1 rfl) (by omega) (by unfold maxLen; omega) (by omega) (by simp; omega) _ rfl ?_); intro gg cap w5 hown1 hg1 hat hlt5; rw [← mapF_snoc] at hown1; rw [hrep] at hown1; have HBn := Lib.hid (below_app HB.out hsz hg1 HO.out); have HOn := Lib.hid hown1; clear hown1 hg1 hat))
      go_roundw
      case rel => exact ⟨k + 1, gg, cap, by omega, by go_num, rfl, HOn.out, HBn.out⟩
      case measure => simp [intOf]; omega
    · obtain rfl : k = N := by omega
      have HO0 : Hid (World.ownsRow _ w.heap.size 27 1 (.slice (some ⟨g, 0, none⟩) k cc) k ((kTo W k 0).map (Value.float .f32))) := HO.out
      clear HO
      go_wp2
      go_loopw [7, 8] (fun v s wr => ∃ (j g cc : Nat), j ≤ L ∧ s = .int .i64 ((2 ^ j : Nat) : Int) ∧ v = .slice (some ⟨g, 0, none⟩) k cc ∧ wr.ownsRow w.heap.size 27 1 (.slice (some ⟨g, 0, none⟩) k cc) k ((kTo W k j).map (Value.float .f32)) ∧ Below w.heap.size w wr) (fun _ s _ => 16 - (intOf s).toNat)
      case atStart => exact ⟨0, g, cc, by omega, rfl, rfl, HO0.out, HB.out⟩
      case round =>
        obtain ⟨j, g, cc, hj, rfl, rfl, ho, hb⟩ := hrel
        obtain ⟨wS, hwS⟩ : ∃ x : World, x = wr := ⟨_, rfl⟩
        subst hwS
        have HO := Lib.hid ho
        have HBS := Lib.hid hb
        have hszS := hb.size
        clear HO0 HB
        by_cases hjL : j < L
        · have hh : 2 ^ j = 1 ∨ 2 ^ j = 2 ∨ 2 ^ j = 4 := by
            have : j = 0 ∨ j = 1 ∨ j = 2 := by omega
            rcases this with rfl | rfl | rfl <;> simp
          have hlN : (2 : Nat) ^ j < k := by rw [HNL.out]; exact Nat.pow_lt_pow_right (by omega) hjL
          have hE : kE j ≤ 21 := by
            have : j = 0 ∨ j = 1 ∨ j = 2 := by omega
            rcases this with rfl | rfl | rfl <;> decide
          have HcF := Lib.hid (kTo_fb hN8 HWF.out j (by omega))
          have HCS := Lib.hid (show Floats wS (some ⟨g, 0, none⟩) k cc (kTo W k j) from Rd.own ho)
          have hdb : IntKind.i64.wrap (((2 ^ j : Nat) : Int) * 2) = ((2 ^ (j + 1) : Nat) : Int) := by rw [IntWalk.i64_in _ (by omega), Nat.pow_succ]; omega
          have HNx : Hid (kRound W (kTo W k j) k (2 ^ j) = kTo W k (j + 1)) := rfl
          have HCl : Hid ((kTo W k j).length = k) := kTo_len _ _ _
          have hpj : (2 : Nat) ^ (j + 1) = 2 ^ j * 2 := Nat.pow_succ 2 j
          generalize hC : kTo W k j = C at *
          generalize kE j = E at *
          generalize hP2x : (2 : Nat) ^ (j + 1) = h2 at *
          generalize hP : (2 : Nat) ^ j = h at *
          have HRl : Hid ((kRound W C k h).length = k) := kRound_len _ _ _ _
          have HRs := Lib.hid (show ∀ i, i < k → List.take (i + 1) (kRound W C k h) = List.take i (kRound W C k h) ++ [fM (C.getD i 0) (kSum W C k h i k)] from fun i hi => range_take (f := fun i => fM (C.getD i 0) (kSum W C k h i k)) hi)
          have HO4a : Hid ((wS.alloc (.cells #[] 27)).ownsRow wS.heap.size 27 1 (.slice (some ⟨wS.heap.size, 0, none⟩) 0 0) 0 ((List.take 0 (kRound W C k h)).map (Value.float .f32))) := World.ownsRow_made (e := 27) (size := 1) (base := wS.heap.size) wS #[] 0 (Nat.le_refl _) (Nat.zero_le _) (by simp)
          have hhN : (h : Int) < (k : Int) := by omega
          have hh0 : ¬ (h : Int) = 0 := by omega
          have hP2x := Lib.hid hP2x
          clear hC hP ho hb HO
          go_wp2
          go_loopw [9, 51] (fun v i wr => ∃ (i' g2 c2 : Nat), i' ≤ k ∧ i = .int .i64 i' ∧ v = .slice (some ⟨g2, 0, none⟩) i' c2 ∧ wr.ownsRow wS.heap.size 27 1 (.slice (some ⟨g2, 0, none⟩) i' c2) i' ((List.take i' (kRound W C k h)).map (Value.float .f32)) ∧ Below wS.heap.size wS wr) (fun _ i _ => k - (intOf i).toNat)
          case atStart => exact ⟨0, wS.heap.size, 0, by omega, rfl, rfl, HO4a.out, (Below.refl _ _).alloc (Nat.le_refl _) _⟩
          case round =>
            obtain ⟨i, g2, c2, hik, rfl, rfl, ho4, hb4⟩ := hrel
            have HO4 := Lib.hid ho4
            have HB4 := Lib.hid hb4
            have hsz4 := hb4.size
            clear ho4 HO4a
            by_cases hil : i < k
            · have hRd4 := Row.mono HCS.out hb4
              obtain ⟨hcc, hcc2, _⟩ := hRd4.at 0
              have zi := floats_at0 hRd4 hil
              have HXX := Lib.hid (fun q (hq : q < k) => floats_at0 hRd4 hq)
              obtain ⟨ci, hci⟩ : ∃ x, C.getD i 0 = x := ⟨_, rfl⟩
              rw [hci] at zi
              have HCi := Lib.hid hci
              clear hci
              have HKc := Lib.hid (fun q (hq : q ≤ 8) => kCnt_le h (by omega) i (by omega) q hq)
              have HMul := Lib.hid (kRound_step (n := k) (i := i) HcF.out HWF.out hE (Nat.le_trans (HKc.out k hN8) (by omega)))
              clear hRd4
              obtain ⟨w4, hw4⟩ : ∃ x : World, x = wr := ⟨_, rfl⟩
              subst hw4
              go_wp2
              go_loopw [12, 58] (fun v q wr => ∃ (q' : Nat), q' ≤ k ∧ q = .int .i64 q' ∧ v = .float .f32 (kSum W C k h i q') ∧ Quiet w4 wr) (fun _ q _ => k - (intOf q).toNat)
              case atStart => exact ⟨0, by omega, rfl, rfl, Quiet.refl _⟩
              case round =>
                obtain ⟨q, hqk, rfl, rfl, hqu⟩ := hrel
                have HQ := Lib.hid hqu
                by_cases hql : q < k
                · have zq := cell_on (HQ.out.below w4.heap.size) (HXX.out q hql)
                  have hJ : i * k + q < n := by
                    have h1 : (i + 1) * k ≤ k * k := Nat.mul_le_mul_right k (by omega)
                    rw [Nat.succ_mul] at h1
                    rw [HNN.out]
                    omega
                  obtain ⟨hcw, hcw2, hwx⟩ := HW.out.at 0
                  obtain ⟨wb, wo, rfl, _, hwy⟩ := hwx (i * k + q) hJ
                  have zw := cell_on (HQ.out.below w4.heap.size) (cell_on HB4.out (cell_on HBS.out (hwy (i * k + q) hJ)))
                  have HSt := Lib.hid (fun e => kSum_step (n := k) (i := i) (k := q) HcF.out HWF.out (show E ≤ 60 by omega) (Nat.le_trans (HKc.out q (by omega)) (by omega)) e)
                  have HSk := Lib.hid (fun e => kSum_skip (W := W) (c := C) (n := k) (h := h) (i := i) (k := q) e)
                  have hA0 : (i : Int) * (k : Int) = ((i * k : Nat) : Int) := (Int.natCast_mul _ _).symm
                  have hA64 : i * k ≤ 64 := Nat.mul_le_mul (show i ≤ 8 by omega) hN8
                  have hQ1 : (q : Int) / (h : Int) = ((q / h : Nat) : Int) := (Int.natCast_ediv q h).symm
                  have hQ2 : (i : Int) / (h : Int) = ((i / h : Nat) : Int) := (Int.natCast_ediv i h).symm
                  have hQ8 : i / h < 8 := Nat.lt_of_le_of_lt (Nat.div_le_self i h) (by omega)
                  have hQ9 : q / h < 8 := Nat.lt_of_le_of_lt (Nat.div_le_self q h) (by omega)
                  have hxo := xor_one (i / h) hQ8
                  have hkb : ((((q / h : Nat) : Int)) == (((i / h) ^^^ 1 : Nat) : Int)) = kc h i q := by
                    unfold kc
                    rw [Bool.eq_iff_iff, beq_iff_eq, beq_iff_eq]
                    exact Int.ofNat_inj
                  clear hwx hwy
                  generalize (i / h) ^^^ 1 = Q3 at *
                  generalize i / h = Q2 at *
                  generalize q / h = Q1 at *
                  generalize hA : i * k = A at *
                  have hwA : IntKind.i64.wrap ((i : Int) * (k : Int)) = (A : Int) := by rw [hA0]; exact IntWalk.i64_in _ (by omega)
                  have hwJ : IntKind.i64.wrap ((A : Int) + (q : Int)) = ((A + q : Nat) : Int) := by rw [IntWalk.i64_in _ (by omega)]; omega
                  generalize C.getD q 0 = cq at *
                  generalize W.getD (A + q) 0 = wq at *
                  rcases Bool.eq_false_or_eq_true (kc h i q) with e | e
                  · obtain ⟨f1, f2⟩ := HSt.out e
                    rw [e] at hkb
                    generalize hS1 : kSum W C k h i (q + 1) = s1 at *
                    have HS1 := Lib.hid hS1
                    generalize kSum W C k h i q = s0 at *
                    generalize fM cq wq = p at *
                    have hopM : ∀ t W, (binOp .mul t (.float .f32 cq) (.float .f32 wq)).run Try.prog W = .ok (.float .f32 p) W := fun t W => run_float_arith W .mul t .f32 _ _ p f1
                    have hopA : ∀ t W, (binOp .add t (.float .f32 s0) (.float .f32 p)).run Try.prog W = .ok (.float .f32 s1) W := fun t W => run_float_arith W .add t .f32 _ _ s1 f2
                    clear f1 f2 HSt HSk hS1 hA hA0 hqu
                    go_wp2
                    go_quiet (fail)
                    go_wp2_with (simp only [hopM, hopA])
                    go_roundw
                    case rel => exact ⟨q + 1, by omega, by go_num, by rw [HS1.out], HQ.out.trans ⟨_, rfl⟩⟩
                    case measure => simp [intOf]; omega
                  · have hSk := HSk.out e
                    rw [e] at hkb
                    clear HSt HSk hA hA0 hqu
                    go_wp2
                    go_quiet (fail)
                    go_wp2
                    go_roundw
                    case rel => exact ⟨q + 1, by omega, by go_num, by rw [hSk], HQ.out.trans ⟨_, rfl⟩⟩
                    case measure => simp [intOf]; omega
                · obtain rfl : q = k := by omega
                  have HRR := Lib.hid (HRs.out i hil).symm
                  have HO5 := Lib.hid (ownsRow_below HO4.out hqu.b)
                  have HB5 := Lib.hid (HB4.out.trans (hqu.b.mono hsz4))
                  have hsz5 := HB5.out.size
                  have f1 := HMul.out
                  rw [HCi.out] at f1 HRR
                  have hlti : i ≤ 8 := by omega
                  clear hqu HQ HXX HMul HO4 HB4
                  generalize fM ci (kSum W C q h i q) = nv at *
                  generalize kSum W C q h i q = s0 at *
                  generalize hRR : kRound W C q h = RR at *
                  have hopN : ∀ t W, (binOp .mul t (.float .f32 ci) (.float .f32 s0)).run Try.prog W = .ok (.float .f32 nv) W := fun t W => run_float_arith W .mul t .f32 _ _ nv f1
                  have HRx := Lib.hid hRR
                  clear f1 hRR HKc
                  go_wp2_with (first | (at_builtin; go_must (refine wpList_append_lies _ rfl _ _ 26 rfl wS.heap.size 27 i0 _ 1 4 Try.underlying26 hi hz0 hz1 hz2 rfl (by omega) (.slice (some ⟨g2, 0, none⟩) i c2) i ((List.take i RR).map (Value.float .f32)) rfl (HO5.out.alloc _) ⟨_, 0, none⟩ 1 1 [.float .f32 nv] rfl rfl (new1 _ _ _) (one1 rfl) (by omega) (by unfold maxLen; omega) (by omega) (by simp; omega) _ rfl ?_); intro gg cap w5 hown1 hg1 hat hlt5; rw [← mapF_snoc, HRR.out] at hown1; have HBn := Lib.hid (below_app HB5.out hsz5 hg1 HO5.out); have HOn := Lib.hid hown1; clear hown1 hg1 hat) | (simp only [hopN]))
                  go_roundw
                  case rel => exact ⟨i + 1, gg, cap, by omega, by go_num, rfl, by rw [HRx.out]; exact HOn.out, HBn.out⟩
                  case measure => simp [intOf]; omega
            · obtain rfl : i = k := by omega
              have HOf := Lib.hid (ownsRow_low HO4.out hszS)
              rw [List.take_of_length_le (by rw [HRl.out]; exact Nat.le_refl _), HNx.out] at HOf
              have HBf := Lib.hid (HBS.out.trans (HB4.out.mono hszS))
              clear HO4 HB4 hb4
              go_wp2
              go_roundw
              case rel => exact ⟨j + 1, g2, c2, by omega, by rw [hP2x.out, hpj]; first | rfl | (congr 1; omega) | go_num, rfl, HOf.out, HBf.out⟩
              case measure => simp [intOf]; omega
        · obtain rfl : j = L := by omega
          have hend : ¬ ((2 ^ j : Nat) : Int) < (k : Int) := by rw [HNL.out]; omega
          have C9 := Lib.hid (checkedNumbers_fb (some ⟨g, 0, none⟩) k cc _ _ wS (Rd.own ho) (mem_fb (kTo_fb hN8 HWF.out j hL3)))
          clear ho hb
          generalize kTo W k j = C at *
          generalize kE j = E at *
          go_wp2_with (fail)
          refine C9.out.mono ?_
          rintro e w9 ⟨rfl, hb9⟩
          have HB9 := Lib.hid (HBS.out.trans (hb9.mono hszS))
          have HO9 := Lib.hid (ownsRow_below HO.out hb9)
          clear hb9 C9
          go_wp2
          go_ret2
          exact ⟨_, _, _, by rw [hR.out]; rfl, HB9.out, by rw [hR.out]; exact HO9.out⟩

end Go.Proofs.Ythakjkhceeocfaa
