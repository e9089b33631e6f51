/- The law FnTournaments returns true: its walk. -/
import Derived.Test.YthakjkhceeocfaaTouN
import Derived.Test.YthakjkhceeocfaaKcC
import Derived.Test.YthakjkhceeocfaaKcD
import Derived.Test.YthakjkhceeocfaaKnockC
import Derived.Test.YthakjkhceeocfaaKnockE
import Derived.Test.YthakjkhceeocfaaSwissB
import Derived.Test.YthakjkhceeocfaaSwissD
import Derived.Test.YthakjkhceeocfaaTieB
import Derived.Test.YthakjkhceeocfaaTieC
import Derived.Test.YthakjkhceeocfaaBuchB
import Derived.Deep.Cut
import Derived.Deep.CutBlock
import Derived.Deep.CutRange
import Derived.StillTailTactics
import Derived.Deep.RegionHeld3
namespace Go.Proofs.Ythakjkhceeocfaa
open Go.RowKit
set_option linter.unusedVariables false
set_option linter.unusedSimpArgs false

theorem sumN_lt {n : Nat} {c : List Nat} {v : Nat → Nat} (h : Near n c v) : ∀ k, k ≤ n → sumN v k ≤ k * 2 ^ 35 := by
  intro k
  induction k with
  | zero => intro _; simp [sumN]
  | succ k ih =>
    intro hk
    have h1 := ih (by omega)
    have h2 := h.lt k (by omega)
    show sumN v k + v k ≤ _
    omega
theorem Dd.thou : Dd 62 4611686018427388 4562254508917369340 := Dd.of (m := 4611686018427388) (s := 0) (i := -62) (by decide) (by decide) (by decide) (by decide)
theorem Dd.more {K n x : Nat} (h : Dd K n x) (t : Nat) (hK : K + t ≤ 1074) : Dd (K + t) (n * 2 ^ t) x := by
  unfold Dd at *
  rw [Nat.mul_assoc, ← Nat.pow_add, show t + (1074 - (K + t)) = 1074 - K by omega]
  exact h
theorem vl_lt_some {f : Ieee.Format} {x y a b : Nat} (hx : Vl f x a) (hy : Vl f y b) (h : a < b) : f.order x y = some .lt := by rw [vl_order hx hy, if_pos h]
theorem dd_lt_some {K a b x y : Nat} (hx : Dd K a x) (hy : Dd K b y) (h : a < b) : Ieee.double.order x y = some .lt :=
  vl_lt_some hx hy ((Nat.mul_lt_mul_right (Nat.two_pow_pos (1074 - K))).2 h)
theorem gap_small {g r : Nat} (h : Dd 28 g r) (hg : g ≤ 100000) : Ieee.double.order r 4562254508917369340 = some .lt := by
  have h1 : Dd 62 (g * 2 ^ 34) r := h.more 34 (by omega)
  exact dd_lt_some h1 Dd.thou (by omega)
theorem sumN_dd0 (v : Nat → Nat) : Dd 28 (sumN v 0) 0 := by
  have e : sumN v 0 = 0 := rfl
  rw [e]
  exact Dd.zero 28
theorem infoB : (Try.prog.info? 4).map (fun i => (i.zero, i.size, i.bytes)) = some (some (.bool false), 1, 1) := by kernel_rfl

set_option maxHeartbeats 12800000 in
set_option maxRecDepth 100000 in
theorem fnTournaments_walk (a0 : Option Addr) (n0 c0 : Nat) (x0 : List Int) (a1 : Option Addr) (n1 c1 : Nat) (x1 : List Int) (w : World) (ok0 : okB x0) (v0 : Bytes w a0 n0 c0 x0) (ok1 : okB x1) (v1 : Bytes w a1 n1 c1 x1) :
    Calls Try.prog 3 #[.slice a0 n0 c0, .slice a1 n1 c1] w (Ret w (.bool true)) := by
  obtain ⟨hc0, hm0, _⟩ := v0.at 0
  obtain ⟨hc1, hm1, _⟩ := v1.at 0
  have C0 := b10Long_any a0 n0 c0 a1 n1 c1 w (by omega) (by omega)
  have CA := Lib.hid (fun (k m : Int) W (hW : Below w.heap.size w W) (h1 : 0 ≤ k) (h2 : k ≤ 1000) (h3 : 1 ≤ m) (h4 : m ≤ 1000) => b10At_any a0 n0 c0 x0 k m W (v0.mono hW) ok0 h1 h2 h3 h4)
  have CB := Lib.hid (fun (k m : Int) W (hW : Below w.heap.size w W) (h1 : 0 ≤ k) (h2 : k ≤ 1000) (h3 : 1 ≤ m) (h4 : m ≤ 1000) => b10At_any a1 n1 c1 x1 k m W (v1.mono hW) ok1 h1 h2 h3 h4)
  have CG := Lib.hid (fun (p : Nat) W (hW : Below w.heap.size w W) (h1 : 2 ≤ p) (h2 : p ≤ 16) => b10Games_any p a0 n0 c0 x0 W (v0.mono hW) ok0 h1 h2)
  clear v0 v1 ok0 ok1
  rcases Bool.eq_false_or_eq_true (isLongB n0 n1) with e | e
  · rw [e] at C0
    have C0 := Lib.hid C0
    go_enter Try.func3, Try.ntmps3
    go_wp2_with (fail)
    refine C0.out.mono ?_
    rintro e w1 ⟨rfl, rfl⟩
    go_wp2
    go_ret
    exact ⟨rfl, Below.refl _ _⟩
  rw [e] at C0
  have C0 := Lib.hid C0
  clear e
  go_enter Try.func3, Try.ntmps3
  go_wp2_with (fail)
  refine C0.out.mono ?_
  rintro e w0 ⟨rfl, rfl⟩
  clear C0
  have hbA : Below w.heap.size w (w.alloc (.cells #[.int .i64 2, .int .i64 4, .int .i64 8] 2)) := (Below.refl _ _).alloc (Nat.le_refl _) _
  have HBA := Lib.hid hbA
  clear hbA
  go_upto_region 4 with fail
  go_cut [6] from 49 to 53 (fun vn wr => ∃ n : Nat, (n = 2 ∨ n = 4 ∨ n = 8) ∧ vn = .int .i64 n ∧ Below w.heap.size w wr)
  case first => as_aux_lemma =>
    go_wp2_with (fail)
    refine (CB.out 0 3 _ HBA.out (by omega) (by omega) (by omega) (by omega)).mono ?_
    rintro e w1 ⟨y, rfl, hy0, hy1, rfl⟩
    have hy : y = 0 ∨ y = 1 ∨ y = 2 := by omega
    rcases hy with rfl | rfl | rfl
    · go_wp2
      go_meet
      case rel => exact ⟨2, by omega, rfl, HBA.out⟩
    · go_wp2
      go_meet
      case rel => exact ⟨4, by omega, rfl, HBA.out⟩
    · go_wp2
      go_meet
      case rel => exact ⟨8, by omega, rfl, HBA.out⟩
  case rest =>
  obtain ⟨n, hn, rfl, hb1⟩ := hcut
  have HB1 := Lib.hid hb1
  have hs1 := hb1.size
  clear hb1 HBA
  have hn2 : 2 ≤ n := by omega
  have hn8 : n ≤ 8 := by omega
  have hnn : IntKind.i64.wrap ((n : Int) * (n : Int)) = ((n * n : Nat) : Int) := by rcases hn with rfl | rfl | rfl <;> rfl
  obtain ⟨i1, hij, hr0, hr1, hr2⟩ := info_parts infoF32
  have hnN : n * n ≤ 64 := Nat.mul_le_mul hn8 hn8
  go_upto_block 0 with (first | (at_make; go_must (refine wpList_make_full _ rfl _ _ 26 rfl w.heap.size 27 i1 _ 1 Try.underlying26 hij hr0 hr1 _ _ _ _ (n * n) rfl rfl rfl rfl (by rw [hr2]; omega) (by unfold maxLen; omega) (by first | omega | simp) ?_; intro w1 hown1 hg1)))
  have HO1 : Hid (w1.ownsRow w.heap.size 27 1 (.slice (some ⟨wc.heap.size, 0, none⟩) (n * n) (n * n)) (n * n) ((List.replicate (n * n) 0).map (Value.float .f32))) := by
    have := hown1
    rw [made_const _ (.float .f32 0) (by decide) (by intro i hi; match i, hi with | 0, _ => rfl), Nat.mul_one] at this
    rw [List.map_replicate]
    exact this
  have HB2 := Lib.hid (below_made HB1.out hs1 hg1)
  clear hown1 hg1 HB1
  generalize wc.heap.size = g0 at *
  clear wc hnn i1 hij hr0 hr1 hr2
  go_cut [] from 8 to 92 (fun wr => ∃ W M, Sixt n M W ∧ wr.ownsRow w.heap.size 27 1 (.slice (some ⟨g0, 0, none⟩) (n * n) (n * n)) (n * n) (W.map (Value.float .f32)) ∧ Below w.heap.size w wr)
  case first => as_aux_lemma =>
    go_wp2_with fail
    go_loopw [8] (fun vi wr => ∃ (i : Nat) (W : List Nat) (M : Nat → Nat → Nat), i ≤ n ∧ vi = .int .i64 i ∧ Hid (Fill n i 0 W M) ∧ wr.ownsRow w.heap.size 27 1 (.slice (some ⟨g0, 0, none⟩) (n * n) (n * n)) (n * n) (W.map (Value.float .f32)) ∧ Below w.heap.size w wr) (fun vi _ => n - (intOf vi).toNat)
    case atStart => exact ⟨0, _, _, by omega, rfl, Fill.start n, HO1.out, HB2.out⟩
    case round =>
      obtain ⟨i, W, M, hi, rfl, HF, ho, hb⟩ := hrel
      have HO := Lib.hid ho
      have HB := Lib.hid hb
      clear ho hb HO1 HB2
      by_cases hlt : i < n
      · go_wp2_with (fail)
        generalize hwo : wr = wo at *
        clear hwo
        go_loopw [9] (fun vk wr => ∃ (k : Nat) (W : List Nat) (M : Nat → Nat → Nat), k ≤ i ∧ vk = .int .i64 k ∧ Hid (Fill n i k W M) ∧ wr.ownsRow w.heap.size 27 1 (.slice (some ⟨g0, 0, none⟩) (n * n) (n * n)) (n * n) (W.map (Value.float .f32)) ∧ Below w.heap.size w wr) (fun vk _ => i - (intOf vk).toNat)
        case atStart => exact ⟨0, W, M, by omega, rfl, HF, HO.out, HB.out⟩
        case round =>
          clear HO HB HF
          obtain ⟨k, W, M, hk, rfl, HF, ho, hb⟩ := hrel
          have HO := Lib.hid ho
          have HB := Lib.hid hb
          clear ho hb
          by_cases hkl : k < i
          · have hp : i * n + k < n * n := by
              calc i * n + k < i * n + n := by omega
                _ = (i + 1) * n := by rw [Nat.add_mul, Nat.one_mul]
                _ ≤ n * n := Nat.mul_le_mul_right _ hlt
            have hq : k * n + i < n * n := by
              calc k * n + i < k * n + n := by omega
                _ = (k + 1) * n := by rw [Nat.add_mul, Nat.one_mul]
                _ ≤ n * n := Nat.mul_le_mul_right _ (by omega)
            have hin : i * n ≤ 64 := by omega
            have hkn : k * n ≤ 64 := by omega
            have hw1 : IntKind.i64.wrap (8 * (i : Int)) = 8 * (i : Int) := IntWalk.i64_in _ (by omega)
            have hw2 : IntKind.i64.wrap (8 * (i : Int) + (k : Int)) = 8 * (i : Int) + (k : Int) := IntWalk.i64_in _ (by omega)
            go_wp2_with (fail)
            refine (CA.out (8 * (i : Int) + (k : Int)) 17 _ HB.out (by omega) (by omega) (by omega) (by omega)).mono ?_
            rintro e w2 ⟨b, rfl, hb0, hb17, rfl⟩
            obtain ⟨b, rfl⟩ : ∃ q : Nat, b = q := ⟨b.toNat, by omega⟩
            have hb : b < 17 := by omega
            obtain ⟨f1, f2, _⟩ := w16_facts b hb
            have HFn := Lib.hid (HF.out.put hlt hkl hb)
            have hop1 : ∀ t W', (binOp .quo t (.float .f32 (floatOfInt .f32 (b : Int))) (.float .f32 1098907648)).run Try.prog W' = .ok (.float .f32 (w16 b)) W' := fun t W' => run_float_arith W' .quo t .f32 _ _ _ f1
            have hop2 : ∀ t W', (binOp .sub t (.float .f32 1065353216) (.float .f32 (w16 b))).run Try.prog W' = .ok (.float .f32 (w16 (16 - b))) W' := fun t W' => run_float_arith W' .sub t .f32 _ _ _ f2
            have ho := HO.out
            have hl := HF.out.len
            have k1 := ho.cellAt (i * n + k) (by omega)
            rw [mapF_get _ _ (by omega)] at k1
            have ff := fun j => ho.frozenAt j
            have hst := st_f32 Try.prog
            go_upto_region 14 with (simp only [hop1])
            have h1 := ho.stored (i * n + k) (.float .f32 (w16 b))
            rw [mapF_set] at h1
            have HO2 := Lib.hid h1.1
            have HB2 := Lib.hid (below_grown (v := .slice (some ⟨g0, 0, none⟩) (n * n) (n * n)) HB.out HB.out.size h1.2 ho)
            clear h1 ho k1 ff HO HB
            generalize wr.setCell ⟨g0, i * n + k, none⟩ (.float .f32 (w16 b)) = w3 at *
            have ho := HO2.out
            have k1 := ho.cellAt (k * n + i) (by omega)
            rw [mapF_get _ _ (by rw [List.length_set]; omega)] at k1
            have ff := fun j => ho.frozenAt j
            go_wp2_with (simp only [hop2])
            have h1 := ho.stored (k * n + i) (.float .f32 (w16 (16 - b)))
            rw [mapF_set] at h1
            have HO3 := Lib.hid h1.1
            have HB3 := Lib.hid (below_grown (v := .slice (some ⟨g0, 0, none⟩) (n * n) (n * n)) HB2.out HB2.out.size h1.2 ho)
            clear h1 ho k1 ff HO2 HB2
            go_roundw
            case rel => exact ⟨k + 1, _, _, by omega, by go_num, HFn, HO3.out, HB3.out⟩
            case measure => simp [intOf]; omega
          · obtain rfl : k = i := by omega
            go_wp2
            go_roundw
            case rel => exact ⟨k + 1, W, M, by omega, by go_num, HF.out.row, HO.out, HB.out⟩
            case measure => simp [intOf]; omega
      · obtain rfl : i = n := by omega
        go_wp2
        go_meet
        case rel => exact ⟨W, M, HF.out.done, HO.out, HB.out⟩
  case rest =>
  clear hs1 HO1 HB2
  obtain ⟨W, M, hS, ho, hb⟩ := hcut
  obtain ⟨v, hR2, hNe⟩ := near_all hn hS
  have HW := Lib.hid (show Floats wc (some ⟨g0, 0, none⟩) (n * n) (n * n) W from Rd.own ho)
  have HB := Lib.hid hb
  have hs0 := hb.size
  have CI := Lib.hid (fun W' (hW : Below wc.heap.size wc W') => implKnockChances_any (some ⟨g0, 0, none⟩) (n * n) (n * n) W W' (Row.mono HW.out hW) (by omega))
  have CS := Lib.hid (fun W' (hW : Below wc.heap.size wc W') => specKnockChances_any (some ⟨g0, 0, none⟩) (n * n) (n * n) W W' (Row.mono HW.out hW) (by omega))
  rcases hRR : kRes W with ⟨cs, bb⟩
  rw [hRR] at CI CS hR2 hNe
  dsimp only at hR2 hNe CI CS
  subst hR2
  have HNe := Lib.hid hNe
  clear hRR hNe hS ho hb HW
  go_wp2_with (fail)
  refine (CI.out _ (Below.refl _ _)).mono ?_
  rintro e w1 ⟨ra, rn, rc, rfl, hb1, ho1⟩
  have hrn : n = rn := by have := ho1.1; rw [List.length_map, HNe.out.len] at this; omega
  subst hrn
  have HC1 := Lib.hid (show Floats w1 ra n rc cs from Rd.own ho1)
  have HB1 := Lib.hid hb1
  have hs1 := hb1.size
  clear hb1 ho1 CI
  go_wp2_with (fail)
  refine (CS.out _ HB1.out).mono ?_
  rintro e w2 ⟨sa, sn, scp, rfl, hb2, ho2⟩
  have hsn : n = sn := by have := ho2.1; rw [List.length_map, HNe.out.len] at this; omega
  subst hsn
  have HC2 := Lib.hid (show Floats w2 sa n scp cs from Rd.own ho2)
  have HC1' := Lib.hid (Row.mono HC1.out hb2)
  have HB2 := Lib.hid (HB.out.trans ((HB1.out.trans (hb2.mono hs1)).mono hs0))
  have hs2 := hb2.size
  clear hb2 ho2 CS HC1 HB1 HB
  have O0 : (w2.alloc (.cells #[] 4)).ownsRow w2.heap.size 4 1 (.slice (some ⟨w2.heap.size, 0, none⟩) 0 0) 0 ([].map Value.bool) := World.ownsRow_made (e := 4) (size := 1) (base := w2.heap.size) w2 #[] 0 (by simp) (Nat.zero_le _) (by simp)
  have HO0 := Lib.hid O0
  clear O0
  obtain ⟨i0, hii, hq0, hq1, hq2⟩ := info_parts infoB
  obtain ⟨m, hm1, hm2⟩ : ∃ m : Nat, m < n ∧ n ≤ m + 1 := ⟨n - 1, by omega, by omega⟩
  have HB3 := Lib.hid ((Below.refl w2.heap.size w2).alloc (Nat.le_refl _) (.cells #[] 4))
  go_upto_block 4 with fail
  go_cut [15] from 16 to 117 (fun vb wr => ∃ (g c : Nat) (bs : List Bool), bs.length = m ∧ vb = .slice (some ⟨g, 0, none⟩) m c ∧ Row Value.bool wr (some ⟨g, 0, none⟩) m c bs ∧ Below w2.heap.size w2 wr)
  case first => as_aux_lemma =>
    clear CG CA HC1' HC2 HNe
    go_wp2_with fail
    go_loopw [15, 16] (fun vb vi wr => ∃ (i g c : Nat) (bs : List Bool), i ≤ m ∧ vi = .int .i64 i ∧ bs.length = i ∧ vb = .slice (some ⟨g, 0, none⟩) i c ∧ wr.ownsRow w2.heap.size 4 1 (.slice (some ⟨g, 0, none⟩) i c) i (bs.map Value.bool) ∧ Below w2.heap.size w2 wr) (fun _ vi _ => m - (intOf vi).toNat)
    case atStart => exact ⟨0, w2.heap.size, 0, [], by omega, rfl, rfl, rfl, HO0.out, HB3.out⟩
    case round =>
      obtain ⟨i, g, c, bs, hi, rfl, hbl, rfl, ho, hb⟩ := hrel
      have HB := Lib.hid hb
      have HO := Lib.hid ho
      have hsz := hb.size
      by_cases hlt : i < m
      · have C2 := Lib.hid (CB.out (1 + i) 2 _ (HB2.out.trans (hb.mono (HB2.out.size))) (by omega) (by omega) (by omega) (by omega))
        have HL := Lib.hid hbl
        clear hb ho HO0 HB3
        go_wp2_with (fail)
        refine C2.out.mono ?_
        rintro e w4 ⟨z, rfl, hz0, hz1, rfl⟩
        by_cases hz : z = 0
        · subst hz
          go_wp2_with (first | (at_builtin; go_must (refine wpList_append_lies _ rfl _ _ 30 rfl w2.heap.size 4 i0 _ 1 1 Try.underlying30 hii hq0 hq1 hq2 rfl (by omega) (.slice (some ⟨g, 0, none⟩) i c) i (bs.map Value.bool) rfl (HO.out.alloc _) ⟨_, 0, none⟩ 1 1 [.bool true] rfl rfl (new1 _ _ _) (one1 rfl) (by omega) (by unfold maxLen; omega) (by omega) (by simp; omega) _ rfl ?_); intro gg cap w5 hown1 hg1 hat hlt5; have HBn := Lib.hid (below_app HB.out hsz hg1 HO.out); have HOn : Hid (w5.ownsRow w2.heap.size 4 1 (.slice (some ⟨gg, 0, none⟩) (i + 1) cap) (i + 1) ((bs ++ [true]).map Value.bool)) := (by show w5.ownsRow _ _ _ _ _ _; rw [List.map_append]; exact hown1); clear hown1 hg1 hat))
          go_roundw
          case rel => exact ⟨i + 1, gg, cap, bs ++ [true], by omega, by go_num, by rw [List.length_append, HL.out]; rfl, rfl, HOn.out, HBn.out⟩
          case measure => simp [intOf]; omega
        · have hzb : (z == 0) = false := by simpa using hz
          go_wp2_with (first | (at_builtin; go_must (refine wpList_append_lies _ rfl _ _ 30 rfl w2.heap.size 4 i0 _ 1 1 Try.underlying30 hii hq0 hq1 hq2 rfl (by omega) (.slice (some ⟨g, 0, none⟩) i c) i (bs.map Value.bool) rfl (HO.out.alloc _) ⟨_, 0, none⟩ 1 1 [.bool false] rfl rfl (new1 _ _ _) (one1 rfl) (by omega) (by unfold maxLen; omega) (by omega) (by simp; omega) _ rfl ?_); intro gg cap w5 hown1 hg1 hat hlt5; have HBn := Lib.hid (below_app HB.out hsz hg1 HO.out); have HOn : Hid (w5.ownsRow w2.heap.size 4 1 (.slice (some ⟨gg, 0, none⟩) (i + 1) cap) (i + 1) ((bs ++ [false]).map Value.bool)) := (by show w5.ownsRow _ _ _ _ _ _; rw [List.map_append]; exact hown1); clear hown1 hg1 hat))
          go_roundw
          case rel => exact ⟨i + 1, gg, cap, bs ++ [false], by omega, by go_num, by rw [List.length_append, HL.out]; rfl, rfl, HOn.out, HBn.out⟩
          case measure => simp [intOf]; omega
      · obtain rfl : i = m := by omega
        have hI := Lib.hid (show Row Value.bool _ (some ⟨g, 0, none⟩) i c bs from Rd.own ho)
        clear ho hb
        go_wp2
        go_meet
        case rel => exact ⟨g, c, bs, hbl, rfl, hI.out, HB.out⟩
  case rest =>
  obtain ⟨gb, cb, bs, hbl, rfl, hI, hb3⟩ := hcut
  have HI := Lib.hid hI
  have hs3 := hb3.size
  have HC1 := Lib.hid (Row.mono HC1'.out hb3)
  have HC2' := Lib.hid (Row.mono HC2.out hb3)
  have HB3 := Lib.hid (HB2.out.trans (hb3.mono HB2.out.size))
  have CK1 := Lib.hid (fun W' (hW : Below wc.heap.size wc W') => implKnockRounds_any (some ⟨gb, 0, none⟩) m cb bs n W' (Row.mono HI.out hW))
  have CK2 := Lib.hid (fun W' (hW : Below wc.heap.size wc W') => specKnockRounds_any (some ⟨gb, 0, none⟩) m cb bs n W' (Row.mono HI.out hW))
  obtain ⟨hk1, hk2⟩ := knockRes_ok (ws := bs) hn (by omega)
  rcases hKK : knockRes bs n with ⟨ks, kb⟩
  rw [hKK] at CK1 CK2 hk1 hk2
  dsimp only at hk1 hk2
  subst hk1
  have HKs := Lib.hid hk2
  clear HO0 hKK hI hb3 HI HC1' HC2 HB2 hbl hk2 hii hq0 hq1 hq2
  go_wp2_with (fail)
  refine (CK1.out _ (Below.refl _ _)).mono ?_
  rintro e w3 ⟨ka, kn, kc, rfl, hb4, ho4⟩
  have hkn : kn = m := by have := ho4.1; rw [intCells_len] at this; have h2 := HKs.out; dsimp only at this h2; omega
  subst hkn
  have HK1 := Lib.hid (show Ints w3 ka kn kc ks from Rd.own ho4)
  have HB4 := Lib.hid hb4
  have hs4 := hb4.size
  have HD1 := Lib.hid (Row.mono HC1.out hb4)
  have HD2 := Lib.hid (Row.mono HC2'.out hb4)
  clear hb4 ho4 CK1 HC1 HC2'
  go_wp2_with (fail)
  refine (CK2.out _ HB4.out).mono ?_
  rintro e w4 ⟨la, ln, lc, rfl, hb5, ho5⟩
  have hln : ln = kn := by have := ho5.1; rw [intCells_len] at this; have h2 := HKs.out; dsimp only at this h2; omega
  subst hln
  have HK2 := Lib.hid (show Ints w4 la ln lc ks from Rd.own ho5)
  have HK1' := Lib.hid (Ints.mono HK1.out hb5)
  have HC1 := Lib.hid (Row.mono HD1.out hb5)
  have HC2 := Lib.hid (Row.mono HD2.out hb5)
  have HB5 := Lib.hid (HB3.out.trans ((HB4.out.trans (hb5.mono hs4)).mono HB3.out.size))
  clear hb5 ho5 CK2 HD1 HD2 HK1 HB4 HB3 HKs
  have CL := Lib.hid (fun W' (hW : Quiet w4 W') => b10List_same ra n rc cs sa n scp W' (Row.mono HC1.out hW.b) (Row.mono HC2.out hW.b) (fun i hi => ⟨_, HNe.out.dy i hi⟩))
  have CT := Lib.hid (fun W' (hW : Quiet w4 W') => b10Ints_same ka ln kc ks la ln lc W' (Ints.mono HK1'.out hW.b) (Ints.mono HK2.out hW.b))
  have hwm : IntKind.i64.wrap ((n : Int) - 1) = (ln : Int) := by rw [IntWalk.i64_in _ (by omega)]; omega
  go_wp2_with (fail)
  refine (CL.out _ (Quiet.refl _)).mono ?_
  rintro e w5 ⟨rfl, hq5⟩
  go_wp2_with (fail)
  refine (CT.out _ hq5).mono ?_
  rintro e w6 ⟨rfl, hq6⟩
  have HC6 := Lib.hid (Row.mono HC1.out (hq5.trans hq6).b)
  have HB6 := Lib.hid (HB5.out.trans ((hq5.trans hq6).b.mono HB5.out.size))
  clear hq5 hq6 CL CT HC1 HC2 HK1' HK2 HB5 hwm hs4 hs3 hs2 hs1 hs0
  have HSm := Lib.hid (fun k (hk : k ≤ n) => sumN_lt HNe.out k hk)
  obtain ⟨hcN, hmN, hatN⟩ := HC6.out.at 0
  have HAt := Lib.hid hatN
  clear hatN HC6
  go_upto_block 6 with fail
  go_cut [21] from 22 to 181 (fun vs wr => ∃ y, vs = .float .f64 y ∧ Dd 28 (sumN v n) y ∧ wr = w6)
  case first => as_aux_lemma =>
    clear CA CB CG HB6
    go_wp2_with fail
    go_loopw [21, 171] (fun vs vi wr => ∃ (k y : Nat), k ≤ n ∧ vi = .int .i64 k ∧ vs = .float .f64 y ∧ Hid (Dd 28 (sumN v k) y) ∧ wr = w6) (fun _ vi _ => n - (intOf vi).toNat)
    case atStart => exact ⟨0, 0, by omega, rfl, rfl, sumN_dd0 v, rfl⟩
    case round =>
      obtain ⟨k, y, hk, rfl, rfl, HD, rfl⟩ := hrel
      by_cases hlt : k < n
      · obtain ⟨b, off, rfl, hlb, hx⟩ := HAt.out k hlt
        have x0 := hx k hlt
        have hdy := HNe.out.dy k hlt
        have hlv := HNe.out.lt k hlt
        have hsv := HSm.out k hk
        have HS1 : Hid (sumN v (k + 1) = sumN v k + v k) := rfl
        obtain ⟨z, hz1, hz2⟩ := hdy.wide (by omega) (by omega)
        obtain ⟨y2, hy1, hy2⟩ := Dd.add HD.out hz2 (by omega) (by omega)
        have HY : Hid (Dd 28 (sumN v (k + 1)) y2) := hy2
        have hop1 : ∀ W', (convert 27 35 (.float .f32 (cs.getD k 0))).run Try.prog W' = .ok (.float .f64 z) W' := fun W' => run_convert_float_float W' _ _ .f32 .f64 _ _ rfl Try.underlying35 hz1
        have hop2 : ∀ t W', (binOp .add t (.float .f64 y) (.float .f64 z)).run Try.prog W' = .ok (.float .f64 y2) W' := fun t W' => run_float_arith W' .add t .f64 _ _ _ hy1
        clear hx hdy hz1 hz2 hy1 hy2 hsv hlv HAt HNe HSm
        generalize cs.getD k 0 = x at *
        go_wp2_with (first | simp only [hop1] | simp only [hop2])
        go_roundw
        case rel => exact ⟨k + 1, y2, by omega, by go_num, rfl, HY, by first | rfl | trivial⟩
        case measure => simp [intOf]; omega
      · obtain rfl : k = n := by omega
        go_wp2
        go_meet
        case rel => exact ⟨y, rfl, HD.out, rfl⟩
  case rest =>
  obtain ⟨y, rfl, hy, rfl⟩ := hcut
  have hlo := HNe.out.lo
  have hhi := HNe.out.hi
  obtain ⟨D, hD⟩ : ∃ D, sumN v n = D := ⟨_, rfl⟩
  rw [hD] at hy hlo hhi
  have CP := Lib.hid (b10Gap_dd hy Dd.one28 (by omega) (by omega) (by omega) wc)
  clear HAt HNe HSm hy hD
  go_wp2_with (fail)
  refine CP.out.mono ?_
  rintro e w7 ⟨r, rfl, hr, rfl⟩
  have hord := gap_small hr (by omega)
  have hfm : FloatKind.f64.format = Ieee.double := rfl
  clear hr CP
  have HBx := Lib.hid HB6.out
  have hsx := HB6.out.size
  clear HB6 hlo hhi
  go_wp2_with (fail)
  refine (CB.out 9 3 _ HBx.out (by omega) (by omega) (by omega) (by omega)).mono ?_
  rintro e w8 ⟨q, rfl, hq0, hq3, rfl⟩
  obtain ⟨p, hp1, hp2, hp3⟩ : ∃ p : Nat, IntKind.i64.wrap (2 + IntKind.i64.wrap (2 * q)) = (p : Int) ∧ (2 ≤ p ∧ p ≤ 6) ∧ p % 2 = 0 := ⟨(2 + 2 * q).toNat, by rw [IntWalk.i64_in (2 * q) (by omega), IntWalk.i64_in _ (by omega)]; omega, by omega, by omega⟩
  have hw1 : IntKind.i64.wrap (2 * q) = 2 * q := IntWalk.i64_in _ (by omega)
  have hw2 : IntKind.i64.wrap (2 + 2 * q) = (p : Int) := by rw [← hp1, hw1]
  have hp4 : 2 ≤ p := hp2.1
  have hp6 : p ≤ 6 := hp2.2
  clear hp1 hp2
  go_wp2_with (fail)
  refine (CG.out p _ HBx.out (by omega) (by omega)).mono ?_
  rintro e w9 ⟨gg, k, cg, gs, rfl, hk8, hb9, ho9, hall⟩
  have hgl : gs.length = k := by have := ho9.1; rw [tripCells_len] at this; omega
  have HG9 := Lib.hid (show Trips w9 (some ⟨gg, 0, none⟩) k cg gs from Rd.own ho9)
  have hok := okGames_of (p := p) (gs := gs) (by omega) (by omega) (by omega) hall
  have HB9 := Lib.hid (HBx.out.trans (hb9.mono hsx))
  have hs9 := HB9.out.size
  have C1 := Lib.hid (fun W' (hW : Below w9.heap.size w9 W') => specScoresOf_any p (some ⟨gg, 0, none⟩) k cg gs W' (Trips.mono HG9.out hW))
  have C2 := Lib.hid (fun W' (hW : Below w9.heap.size w9 W') => specMetOf_any p (some ⟨gg, 0, none⟩) k cg gs W' (Trips.mono HG9.out hW))
  have C3 := Lib.hid (fun W' (hW : Below w9.heap.size w9 W') => implBuchholzOf_any p (some ⟨gg, 0, none⟩) k cg gs W' (Trips.mono HG9.out hW))
  have C4 := Lib.hid (fun W' (hW : Below w9.heap.size w9 W') => specBuchholzOf_any p (some ⟨gg, 0, none⟩) k cg gs W' (Trips.mono HG9.out hW))
  rw [scoresRes_ok hok] at C1
  rw [metRes_ok hok] at C2
  rw [buchRes_ok hok] at C3 C4
  have hu1 := scores_upb p gs (by omega) hall
  have hu2 := buch_upb p _ gs hu1 (by omega)
  have hl1 := tally_len scorePs p gs
  have hl2 := tally_len (metPs p) (p * p) gs
  have hl3 := tally_len (buchPs (tally scorePs p gs)) p gs
  generalize tally (buchPs (tally scorePs p gs)) p gs = ot at *
  generalize tally scorePs p gs = sc at *
  generalize tally (metPs p) (p * p) gs = mt at *
  have HU1 := Lib.hid hu1
  have HU2 := Lib.hid hu2
  have HL1 := Lib.hid hl1
  have HL2 := Lib.hid hl2
  have HL3 := Lib.hid hl3
  clear hu1 hu2 hl1 hl2 hl3 hok hall hgl ho9 hb9 HG9 HBx CG CB CA hsx
  go_wp2_with (fail)
  refine (C1.out _ (Below.refl _ _)).mono ?_
  rintro e w10 ⟨sa1, sn1, sc1, rfl, hb10, ho10⟩
  have hsn : sn1 = p := by have := ho10.1; rw [intCells_len] at this; have h2 := HL1.out; dsimp only at this h2; omega
  subst hsn
  have HS10 := Lib.hid (show Ints w10 sa1 sn1 sc1 sc from Rd.own ho10)
  have HQ10 := Lib.hid hb10
  clear hb10 ho10 C1
  go_wp2_with (fail)
  refine (C2.out _ HQ10.out).mono ?_
  rintro e w11 ⟨ma, mn, mc, rfl, hb11, ho11⟩
  have HMn : Hid (mn = sn1 * sn1) := by show _ = _; have := ho11.1; rw [intCells_len] at this; have h2 := HL2.out; dsimp only at this h2; omega
  have HM11 := Lib.hid (show Ints w11 ma mn mc mt from Rd.own ho11)
  have HS11 := Lib.hid (Ints.mono HS10.out hb11)
  have HQ11 := Lib.hid (HQ10.out.trans (hb11.mono HQ10.out.size))
  clear hb11 ho11 C2 HS10 HQ10
  have C5 := Lib.hid (fun W' (hW : Below w11.heap.size w11 W') => specSwissPairs_any sa1 sn1 sc1 sc ma mn mc mt W' (Ints.mono HS11.out hW) (Ints.mono HM11.out hW))
  have C6 := Lib.hid (fun W' (hW : Below w11.heap.size w11 W') => implSwissPairs_any sa1 sn1 sc1 sc ma mn mc mt W' (Ints.mono HS11.out hW) (Ints.mono HM11.out hW))
  have HPr := Lib.hid (swRes_prs (sc := sc) (met := mt))
  rcases hRR : swRes sc mt with ⟨ps, bb⟩
  rw [hRR] at C5 C6 HPr
  dsimp only at C5 C6 HPr
  clear hRR
  go_wp2_with (fail)
  refine (C5.out _ (Below.refl _ _)).mono ?_
  rintro e w12 ⟨ka2, kn2, kc2, rfl, hb12, _⟩
  have HQ12 := Lib.hid hb12
  clear hb12 C5
  go_wp2_with (fail)
  refine (C6.out _ HQ12.out).mono ?_
  rintro e w13 ⟨pa, pn, pc, rfl, hb13, ho13⟩
  have HP13 := Lib.hid (show Ints w13 pa pn pc ps from Rd.own ho13)
  have HPn : Hid (pn = ps.length) := by show _ = _; have := ho13.1; rw [intCells_len] at this; dsimp only at this; omega
  have HT13 := Lib.hid (HQ12.out.trans (hb13.mono HQ12.out.size))
  have HQ13 := Lib.hid (HQ11.out.trans (HT13.out.mono HQ11.out.size))
  have HS13 := Lib.hid (Ints.mono HS11.out HT13.out)
  have HM13 := Lib.hid (Ints.mono HM11.out HT13.out)
  clear hb13 ho13 C6 HQ12 HT13 HS11 HM11 HQ11
  go_wp2_with (fail)
  refine (C3.out _ HQ13.out).mono ?_
  rintro e w14 ⟨oa, on, oc, rfl, hb14, ho14⟩
  have hon : on = sn1 := by have := ho14.1; rw [intCells_len] at this; have h2 := HL3.out; dsimp only at this h2; omega
  subst hon
  have HO14 := Lib.hid (show Ints w14 oa on oc ot from Rd.own ho14)
  have HU14 := Lib.hid hb14
  have HQ14 := Lib.hid (HQ13.out.trans (hb14.mono HQ13.out.size))
  clear hb14 ho14 C3
  go_wp2_with (fail)
  refine (C4.out _ HQ14.out).mono ?_
  rintro e w15 ⟨ta, tn, tc, rfl, hb15, ho15⟩
  have htn : tn = on := by have := ho15.1; rw [intCells_len] at this; have h2 := HL3.out; dsimp only at this h2; omega
  subst htn
  have HR15 := Lib.hid (show Ints w15 ta tn tc ot from Rd.own ho15)
  have HO15 := Lib.hid (Ints.mono HO14.out hb15)
  have HU15 := Lib.hid (HU14.out.trans (hb15.mono HU14.out.size))
  have HS15 := Lib.hid (Ints.mono HS13.out HU15.out)
  have HM15 := Lib.hid (Ints.mono HM13.out HU15.out)
  have HP15 := Lib.hid (Ints.mono HP13.out HU15.out)
  have HB15 := Lib.hid (HB9.out.trans ((HQ14.out.trans (hb15.mono HQ14.out.size)).mono hs9))
  clear hb15 ho15 C4 HO14 HU14 HQ14 HU15 HS13 HM13 HP13 HQ13 HB9 hs9
  have CT := Lib.hid (b10Ints_same oa tn oc ot ta tn tc w15 HO15.out HR15.out)
  clear HR15
  go_upto_region 42 with fail
  go_cut [252] from 228 to 252 (fun v wr => v = .bool false ∧ Quiet w15 wr)
  case first => as_aux_lemma =>
    cases bb
    all_goals
      go_wp2_with (fail)
      refine CT.out.mono ?_
      rintro e w16 ⟨rfl, hq⟩
      go_wp2
      go_meet
      case rel => exact ⟨rfl, hq⟩
  case rest =>
  obtain ⟨rfl, hq⟩ := hcut
  have HQ16 := Lib.hid hq
  have HO16 := Lib.hid (Ints.mono HO15.out hq.b)
  have HS16 := Lib.hid (Ints.mono HS15.out hq.b)
  have HM16 := Lib.hid (Ints.mono HM15.out hq.b)
  have HP16 := Lib.hid (Ints.mono HP15.out hq.b)
  have HB16 := Lib.hid (HB15.out.trans (hq.b.mono HB15.out.size))
  clear hq CT HO15 HS15 HM15 HP15 HB15 HQ16
  go_upto_if 253 with fail
  go_cut [] from 37 to 296 (fun wr => Quiet wc wr)
  case first => as_aux_lemma =>
    clear HU1 HU2
    cases bb
    case false =>
      go_wp2
      go_meet
      case rel => exact Quiet.refl _
    case true =>
      obtain ⟨hpr, hpl⟩ := HPr.out rfl
      have hscl := HL1.out
      have hpn : pn = tn := by rw [HPn.out, hpl, hscl]
      subst hpn
      have HPs : Hid (Prs sc mt pn ps) := by show Prs _ _ _ _; rw [← hscl]; exact hpr
      have HPl : Hid (ps.length = pn) := HPn.out.symm
      clear hpr hpl hscl HPr HPn
      obtain ⟨hpc1, hpc2, hpat⟩ := HP16.out.at
      obtain ⟨hmc1, hmc2, hmat⟩ := HM16.out.at
      obtain ⟨hsc1, hsc2, hsat⟩ := HS16.out.at
      have hmn := HMn.out
      have HPa := Lib.hid hpat
      have HMa := Lib.hid hmat
      have HSa := Lib.hid hsat
      have hmn2 : mn ≤ 64 := by rw [hmn]; exact Nat.mul_le_mul (by omega : pn ≤ 8) (by omega : pn ≤ 8)
      clear hpat hmat hsat HP16 HM16 HS16 HO16 hmn
      go_upto_block 8 with fail
      go_wp2_with fail
      go_loopw [37] (fun vi wr => ∃ i : Nat, i % 2 = 0 ∧ i ≤ pn ∧ vi = .int .i64 i ∧ Quiet wc wr) (fun vi _ => pn - (intOf vi).toNat)
      case atStart => exact ⟨0, rfl, by omega, rfl, Quiet.refl _⟩
      case round =>
        obtain ⟨i, hie, hi, rfl, hq⟩ := hrel
        have HQ := Lib.hid hq
        clear hq
        by_cases hlt : i < pn
        · have hps := HPs.out
          have hpl := HPl.out
          have hlt1 : i + 1 < pn := by omega
          have hr1 := hps.rng i (by omega)
          have hr2 := hps.rng (i + 1) (by omega)
          have hfr := hps.free2 hie (by omega)
          have hde := hps.desc2 hie (by omega)
          obtain ⟨b1, o1, rfl, hb1, hx1⟩ := HPa.out i hlt
          have z1 := cell_on (HQ.out.below _) (hx1 i hlt)
          have z2 := cell_on (HQ.out.below _) (hx1 (i + 1) hlt1)
          obtain ⟨A, hA⟩ : ∃ A : Nat, ps.getD i 0 = (A : Int) := ⟨(ps.getD i 0).toNat, by omega⟩
          obtain ⟨B, hB⟩ : ∃ B : Nat, ps.getD (i + 1) 0 = (B : Int) := ⟨(ps.getD (i + 1) 0).toNat, by omega⟩
          rw [hA] at z1 hr1 hfr hde
          rw [hB] at z2 hr2 hfr hde
          have hAB : A * pn + B < mn := by
            rw [HMn.out]
            exact place_lt (by omega) (by omega)
          obtain ⟨b2, o2, rfl, hb2, hx2⟩ := HMa.out (A * pn + B) hAB
          have z3 := cell_on (HQ.out.below _) (hx2 (A * pn + B) hAB)
          have hft : ((A : Int) * (pn : Int) + (B : Int)).toNat = A * pn + B := by
            rw [show ((A : Int) * (pn : Int) + (B : Int)) = ((A * pn + B : Nat) : Int) by simp]
            rfl
          rw [hft] at hfr
          rw [hfr] at z3
          rw [Int.toNat_natCast, Int.toNat_natCast] at hde
          obtain ⟨b3, o3, rfl, hb3, hx3⟩ := HSa.out A (by omega)
          have z4 := cell_on (HQ.out.below _) (hx3 A (by omega))
          have z5 := cell_on (HQ.out.below _) (hx3 B (by omega))
          have hd : decide (sc.getD A 0 < sc.getD B 0) = false := decide_eq_false (by omega)
          generalize sc.getD A 0 = sA at *
          generalize sc.getD B 0 = sB at *
          have hApn : A * pn ≤ 64 := by omega
          have hA2 : (A : Int) < (pn : Int) := by omega
          have hB2 : (B : Int) < (pn : Int) := by omega
          have hi2 : (i : Int) < (pn : Int) := by omega
          have hw1 : IntKind.i64.wrap ((A : Int) * (pn : Int)) = ((A * pn : Nat) : Int) := by rw [IntWalk.i64_in _ (by rw [← Int.natCast_mul]; omega)]; simp
          have hw2 : IntKind.i64.wrap (((A * pn : Nat) : Int) + (B : Int)) = ((A * pn + B : Nat) : Int) := by rw [IntWalk.i64_in _ (by omega)]; omega
          have hw3 : IntKind.i64.wrap ((i : Int) + 1) = ((i + 1 : Nat) : Int) := by rw [IntWalk.i64_in _ (by omega)]; omega
          have hAB2 : ((A * pn + B : Nat) : Int) < (mn : Int) := by omega
          have hi3 : ((i + 1 : Nat) : Int) < (pn : Int) := by omega
          have hw4 : IntKind.i64.wrap ((i : Int) + 2) = ((i + 2 : Nat) : Int) := by rw [IntWalk.i64_in _ (by omega)]; omega
          clear hx1 hx2 hx3 hps hpl hr1 hr2 hfr hde hft hA hB
          generalize A * pn + B = AB at *
          generalize A * pn = AP at *
          have hle2 : i + 2 ≤ pn := by omega
          generalize hi1 : i + 1 = i1 at *
          have HI1 := Lib.hid hi1
          clear hi1
          go_wp2
          go_quiet (fail)
          go_wp2
          go_roundw
          case rel => exact ⟨i + 2, by omega, hle2, by first | rfl | go_num, HQ.out.drewN _⟩
          case measure => simp [intOf]; omega
        · have hi2 : i = pn := by omega
          go_wp2
          go_meet
          case rel => exact HQ.out
  case rest =>
  have HO17 := Lib.hid (Ints.mono HO16.out hcut.b)
  have HS17 := Lib.hid (Ints.mono HS16.out hcut.b)
  have HB17 := Lib.hid (HB16.out.trans (hcut.b.mono HB16.out.size))
  clear hcut HO16 HS16 HM16 HP16 HB16 HPr HPn HMn HL2
  have hs17 := HB17.out.size
  have C7 := Lib.hid (fun W' (hW : Below wc.heap.size wc W') => implTieOrder_any sa1 tn sc1 sc oa tn oc ot W' (Ints.mono HS17.out hW) (Ints.mono HO17.out hW))
  have C8 := Lib.hid (fun W' (hW : Below wc.heap.size wc W') => specTieOrder_any sa1 tn sc1 sc oa tn oc ot W' (Ints.mono HS17.out hW) (Ints.mono HO17.out hW))
  have htr := tieRes_tour (sc := sc) (ot := ot) (by rw [HL1.out]; omega) (by rw [HL1.out]; omega) HU1.out (by rw [HL3.out, HL1.out]) HU2.out
  rw [htr] at C7 C8
  have HTn := Lib.hid (fun i (hi : i + 1 < tn) => tie_next sc ot (i := i) (by rw [HL1.out]; exact hi))
  have HTr := Lib.hid (fun i (hi : i < tn) => tie_rng sc ot (i := i) (by rw [HL1.out]; exact hi))
  have HTl : Hid ((tieList sc ot).length = tn) := by show _ = _; rw [tieList_len, HL1.out]
  generalize tieList sc ot = ts at *
  clear htr HU1 HU2
  go_wp2_with (fail)
  refine (C7.out _ (Below.refl _ _)).mono ?_
  rintro e w18 ⟨va, vn, vc, rfl, hb18, ho18⟩
  have hvn : vn = tn := by have := ho18.1; rw [intCells_len] at this; have h2 := HTl.out; dsimp only at this h2; omega
  subst hvn
  have HV18 := Lib.hid (show Ints w18 va vn vc ts from Rd.own ho18)
  have HQ18 := Lib.hid hb18
  clear hb18 ho18 C7
  go_wp2_with (fail)
  refine (C8.out _ HQ18.out).mono ?_
  rintro e w19 ⟨ua, un, uc, rfl, hb19, ho19⟩
  have hun : un = vn := by have := ho19.1; rw [intCells_len] at this; have h2 := HTl.out; dsimp only at this h2; omega
  subst hun
  have HU19 := Lib.hid (show Ints w19 ua un uc ts from Rd.own ho19)
  have HV19 := Lib.hid (Ints.mono HV18.out hb19)
  have HQ19 := Lib.hid (HQ18.out.trans (hb19.mono HQ18.out.size))
  have HO19 := Lib.hid (Ints.mono HO17.out HQ19.out)
  have HS19 := Lib.hid (Ints.mono HS17.out HQ19.out)
  have HB19 := Lib.hid (HB17.out.trans (HQ19.out.mono hs17))
  clear hb19 ho19 C8 HV18 HQ18 HQ19 HO17 HS17 HB17 hs17
  have CT := Lib.hid (b10Ints_same va un vc ts ua un uc w19 HV19.out HU19.out)
  go_wp2_with (fail)
  refine CT.out.mono ?_
  rintro e w20 ⟨rfl, hq⟩
  have HV20 := Lib.hid (Ints.mono HV19.out hq.b)
  have HO20 := Lib.hid (Ints.mono HO19.out hq.b)
  have HS20 := Lib.hid (Ints.mono HS19.out hq.b)
  have HB20 := Lib.hid (HB19.out.trans (hq.b.mono HB19.out.size))
  clear hq CT HV19 HU19 HO19 HS19 HB19
  obtain ⟨hvc1, hvc2, hvat⟩ := HV20.out.at
  obtain ⟨hoc1, hoc2, hoat⟩ := HO20.out.at
  obtain ⟨hsc1, hsc2, hsat⟩ := HS20.out.at
  have HVa := Lib.hid hvat
  have HOa := Lib.hid hoat
  have HSa := Lib.hid hsat
  clear hvat hoat hsat HV20 HO20 HS20
  go_upto_block 10 with fail
  go_cut [] from 42 to 366 (fun wr => Quiet w20 wr)
  case first => as_aux_lemma =>
    clear HB20
    go_wp2_with fail
    go_loopw [42] (fun vi wr => ∃ i : Nat, i < un ∧ vi = .int .i64 ((i + 1 : Nat) : Int) ∧ Quiet w20 wr) (fun vi _ => un + 1 - (intOf vi).toNat)
    case atStart => exact ⟨0, by omega, rfl, Quiet.refl _⟩
    case round =>
      obtain ⟨i, hi, rfl, hq⟩ := hrel
      have HQ := Lib.hid hq
      clear hq
      by_cases hlt : i + 1 < un
      · obtain ⟨hr1, hn1, hn2⟩ := HTn.out i hlt
        have hr2 := HTr.out (i + 1) hlt
        obtain ⟨b1, o1, rfl, hb1, hx1⟩ := HVa.out i hi
        have z1 := cell_on (HQ.out.below _) (hx1 i hi)
        have z2 := cell_on (HQ.out.below _) (hx1 (i + 1) hlt)
        obtain ⟨A, hA⟩ : ∃ A : Nat, ts.getD i 0 = (A : Int) := ⟨(ts.getD i 0).toNat, by omega⟩
        obtain ⟨B, hB⟩ : ∃ B : Nat, ts.getD (i + 1) 0 = (B : Int) := ⟨(ts.getD (i + 1) 0).toNat, by omega⟩
        have hl1 := HL1.out
        rw [hA] at z1 hr1 hn1 hn2
        rw [hB] at z2 hr2 hn1 hn2
        rw [Int.toNat_natCast, Int.toNat_natCast] at hn1 hn2
        obtain ⟨b2, o2, rfl, hb2, hx2⟩ := HSa.out A (by omega)
        have z3 := cell_on (HQ.out.below _) (hx2 A (by omega))
        have z4 := cell_on (HQ.out.below _) (hx2 B (by omega))
        obtain ⟨b3, o3, rfl, hb3, hx3⟩ := HOa.out A (by omega)
        have z5 := cell_on (HQ.out.below _) (hx3 A (by omega))
        have z6 := cell_on (HQ.out.below _) (hx3 B (by omega))
        have hA2 : (A : Int) < (un : Int) := by omega
        have hB2 : (B : Int) < (un : Int) := by omega
        have hw1 : IntKind.i64.wrap (((i + 1 : Nat) : Int) - 1) = (i : Int) := by rw [IntWalk.i64_in _ (by omega)]; omega
        have hw4 : IntKind.i64.wrap (((i + 1 : Nat) : Int) + 1) = ((i + 2 : Nat) : Int) := by rw [IntWalk.i64_in _ (by omega)]; omega
        have hd1 : decide (sc.getD A 0 < sc.getD B 0) = false := decide_eq_false (by omega)
        have hi2 : (i : Int) < (un : Int) := by omega
        have hi3 : ((i + 1 : Nat) : Int) < (un : Int) := by omega
        have hle2 : i + 1 < un := hlt
        generalize sc.getD A 0 = sA at *
        generalize sc.getD B 0 = sB at *
        generalize ot.getD A 0 = oA at *
        generalize ot.getD B 0 = oB at *
        clear hx1 hx2 hx3 hr1 hr2 hA hB
        generalize hi1 : i + 1 = i1 at *
        have HI1 := Lib.hid hi1
        clear hi1
        by_cases hse : sA = sB
        · have hd2 : (sA == sB) = true := by simpa using hse
          have hd3 : decide (oA < oB) = false := decide_eq_false (fun h => hn2 ⟨hse, h⟩)
          clear hn1 hn2 hse
          go_wp2
          go_quiet (fail)
          go_wp2
          go_roundw
          case rel => exact ⟨i + 1, by have := HI1.out; omega, by first | rfl | go_num, HQ.out.drewN _⟩
          case measure => have := HI1.out; simp [intOf]; omega
        · have hd2 : (sA == sB) = false := by simpa using hse
          clear hn1 hn2 hse
          go_wp2
          go_quiet (fail)
          go_wp2
          go_roundw
          case rel => exact ⟨i + 1, by have := HI1.out; omega, by first | rfl | go_num, HQ.out.drewN _⟩
          case measure => have := HI1.out; simp [intOf]; omega
      · have hi2 : i + 1 = un := by omega
        go_wp2
        go_meet
        case rel => exact HQ.out
  case rest =>
  have HBz := Lib.hid (HB20.out.trans (hcut.b.mono HB20.out.size))
  go_wp2
  go_ret
  exact ⟨rfl, HBz.out⟩

end Go.Proofs.Ythakjkhceeocfaa
