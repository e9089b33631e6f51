/- Tricks, impl: best. -/
import Derived.Test.YtgldfmkjnggedaaTrickE
namespace Go.Proofs.Ytgldfmkjnggedaa
open Go.RowKit
set_option linter.unusedVariables false

theorem zeroI64 (w : World) : (zeroValue 2).run Try.prog w = .ok (.int .i64 0) w := Try.zeroValue2 w

set_option maxHeartbeats 1600000 in
set_option maxRecDepth 100000 in
theorem best_any (t : Int) (M : Nat) : ∀ f : Nat, f ≤ 6 → BestOk t M f := by
  intro f
  induction f with
  | zero =>
    intro hf k a c xs a' c' ys w h h' hv hv' hx hy ht hk
    obtain ⟨hc, hb, _⟩ := h.at
    obtain ⟨hc', hb', _⟩ := h'.at
    have HT := Lib.hid ht
    clear h h' ht
    go_enter Try.func21, Try.ntmps21
    go_wp2_with (fail)
    go_ret
    exact ⟨rfl, Chg.below ((Below.refl _ _).alloc (Nat.le_refl _) _), k, by omega, HT.out.mono ((Below.refl _ _).alloc (Nat.le_refl _) _)⟩
  | succ f ih =>
    intro hf k a c xs a' c' ys w h h' hv hv' hx hy ht hk
    have HT := Lib.hid ht
    have hM := ht.lt
    have HX := Lib.hid hx
    have HY := Lib.hid hy
    have HB0 : Hid (Below w.heap.size w (w.alloc (.cells #[.int .i64 t, .map (some M)] 47))) := (Below.refl _ _).alloc (Nat.le_refl _) _
    have HBf := Lib.hid (bestF_succ t f xs ys)
    have HAb : Hid (∀ y ∈ xs, 0 ≤ aftF t f xs ys y ∧ aftF t f xs ys y ≤ (f : Int) + 1) := fun y hym => aftF_bd hx hy hym
    have CR := Lib.hid (fun (k2 : Nat) (y : Int) W (hi : Ints W a (f + 1) c xs) (hi' : Ints W a' (f + 1) c' ys) (hy' : y ∈ xs) (hT : TabAt M k2 t W) (hk2 : k2 + (f + 1) * cb f ≤ 1099511627776) => after_of t M f (by omega) (ih (by omega)) k2 a c xs a' c' ys y W hi hi' hv hv' hx hy hy' hT hk2)
    have C1 := Lib.hid (fun W (hW : Below w.heap.size w W) => bitsOf_any a (f + 1) c xs W (h.mono hW) hx.rng)
    have C2 := Lib.hid (fun W (hW : Below w.heap.size w W) => bitsOf_any a' (f + 1) c' ys W (h'.mono hW) hy.rng)
    have H1 := Lib.hid h
    have H2 := Lib.hid h'
    have HV := Lib.hid hv
    have HV' := Lib.hid hv'
    obtain ⟨kl, hkl⟩ := handKey hx hy
    have HK := Lib.hid hkl
    have HPut : Hid (∀ D : DataW Unit, Known t D → Known t (D.put kl (.lit (.int .i64 (bestF t (f + 1) xs ys))))) := fun D hD => hD.put hx hy hkl
    have HAt : Hid (∀ D : DataW Unit, Known t D → Maps.has D kl = true → ∀ z, D.atKey kl z = .lit (.int .i64 (bestF t (f + 1) xs ys))) := fun D hD hh z => hD.2 (f + 1) xs ys kl hx hy hkl hh z
    have hbd := bestF_bd t (f + 1) _ _ hx hy
    obtain ⟨hc, hb, hcell⟩ := h.at
    obtain ⟨hc', hb', _⟩ := h'.at
    have HCell := Lib.hid hcell
    have p0 : (w.alloc (.cells #[.int .i64 t, .map (some M)] 47)).cell? ⟨w.heap.size, 0, none⟩ = some (.int .i64 t) := by simp
    have p1 : (w.alloc (.cells #[.int .i64 t, .map (some M)] 47)).cell? ⟨w.heap.size, 1, none⟩ = some (.map (some M)) := by simp
    have hcbs : k + (1 + (f + 1) * ((f + 1) * cb f)) ≤ 1099511627776 := hk
    have HCb : Hid (cb (f + 1) = 1 + (f + 1) * ((f + 1) * cb f)) := rfl
    clear h h' hx hy ht hv hv' ih hkl hcell hk
    generalize cb (f + 1) = cbf at *
    generalize bestF t (f + 1) xs ys = BF at *
    generalize hX : bitsN xs = bx at *
    generalize hY : bitsN ys = by' at *
    clear hX hY
    generalize (f + 1) * cb f = cf at *
    have hl : Hid (xs.length = f + 1) := HX.out.len
    generalize hn : f + 1 = n at *
    have hn1 : 1 ≤ n := by omega
    have hn6 : n ≤ 6 := by omega
    have hn0 : ((n : Int) == 0) = false := by simp only [beq_eq_false_iff_ne]; omega
    have HN := Lib.hid hn
    have HKk := Lib.hid hcbs
    clear hn hcbs
    obtain ⟨D, hD1, hD2⟩ := HT.out
    have HD2 := Lib.hid hD2
    have hD3 := (hD1.alloc (.cells #[.int .i64 t, .map (some M)] 47)).alloc (.cells #[.int .i64 (bx : Nat), .int .i64 (by' : Nat)] 63)
    have HD1 := Lib.hid hD1
    clear hD1 hD2
    rcases Bool.eq_false_or_eq_true (Maps.has D kl) with hh | hh
    · have HHh := Lib.hid hh
      go_enter Try.func21, Try.ntmps21
      go_wp2_with (fail)
      refine (C1.out _ HB0.out).mono ?_
      rintro e w1 ⟨rfl, rfl⟩
      go_wp2_with (fail)
      refine (C2.out _ HB0.out).mono ?_
      rintro e w2 ⟨rfl, rfl⟩
      go_wp2_with (first | (at_lookup; refine wpList_lookup_own_ok_int _ rfl _ _ 45 rfl 63 2 .i64 keyedArr Try.underlying45 Try.underlying2 (zeroI64 _) M k D rfl hD3 _ kl rfl HK.out ?_; intro cv hat hwf; have hcv : cv = BF := (by have := HAt.out D HD2.out HHh.out (.lit (.int .i64 0)); rw [this] at hat; simpa using hat.symm); subst hcv; clear hat hwf))
      have hb3 : Below w.heap.size w ((w.alloc (.cells #[.int .i64 t, .map (some M)] 47)).alloc (.cells #[.int .i64 (bx : Nat), .int .i64 (by' : Nat)] 63)) := HB0.out.alloc (by simp) _
      go_ret
      exact ⟨rfl, Chg.below hb3, k, by omega, HT.out.mono hb3⟩
    · have HHh := Lib.hid hh
      go_enter Try.func21, Try.ntmps21
      go_wp2_with (fail)
      refine (C1.out _ HB0.out).mono ?_
      rintro e w1 ⟨rfl, rfl⟩
      go_wp2_with (fail)
      refine (C2.out _ HB0.out).mono ?_
      rintro e w2 ⟨rfl, rfl⟩
      go_wp2_with (first | (at_lookup; refine wpList_lookup_own_ok_int _ rfl _ _ 45 rfl 63 2 .i64 keyedArr Try.underlying45 Try.underlying2 (zeroI64 _) M k D rfl hD3 _ kl rfl HK.out ?_; intro cv hat hwf; clear hat hwf))
      have hb3 : Below w.heap.size w ((w.alloc (.cells #[.int .i64 t, .map (some M)] 47)).alloc (.cells #[.int .i64 (bx : Nat), .int .i64 (by' : Nat)] 63)) := HB0.out.alloc (by simp) _
      have HB3 := Lib.hid hb3
      have q0 : ((w.alloc (.cells #[.int .i64 t, .map (some M)] 47)).alloc (.cells #[.int .i64 (bx : Nat), .int .i64 (by' : Nat)] 63)).cell? ⟨w.heap.size, 0, none⟩ = some (.int .i64 t) := by simp
      have q1 : ((w.alloc (.cells #[.int .i64 t, .map (some M)] 47)).alloc (.cells #[.int .i64 (bx : Nat), .int .i64 (by' : Nat)] 63)).cell? ⟨w.heap.size, 1, none⟩ = some (.map (some M)) := by simp
      have q2 : ((w.alloc (.cells #[.int .i64 t, .map (some M)] 47)).alloc (.cells #[.int .i64 (bx : Nat), .int .i64 (by' : Nat)] 63)).cell? ⟨w.heap.size + 1, 0, none⟩ = some (.int .i64 (bx : Nat)) := by simp
      have q3 : ((w.alloc (.cells #[.int .i64 t, .map (some M)] 47)).alloc (.cells #[.int .i64 (bx : Nat), .int .i64 (by' : Nat)] 63)).cell? ⟨w.heap.size + 1, 1, none⟩ = some (.int .i64 (by' : Nat)) := by simp
      have Q0 := Lib.hid q0
      have Q1 := Lib.hid q1
      have Q2 := Lib.hid q2
      have Q3 := Lib.hid q3
      have hs3 := HB3.out.size
      have HT3 := Lib.hid (HT.out.mono HB3.out)
      clear q0 q1 q2 q3 hb3 hD3
      generalize ((w.alloc (.cells #[.int .i64 t, .map (some M)] 47)).alloc (.cells #[.int .i64 (bx : Nat), .int .i64 (by' : Nat)] 63)) = w3 at *
      go_loopw [10, 32] (fun vb vi wr => ∃ i k' : Nat, i ≤ n ∧ vi = .int .i64 i ∧ vb = .int .i64 (maxL ((xs.take i).map (aftF t f xs ys))) ∧ Chg M (M + 1) w3 wr ∧ k' ≤ k + i * cf ∧ TabAt M k' t wr) (fun _ vi _ => n - (intOf vi).toNat)
      case atStart => exact ⟨0, k, by omega, rfl, rfl, Chg.refl _ _ _, by omega, HT3.out⟩
      case round =>
        obtain ⟨i, k', hi, rfl, rfl, hchg, hk', htab⟩ := hrel
        have HC := Lib.hid hchg
        have HTr := Lib.hid htab
        clear hchg htab
        have p0 := HC.out.cellNe Q0.out (by dsimp only; omega)
        have p1 := HC.out.cellNe Q1.out (by dsimp only; omega)
        have HW : Hid (Chg M (M + 1) w wr) := (Chg.below HB3.out).trans HC.out
        by_cases hin : i < n
        · have HYm : Hid (xs.getD i 0 ∈ xs) := getD_mem (by rw [hl.out]; exact hin)
          have hzb := HAb.out _ HYm.out
          obtain ⟨b, off, rfl, hlb, hxc⟩ := HCell.out i (by have := HN.out; omega)
          have hbne : b ≠ M := HV.out _ rfl
          have z0 := HW.out.cellNe (hxc i (by have := HN.out; omega)) (by dsimp only; exact hbne)
          have hb2 : k' + cf ≤ 1099511627776 := by
            have h1 := HKk.out
            have h2 : (i + 1) * cf ≤ n * cf := Nat.mul_le_mul_right _ (by omega)
            rw [Nat.succ_mul] at h2
            omega
          have CC := Lib.hid (CR.out k' _ wr (H1.out.av HW.out HV.out) (H2.out.av HW.out HV'.out) HYm.out HTr.out hb2)
          have HMt := Lib.hid (maxL_take (aftF t f xs ys) xs i (by rw [hl.out]; exact hin))
          have hkn : k' + cf ≤ k + (i + 1) * cf := by rw [Nat.succ_mul]; omega
          clear hxc
          generalize maxL ((xs.take i).map (aftF t f xs ys)) = S at *
          generalize aftF t f xs ys (xs.getD i 0) = V at *
          generalize xs.getD i 0 = y at *
          go_wp2_with (fail)
          refine CC.out.mono ?_
          rintro e w4 ⟨rfl, hc4, k4, hk4, ht4⟩
          have HC4 := Lib.hid (HC.out.trans hc4)
          have HT4 := Lib.hid ht4
          clear hc4 ht4 CC z0 p0 p1
          go_wp2
          go_roundw
          case rel => exact ⟨i + 1, k4, by omega, by go_num, by rw [HMt.out], HC4.out, by omega, HT4.out⟩
          case measure => simp [intOf]; omega
        · obtain rfl : i = n := by omega
          have e0 : xs.take i = xs := List.take_of_length_le (by rw [hl.out]; exact Nat.le_refl _)
          have p2 := HC.out.cellNe Q2.out (by dsimp only; omega)
          have p3 := HC.out.cellNe Q3.out (by dsimp only; omega)
          obtain ⟨D', hd1, hd2⟩ := HTr.out
          have HD' := Lib.hid (HPut.out D' hd2)
          have hE := HBf.out
          rw [e0, ← hE]
          have hkm : k' < maxLen := by have := HKk.out; unfold maxLen; omega
          have hwf : (Lit.int .i64 BF).wf = true := wf_i64 (by omega) (by omega)
          clear hE e0 hd2
          go_wp2_with (first | (at_mapUpdate; refine wpList_mapUpdate_own _ rfl _ _ _ 45 rfl 63 2 keyedArr Try.underlying45 _ M k' D' rfl hd1 hkm _ _ kl rfl rfl HK.out _ [] (plainElem_int Try.underlying2 hwf) ?_; intro w5 hown5 hg5))
          have HW5 : Hid (Chg M (M + 1) w w5) := HW.out.trans ⟨hg5.os, hg5.tape, hg5.output, hg5.size, fun j hj hr => hg5.block j hj (by intro e; have := Option.some_inj.1 e; omega)⟩
          have HT5 : Hid (TabAt M (k' + 1) t w5) := ⟨_, hown5, HD'.out⟩
          have hle : k' + 1 ≤ k + cbf := by rw [HCb.out]; omega
          clear hown5 hg5 hd1
          go_wp2
          go_ret
          exact ⟨rfl, HW5.out, k' + 1, hle, HT5.out⟩

end Go.Proofs.Ytgldfmkjnggedaa
