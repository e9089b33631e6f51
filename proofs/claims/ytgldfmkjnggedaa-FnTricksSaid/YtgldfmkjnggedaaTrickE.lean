/- Tricks, impl: reply, after, best. -/
import Derived.Test.YtgldfmkjnggedaaMemo
import Derived.Test.YtgldfmkjnggedaaLinesF
namespace Go.Proofs.Ytgldfmkjnggedaa
open Go.RowKit
set_option linter.unusedVariables false

/-- What best tells of hands of f cards. -/
def BestOk (t : Int) (M f : Nat) : Prop := ∀ (k : Nat) (a : Option Addr) (c : Nat) (xs : List Int) (a' : Option Addr) (c' : Nat) (ys : List Int) (w : World), Ints w a f c xs → Ints w a' f c' ys → Av M a → Av M a' → Hand f xs → Hand f ys → TabAt M k t w → k + cb f ≤ 1099511627776 →
    Calls Try.prog 21 #[.agg #[.int .i64 t, .map (some M)], .slice a f c, .slice a' f c'] w fun e w' => e = .returned (.int .i64 (bestF t f xs ys)) ∧ Chg M (M + 1) w w' ∧ ∃ k', k' ≤ k + cb f ∧ TabAt M k' t w'

set_option maxHeartbeats 1600000 in
set_option maxRecDepth 100000 in
theorem reply_of (t : Int) (M f : Nat) (hf : f ≤ 5) (IH : BestOk t M f) (k : Nat) (a : Option Addr) (c : Nat) (xs : List Int) (a' : Option Addr) (c' : Nat) (ys : List Int) (y z : Int) (w : World) (h : Ints w a (f + 1) c xs) (h' : Ints w a' (f + 1) c' ys) (hv : Av M a) (hv' : Av M a') (hx : Hand (f + 1) xs) (hy : Hand (f + 1) ys) (hym : y ∈ xs) (hzm : z ∈ ys) (ht : TabAt M k t w) (hk : k + cb f ≤ 1099511627776) :
    Calls Try.prog 27 #[.agg #[.int .i64 t, .map (some M)], .slice a (f + 1 : Nat) c, .slice a' (f + 1 : Nat) c', .int .i64 y, .int .i64 z] w fun e w' => e = .returned (.int .i64 (repF t f xs ys y z)) ∧ Chg M (M + 1) w w' ∧ ∃ k', k' ≤ k + cb f ∧ TabAt M k' t w' := by
  have HT := Lib.hid ht
  have hM := ht.lt
  have hyr := hx.rng y hym
  have hzr := hy.rng z hzm
  have h1 := hx.less hym
  have h2 := hy.less hzm
  have HH1 := Lib.hid h1
  have HH2 := Lib.hid h2
  have hbb1 := bestF_bd t f _ _ h1 h2
  have hbb2 := bestF_bd t f _ _ h2 h1
  have HB0 : Hid (Below w.heap.size w (w.alloc (.cells #[.int .i64 t, .map (some M)] 47))) := (Below.refl _ _).alloc (Nat.le_refl _) _
  have CA := Lib.hid (fun W (hW : Below w.heap.size w W) => without_any a (f + 1) c xs y W (h.mono hW) (by omega) (by omega))
  have CB := Lib.hid (fun W (hW : Below w.heap.size w W) => without_any a' (f + 1) c' ys z W (h'.mono hW) (by omega) (by omega))
  have HWA : Hid (repF t f xs ys y z = if winsL y z t = true then 1 + bestF t f (lessL xs y) (lessL ys z) else (f : Int) - bestF t f (lessL ys z) (lessL xs y)) := rfl
  obtain ⟨hc, hb, _⟩ := h.at
  obtain ⟨hc', hb', _⟩ := h'.at
  clear h h' hx hy h1 h2 ht hv hv' hym hzm
  generalize hV : repF t f xs ys y z = V at *
  clear hV
  generalize lessL xs y = XS at *
  generalize lessL ys z = YS at *
  have p0 : (w.alloc (.cells #[.int .i64 t, .map (some M)] 47)).cell? ⟨w.heap.size, 0, none⟩ = some (.int .i64 t) := by simp
  have p1 : (w.alloc (.cells #[.int .i64 t, .map (some M)] 47)).cell? ⟨w.heap.size, 1, none⟩ = some (.map (some M)) := by simp
  have P0 := Lib.hid p0
  have P1 := Lib.hid p1
  clear p0 p1
  generalize hn : f + 1 = n at *
  have hn1 : 1 ≤ n := by omega
  have HN := Lib.hid hn
  clear hn
  go_enter Try.func27, Try.ntmps27
  go_wp2_with (fail)
  refine (CA.out _ HB0.out).mono ?_
  rintro e w1 ⟨ma, mn, mc, rfl, hb1, ho1⟩
  have hmn : mn = f := by have := ho1.1; rw [intCells_len] at this; have := HH1.out.len; omega
  subst hmn
  have HB1 := Lib.hid (HB0.out.trans (hb1.mono HB0.out.size))
  have q0 := cell_on hb1 P0.out
  have q1 := cell_on hb1 P1.out
  have HO1 := Lib.hid ho1
  clear hb1 ho1 CA
  go_wp2_with (fail)
  refine (CB.out _ HB1.out).mono ?_
  rintro e w2 ⟨ta, tn, tc, rfl, hb2, ho2⟩
  have htn : tn = mn := by have := ho2.1; rw [intCells_len] at this; have := HH2.out.len; omega
  subst htn
  have HB2 := Lib.hid (HB1.out.trans (hb2.mono HB1.out.size))
  have r0 := cell_on hb2 q0
  have r1 := cell_on hb2 q1
  have hs0 := HB0.out.size
  have hs1 := HB1.out.size
  have V1 := Lib.hid (av_own HO1.out (Nat.lt_of_lt_of_le hM hs0))
  have V2 := Lib.hid (av_own ho2 (Nat.lt_of_lt_of_le hM hs1))
  have I1 := Lib.hid (Rd.own (ownsRow_below HO1.out hb2))
  have I2 := Lib.hid (Rd.own ho2)
  have HT2 := Lib.hid (HT.out.mono HB2.out)
  clear hb2 ho2 CB HO1 q0 q1
  have hV := HWA.out
  rcases Bool.eq_false_or_eq_true (winsL y z t) with ew | ew
  · have CW : Hid (∀ W, Calls Try.prog 29 #[.int .i64 y, .int .i64 z, .int .i64 t] W (RetS W (.bool true))) := fun W => by rw [← ew]; exact winsTrick_any y z t W hyr hzr
    rw [if_pos ew] at hV
    have HVv := Lib.hid hV
    have CC := Lib.hid (IH k _ _ _ _ _ _ _ I1.out I2.out V1.out V2.out HH1.out HH2.out HT2.out hk)
    clear hV HWA ew hbb2
    generalize bestF t tn XS YS = B at *
    go_wp2_with (fail)
    refine (CW.out _).mono ?_
    rintro e w3 ⟨rfl, rfl⟩
    go_wp2_with (fail)
    refine CC.out.mono ?_
    rintro e w4 ⟨rfl, hc4, k', hk', ht4⟩
    have HC4 := Lib.hid ((Chg.below HB2.out).trans hc4)
    have HT4 := Lib.hid ht4
    clear hc4 ht4
    go_wp2
    go_ret
    exact ⟨by rw [HVv.out]; rfl, HC4.out, k', hk', HT4.out⟩
  · have CW : Hid (∀ W, Calls Try.prog 29 #[.int .i64 y, .int .i64 z, .int .i64 t] W (RetS W (.bool false))) := fun W => by rw [← ew]; exact winsTrick_any y z t W hyr hzr
    rw [if_neg (by rw [ew]; exact Bool.false_ne_true)] at hV
    have HVv := Lib.hid hV
    have CC := Lib.hid (IH k _ _ _ _ _ _ _ I2.out I1.out V2.out V1.out HH2.out HH1.out HT2.out hk)
    clear hV HWA ew hbb1
    generalize bestF t tn YS XS = B at *
    go_wp2_with (fail)
    refine (CW.out _).mono ?_
    rintro e w3 ⟨rfl, rfl⟩
    go_wp2_with (fail)
    refine CC.out.mono ?_
    rintro e w4 ⟨rfl, hc4, k', hk', ht4⟩
    have HC4 := Lib.hid ((Chg.below HB2.out).trans hc4)
    have HT4 := Lib.hid ht4
    clear hc4 ht4
    go_wp2
    go_ret
    exact ⟨by rw [HVv.out]; rfl, HC4.out, k', hk', HT4.out⟩

set_option maxHeartbeats 1600000 in
set_option maxRecDepth 100000 in
theorem after_of (t : Int) (M f : Nat) (hf : f ≤ 5) (IH : BestOk t M f) (k : Nat) (a : Option Addr) (c : Nat) (xs : List Int) (a' : Option Addr) (c' : Nat) (ys : List Int) (y : Int) (w : World) (h : Ints w a (f + 1) c xs) (h' : Ints w a' (f + 1) c' ys) (hv : Av M a) (hv' : Av M a') (hx : Hand (f + 1) xs) (hy : Hand (f + 1) ys) (hym : y ∈ xs) (ht : TabAt M k t w) (hk : k + (f + 1) * cb f ≤ 1099511627776) :
    Calls Try.prog 23 #[.agg #[.int .i64 t, .map (some M)], .slice a (f + 1 : Nat) c, .slice a' (f + 1 : Nat) c', .int .i64 y] w fun e w' => e = .returned (.int .i64 (aftF t f xs ys y)) ∧ Chg M (M + 1) w w' ∧ ∃ k', k' ≤ k + (f + 1) * cb f ∧ TabAt M k' t w' := by
  have HT := Lib.hid ht
  have hM := ht.lt
  have hyr := hx.rng y hym
  have HB0 : Hid (Below w.heap.size w (w.alloc (.cells #[.int .i64 t, .map (some M)] 47))) := (Below.refl _ _).alloc (Nat.le_refl _) _
  have CL := Lib.hid (fun W (hW : Below w.heap.size w W) => legal_any a' (f + 1) c' ys y W (h'.mono hW) (by omega) (by omega) hy.rng hyr.1 hyr.2)
  have HAf : Hid (aftF t f xs ys y = minL ((legalL ys y).map (repF t f xs ys y))) := rfl
  have HAm : Hid (∀ z ∈ legalL ys y, z ∈ ys) := fun z hz => legalL_mem hz
  have HAl := Lib.hid (legalL_len ys y)
  have HYl := Lib.hid hy.len
  have HAb : Hid (∀ z ∈ legalL ys y, 0 ≤ repF t f xs ys y z ∧ repF t f xs ys y z ≤ (f : Int) + 1) := fun z hz => repF_bd hx hy hym hz
  have CR := Lib.hid (fun (k2 : Nat) (z : Int) W (hi : Ints W a (f + 1) c xs) (hi' : Ints W a' (f + 1) c' ys) (hz : z ∈ ys) (hT : TabAt M k2 t W) (hk2 : k2 + cb f ≤ 1099511627776) => reply_of t M f hf IH k2 a c xs a' c' ys y z W hi hi' hv hv' hx hy hym hz hT hk2)
  have H1 := Lib.hid h
  have H2 := Lib.hid h'
  have HV := Lib.hid hv
  have HV' := Lib.hid hv'
  obtain ⟨hc, hb, _⟩ := h.at
  obtain ⟨hc', hb', _⟩ := h'.at
  have p0 : (w.alloc (.cells #[.int .i64 t, .map (some M)] 47)).cell? ⟨w.heap.size, 0, none⟩ = some (.int .i64 t) := by simp
  have p1 : (w.alloc (.cells #[.int .i64 t, .map (some M)] 47)).cell? ⟨w.heap.size, 1, none⟩ = some (.map (some M)) := by simp
  have P0 := Lib.hid p0
  have P1 := Lib.hid p1
  clear p0 p1 h h' hx hy ht hv hv' hym IH
  generalize aftF t f xs ys y = AF at *
  generalize legalL ys y = A at *
  generalize hcb : cb f = cf at *
  clear hcb
  generalize hn : f + 1 = n at *
  have hn1 : 1 ≤ n := by omega
  have hn6 : n ≤ 6 := by omega
  have HN := Lib.hid hn
  clear hn
  have hkk : Hid (k + n * cf ≤ 1099511627776) := hk
  clear hk
  go_enter Try.func23, Try.ntmps23
  go_wp2_with (fail)
  refine (CL.out _ HB0.out).mono ?_
  rintro e w1 ⟨la, ln, lc, rfl, hb1, ho1⟩
  have hln : A.length = ln := by have := ho1.1; rw [intCells_len] at this; omega
  have hln2 : ln ≤ n := by have h1 := HAl.out; have h2 := HYl.out; omega
  have HB1 := Lib.hid (HB0.out.trans (hb1.mono HB0.out.size))
  have HO1 := Lib.hid ho1
  have HLn := Lib.hid hln
  have Q0 := Lib.hid (cell_on hb1 P0.out)
  have Q1 := Lib.hid (cell_on hb1 P1.out)
  have hs0 := HB0.out.size
  have V1 := Lib.hid (av_own ho1 (Nat.lt_of_lt_of_le hM hs0))
  have hcap : ln ≤ lc ∧ lc ≤ 9223372036854775807 := by have := Rd.own ho1; exact ⟨this.2.1, this.2.2.1⟩
  have HT1 := Lib.hid (HT.out.mono HB1.out)
  clear hb1 ho1 hln CL HAl P0 P1
  go_wp2
  go_loopw [9, 16] (fun vb vi wr => ∃ i k' : Nat, i ≤ ln ∧ vi = .int .i64 i ∧ vb = .int .i64 (minL ((A.take i).map (repF t f xs ys y))) ∧ Chg M (M + 1) w1 wr ∧ k' ≤ k + i * cf ∧ TabAt M k' t wr) (fun _ vi _ => ln - (intOf vi).toNat)
  case atStart => exact ⟨0, k, by omega, rfl, rfl, Chg.refl _ _ _, by omega, HT1.out⟩
  case round =>
    obtain ⟨i, k', hi, rfl, rfl, hchg, hk', htab⟩ := hrel
    have HC := Lib.hid hchg
    have HTr := Lib.hid htab
    clear hchg htab
    by_cases hin : i < ln
    · have HZm : Hid (A.getD i 0 ∈ A) := getD_mem (by rw [HLn.out]; exact hin)
      have hzb := HAb.out _ HZm.out
      have z0 : Hid (∃ g, la = some ⟨g, 0, none⟩ ∧ wr.cell? ⟨g, i, none⟩ = some (.int .i64 (A.getD i 0))) := by
        obtain ⟨g, hg⟩ := own_some HO1.out (by omega)
        subst hg
        exact ⟨g, rfl, own_get (own_av HO1.out HC.out V1.out) i hin⟩
      obtain ⟨g, rfl, z0⟩ := z0.out
      have p0 := HC.out.cellNe Q0.out (by dsimp only; omega)
      have p1 := HC.out.cellNe Q1.out (by dsimp only; omega)
      have hb2 : k' + cf ≤ 1099511627776 := by
        have h1 := hkk.out
        have h2 : (i + 1) * cf ≤ n * cf := Nat.mul_le_mul_right _ (by omega)
        rw [Nat.succ_mul] at h2
        omega
      have HW : Hid (Chg M (M + 1) w wr) := (Chg.below HB1.out).trans HC.out
      have CC := Lib.hid (CR.out k' _ wr (H1.out.av HW.out HV.out) (H2.out.av HW.out HV'.out) (HAm.out _ HZm.out) HTr.out hb2)
      have HMt := Lib.hid (minL_take (repF t f xs ys y) A i (by rw [HLn.out]; exact hin))
      have hkn : k' + cf ≤ k + (i + 1) * cf := by rw [Nat.succ_mul]; omega
      generalize minL ((A.take i).map (repF t f xs ys y)) = S at *
      generalize repF t f xs ys y (A.getD i 0) = V at *
      generalize A.getD i 0 = z at *
      go_wp2_with (fail)
      refine CC.out.mono ?_
      rintro e w4 ⟨rfl, hc4, k4, hk4, ht4⟩
      have HC4 := Lib.hid (HC.out.trans hc4)
      have HT4 := Lib.hid ht4
      clear hc4 ht4 CC z0 p0 p1
      go_wp2
      go_roundw
      case rel => exact ⟨i + 1, k4, by omega, by go_num, by rw [HMt.out], HC4.out, by omega, HT4.out⟩
      case measure => simp [intOf]; omega
    · obtain rfl : i = ln := by omega
      have e0 : A.take i = A := List.take_of_length_le (by rw [HLn.out]; exact Nat.le_refl _)
      have HW : Hid (Chg M (M + 1) w wr) := (Chg.below HB1.out).trans HC.out
      have hE := HAf.out
      rw [e0, ← hE]
      have hkn : k' ≤ k + n * cf := by have := Nat.mul_le_mul_right cf hln2; omega
      clear hE e0
      go_wp2
      go_ret
      exact ⟨rfl, HW.out, k', hkn, HTr.out⟩

end Go.Proofs.Ytgldfmkjnggedaa
