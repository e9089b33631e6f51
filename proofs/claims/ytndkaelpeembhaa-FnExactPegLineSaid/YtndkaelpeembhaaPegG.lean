/- Pegs, spec: the fewest pegs that can be left. -/
import Derived.Test.YtndkaelpeembhaaPegD
import Derived.Test.YtndkaelpeembhaaPegF
namespace Go.Proofs.Ytndkaelpeembhaa
open Go.RowKit
set_option linter.unusedVariables false

theorem l00Min_any (x y : Int) (w : World) : Calls Try.prog 39 #[.int .i64 x, .int .i64 y] w (RetS w (.int .i64 (min x y))) := by
  by_cases h : x < y
  · have H : Hid (min x y = x) := by show _ = _; omega
    go_enter Try.func39, Try.ntmps39
    go_wp2
    go_ret
    exact ⟨ret_int H.out.symm, rfl⟩
  · have H : Hid (min x y = y) := by show _ = _; omega
    go_enter Try.func39, Try.ntmps39
    go_wp2
    go_ret
    exact ⟨ret_int (by rw [H.out] <;> omega), rfl⟩

/-- what is told is right -/
def ToldOk (n : Nat) (T : List Int) : Prop := T.length = 2 ^ n ∧ ∀ y : Nat, T.getD y 0 = 0 ∨ T.getD y 0 = (Lst n y : Nat)
theorem ToldOk.zero (n : Nat) : ToldOk n (List.replicate (2 ^ n) 0) := ⟨by simp, fun y => .inl (by
  rw [List.getD_eq_getElem?_getD, List.getElem?_replicate]; split <;> rfl)⟩
theorem ToldOk.put {n : Nat} {T : List Int} (h : ToldOk n T) {x : Nat} (hx : x < 2 ^ n) : ToldOk n (T.set x (Lst n x : Nat)) := by
  refine ⟨by simp [h.1], fun y => ?_⟩
  by_cases e : x = y
  · subst e
    right
    rw [List.getD_eq_getElem?_getD, List.getElem?_set_self (by rw [h.1]; exact hx)]; rfl
  · rw [List.getD_eq_getElem?_getD, List.getElem?_set_ne e, ← List.getD_eq_getElem?_getD]
    exact h.2 y
theorem own_putI {w : World} {B g n c : Nat} {E : TypeId} {xs : List Int} (h : w.ownsRow B E 1 (.slice (some ⟨g, 0, none⟩) n c) n (intCells xs)) (i : Nat) (v : Int) :
    (w.setCell ⟨g, i, none⟩ (.int .i64 v)).ownsRow B E 1 (.slice (some ⟨g, 0, none⟩) n c) n (intCells (xs.set i v)) := by
  have := (h.stored i (.int .i64 v)).1
  rw [intCells_set] at this
  exact this
/-- the list of what is told, in block g -/
def TabF (n g B : Nat) (w : World) : Prop := ∃ T : List Int, w.ownsRow B 2 1 (.slice (some ⟨g, 0, none⟩) (2 ^ n) (2 ^ n)) (2 ^ n) (intCells T) ∧ ToldOk n T
theorem TabF.lt {n g B : Nat} {w : World} (h : TabF n g B w) : g < w.heap.size := by
  obtain ⟨T, h1, _⟩ := h
  exact (h1.lt g rfl).2
theorem TabF.mono {n g B : Nat} {w w' : World} (h : TabF n g B w) (hb : Below w.heap.size w w') : TabF n g B w' := by
  obtain ⟨T, h1, h2⟩ := h
  exact ⟨T, ownsRow_below h1 hb, h2⟩
def FewOk (n g B f : Nat) : Prop := ∀ (x : Nat) (w : World), x < 2 ^ n → ones n x = f → TabF n g B w →
    Calls Try.prog 30 #[.int .i64 x, .int .i64 n, .slice (some ⟨g, 0, none⟩) (2 ^ n) (2 ^ n)] w fun e w' => e = .returned (.int .i64 (Lst n x : Nat)) ∧ Chg g (g + 1) w w' ∧ TabF n g B w'

set_option maxHeartbeats 3200000 in
set_option maxRecDepth 100000 in
theorem l06Fewest_any (n g B : Nat) (h14 : n ≤ 14) : ∀ f : Nat, FewOk n g B f := by
  intro f
  induction f using Nat.strongRecOn with
  | ind f IH =>
  intro X w hX hf ht
  have hX14 : X < 16384 := Nat.lt_of_lt_of_le hX (Nat.pow_le_pow_right (by omega : 0 < 2) h14 : 2 ^ n ≤ 2 ^ 14)
  have hM := ht.lt
  have HT := Lib.hid ht
  have C1 := Lib.hid (fun W => l06Ones_any n X W h14 hX)
  have C2 := Lib.hid (fun W => l06Moves_any X n W hX14 h14)
  have CJ := Lib.hid (fun (p : Nat × Nat) (hp : p ∈ mv n X) W => l06Moved_any X p.1 p.2 W hX14 (by have := (mv_good hp).hf; omega) (by have := (mv_good hp).ht; omega))
  have CR := Lib.hid (fun (p : Nat × Nat) (hp : p ∈ mv n X) W (hT : TabF n g B W) => IH (f - 1) (by have := ones_md (mv_good hp); omega) (md X p.1 p.2) W (md_lt hX (mv_good hp).ht) (by have := ones_md (mv_good hp); omega) hT)
  have HSt := Lib.hid (Lst_step n X)
  have hb0 := Lst_le n X
  have hb1 := ones_le n X
  have HMl : Hid ((mv n X).length ≤ 28) := by show _ ≤ _; have := mvTo_len n X n; unfold mv; omega
  obtain ⟨T, hO, hK⟩ := ht
  have HK := Lib.hid hK
  have z0 := own_getI hO X hX
  have HO := Lib.hid hO
  have hN : 2 ^ n < 2 ^ 15 := Nat.pow_lt_pow_right (by omega) (by omega)
  have hTx := hK.2 X
  clear IH hf hO hK
  generalize hNe : 2 ^ n = N at *
  have HNe := Lib.hid hNe
  clear hNe
  generalize hv : T.getD X 0 = v at *
  have HV := Lib.hid hv
  clear hv
  by_cases hp : 0 < v
  · have hvl : v = (Lst n X : Nat) := by omega
    have HVl := Lib.hid hvl
    clear hTx hvl
    go_enter Try.func30, Try.ntmps30
    go_wp2
    go_ret
    exact ⟨by rw [← HVl.out]; rfl, Chg.refl _ _ _, HT.out⟩
  · obtain rfl : v = 0 := by omega
    clear hTx hp
    go_enter Try.func30, Try.ntmps30
    go_wp2_with (fail)
    refine (C1.out _).mono ?_
    rintro e w1 ⟨rfl, rfl⟩
    go_wp2_with (fail)
    refine (C2.out _).mono ?_
    rintro e w2 ⟨m, ma, mc, rfl, hb2, ho2⟩
    have hmlen : m = (mv n X).length * 2 := by have := ho2.1; rw [intCells_len, flatP_len] at this; omega
    have hml := HMl.out
    have hcap : m ≤ mc ∧ mc ≤ 9223372036854775807 := by have := Rd.own ho2; exact ⟨this.2.1, this.2.2.1⟩
    have HO2 := Lib.hid ho2
    have HV2 := Lib.hid (av_own ho2 hM)
    have HB2 := Lib.hid hb2
    have HT2 := Lib.hid (HT.out.mono hb2)
    have HSt2 := HSt.out
    have HMlen := Lib.hid hmlen
    have hm56 : m ≤ 56 := by omega
    clear hb2 ho2 C2 C1 hmlen hml z0
    go_wp2
    go_loopw [7, 9] (fun vl vi wr => ∃ j i : Nat, i = 2 * j ∧ j ≤ (mv n X).length ∧ vi = .int .i64 i ∧ vl = .int .i64 (minM (fun p => Lst n (md X p.1 p.2)) (ones n X) ((mv n X).take j) : Nat) ∧ Chg g (g + 1) w2 wr ∧ TabF n g B wr) (fun _ vi _ => m - (intOf vi).toNat)
    case atStart => exact ⟨0, 0, rfl, by omega, rfl, rfl, Chg.refl _ _ _, HT2.out⟩
    case round =>
      obtain ⟨j, i, hij, hj, rfl, rfl, hchg, htab⟩ := hrel
      have HC := Lib.hid hchg
      have HTr := Lib.hid htab
      have hmb := minM_bd (fun p => Lst n (md X p.1 p.2)) (ones n X) ((mv n X).take j)
      clear hchg htab
      by_cases hjl : j < (mv n X).length
      · have him : i + 1 < m := by have := HMlen.out; omega
        obtain ⟨gm, rfl⟩ : ∃ g, ma = some ⟨g, 0, none⟩ := by
          rcases HO2.out.2 with h2 | ⟨g, cap, cur, e, _⟩
          · omega
          · simp only [Value.slice.injEq] at e
            exact ⟨g, e.1⟩
        have ho := own_av HO2.out HC.out HV2.out
        have him0 : i < m := by omega
        have hi0 : (0 : Int) ≤ (i : Int) + 1 := by omega
        have hi1 : (i : Int) + 1 < (m : Int) := by omega
        have hwr : IntKind.i64.wrap ((i : Int) + 1) = (i : Int) + 1 := IntWalk.i64_in _ (by omega)
        have z0 := own_getI ho i him0
        have z1 := own_getI ho (i + 1) him
        obtain ⟨f0, f1⟩ := flatP_get (mv n X) j hjl
        rw [hij, f0] at z0
        rw [hij, f1] at z1
        rw [← hij] at z0 z1
        have HIJ := Lib.hid hij
        clear hij hj
        have hgm : gm ≠ g := HV2.out _ rfl
        have HPm : Hid ((mv n X).getD j (0, 0) ∈ mv n X) := getD_mem hjl
        have HMt := Lib.hid (minM_take (fun p => Lst n (md X p.1 p.2)) (ones n X) (mv n X) j hjl)
        have hLb := ones_le n (md X ((mv n X).getD j (0, 0)).1 ((mv n X).getD j (0, 0)).2)
        have hLb2 := Lst_le n (md X ((mv n X).getD j (0, 0)).1 ((mv n X).getD j (0, 0)).2)
        have CA := Lib.hid (fun W => CJ.out _ HPm.out W)
        have CB := Lib.hid (fun W hT => CR.out _ HPm.out W hT)
        clear ho f0 f1
        generalize minM (fun p => Lst n (md X p.1 p.2)) (ones n X) ((mv n X).take j) = S at *
        rcases hpp : (mv n X).getD j (0, 0) with ⟨pf, pt⟩
        rw [hpp] at z0 z1 hLb hLb2 CA CB
        dsimp only at z0 z1 hLb hLb2 CA CB
        have HPp := Lib.hid hpp
        clear hpp
        generalize hV : Lst n (md X pf pt) = V at *
        have HV := Lib.hid hV
        clear hV
        have CMin := Lib.hid (fun W => l00Min_any (S : Nat) (V : Nat) W)
        generalize hY : md X pf pt = Y at *
        have HY := Lib.hid hY
        clear hY
        go_wp2
        go_region_held3 (fun W => W.cell? ⟨gm, i, none⟩ = some (.int .i64 pf) ∧ W.cell? ⟨gm, i + 1, none⟩ = some (.int .i64 pt)) (first | exact ⟨z0, z1⟩ | go_keep)
          (first
            | (go_at_call 33; refine (CA.out _).mono ?_; rintro e w3 ⟨rfl, rfl⟩)
            | (go_at_call 30; refine (CB.out _ (HTr.out.mono ((Below.refl _ _).drew))).mono ?_; rintro e w4 ⟨rfl, hc4, ht4⟩; have z0 := hc4.cellNe z0 hgm; have z1 := hc4.cellNe z1 hgm)
            | (go_at_call 39; refine (CMin.out _).mono ?_; rintro e w5 ⟨rfl, rfl⟩))
        have HC4 : Hid (Chg g (g + 1) w2 w4) := HC.out.trans (((Chg.refl _ _ wr).drewN 1).trans hc4)
        have HT4 := Lib.hid ht4
        clear hc4 ht4 z0 z1 CA CB hwr
        go_wp2
        go_roundw
        case rel =>
          refine ⟨j + 1, i + 2, by have := HIJ.out; omega, by omega, by go_num, ?_, HC4.out, HT4.out⟩
          rw [HMt.out, HPp.out]
          dsimp only
          rw [HY.out, HV.out]
          go_num
        case measure => simp [intOf]; omega
      · obtain rfl : j = (mv n X).length := by omega
        have e0 : (mv n X).take (mv n X).length = mv n X := List.take_of_length_le (Nat.le_refl _)
        rw [e0, ← HSt2]
        clear HSt2
        have him : i = m := by have := HMlen.out; omega
        subst him
        have HW : Hid (Chg g (g + 1) w wr) := (Chg.below HB2.out).trans HC.out
        obtain ⟨T', ho1, hk1⟩ := HTr.out
        rw [HNe.out] at ho1
        have y0 := own_getI ho1 X hX
        have fz := fun j => ho1.frozenAt j
        have HO1 := Lib.hid ho1
        have HK1 := Lib.hid hk1
        clear hij hj hjl e0 hm56 ho1 hk1 hmb
        go_wp2
        go_ret
        refine ⟨rfl, HW.out.trans ((Chg.refl _ _ _).set _ (by dsimp only; omega) (by dsimp only; omega)), T'.set X (Lst n X : Nat), ?_, HK1.out.put (by rw [HNe.out]; exact hX)⟩
        rw [HNe.out]
        exact own_putI HO1.out X _

end Go.Proofs.Ytndkaelpeembhaa
