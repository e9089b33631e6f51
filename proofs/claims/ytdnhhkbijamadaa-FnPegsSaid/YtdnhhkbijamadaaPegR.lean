/- Pegs, impl: what pegLeast leaves in its table. -/
import Derived.Test.YtdnhhkbijamadaaPegF
namespace Go.Proofs.Ytdnhhkbijamadaa
open Go.RowKit
set_option linter.unusedVariables false

/-- Block M is the table D. -/
def TabQ (n M : Nat) (w : World) (D : DataW Unit) : Prop := (∃ k : Nat, w.ownsMap Try.prog 3 (plainElem Try.prog 2) M k D) ∧ KnownP n D
theorem TabQ.lt {n M : Nat} {w : World} {D : DataW Unit} (h : TabQ n M w D) : M < w.heap.size := by
  obtain ⟨⟨k, h1⟩, _⟩ := h
  exact h1.lt
theorem TabQ.mono {n M : Nat} {w w' : World} {D : DataW Unit} (h : TabQ n M w D) (hb : Below w.heap.size w w') : TabQ n M w' D := by
  obtain ⟨⟨k, h1⟩, h2⟩ := h
  exact ⟨⟨k, h1.kept (row := none) ⟨hb.os, hb.tape, hb.output, hb.size, fun j hj _ => hb.block j hj⟩ (by simp)⟩, h2⟩
theorem TabQ.tight {n M : Nat} {w : World} {D : DataW Unit} (h : TabQ n M w D) : ∃ k : Nat, w.ownsMap Try.prog 3 (plainElem Try.prog 2) M k D ∧ KnownP n D ∧ k ≤ 16384 := by
  obtain ⟨⟨k, h1⟩, h2⟩ := h
  exact ⟨_, ownsMap_size h1, h2, h2.1.size⟩
theorem KeysB.tidy {D : DataW Unit} (h : KeysB D) : Maps.Tidy D := by
  obtain ⟨es, rfl, h1, _⟩ := h
  exact ⟨es, rfl, h1⟩
theorem hasPut {D : DataW Unit} (h : KeysB D) (x : Nat) (d : DataW Unit) {y : Nat} (hy : Maps.has D (.int .i64 y) = true) : Maps.has (D.put (.int .i64 x) d) (.int .i64 y) = true := by
  by_cases e : y = x
  · subst e
    exact Maps.has_put_same h.isMap (show WideAt.IsKeyLit (.int .i64 (y : Int)) from trivial) d
  · have hne : (Lit.int .i64 (y : Int)) ≠ .int .i64 (x : Int) := fun q => by simp at q; exact e (by omega)
    rw [Maps.has_put_other hne]; exact hy
/-- what a call at the board x adds -/
structure Grow (n x : Nat) (D D' : DataW Unit) : Prop where
  keep : ∀ y : Nat, Maps.has D (.int .i64 y) = true → Maps.has D' (.int .i64 y) = true
  has : Maps.has D' (.int .i64 x) = true
  next : Maps.has D (.int .i64 x) = false → ∀ p ∈ mv n x, Maps.has D' (.int .i64 (md x p.1 p.2 : Nat)) = true
  few : mv n x = [] → Maps.size D' ≤ Maps.size D + 1
/-- the same within the loop over the moves -/
structure GrowL (n x : Nat) (D D' : DataW Unit) (l : List (Nat × Nat)) : Prop where
  keep : ∀ y : Nat, Maps.has D (.int .i64 y) = true → Maps.has D' (.int .i64 y) = true
  next : ∀ p ∈ l, Maps.has D' (.int .i64 (md x p.1 p.2 : Nat)) = true
  few : mv n x = [] → D' = D
theorem GrowL.init (n x : Nat) (D : DataW Unit) : GrowL n x D D [] := ⟨fun _ h => h, fun _ h => (by cases h), fun _ => rfl⟩
theorem Grow.found {n x : Nat} {D : DataW Unit} (h : Maps.has D (.int .i64 x) = true) : Grow n x D D := ⟨fun _ h => h, h, fun e => (by rw [h] at e; cases e), fun _ => Nat.le_succ _⟩
theorem GrowL.step {n x : Nat} {D D' D2 : DataW Unit} {j : Nat} (h : GrowL n x D D' ((mv n x).take j)) (hj : j < (mv n x).length) {p : Nat × Nat} (hp : (mv n x).getD j (0, 0) = p) (hg : Grow n (md x p.1 p.2) D' D2) : GrowL n x D D2 ((mv n x).take (j + 1)) := by
  refine ⟨fun y hy => hg.keep y (h.keep y hy), fun q hq => ?_, fun e => by rw [e] at hj; exact absurd hj (Nat.not_lt_zero _)⟩
  rw [List.take_add_one, List.getElem?_eq_getElem hj] at hq
  rcases List.mem_append.1 hq with hq | hq
  · exact hg.keep _ (h.next q hq)
  · have e : (mv n x)[j] = p := by rw [← hp]; simp [hj]
    rw [e] at hq
    obtain rfl := List.mem_singleton.1 hq
    exact hg.has
theorem GrowL.done {n x : Nat} {D D' : DataW Unit} (h : GrowL n x D D' (mv n x)) (hK : KeysB D') (hx : Maps.has D (.int .i64 x) = false) (d : DataW Unit) : Grow n x D (D'.put (.int .i64 x) d) := by
  refine ⟨fun y hy => hasPut hK x d (h.keep y hy), Maps.has_put_same hK.isMap (show WideAt.IsKeyLit (.int .i64 (x : Int)) from trivial) d, fun _ p hp => hasPut hK x d (h.next p hp), fun e => ?_⟩
  rw [h.few e] at hK ⊢
  rw [Maps.size_put hK.tidy]
  split <;> omega
/-- What pegLeast leaves in its table, at boards with f pegs. -/
def PegGr (n M f : Nat) : Prop := ∀ (ad : Addr) (c : Nat) (bs : List Bool) (w : World) (D : DataW Unit), Row Value.bool w (some ad) n c bs → Av M (some ad) → ones n (bN bs) = f → TabQ n M w D →
    Calls Try.prog 14 #[.slice (some ad) n c, .map (some M)] w fun e w' => e = .returned (.int .i64 (Lst n (bN bs) : Nat)) ∧ Chg M (M + 1) w w' ∧ ∃ D', TabQ n M w' D' ∧ Grow n (bN bs) D D'

set_option maxHeartbeats 3200000 in
set_option maxRecDepth 100000 in
theorem pegGrow_any (n M : Nat) (h1 : 1 ≤ n) (h14 : n ≤ 14) : ∀ f : Nat, PegGr n M f := by
  intro f
  induction f using Nat.strongRecOn with
  | ind f IH =>
  intro ad c bs w D0 h hav hf ht
  have hl := h.len
  have hX : bN bs < 16384 := by have := bN_lt bs; rw [hl] at this; exact Nat.lt_of_lt_of_le this (Nat.pow_le_pow_right (by omega : 0 < 2) h14 : 2 ^ n ≤ 2 ^ 14)
  have hM := ht.lt
  obtain ⟨k0, hD, hKn, hk0⟩ := ht.tight
  have HT := Lib.hid ht
  have HD := Lib.hid hD
  have HKn := Lib.hid hKn
  have HR := Lib.hid h
  have C1 := Lib.hid (fun W (hW : Below w.heap.size w W) => boardKey_any (some ad) n c bs W (Row.mono h hW) h14)
  have C2 := Lib.hid (fun W (hW : Chg M (M + 1) w W) => pegMoves_any (some ad) n c bs W (h.av hW hav) h14)
  have CJ := Lib.hid (fun (p : Nat × Nat) (hp : p ∈ mv n (bN bs)) W (hW : Chg M (M + 1) w W) => jumped_any ad n c bs p.1 p.2 W (h.av hW hav) h14 (mv_good hp).hf (mv_good hp).ht (mv_good hp).hm)
  have HBN : Hid (∀ p ∈ mv n (bN bs), bN (jump bs p.1 p.2) = md (bN bs) p.1 p.2) := fun p hp => bN_jump (by rw [hl]; exact mv_good hp)
  have CR := Lib.hid (fun (p : Nat × Nat) (hp : p ∈ mv n (bN bs)) (g c' : Nat) W (hrow : Row Value.bool W (some ⟨g, 0, none⟩) n c' (jump bs p.1 p.2)) (hg : g ≠ M) (D : DataW Unit) (hT : TabQ n M W D) => IH (f - 1) (by have := ones_md (mv_good hp); omega) ⟨g, 0, none⟩ c' (jump bs p.1 p.2) W D hrow (fun x hx => by obtain rfl := Option.some.inj hx; exact hg) (by rw [HBN.out p hp]; have := ones_md (mv_good hp); omega) hT)
  have HSt := Lib.hid (Lst_step n (bN bs))
  have HOn : Hid (ones n (bN bs) = sumR (fun i => (bs.getD i false).toNat) n) := by show _ = _; have := ones_bN bs; rw [hl] at this; exact this
  have hb0 := Lst_le n (bN bs)
  have hb1 := ones_le n (bN bs)
  have HMl : Hid ((mv n (bN bs)).length ≤ 28) := by show _ ≤ _; have := mvTo_len n (bN bs) n; unfold mv; omega
  obtain ⟨hc, hb, hcell⟩ := h.at false
  have HCell := Lib.hid hcell
  have HAv := Lib.hid hav
  clear h hav ht hD hKn IH hcell hl hf
  generalize hXe : bN bs = X at *
  have HXe := Lib.hid hXe
  clear hXe
  rcases Bool.eq_false_or_eq_true (Maps.has D0 (.int .i64 X)) with hh | hh
  · have HA : Hid (D0.atKey (.int .i64 X) (.lit (.int .i64 0)) = .lit (.int .i64 (Lst n X : Nat))) := HKn.out.2 X hh _
    generalize Lst n X = V at *
    go_enter Try.func14, Try.ntmps14
    go_wp2_with (fail)
    refine (C1.out _ (Below.refl _ _)).mono ?_
    rintro e w1 ⟨rfl, rfl⟩
    go_wp2_with (first | (at_lookup; refine wpList_lookup_own_ok_int _ rfl _ _ 37 rfl 3 2 .i64 keyedInt Try.underlying37 Try.underlying2 (zeroI64 _) M k0 D0 rfl HD.out _ _ rfl (keyN hX) ?_; intro cv hat hwf; have hcv : cv = (V : Int) := (by have := HA.out; rw [this] at hat; simpa using hat.symm); subst hcv; clear hat hwf))
    go_ret
    exact ⟨rfl, Chg.refl _ _ _, D0, HT.out, Grow.found hh⟩
  · go_enter Try.func14, Try.ntmps14
    go_wp2_with (fail)
    refine (C1.out _ (Below.refl _ _)).mono ?_
    rintro e w1 ⟨rfl, rfl⟩
    go_wp2_with (first | (at_lookup; refine wpList_lookup_own_ok_int _ rfl _ _ 37 rfl 3 2 .i64 keyedInt Try.underlying37 Try.underlying2 (zeroI64 _) M k0 D0 rfl HD.out _ _ rfl (keyN hX) ?_; intro cv hat hwf; clear hat hwf))
    go_loop [8, 25] (fun vl vi => ∃ k : Nat, k ≤ n ∧ vi = .int .i64 k ∧ vl = .int .i64 (sumR (fun i => (bs.getD i false).toNat) k : Nat)) (fun _ vi => n - (intOf vi).toNat)
    case atStart => exact ⟨0, by omega, rfl, rfl⟩
    case round =>
      obtain ⟨k, hk, rfl, rfl⟩ := hrel
      have hsk : sumR (fun i => (bs.getD i false).toNat) k ≤ k := by
        have := ones_le k (bN bs)
        have e : ones k (bN bs) = sumR (fun i => (bs.getD i false).toNat) k := sumR_congr _ fun j _ => by rw [bN_bit]
        omega
      by_cases hlt : k < n
      · obtain ⟨b, off, hae, hlb, hx⟩ := HCell.out k hlt
        obtain rfl := Option.some.inj hae
        have c0 := hx k hlt
        have HSu := Lib.hid (sumR_succ (fun i => (bs.getD i false).toNat) k)
        clear hx
        generalize hS : sumR (fun i => (bs.getD i false).toNat) k = S at *
        have HSe := Lib.hid hS
        clear hS
        rcases Bool.eq_false_or_eq_true (bs.getD k false) with e | e
        · have HE : Hid (sumR (fun i => (bs.getD i false).toNat) (k + 1) = S + 1) := by show _ = _; rw [HSu.out, e]; rfl
          rw [e] at c0
          clear e
          go_wp2
          go_round
          case rel => exact ⟨k + 1, by omega, by go_num, by rw [HE.out]; go_num⟩
          case measure => simp [intOf]; omega
        · have HE : Hid (sumR (fun i => (bs.getD i false).toNat) (k + 1) = S) := by show _ = _; rw [HSu.out, e]; rfl
          rw [e] at c0
          clear e
          go_wp2
          go_round
          case rel => exact ⟨k + 1, by omega, by go_num, by rw [HE.out]⟩
          case measure => simp [intOf]; omega
      · obtain rfl : k = n := by omega
        have eO := HOn.out
        rw [← eO]
        clear eO hsk hlt
        go_wp2_with (fail)
        refine (C2.out _ (Chg.refl _ _ _)).mono ?_
        rintro e w2 ⟨m, ma, mc, rfl, hb2, ho2⟩
        have hmlen : m = (mv k X).length * 2 := by have := ho2.1; rw [intCells_len, flatP_len] at this; omega
        have hml := HMl.out
        have hcap : m ≤ mc ∧ mc ≤ 9223372036854775807 := by have := Rd.own ho2; exact ⟨this.2.1, this.2.2.1⟩
        have HO2 := Lib.hid ho2
        have HV2 := Lib.hid (av_own ho2 hM)
        have HB2 := Lib.hid hb2
        have HT2 := Lib.hid (HT.out.mono hb2)
        have HSt2 := HSt.out
        have HMlen := Lib.hid hmlen
        have hm56 : m ≤ 56 := by omega
        clear hb2 ho2 C2 C1 hmlen hml
        go_wp2
        go_loopw [8, 12] (fun vl vi wr => ∃ j i : Nat, i = 2 * j ∧ j ≤ (mv k X).length ∧ vi = .int .i64 i ∧ vl = .int .i64 (minM (fun p => Lst k (md X p.1 p.2)) (ones k X) ((mv k X).take j) : Nat) ∧ Chg M (M + 1) w2 wr ∧ ∃ Dr, TabQ k M wr Dr ∧ GrowL k X D0 Dr ((mv k X).take j)) (fun _ vi _ => m - (intOf vi).toNat)
        case atStart => exact ⟨0, 0, rfl, by omega, rfl, rfl, Chg.refl _ _ _, D0, HT2.out, GrowL.init _ _ _⟩
        case round =>
          obtain ⟨j, i, hij, hj, rfl, rfl, hchg, Dr, htab, hgr⟩ := hrel
          have HGr := Lib.hid hgr
          have HC := Lib.hid hchg
          have HTr := Lib.hid htab
          have hmb := minM_bd (fun p => Lst k (md X p.1 p.2)) (ones k X) ((mv k X).take j)
          clear hchg htab hgr
          by_cases hjl : j < (mv k X).length
          · have him : i + 1 < m := by have := HMlen.out; omega
            obtain ⟨gm, rfl⟩ : ∃ g, ma = some ⟨g, 0, none⟩ := by
              rcases HO2.out.2 with h2 | ⟨g, cap, cur, e, _⟩
              · omega
              · simp only [Value.slice.injEq] at e
                exact ⟨g, e.1⟩
            have ho := own_av HO2.out HC.out HV2.out
            have him0 : i < m := by omega
            have hi0 : (0 : Int) ≤ (i : Int) + 1 := by omega
            have hi1 : (i : Int) + 1 < (m : Int) := by omega
            have hwr : IntKind.i64.wrap ((i : Int) + 1) = (i : Int) + 1 := IntWalk.i64_in _ (by omega)
            have z0 := own_getI ho i him0
            have z1 := own_getI ho (i + 1) him
            obtain ⟨f0, f1⟩ := flatP_get (mv k X) j hjl
            rw [hij, f0] at z0
            rw [hij, f1] at z1
            rw [← hij] at z0 z1
            have HIJ := Lib.hid hij
            clear hij hj
            have hgm : gm ≠ M := HV2.out _ rfl
            have HPm : Hid ((mv k X).getD j (0, 0) ∈ mv k X) := getD_mem hjl
            have HMt := Lib.hid (minM_take (fun p => Lst k (md X p.1 p.2)) (ones k X) (mv k X) j hjl)
            have HW : Hid (Chg M (M + 1) w wr) := (Chg.below HB2.out).trans HC.out
            have hLb := ones_le k (md X ((mv k X).getD j (0, 0)).1 ((mv k X).getD j (0, 0)).2)
            have hLb2 := Lst_le k (md X ((mv k X).getD j (0, 0)).1 ((mv k X).getD j (0, 0)).2)
            have CA := Lib.hid (CJ.out _ HPm.out wr.drew (HW.out.drewN 1))
            have CB := Lib.hid (fun (g c' : Nat) W hrow hg hT => CR.out _ HPm.out g c' W hrow hg Dr hT)
            have HGs := Lib.hid (fun (p : Nat × Nat) (q : (mv k X).getD j (0, 0) = p) D2 hg => HGr.out.step (D2 := D2) hjl q hg)
            rw [HBN.out _ HPm.out] at CB
            have hwM : M < wr.heap.size := HTr.out.lt
            clear ho f0 f1
            generalize minM (fun p => Lst k (md X p.1 p.2)) (ones k X) ((mv k X).take j) = S at *
            rcases hpp : (mv k X).getD j (0, 0) with ⟨pf, pt⟩
            rw [hpp] at z0 z1 hLb hLb2 CA CB
            dsimp only at z0 z1 hLb hLb2 CA CB
            have HPp := Lib.hid hpp
            clear hpp
            generalize hV : Lst k (md X pf pt) = V at *
            have HV := Lib.hid hV
            clear hV
            go_wp2
            go_region_held3 (fun W => W.cell? ⟨gm, i, none⟩ = some (.int .i64 pf) ∧ W.cell? ⟨gm, i + 1, none⟩ = some (.int .i64 pt)) (first | exact ⟨z0, z1⟩ | go_keep)
              (first
                | (go_at_call 15; refine CA.out.mono ?_; rintro e w3 ⟨g3, c3, rfl, hb3, ho3⟩; have z0 := cell_on hb3 z0; have z1 := cell_on hb3 z1; have hg3 : g3 ≠ M := by have := (ho3.lt g3 rfl).1; have e : wr.drew.heap.size = wr.heap.size := rfl; omega)
                | (go_at_call 14; refine (CB.out g3 c3 _ (Rd.own ho3) hg3 ((HTr.out.mono ((Below.refl _ _).drew)).mono hb3)).mono ?_; rintro e w4 ⟨rfl, hc4, D4, ht4, hg4⟩; have z0 := hc4.cellNe z0 hgm; have z1 := hc4.cellNe z1 hgm))
            have HC4 : Hid (Chg M (M + 1) w2 w4) := HC.out.trans (((Chg.refl _ _ wr).drewN 1).trans ((Chg.below hb3).trans hc4))
            have HT4 := Lib.hid ht4
            have HG4 := Lib.hid (HGs.out _ HPp.out D4 hg4)
            clear hc4 ht4 hg4 hb3 ho3 z0 z1 CA CB hwr
            go_wp2
            go_roundw
            case rel =>
              refine ⟨j + 1, i + 2, by have := HIJ.out; omega, by omega, by go_num, ?_, HC4.out, D4, HT4.out, HG4.out⟩
              rw [HMt.out, HPp.out]
              dsimp only
              rw [HV.out]
              go_num
            case measure => simp [intOf]; omega
          · obtain rfl : j = (mv k X).length := by omega
            have e0 : (mv k X).take (mv k X).length = mv k X := List.take_of_length_le (Nat.le_refl _)
            have hG0 := HGr.out
            rw [e0] at hG0
            rw [e0, ← HSt2]
            clear HSt2
            have him : i = m := by have := HMlen.out; omega
            subst him
            have HW : Hid (Chg M (M + 1) w wr) := (Chg.below HB2.out).trans HC.out
            obtain ⟨kd, hd1, hd2, hkd⟩ := HTr.out.tight
            have HGd := Lib.hid (hG0.done hd2.1 hh (.lit (.int .i64 (Lst k X : Nat))))
            have HD' := Lib.hid (hd2.put hX)
            have hkm : kd < maxLen := by unfold maxLen; omega
            have hwf : (Lit.int .i64 (Lst k X : Nat)).wf = true := wfN (by omega)
            have hcapi := hcap
            clear hij hj hd2 hjl e0 hm56 hG0
            go_wp2_with (first | (at_mapUpdate; refine wpList_mapUpdate_own _ rfl _ _ _ 37 rfl 3 2 keyedInt Try.underlying37 _ M kd Dr rfl hd1 hkm _ _ _ rfl rfl (keyN hX) _ [] (plainElem_int Try.underlying2 hwf) ?_; intro w5 hown5 hg5))
            have HW5 : Hid (Chg M (M + 1) w w5) := HW.out.trans ⟨hg5.os, hg5.tape, hg5.output, hg5.size, fun j hj hr => hg5.block j hj (by intro e; have := Option.some_inj.1 e; omega)⟩
            have HT5 : Hid (TabQ k M w5 (Dr.put (.int .i64 X) (.lit (.int .i64 (Lst k X : Nat))))) := ⟨⟨_, hown5⟩, HD'.out⟩
            clear hown5 hg5 hd1
            go_wp2
            go_ret
            exact ⟨rfl, HW5.out, _, HT5.out, HGd.out⟩

end Go.Proofs.Ytdnhhkbijamadaa
