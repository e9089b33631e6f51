/- Reading tests: the reference's ReadTests. -/
import Derived.Test.YtmijfieiebnbfaaDoorRtC
namespace Go.Proofs.YtmijfieiebnbfaaDoor
open Go.RowKit
set_option linter.unusedVariables false
set_option linter.unusedSimpArgs false

theorem ofL_ext2 (l : List UInt8) (a b : Nat) : (ofL l).extract a b = ofL ((l.take b).drop a) := by rw [← ofL_data ((ofL l).extract a b), ext_data, ofL_toList]
theorem take_drop4 (l : List UInt8) (at' : Nat) : (l.take (at' + 4)).drop at' = (l.drop at').take 4 := by rw [List.drop_take]; congr 1; omega
theorem fIdx_lt (m : List UInt8) : fIdx m < 3 ∧ -1 ≤ fIdx m := by unfold fIdx; split; omega; split; omega; split <;> omega
theorem sIdx_lt (b : UInt8) : sIdx b < 3 ∧ -1 ≤ sIdx b := by unfold sIdx; split; omega; split; omega; split <;> omega
theorem fIdx_iff (m : List UInt8) (f : Nat) (h : f < 3) : m = fldL (f : Int) ↔ fIdx m = f :=
  ⟨fun e => by rw [e]; exact fIdx_fld f h, fun e => by have := fIdx_inv (l := m) (by omega); rw [e] at this; exact this.symm⟩
theorem sIdx_iff (b : UInt8) (f : Nat) (h : f < 3) : b = (sgnL (f : Int)).getD 0 0 ↔ sIdx b = f :=
  ⟨fun e => by rw [e]; exact sIdx_sgn f h, fun e => by have := sIdx_inv (b := b) (by omega); rw [e] at this; rw [this]; rfl⟩
/-- as much as is known behind f looks -/
def upF (x : Int) (f : Nat) : Int := if x < f then x else -1
theorem upF_zero (x : Int) (h : -1 ≤ x) : upF x 0 = -1 := by unfold upF; split <;> omega
theorem upF_full (x : Int) (h : x < 3) : upF x 3 = x := by unfold upF; rw [if_pos (by omega)]
theorem upF_hit (x : Int) (f : Nat) (h : x = f) : upF x (f + 1) = f := by unfold upF; rw [if_pos (by omega)]; exact h
theorem upF_miss (x : Int) (f : Nat) (h : x ≠ f) : upF x (f + 1) = upF x f := by
  unfold upF
  by_cases q : x < f
  · rw [if_pos q, if_pos (by omega)]
  · rw [if_neg q, if_neg (by omega)]
theorem sgn_at (f : Nat) (h : f < 3) (h2 : f < (⟨#[61, 60, 62]⟩ : ByteArray).size) : (⟨#[61, 60, 62]⟩ : ByteArray)[f]'h2 = (sgnL (f : Int)).getD 0 0 := by
  match f, h with
  | 0, _ => rfl
  | 1, _ => rfl
  | 2, _ => rfl
structure TsC (W : World) (tb : Nat) (F S N : Int) : Prop where
  c0 : W.cell? ⟨tb, 0, none⟩ = some (.int .i64 F)
  c1 : W.cell? ⟨tb, 1, none⟩ = some (.int .i64 S)
  c2 : W.cell? ⟨tb, 2, none⟩ = some (.int .i64 N)
  fr : ∀ j, W.frozen? ⟨tb, j, none⟩ = false
theorem TsC.set0 {W : World} {tb : Nat} {F S N : Int} (h : TsC W tb F S N) (v : Int) : TsC (W.setCell ⟨tb, 0, none⟩ (.int .i64 v)) tb v S N := by
  obtain ⟨h0, h1, h2, hf⟩ := h
  exact ⟨World.cell?_setCell_same _ _ _ h0, by rw [World.cell?_setCell_other _ _ _ _ (by simp)]; exact h1, by rw [World.cell?_setCell_other _ _ _ _ (by simp)]; exact h2, fun j => by rw [World.frozen?_setCell]; exact hf j⟩
theorem TsC.set1 {W : World} {tb : Nat} {F S N : Int} (h : TsC W tb F S N) (v : Int) : TsC (W.setCell ⟨tb, 1, none⟩ (.int .i64 v)) tb F v N := by
  obtain ⟨h0, h1, h2, hf⟩ := h
  exact ⟨by rw [World.cell?_setCell_other _ _ _ _ (by simp)]; exact h0, World.cell?_setCell_same _ _ _ h1, by rw [World.cell?_setCell_other _ _ _ _ (by simp)]; exact h2, fun j => by rw [World.frozen?_setCell]; exact hf j⟩
theorem TsC.set2 {W : World} {tb : Nat} {F S N : Int} (h : TsC W tb F S N) (v : Int) : TsC (W.setCell ⟨tb, 2, none⟩ (.int .i64 v)) tb F S v := by
  obtain ⟨h0, h1, h2, hf⟩ := h
  exact ⟨by rw [World.cell?_setCell_other _ _ _ _ (by simp)]; exact h0, by rw [World.cell?_setCell_other _ _ _ _ (by simp)]; exact h1, World.cell?_setCell_same _ _ _ h2, fun j => by rw [World.frozen?_setCell]; exact hf j⟩
theorem TsC.drew {W : World} {tb : Nat} {F S N : Int} (h : TsC W tb F S N) : TsC W.drew tb F S N := ⟨h.c0, h.c1, h.c2, h.fr⟩
theorem TsC.new (W : World) (F S N : Int) : TsC (W.alloc (.cells #[.int .i64 F, .int .i64 S, .int .i64 N] 38)) W.heap.size F S N := ⟨by go_simp, by go_simp, by go_simp, fun j => by go_simp⟩
theorem spR_succ (k : Nat) (l : List UInt8) : spR (k + 1) l = if fsF l < 0 ∨ fsS l < 0 then none else
      match (l.drop 5).drop (dgs 2 (l.drop 5) 0).2 with
      | [] => some [(fsF l, fsS l, (dgs 2 (l.drop 5) 0).1)]
      | b :: r => if b = 38 then (spR k r).map ((fsF l, fsS l, (dgs 2 (l.drop 5) 0).1) :: ·) else none := rfl
theorem sp_none {l m : List UInt8} {k : Nat} {gs : List T3} (h : spR 6 l = (spR (k + 1) m).map (gs ++ ·)) (hx : fsF m < 0 ∨ fsS m < 0) : ∀ gs', ¬ RdOk l gs' := fun gs' hr => by
  have q := rd_sp hr
  rw [h, spR_succ k m, if_pos hx] at q
  cases q
theorem dgs_two (l : List UInt8) (a : Int) : dgs 0 l a = (a, 0) := rfl
theorem dgs_nil (k : Nat) (a : Int) : dgs k [] a = (a, 0) := by cases k <;> rfl
theorem dgs_yes (k : Nat) (b : UInt8) (r : List UInt8) (a : Int) (h : isDg b = true) : dgs (k + 1) (b :: r) a = ((dgs k r (10 * a + ((b.toNat : Int) - 48))).1, (dgs k r (10 * a + ((b.toNat : Int) - 48))).2 + 1) := if_pos h
theorem dgs_no (k : Nat) (b : UInt8) (r : List UInt8) (a : Int) (h : isDg b = false) : dgs k (b :: r) a = (a, 0) := by
  cases k with
  | zero => rfl
  | succ k => exact if_neg (by rw [h]; exact Bool.false_ne_true)
/-- one test more is read -/
theorem sp_step {l m : List UInt8} {k : Nat} {gs : List T3} {F S N : Int} {d : Nat} (h : spR 6 l = (spR (k + 1) m).map (gs ++ ·)) (hF : fsF m = F) (hS : fsS m = S) (hn : ¬ (F < 0 ∨ S < 0)) (hd : dgs 2 (m.drop 5) 0 = (N, d)) :
    ((m.drop 5).drop d = [] → spR 6 l = some (gs ++ [(F, S, N)])) ∧ ∀ b r, (m.drop 5).drop d = b :: r → (b = 38 → spR 6 l = (spR k r).map ((gs ++ [(F, S, N)]) ++ ·)) ∧ (b ≠ 38 → spR 6 l = none) := by
  rw [spR_succ k m, hF, hS, if_neg hn, hd] at h
  dsimp only at h
  refine ⟨fun e => ?_, fun b r e => ⟨fun hb => ?_, fun hb => ?_⟩⟩
  · rw [e] at h; exact h
  · rw [e] at h
    dsimp only at h
    rw [if_pos hb] at h
    rw [h, Option.map_map]
    congr 1
    funext x
    simp
  · rw [e] at h
    dsimp only at h
    rw [if_neg hb] at h
    exact h
theorem drop_cons {l : List UInt8} {i : Nat} (h : i < l.length) : l.drop i = l.getD i 0 :: l.drop (i + 1) := by
  rw [List.drop_eq_getElem_cons h]
  congr 1
  simp [h]

set_option maxHeartbeats 6400000 in
set_option maxRecDepth 100000 in
theorem specReadTests_any (l : List UInt8) (w : World) (hl : l.length ≤ 1048576) :
    Calls Tryd.prog 11 #[.string (ofL l)] w (RtPost l w) := by
  have hs := ofL_sz l
  obtain ⟨i0, hii, hz0, hz1, hz2⟩ := info_parts infoTest
  have hbS : Below w.heap.size w (w.alloc (.cells #[] 38)) := (Below.refl _ _).alloc (Nat.le_refl _) _
  have hO : (w.alloc (.cells #[] 38)).ownsRow w.heap.size 38 3 (.slice (some ⟨w.heap.size, 0, none⟩) 0 0) 0 (tripCells []) := World.ownsRow_made (e := 38) (size := 3) (base := w.heap.size) w #[] 0 (Nat.le_refl _) (Nat.zero_le _) (by simp [tripCells])
  have HBS := Lib.hid hbS
  have HO0 := Lib.hid hO
  have HGet : Hid (∀ i (h : i < (ofL l).size), (ofL l)[i]'h = l.getD i 0) := fun i h => by
    have h4 : i < l.length := by omega
    rw [List.getD_eq_getElem?_getD, List.getElem?_eq_getElem h4]
    rfl
  have HExt : Hid (∀ i : Nat, (ofL l).extract i (i + 4) = ofL ((l.drop i).take 4)) := fun i => by rw [ofL_ext2, take_drop4]
  have HSp0 : Hid (spR 6 l = (spR 6 (l.drop 0)).map (([] : List T3) ++ ·)) := by show _ = _; simp
  clear hbS hO
  generalize hsx : ofL l = sx at HGet HExt hs ⊢
  have HSX := Lib.hid hsx
  clear hsx
  go_enter Tryd.func11, Tryd.ntmps11
  go_wp2
  go_loopw [4, 5] (fun vo va wr => ∃ (k g c at' : Nat) (gs : List T3), k ≤ 6 ∧ at' ≤ l.length ∧ va = .int .i64 at' ∧ vo = .slice (some ⟨g, 0, none⟩) k c ∧ Below w.heap.size w wr ∧ wr.ownsRow w.heap.size 38 3 (.slice (some ⟨g, 0, none⟩) k c) k (tripCells gs) ∧ Hid (spR 6 l = (spR (6 - k) (l.drop at')).map (gs ++ ·))) (fun vo _ _ => 6 - lenV vo)
  case atStart => exact ⟨0, w.heap.size, 0, 0, [], by omega, by omega, rfl, rfl, HBS.out, HO0.out, HSp0.out⟩
  case round =>
    obtain ⟨k, g, c, at', gs, hk6, hal, rfl, rfl, hb, ho, HSq⟩ := hrel
    generalize wr = wo at *
    have HB := Lib.hid hb
    have HO := Lib.hid ho
    have hszr := hb.size
    clear hb ho HBS HO0 HSp0
    by_cases hk : k < 6
    · have HSk : Hid (spR 6 l = (spR ((5 - k) + 1) (l.drop at')).map (gs ++ ·)) := by
        have e : 6 - k = (5 - k) + 1 := by omega
        show _ = _
        rw [HSq.out, e]
      clear HSq
      have hkI : (k : Int) < 6 := by omega
      have hkd : decide ((k : Int) < 6) = true := decide_eq_true hkI
      have hbT : Below wo.heap.size wo (wo.alloc (.cells #[.int .i64 (-1), .int .i64 (-1), .int .i64 0] 38)) := (Below.refl _ _).alloc (Nat.le_refl _) _
      have HT0 : Hid (TsC (wo.alloc (.cells #[.int .i64 (-1), .int .i64 (-1), .int .i64 0] 38)) wo.heap.size (-1) (-1) 0) := TsC.new wo (-1) (-1) 0
      have HBT := Lib.hid hbT
      have hzT : (wo.alloc (.cells #[.int .i64 (-1), .int .i64 (-1), .int .i64 0] 38)).heap.size = wo.heap.size + 1 := by simp
      clear hbT
      by_cases hm : at' + 5 < l.length
      case neg =>
        have HR : Hid (∀ gs', ¬ RdOk l gs') := sp_none HSk.out (.inl (by unfold fsF; rw [if_neg (by rw [List.length_drop]; omega)]; decide))
        have hw1 : IntKind.i64.wrap ((at' : Int) + 5) = (at' : Int) + 5 := IntWalk.i64_in _ (by omega)
        have hnm : ¬ (at' : Int) + 5 < ((l.length : Nat) : Int) := by omega
        go_wp2
        generalize wo.alloc (.cells #[.int .i64 (-1), .int .i64 (-1), .int .i64 0] 38) = w2 at *
        go_loopw [7] (fun vf w3 => vf = .int .i64 0 ∧ w3 = w2) (fun _ _ => 0)
        case atStart => exact ⟨rfl, rfl⟩
        case round =>
          obtain ⟨rfl, rfl⟩ := hrel
          have t0 := HT0.out.c0
          have t1 := HT0.out.c1
          go_wp2
          refine bodyPost_ret (v := .tuple #[.slice none 0 0, .bool false]) (by simp [results, Tryd.results11, go_sem]) rfl (rtPost_no (HB.out.trans (HBT.out.mono hszr)) HR.out)
      case pos =>
        have hm1 : (at' : Int) + 5 < ((l.length : Nat) : Int) := by omega
        have hw1 : IntKind.i64.wrap ((at' : Int) + 5) = (at' : Int) + 5 := IntWalk.i64_in _ (by omega)
        have hw4 : IntKind.i64.wrap ((at' : Int) + 4) = (at' : Int) + 4 := IntWalk.i64_in _ (by omega)
        have hx0 : (0 : Int) ≤ (at' : Int) := by omega
        have hx1 : (at' : Int) ≤ (at' : Int) + 4 := by omega
        have hx2 : (at' : Int) + 4 ≤ ((l.length : Nat) : Int) := by omega
        have hx3 : (at' : Int) + 4 < ((l.length : Nat) : Int) := by omega
        have hx5 : ((at' : Int) + 4).toNat = at' + 4 := by omega
        have hx6 : (0 : Int) ≤ (at' : Int) + 4 := by omega
        have hFm : fsF (l.drop at') = fIdx ((l.drop at').take 4) := if_pos (by rw [List.length_drop]; omega)
        have hSm : fsS (l.drop at') = sIdx (l.getD (at' + 4) 0) := by
          unfold fsS
          rw [if_pos (by rw [List.length_drop]; omega)]
          congr 1
          simp [List.getElem?_drop]
        have hx4 := HExt.out at'
        have hg4 := HGet.out (at' + 4)
        have CF := Lib.hid l07Field_any
        generalize (l.drop at').take 4 = m4 at *
        generalize l.getD (at' + 4) 0 = b4 at *
        have HFm := Lib.hid hFm
        have HSm := Lib.hid hSm
        clear hFm hSm
        go_wp2
        generalize wo.alloc (.cells #[.int .i64 (-1), .int .i64 (-1), .int .i64 0] 38) = w2 at *
        go_loopw [7] (fun vf w3 => ∃ f : Nat, f ≤ 3 ∧ vf = .int .i64 f ∧ TsC w3 wo.heap.size (upF (fIdx m4) f) (upF (sIdx b4) f) 0 ∧ Below wo.heap.size wo w3) (fun vf _ => 3 - (intOf vf).toNat)
        case atStart => exact ⟨0, by omega, rfl, by rw [upF_zero _ (fIdx_lt m4).2, upF_zero _ (sIdx_lt b4).2]; exact HT0.out, HBT.out⟩
        case round =>
          obtain ⟨f, hf, rfl, hT, hB0⟩ := hrel
          have HT3 := Lib.hid hT
          have HB3 := Lib.hid hB0
          clear hT hB0 HT0 HBT
          by_cases hf3 : f < 3
          · have hfi : (f : Int) < 3 := by omega
            have hwf : IntKind.i64.wrap ((f : Int) + 1) = ((f + 1 : Nat) : Int) := by rw [IntWalk.i64_in _ (by omega)]; omega
            have hsg := sgn_at f hf3
            generalize hsb : (sgnL (f : Int)).getD 0 0 = sb at *
            have HSb := Lib.hid hsb
            clear hsb
            by_cases e1 : m4 = fldL (f : Int)
            · by_cases e2 : b4 = sb
              · skip
                have hme : ((ofL m4).toList == (ofL (fldL (f : Int))).toList) = true := by rw [strEq]; exact decide_eq_true (by rw [e1])
                have hbe : (((b4.toNat : Nat) : Int) == ((sb.toNat : Nat) : Int)) = true := by rw [e2]; simp
                have hbe2 : ((b4.toNat : Nat) : Int) = ((sb.toNat : Nat) : Int) := by rw [e2]
                have HX1 : Hid (upF (fIdx m4) (f + 1) = (f : Int)) := upF_hit _ _ ((fIdx_iff m4 f hf3).1 e1)
                have HY1 : Hid (upF (sIdx b4) (f + 1) = (f : Int)) := upF_hit _ _ ((sIdx_iff b4 f hf3).1 (e2.trans HSb.out.symm))
                have C9 := Lib.hid (fun W => CF.out (f : Int) W)
                clear e1 e2
                generalize upF (fIdx m4) f = Fv at *
                generalize upF (sIdx b4) f = Sv at *
                generalize ofL (fldL (f : Int)) = sf at *
                generalize ofL m4 = s4 at *
                go_wp2
                have hB3 := HB3.out.drew
                have hT3 := HT3.out.drew
                refine wp_region_held_drew (S := fun _ => True) (by kernel_rfl) trivial (fun _ => ?_)
                generalize wr.drew = w4 at *
                refine wpAnyH_take (i := 0) (v := ?_) rfl (by kernel_rfl) (by kernel_rfl) (by kernel_rfl) (fun _ _ _ h => h) (Or.inl ⟨by rfl, ?_⟩) trivial ?_
                rotate_left 1
                · intro w hSw; go_simp; try with_reducible rfl
                try simp only [Act.put, List.setIfInBounds_toArray, List.set_cons_zero, List.set_cons_succ]
                refine wpAnyH_take (i := 1) (v := ?_) rfl (by kernel_rfl) (by kernel_rfl) (by kernel_rfl) (fun _ _ _ h => h) (Or.inl ⟨by rfl, ?_⟩) trivial ?_
                rotate_left 1
                · intro w hSw; go_simp; try with_reducible rfl
                try simp only [Act.put, List.setIfInBounds_toArray, List.set_cons_zero, List.set_cons_succ]
                refine wpAnyH_take (i := 2) (v := ?_) rfl (by kernel_rfl) (by kernel_rfl) (by kernel_rfl) (fun _ _ _ h => h) (Or.inl ⟨by rfl, ?_⟩) trivial ?_
                rotate_left 1
                · intro w hSw; go_simp; try with_reducible rfl
                try simp only [Act.put, List.setIfInBounds_toArray, List.set_cons_zero, List.set_cons_succ]
                refine wpAnyH_take (i := 3) (v := ?_) rfl (by kernel_rfl) (by kernel_rfl) (by kernel_rfl) (fun _ _ _ h => h) (Or.inl ⟨by rfl, ?_⟩) trivial ?_
                rotate_left 1
                · intro w hSw; go_simp; try with_reducible rfl
                try simp only [Act.put, List.setIfInBounds_toArray, List.set_cons_zero, List.set_cons_succ]
                refine wpAnyH_take (i := 4) (v := ?_) rfl (by kernel_rfl) (by kernel_rfl) (by kernel_rfl) (fun _ _ _ h => h) (Or.inl ⟨by rfl, ?_⟩) trivial ?_
                rotate_left 1
                · intro w hSw; go_simp; try with_reducible rfl
                try simp only [Act.put, List.setIfInBounds_toArray, List.set_cons_zero, List.set_cons_succ]
                refine wpAnyH_take (i := 5) (v := ?_) rfl (by kernel_rfl) (by kernel_rfl) (by kernel_rfl) (fun _ _ _ h => h) (Or.inl ⟨by rfl, ?_⟩) trivial ?_
                rotate_left 1
                · intro w hSw; go_simp; try with_reducible rfl
                try simp only [Act.put, List.setIfInBounds_toArray, List.set_cons_zero, List.set_cons_succ]
                refine wpAnyH_ready (rs := [6]) (by kernel_rfl) (by simp) ?_
                refine AllReadyH.cons rfl (fun K hK => ?_) ?_
                · skip
                  go_simp
                  go_at_call 30
                  refine (C9.out _).mono ?_
                  rintro e w9 ⟨rfl, rfl⟩
                  refine hK.out _ _ trivial (fun _ => ?_)
                  clear hK K
                  try simp only [Act.put, List.setIfInBounds_toArray, List.set_cons_zero, List.set_cons_succ]
                  refine wpAnyH_ready (rs := [7]) (by kernel_rfl) (by simp) ?_
                  refine AllReadyH.cons rfl (fun K hK => ?_) ?_
                  · skip
                    go_simp
                    refine hK.out _ _ trivial (fun _ => ?_)
                    clear hK K
                    try simp only [Act.put, List.setIfInBounds_toArray, List.set_cons_zero, List.set_cons_succ]
                    refine wpAnyH_done (by kernel_rfl) ?_ _
                    have t0 := hT3.c0
                    have tf := hT3.fr
                    go_wp2
                    have hT4 := hT3.set0 (f : Int)
                    have hB4 := hB3.setCell (p := ⟨wo.heap.size, 0, none⟩) (Nat.le_refl _) (.int .i64 (f : Int))
                    clear t0 tf hT3 hB3
                    generalize w4.setCell ⟨wo.heap.size, 0, none⟩ (.int .i64 (f : Int)) = w5 at *
                    have hT4 := hT4.drew
                    have hB4 := hB4.drew
                    refine wp_region_held_drew (S := fun _ => True) (by kernel_rfl) trivial (fun _ => ?_)
                    generalize w5.drew = w6 at *
                    refine wpAnyH_take (i := 0) (v := ?_) rfl (by kernel_rfl) (by kernel_rfl) (by kernel_rfl) (fun _ _ _ h => h) (Or.inl ⟨by rfl, ?_⟩) trivial ?_
                    rotate_left 1
                    · intro w hSw; go_simp; try with_reducible rfl
                    try simp only [Act.put, List.setIfInBounds_toArray, List.set_cons_zero, List.set_cons_succ]
                    refine wpAnyH_take (i := 1) (v := ?_) rfl (by kernel_rfl) (by kernel_rfl) (by kernel_rfl) (fun _ _ _ h => h) (Or.inl ⟨by rfl, ?_⟩) trivial ?_
                    rotate_left 1
                    · intro w hSw; go_simp; try with_reducible rfl
                    try simp only [Act.put, List.setIfInBounds_toArray, List.set_cons_zero, List.set_cons_succ]
                    refine wpAnyH_take (i := 2) (v := ?_) rfl (by kernel_rfl) (by kernel_rfl) (by kernel_rfl) (fun _ _ _ h => h) (Or.inl ⟨by rfl, ?_⟩) trivial ?_
                    rotate_left 1
                    · intro w hSw; go_simp; try with_reducible rfl
                    try simp only [Act.put, List.setIfInBounds_toArray, List.set_cons_zero, List.set_cons_succ]
                    refine wpAnyH_take (i := 3) (v := ?_) rfl (by kernel_rfl) (by kernel_rfl) (by kernel_rfl) (fun _ _ _ h => h) (Or.inl ⟨by rfl, ?_⟩) trivial ?_
                    rotate_left 1
                    · intro w hSw; go_simp; try with_reducible rfl
                    try simp only [Act.put, List.setIfInBounds_toArray, List.set_cons_zero, List.set_cons_succ]
                    refine wpAnyH_take (i := 4) (v := ?_) rfl (by kernel_rfl) (by kernel_rfl) (by kernel_rfl) (fun _ _ _ h => h) (Or.inl ⟨by rfl, ?_⟩) trivial ?_
                    rotate_left 1
                    · intro w hSw; go_simp; try with_reducible rfl
                    try simp only [Act.put, List.setIfInBounds_toArray, List.set_cons_zero, List.set_cons_succ]
                    refine wpAnyH_take (i := 5) (v := ?_) rfl (by kernel_rfl) (by kernel_rfl) (by kernel_rfl) (fun _ _ _ h => h) (Or.inl ⟨by rfl, ?_⟩) trivial ?_
                    rotate_left 1
                    · intro w hSw; go_simp; try with_reducible rfl
                    try simp only [Act.put, List.setIfInBounds_toArray, List.set_cons_zero, List.set_cons_succ]
                    refine wpAnyH_ready (rs := [6]) (by kernel_rfl) (by simp) ?_
                    refine AllReadyH.cons rfl (fun K hK => ?_) ?_
                    · skip
                      go_simp
                      refine hK.out _ _ trivial (fun _ => ?_)
                      clear hK K
                      try simp only [Act.put, List.setIfInBounds_toArray, List.set_cons_zero, List.set_cons_succ]
                      refine wpAnyH_done (by kernel_rfl) ?_ _
                      have t1 := hT4.c1
                      have tf := hT4.fr
                      go_wp2
                      have hT6 := hT4.set1 (f : Int)
                      have hB6 := hB4.setCell (p := ⟨wo.heap.size, 1, none⟩) (Nat.le_refl _) (.int .i64 (f : Int))
                      clear t1 tf
                      go_roundw
                      case rel => exact ⟨f + 1, by omega, by go_num, by rw [HX1.out, HY1.out]; exact hT6, hB6⟩
                      case measure => simp [intOf]; omega
                    exact AllReadyH.nil
                  exact AllReadyH.nil
                exact AllReadyH.nil
              · skip
                have hme : ((ofL m4).toList == (ofL (fldL (f : Int))).toList) = true := by rw [strEq]; exact decide_eq_true (by rw [e1])
                have hbe2 : ¬ ((b4.toNat : Nat) : Int) = ((sb.toNat : Nat) : Int) := fun q => e2 (UInt8.toNat_inj.1 (by omega))
                have hbe : (((b4.toNat : Nat) : Int) == ((sb.toNat : Nat) : Int)) = false := by simpa using hbe2
                have HX1 : Hid (upF (fIdx m4) (f + 1) = (f : Int)) := upF_hit _ _ ((fIdx_iff m4 f hf3).1 e1)
                have HY1 : Hid (upF (sIdx b4) (f + 1) = upF (sIdx b4) f) := upF_miss _ _ (fun q => e2 (((sIdx_iff b4 f hf3).2 q).trans HSb.out))
                have C9 := Lib.hid (fun W => CF.out (f : Int) W)
                clear e1 e2
                generalize upF (fIdx m4) f = Fv at *
                generalize upF (sIdx b4) f = Sv at *
                generalize ofL (fldL (f : Int)) = sf at *
                generalize ofL m4 = s4 at *
                go_wp2
                have hB3 := HB3.out.drew
                have hT3 := HT3.out.drew
                refine wp_region_held_drew (S := fun _ => True) (by kernel_rfl) trivial (fun _ => ?_)
                generalize wr.drew = w4 at *
                refine wpAnyH_take (i := 0) (v := ?_) rfl (by kernel_rfl) (by kernel_rfl) (by kernel_rfl) (fun _ _ _ h => h) (Or.inl ⟨by rfl, ?_⟩) trivial ?_
                rotate_left 1
                · intro w hSw; go_simp; try with_reducible rfl
                try simp only [Act.put, List.setIfInBounds_toArray, List.set_cons_zero, List.set_cons_succ]
                refine wpAnyH_take (i := 1) (v := ?_) rfl (by kernel_rfl) (by kernel_rfl) (by kernel_rfl) (fun _ _ _ h => h) (Or.inl ⟨by rfl, ?_⟩) trivial ?_
                rotate_left 1
                · intro w hSw; go_simp; try with_reducible rfl
                try simp only [Act.put, List.setIfInBounds_toArray, List.set_cons_zero, List.set_cons_succ]
                refine wpAnyH_take (i := 2) (v := ?_) rfl (by kernel_rfl) (by kernel_rfl) (by kernel_rfl) (fun _ _ _ h => h) (Or.inl ⟨by rfl, ?_⟩) trivial ?_
                rotate_left 1
                · intro w hSw; go_simp; try with_reducible rfl
                try simp only [Act.put, List.setIfInBounds_toArray, List.set_cons_zero, List.set_cons_succ]
                refine wpAnyH_take (i := 3) (v := ?_) rfl (by kernel_rfl) (by kernel_rfl) (by kernel_rfl) (fun _ _ _ h => h) (Or.inl ⟨by rfl, ?_⟩) trivial ?_
                rotate_left 1
                · intro w hSw; go_simp; try with_reducible rfl
                try simp only [Act.put, List.setIfInBounds_toArray, List.set_cons_zero, List.set_cons_succ]
                refine wpAnyH_take (i := 4) (v := ?_) rfl (by kernel_rfl) (by kernel_rfl) (by kernel_rfl) (fun _ _ _ h => h) (Or.inl ⟨by rfl, ?_⟩) trivial ?_
                rotate_left 1
                · intro w hSw; go_simp; try with_reducible rfl
                try simp only [Act.put, List.setIfInBounds_toArray, List.set_cons_zero, List.set_cons_succ]
                refine wpAnyH_take (i := 5) (v := ?_) rfl (by kernel_rfl) (by kernel_rfl) (by kernel_rfl) (fun _ _ _ h => h) (Or.inl ⟨by rfl, ?_⟩) trivial ?_
                rotate_left 1
                · intro w hSw; go_simp; try with_reducible rfl
                try simp only [Act.put, List.setIfInBounds_toArray, List.set_cons_zero, List.set_cons_succ]
                refine wpAnyH_ready (rs := [6]) (by kernel_rfl) (by simp) ?_
                refine AllReadyH.cons rfl (fun K hK => ?_) ?_
                · skip
                  go_simp
                  go_at_call 30
                  refine (C9.out _).mono ?_
                  rintro e w9 ⟨rfl, rfl⟩
                  refine hK.out _ _ trivial (fun _ => ?_)
                  clear hK K
                  try simp only [Act.put, List.setIfInBounds_toArray, List.set_cons_zero, List.set_cons_succ]
                  refine wpAnyH_ready (rs := [7]) (by kernel_rfl) (by simp) ?_
                  refine AllReadyH.cons rfl (fun K hK => ?_) ?_
                  · skip
                    go_simp
                    refine hK.out _ _ trivial (fun _ => ?_)
                    clear hK K
                    try simp only [Act.put, List.setIfInBounds_toArray, List.set_cons_zero, List.set_cons_succ]
                    refine wpAnyH_done (by kernel_rfl) ?_ _
                    have t0 := hT3.c0
                    have tf := hT3.fr
                    go_wp2
                    have hT4 := hT3.set0 (f : Int)
                    have hB4 := hB3.setCell (p := ⟨wo.heap.size, 0, none⟩) (Nat.le_refl _) (.int .i64 (f : Int))
                    clear t0 tf hT3 hB3
                    generalize w4.setCell ⟨wo.heap.size, 0, none⟩ (.int .i64 (f : Int)) = w5 at *
                    have hT4 := hT4.drew
                    have hB4 := hB4.drew
                    refine wp_region_held_drew (S := fun _ => True) (by kernel_rfl) trivial (fun _ => ?_)
                    generalize w5.drew = w6 at *
                    refine wpAnyH_take (i := 0) (v := ?_) rfl (by kernel_rfl) (by kernel_rfl) (by kernel_rfl) (fun _ _ _ h => h) (Or.inl ⟨by rfl, ?_⟩) trivial ?_
                    rotate_left 1
                    · intro w hSw; go_simp; try with_reducible rfl
                    try simp only [Act.put, List.setIfInBounds_toArray, List.set_cons_zero, List.set_cons_succ]
                    refine wpAnyH_take (i := 1) (v := ?_) rfl (by kernel_rfl) (by kernel_rfl) (by kernel_rfl) (fun _ _ _ h => h) (Or.inl ⟨by rfl, ?_⟩) trivial ?_
                    rotate_left 1
                    · intro w hSw; go_simp; try with_reducible rfl
                    try simp only [Act.put, List.setIfInBounds_toArray, List.set_cons_zero, List.set_cons_succ]
                    refine wpAnyH_take (i := 2) (v := ?_) rfl (by kernel_rfl) (by kernel_rfl) (by kernel_rfl) (fun _ _ _ h => h) (Or.inl ⟨by rfl, ?_⟩) trivial ?_
                    rotate_left 1
                    · intro w hSw; go_simp; try with_reducible rfl
                    try simp only [Act.put, List.setIfInBounds_toArray, List.set_cons_zero, List.set_cons_succ]
                    refine wpAnyH_take (i := 3) (v := ?_) rfl (by kernel_rfl) (by kernel_rfl) (by kernel_rfl) (fun _ _ _ h => h) (Or.inl ⟨by rfl, ?_⟩) trivial ?_
                    rotate_left 1
                    · intro w hSw; go_simp; try with_reducible rfl
                    try simp only [Act.put, List.setIfInBounds_toArray, List.set_cons_zero, List.set_cons_succ]
                    refine wpAnyH_take (i := 4) (v := ?_) rfl (by kernel_rfl) (by kernel_rfl) (by kernel_rfl) (fun _ _ _ h => h) (Or.inl ⟨by rfl, ?_⟩) trivial ?_
                    rotate_left 1
                    · intro w hSw; go_simp; try with_reducible rfl
                    try simp only [Act.put, List.setIfInBounds_toArray, List.set_cons_zero, List.set_cons_succ]
                    refine wpAnyH_take (i := 5) (v := ?_) rfl (by kernel_rfl) (by kernel_rfl) (by kernel_rfl) (fun _ _ _ h => h) (Or.inl ⟨by rfl, ?_⟩) trivial ?_
                    rotate_left 1
                    · intro w hSw; go_simp; try with_reducible rfl
                    try simp only [Act.put, List.setIfInBounds_toArray, List.set_cons_zero, List.set_cons_succ]
                    refine wpAnyH_ready (rs := [6]) (by kernel_rfl) (by simp) ?_
                    refine AllReadyH.cons rfl (fun K hK => ?_) ?_
                    · skip
                      go_simp
                      refine hK.out _ _ trivial (fun _ => ?_)
                      clear hK K
                      try simp only [Act.put, List.setIfInBounds_toArray, List.set_cons_zero, List.set_cons_succ]
                      refine wpAnyH_done (by kernel_rfl) ?_ _
                      have t1 := hT4.c1
                      have tf := hT4.fr
                      go_wp2
                      have hT6 := hT4
                      have hB6 := hB4
                      clear t1 tf
                      go_roundw
                      case rel => exact ⟨f + 1, by omega, by go_num, by rw [HX1.out, HY1.out]; exact hT6, hB6⟩
                      case measure => simp [intOf]; omega
                    exact AllReadyH.nil
                  exact AllReadyH.nil
                exact AllReadyH.nil
            · by_cases e2 : b4 = sb
              · skip
                have hme : ((ofL m4).toList == (ofL (fldL (f : Int))).toList) = false := by rw [strEq]; exact decide_eq_false (fun q => e1 (ofL_inj q))
                have hbe : (((b4.toNat : Nat) : Int) == ((sb.toNat : Nat) : Int)) = true := by rw [e2]; simp
                have hbe2 : ((b4.toNat : Nat) : Int) = ((sb.toNat : Nat) : Int) := by rw [e2]
                have HX1 : Hid (upF (fIdx m4) (f + 1) = upF (fIdx m4) f) := upF_miss _ _ (fun q => e1 ((fIdx_iff m4 f hf3).2 q))
                have HY1 : Hid (upF (sIdx b4) (f + 1) = (f : Int)) := upF_hit _ _ ((sIdx_iff b4 f hf3).1 (e2.trans HSb.out.symm))
                have C9 := Lib.hid (fun W => CF.out (f : Int) W)
                clear e1 e2
                generalize upF (fIdx m4) f = Fv at *
                generalize upF (sIdx b4) f = Sv at *
                generalize ofL (fldL (f : Int)) = sf at *
                generalize ofL m4 = s4 at *
                go_wp2
                have hB3 := HB3.out.drew
                have hT3 := HT3.out.drew
                refine wp_region_held_drew (S := fun _ => True) (by kernel_rfl) trivial (fun _ => ?_)
                generalize wr.drew = w4 at *
                refine wpAnyH_take (i := 0) (v := ?_) rfl (by kernel_rfl) (by kernel_rfl) (by kernel_rfl) (fun _ _ _ h => h) (Or.inl ⟨by rfl, ?_⟩) trivial ?_
                rotate_left 1
                · intro w hSw; go_simp; try with_reducible rfl
                try simp only [Act.put, List.setIfInBounds_toArray, List.set_cons_zero, List.set_cons_succ]
                refine wpAnyH_take (i := 1) (v := ?_) rfl (by kernel_rfl) (by kernel_rfl) (by kernel_rfl) (fun _ _ _ h => h) (Or.inl ⟨by rfl, ?_⟩) trivial ?_
                rotate_left 1
                · intro w hSw; go_simp; try with_reducible rfl
                try simp only [Act.put, List.setIfInBounds_toArray, List.set_cons_zero, List.set_cons_succ]
                refine wpAnyH_take (i := 2) (v := ?_) rfl (by kernel_rfl) (by kernel_rfl) (by kernel_rfl) (fun _ _ _ h => h) (Or.inl ⟨by rfl, ?_⟩) trivial ?_
                rotate_left 1
                · intro w hSw; go_simp; try with_reducible rfl
                try simp only [Act.put, List.setIfInBounds_toArray, List.set_cons_zero, List.set_cons_succ]
                refine wpAnyH_take (i := 3) (v := ?_) rfl (by kernel_rfl) (by kernel_rfl) (by kernel_rfl) (fun _ _ _ h => h) (Or.inl ⟨by rfl, ?_⟩) trivial ?_
                rotate_left 1
                · intro w hSw; go_simp; try with_reducible rfl
                try simp only [Act.put, List.setIfInBounds_toArray, List.set_cons_zero, List.set_cons_succ]
                refine wpAnyH_take (i := 4) (v := ?_) rfl (by kernel_rfl) (by kernel_rfl) (by kernel_rfl) (fun _ _ _ h => h) (Or.inl ⟨by rfl, ?_⟩) trivial ?_
                rotate_left 1
                · intro w hSw; go_simp; try with_reducible rfl
                try simp only [Act.put, List.setIfInBounds_toArray, List.set_cons_zero, List.set_cons_succ]
                refine wpAnyH_take (i := 5) (v := ?_) rfl (by kernel_rfl) (by kernel_rfl) (by kernel_rfl) (fun _ _ _ h => h) (Or.inl ⟨by rfl, ?_⟩) trivial ?_
                rotate_left 1
                · intro w hSw; go_simp; try with_reducible rfl
                try simp only [Act.put, List.setIfInBounds_toArray, List.set_cons_zero, List.set_cons_succ]
                refine wpAnyH_ready (rs := [6]) (by kernel_rfl) (by simp) ?_
                refine AllReadyH.cons rfl (fun K hK => ?_) ?_
                · skip
                  go_simp
                  go_at_call 30
                  refine (C9.out _).mono ?_
                  rintro e w9 ⟨rfl, rfl⟩
                  refine hK.out _ _ trivial (fun _ => ?_)
                  clear hK K
                  try simp only [Act.put, List.setIfInBounds_toArray, List.set_cons_zero, List.set_cons_succ]
                  refine wpAnyH_ready (rs := [7]) (by kernel_rfl) (by simp) ?_
                  refine AllReadyH.cons rfl (fun K hK => ?_) ?_
                  · skip
                    go_simp
                    refine hK.out _ _ trivial (fun _ => ?_)
                    clear hK K
                    try simp only [Act.put, List.setIfInBounds_toArray, List.set_cons_zero, List.set_cons_succ]
                    refine wpAnyH_done (by kernel_rfl) ?_ _
                    have t0 := hT3.c0
                    have tf := hT3.fr
                    go_wp2
                    have hT4 := hT3
                    have hB4 := hB3
                    clear t0 tf hT3 hB3
                    generalize w4 = w5 at *
                    have hT4 := hT4.drew
                    have hB4 := hB4.drew
                    refine wp_region_held_drew (S := fun _ => True) (by kernel_rfl) trivial (fun _ => ?_)
                    generalize w5.drew = w6 at *
                    refine wpAnyH_take (i := 0) (v := ?_) rfl (by kernel_rfl) (by kernel_rfl) (by kernel_rfl) (fun _ _ _ h => h) (Or.inl ⟨by rfl, ?_⟩) trivial ?_
                    rotate_left 1
                    · intro w hSw; go_simp; try with_reducible rfl
                    try simp only [Act.put, List.setIfInBounds_toArray, List.set_cons_zero, List.set_cons_succ]
                    refine wpAnyH_take (i := 1) (v := ?_) rfl (by kernel_rfl) (by kernel_rfl) (by kernel_rfl) (fun _ _ _ h => h) (Or.inl ⟨by rfl, ?_⟩) trivial ?_
                    rotate_left 1
                    · intro w hSw; go_simp; try with_reducible rfl
                    try simp only [Act.put, List.setIfInBounds_toArray, List.set_cons_zero, List.set_cons_succ]
                    refine wpAnyH_take (i := 2) (v := ?_) rfl (by kernel_rfl) (by kernel_rfl) (by kernel_rfl) (fun _ _ _ h => h) (Or.inl ⟨by rfl, ?_⟩) trivial ?_
                    rotate_left 1
                    · intro w hSw; go_simp; try with_reducible rfl
                    try simp only [Act.put, List.setIfInBounds_toArray, List.set_cons_zero, List.set_cons_succ]
                    refine wpAnyH_take (i := 3) (v := ?_) rfl (by kernel_rfl) (by kernel_rfl) (by kernel_rfl) (fun _ _ _ h => h) (Or.inl ⟨by rfl, ?_⟩) trivial ?_
                    rotate_left 1
                    · intro w hSw; go_simp; try with_reducible rfl
                    try simp only [Act.put, List.setIfInBounds_toArray, List.set_cons_zero, List.set_cons_succ]
                    refine wpAnyH_take (i := 4) (v := ?_) rfl (by kernel_rfl) (by kernel_rfl) (by kernel_rfl) (fun _ _ _ h => h) (Or.inl ⟨by rfl, ?_⟩) trivial ?_
                    rotate_left 1
                    · intro w hSw; go_simp; try with_reducible rfl
                    try simp only [Act.put, List.setIfInBounds_toArray, List.set_cons_zero, List.set_cons_succ]
                    refine wpAnyH_take (i := 5) (v := ?_) rfl (by kernel_rfl) (by kernel_rfl) (by kernel_rfl) (fun _ _ _ h => h) (Or.inl ⟨by rfl, ?_⟩) trivial ?_
                    rotate_left 1
                    · intro w hSw; go_simp; try with_reducible rfl
                    try simp only [Act.put, List.setIfInBounds_toArray, List.set_cons_zero, List.set_cons_succ]
                    refine wpAnyH_ready (rs := [6]) (by kernel_rfl) (by simp) ?_
                    refine AllReadyH.cons rfl (fun K hK => ?_) ?_
                    · skip
                      go_simp
                      refine hK.out _ _ trivial (fun _ => ?_)
                      clear hK K
                      try simp only [Act.put, List.setIfInBounds_toArray, List.set_cons_zero, List.set_cons_succ]
                      refine wpAnyH_done (by kernel_rfl) ?_ _
                      have t1 := hT4.c1
                      have tf := hT4.fr
                      go_wp2
                      have hT6 := hT4.set1 (f : Int)
                      have hB6 := hB4.setCell (p := ⟨wo.heap.size, 1, none⟩) (Nat.le_refl _) (.int .i64 (f : Int))
                      clear t1 tf
                      go_roundw
                      case rel => exact ⟨f + 1, by omega, by go_num, by rw [HX1.out, HY1.out]; exact hT6, hB6⟩
                      case measure => simp [intOf]; omega
                    exact AllReadyH.nil
                  exact AllReadyH.nil
                exact AllReadyH.nil
              · skip
                have hme : ((ofL m4).toList == (ofL (fldL (f : Int))).toList) = false := by rw [strEq]; exact decide_eq_false (fun q => e1 (ofL_inj q))
                have hbe2 : ¬ ((b4.toNat : Nat) : Int) = ((sb.toNat : Nat) : Int) := fun q => e2 (UInt8.toNat_inj.1 (by omega))
                have hbe : (((b4.toNat : Nat) : Int) == ((sb.toNat : Nat) : Int)) = false := by simpa using hbe2
                have HX1 : Hid (upF (fIdx m4) (f + 1) = upF (fIdx m4) f) := upF_miss _ _ (fun q => e1 ((fIdx_iff m4 f hf3).2 q))
                have HY1 : Hid (upF (sIdx b4) (f + 1) = upF (sIdx b4) f) := upF_miss _ _ (fun q => e2 (((sIdx_iff b4 f hf3).2 q).trans HSb.out))
                have C9 := Lib.hid (fun W => CF.out (f : Int) W)
                clear e1 e2
                generalize upF (fIdx m4) f = Fv at *
                generalize upF (sIdx b4) f = Sv at *
                generalize ofL (fldL (f : Int)) = sf at *
                generalize ofL m4 = s4 at *
                go_wp2
                have hB3 := HB3.out.drew
                have hT3 := HT3.out.drew
                refine wp_region_held_drew (S := fun _ => True) (by kernel_rfl) trivial (fun _ => ?_)
                generalize wr.drew = w4 at *
                refine wpAnyH_take (i := 0) (v := ?_) rfl (by kernel_rfl) (by kernel_rfl) (by kernel_rfl) (fun _ _ _ h => h) (Or.inl ⟨by rfl, ?_⟩) trivial ?_
                rotate_left 1
                · intro w hSw; go_simp; try with_reducible rfl
                try simp only [Act.put, List.setIfInBounds_toArray, List.set_cons_zero, List.set_cons_succ]
                refine wpAnyH_take (i := 1) (v := ?_) rfl (by kernel_rfl) (by kernel_rfl) (by kernel_rfl) (fun _ _ _ h => h) (Or.inl ⟨by rfl, ?_⟩) trivial ?_
                rotate_left 1
                · intro w hSw; go_simp; try with_reducible rfl
                try simp only [Act.put, List.setIfInBounds_toArray, List.set_cons_zero, List.set_cons_succ]
                refine wpAnyH_take (i := 2) (v := ?_) rfl (by kernel_rfl) (by kernel_rfl) (by kernel_rfl) (fun _ _ _ h => h) (Or.inl ⟨by rfl, ?_⟩) trivial ?_
                rotate_left 1
                · intro w hSw; go_simp; try with_reducible rfl
                try simp only [Act.put, List.setIfInBounds_toArray, List.set_cons_zero, List.set_cons_succ]
                refine wpAnyH_take (i := 3) (v := ?_) rfl (by kernel_rfl) (by kernel_rfl) (by kernel_rfl) (fun _ _ _ h => h) (Or.inl ⟨by rfl, ?_⟩) trivial ?_
                rotate_left 1
                · intro w hSw; go_simp; try with_reducible rfl
                try simp only [Act.put, List.setIfInBounds_toArray, List.set_cons_zero, List.set_cons_succ]
                refine wpAnyH_take (i := 4) (v := ?_) rfl (by kernel_rfl) (by kernel_rfl) (by kernel_rfl) (fun _ _ _ h => h) (Or.inl ⟨by rfl, ?_⟩) trivial ?_
                rotate_left 1
                · intro w hSw; go_simp; try with_reducible rfl
                try simp only [Act.put, List.setIfInBounds_toArray, List.set_cons_zero, List.set_cons_succ]
                refine wpAnyH_take (i := 5) (v := ?_) rfl (by kernel_rfl) (by kernel_rfl) (by kernel_rfl) (fun _ _ _ h => h) (Or.inl ⟨by rfl, ?_⟩) trivial ?_
                rotate_left 1
                · intro w hSw; go_simp; try with_reducible rfl
                try simp only [Act.put, List.setIfInBounds_toArray, List.set_cons_zero, List.set_cons_succ]
                refine wpAnyH_ready (rs := [6]) (by kernel_rfl) (by simp) ?_
                refine AllReadyH.cons rfl (fun K hK => ?_) ?_
                · skip
                  go_simp
                  go_at_call 30
                  refine (C9.out _).mono ?_
                  rintro e w9 ⟨rfl, rfl⟩
                  refine hK.out _ _ trivial (fun _ => ?_)
                  clear hK K
                  try simp only [Act.put, List.setIfInBounds_toArray, List.set_cons_zero, List.set_cons_succ]
                  refine wpAnyH_ready (rs := [7]) (by kernel_rfl) (by simp) ?_
                  refine AllReadyH.cons rfl (fun K hK => ?_) ?_
                  · skip
                    go_simp
                    refine hK.out _ _ trivial (fun _ => ?_)
                    clear hK K
                    try simp only [Act.put, List.setIfInBounds_toArray, List.set_cons_zero, List.set_cons_succ]
                    refine wpAnyH_done (by kernel_rfl) ?_ _
                    have t0 := hT3.c0
                    have tf := hT3.fr
                    go_wp2
                    have hT4 := hT3
                    have hB4 := hB3
                    clear t0 tf hT3 hB3
                    generalize w4 = w5 at *
                    have hT4 := hT4.drew
                    have hB4 := hB4.drew
                    refine wp_region_held_drew (S := fun _ => True) (by kernel_rfl) trivial (fun _ => ?_)
                    generalize w5.drew = w6 at *
                    refine wpAnyH_take (i := 0) (v := ?_) rfl (by kernel_rfl) (by kernel_rfl) (by kernel_rfl) (fun _ _ _ h => h) (Or.inl ⟨by rfl, ?_⟩) trivial ?_
                    rotate_left 1
                    · intro w hSw; go_simp; try with_reducible rfl
                    try simp only [Act.put, List.setIfInBounds_toArray, List.set_cons_zero, List.set_cons_succ]
                    refine wpAnyH_take (i := 1) (v := ?_) rfl (by kernel_rfl) (by kernel_rfl) (by kernel_rfl) (fun _ _ _ h => h) (Or.inl ⟨by rfl, ?_⟩) trivial ?_
                    rotate_left 1
                    · intro w hSw; go_simp; try with_reducible rfl
                    try simp only [Act.put, List.setIfInBounds_toArray, List.set_cons_zero, List.set_cons_succ]
                    refine wpAnyH_take (i := 2) (v := ?_) rfl (by kernel_rfl) (by kernel_rfl) (by kernel_rfl) (fun _ _ _ h => h) (Or.inl ⟨by rfl, ?_⟩) trivial ?_
                    rotate_left 1
                    · intro w hSw; go_simp; try with_reducible rfl
                    try simp only [Act.put, List.setIfInBounds_toArray, List.set_cons_zero, List.set_cons_succ]
                    refine wpAnyH_take (i := 3) (v := ?_) rfl (by kernel_rfl) (by kernel_rfl) (by kernel_rfl) (fun _ _ _ h => h) (Or.inl ⟨by rfl, ?_⟩) trivial ?_
                    rotate_left 1
                    · intro w hSw; go_simp; try with_reducible rfl
                    try simp only [Act.put, List.setIfInBounds_toArray, List.set_cons_zero, List.set_cons_succ]
                    refine wpAnyH_take (i := 4) (v := ?_) rfl (by kernel_rfl) (by kernel_rfl) (by kernel_rfl) (fun _ _ _ h => h) (Or.inl ⟨by rfl, ?_⟩) trivial ?_
                    rotate_left 1
                    · intro w hSw; go_simp; try with_reducible rfl
                    try simp only [Act.put, List.setIfInBounds_toArray, List.set_cons_zero, List.set_cons_succ]
                    refine wpAnyH_take (i := 5) (v := ?_) rfl (by kernel_rfl) (by kernel_rfl) (by kernel_rfl) (fun _ _ _ h => h) (Or.inl ⟨by rfl, ?_⟩) trivial ?_
                    rotate_left 1
                    · intro w hSw; go_simp; try with_reducible rfl
                    try simp only [Act.put, List.setIfInBounds_toArray, List.set_cons_zero, List.set_cons_succ]
                    refine wpAnyH_ready (rs := [6]) (by kernel_rfl) (by simp) ?_
                    refine AllReadyH.cons rfl (fun K hK => ?_) ?_
                    · skip
                      go_simp
                      refine hK.out _ _ trivial (fun _ => ?_)
                      clear hK K
                      try simp only [Act.put, List.setIfInBounds_toArray, List.set_cons_zero, List.set_cons_succ]
                      refine wpAnyH_done (by kernel_rfl) ?_ _
                      have t1 := hT4.c1
                      have tf := hT4.fr
                      go_wp2
                      have hT6 := hT4
                      have hB6 := hB4
                      clear t1 tf
                      go_roundw
                      case rel => exact ⟨f + 1, by omega, by go_num, by rw [HX1.out, HY1.out]; exact hT6, hB6⟩
                      case measure => simp [intOf]; omega
                    exact AllReadyH.nil
                  exact AllReadyH.nil
                exact AllReadyH.nil
          · obtain rfl : f = 3 := by omega
            have hT := HT3.out
            rw [upF_full _ (fIdx_lt m4).1, upF_full _ (sIdx_lt b4).1] at hT
            generalize hX : fIdx m4 = X at *
            generalize hY : sIdx b4 = Y at *
            have HT4 := Lib.hid hT
            have HFs := HFm
            have HSs := HSm
            clear hX hY HT3 hT
            have t0 := HT4.out.c0
            have t1 := HT4.out.c1
            by_cases hX0 : X < 0
            · have HR : Hid (∀ gs', ¬ RdOk l gs') := sp_none HSk.out (.inl (by rw [HFm.out]; exact hX0))
              go_wp2
              refine bodyPost_ret (v := .tuple #[.slice none 0 0, .bool false]) (by simp [results, Tryd.results11, go_sem]) rfl (rtPost_no (HB.out.trans (HB3.out.mono hszr)) HR.out)
            by_cases hY0 : Y < 0
            · have HR : Hid (∀ gs', ¬ RdOk l gs') := sp_none HSk.out (.inr (by rw [HSm.out]; exact hY0))
              go_wp2
              refine bodyPost_ret (v := .tuple #[.slice none 0 0, .bool false]) (by simp [results, Tryd.results11, go_sem]) rfl (rtPost_no (HB.out.trans (HB3.out.mono hszr)) HR.out)
            have hneg : ¬ (X < 0 ∨ Y < 0) := by omega
            go_wp2
            clear t0 t1
            go_loopw [5, 8] (fun va vk w5 => ∃ (q p : Nat) (N : Int), q ≤ 2 ∧ p ≤ l.length ∧ at' + 5 ≤ p ∧ p ≤ at' + 5 + q ∧ 0 ≤ N ∧ (q = 0 → N = 0) ∧ (q ≤ 1 → N ≤ 9) ∧ N ≤ 99 ∧ va = .int .i64 p ∧ vk = .int .i64 q ∧ TsC w5 wo.heap.size X Y N ∧ Below wo.heap.size wo w5 ∧ Hid (dgs 2 (l.drop (at' + 5)) 0 = ((dgs (2 - q) (l.drop p) N).1, (dgs (2 - q) (l.drop p) N).2 + (p - (at' + 5))))) (fun _ vk _ => 2 - (intOf vk).toNat)
            case atStart => exact ⟨0, at' + 5, 0, by omega, by omega, by omega, by omega, by omega, fun _ => rfl, fun _ => by omega, by omega, by go_num, rfl, HT4.out, HB3.out, by show _ = _; simp⟩
            case round =>
              obtain ⟨q, p, N, hq2, hpl0, hp5, hpq, hN0, hNa, hNb, hNc, rfl, rfl, hT, hB0, HDg⟩ := hrel
              have HT5 := Lib.hid hT
              have HB5 := Lib.hid hB0
              clear hT hB0 HT4 HB3
              by_cases hq : q < 2
              · have hqi : (q : Int) < 2 := by omega
                by_cases hp : p < l.length
                · have hpi : (p : Int) < ((l.length : Nat) : Int) := by omega
                  have hpi0 : (0 : Int) ≤ (p : Int) := by omega
                  have hgp := HGet.out p
                  have hdc := drop_cons hp
                  have hdi : isDg (l.getD p 0) = (decide (48 ≤ (l.getD p 0).toNat) && decide ((l.getD p 0).toNat ≤ 57)) := rfl
                  by_cases hd : isDg (l.getD p 0) = true
                  · have hd2 := hd
                    rw [hdi, Bool.and_eq_true, decide_eq_true_eq, decide_eq_true_eq] at hd2
                    have hstep := dgs_yes (1 - q) (l.getD p 0) (l.drop (p + 1)) N hd
                    have e21 : 1 - q + 1 = 2 - q := by omega
                    rw [e21, ← hdc] at hstep
                    have HDn : Hid (dgs 2 (l.drop (at' + 5)) 0 = ((dgs (2 - (q + 1)) (l.drop (p + 1)) (10 * N + (((l.getD p 0).toNat : Int) - 48))).1, (dgs (2 - (q + 1)) (l.drop (p + 1)) (10 * N + (((l.getD p 0).toNat : Int) - 48))).2 + (p + 1 - (at' + 5)))) := by
                      show _ = _
                      rw [HDg.out, hstep]
                      have e22 : 2 - (q + 1) = 1 - q := by omega
                      rw [e22]
                      refine Prod.ext rfl ?_
                      show _ + 1 + _ = _
                      omega
                    clear hd hdi hdc hstep e21 HDg
                    generalize l.getD p 0 = bd at *
                    have hb1 : (48 : Int) ≤ ((bd.toNat : Nat) : Int) := by omega
                    have hb2 : ((bd.toNat : Nat) : Int) ≤ 57 := by omega
                    have hsub : IntKind.u8.wrap (((bd.toNat : Nat) : Int) - 48) = ((bd.toNat : Nat) : Int) - 48 := by rw [IntKind.wrap_u8]; omega
                    have hcv : IntKind.i64.wrap (((bd.toNat : Nat) : Int) - 48) = ((bd.toNat : Nat) : Int) - 48 := IntWalk.i64_in _ (by omega)
                    have hml : IntKind.i64.wrap (10 * N) = 10 * N := IntWalk.i64_in _ (by omega)
                    have had : IntKind.i64.wrap (10 * N + (((bd.toNat : Nat) : Int) - 48)) = 10 * N + (((bd.toNat : Nat) : Int) - 48) := IntWalk.i64_in _ (by omega)
                    have hwp : IntKind.i64.wrap ((p : Int) + 1) = ((p + 1 : Nat) : Int) := by rw [IntWalk.i64_in _ (by omega)]; omega
                    have hwq : IntKind.i64.wrap ((q : Int) + 1) = ((q + 1 : Nat) : Int) := by rw [IntWalk.i64_in _ (by omega)]; omega
                    have t2 := HT5.out.c2
                    go_wp2
                    have hB5 := HB5.out.drew
                    have hT5 := HT5.out.drew
                    clear t2
                    refine wp_region_held_drew (S := fun _ => True) (by kernel_rfl) trivial (fun _ => ?_)
                    generalize wr.drew = w6 at *
                    have t2 := hT5.c2
                    have tf := hT5.fr
                    refine wpAnyH_take (i := 0) (v := ?_) rfl (by kernel_rfl) (by kernel_rfl) (by kernel_rfl) (fun _ _ _ h => h) (Or.inl ⟨by rfl, ?_⟩) trivial ?_
                    rotate_left 1
                    · intro w hSw; go_simp; try with_reducible rfl
                    try simp only [Act.put, List.setIfInBounds_toArray, List.set_cons_zero, List.set_cons_succ]
                    refine wpAnyH_take (i := 3) (v := ?_) rfl (by kernel_rfl) (by kernel_rfl) (by kernel_rfl) (fun _ _ _ h => h) (Or.inl ⟨by rfl, ?_⟩) trivial ?_
                    rotate_left 1
                    · intro w hSw; go_simp; try with_reducible rfl
                    try simp only [Act.put, List.setIfInBounds_toArray, List.set_cons_zero, List.set_cons_succ]
                    refine wpAnyH_take (i := 4) (v := ?_) rfl (by kernel_rfl) (by kernel_rfl) (by kernel_rfl) (fun _ _ _ h => h) (Or.inl ⟨by rfl, ?_⟩) trivial ?_
                    rotate_left 1
                    · intro w hSw; go_simp; try with_reducible rfl
                    try simp only [Act.put, List.setIfInBounds_toArray, List.set_cons_zero, List.set_cons_succ]
                    refine wpAnyH_take (i := 5) (v := ?_) rfl (by kernel_rfl) (by kernel_rfl) (by kernel_rfl) (fun _ _ _ h => h) (Or.inl ⟨by rfl, ?_⟩) trivial ?_
                    rotate_left 1
                    · intro w hSw; go_simp; try with_reducible rfl
                    try simp only [Act.put, List.setIfInBounds_toArray, List.set_cons_zero, List.set_cons_succ]
                    refine wpAnyH_take (i := 6) (v := ?_) rfl (by kernel_rfl) (by kernel_rfl) (by kernel_rfl) (fun _ _ _ h => h) (Or.inl ⟨by rfl, ?_⟩) trivial ?_
                    rotate_left 1
                    · intro w hSw; go_simp; try with_reducible rfl
                    try simp only [Act.put, List.setIfInBounds_toArray, List.set_cons_zero, List.set_cons_succ]
                    refine wpAnyH_take (i := 7) (v := ?_) rfl (by kernel_rfl) (by kernel_rfl) (by kernel_rfl) (fun _ _ _ h => h) (Or.inl ⟨by rfl, ?_⟩) trivial ?_
                    rotate_left 1
                    · intro w hSw; go_simp; try with_reducible rfl
                    try simp only [Act.put, List.setIfInBounds_toArray, List.set_cons_zero, List.set_cons_succ]
                    refine wpAnyH_ready (rs := [1]) (by kernel_rfl) (by simp) ?_
                    refine AllReadyH.cons rfl (fun K hK => ?_) ?_
                    · skip
                      go_simp
                      refine hK.out _ _ trivial (fun _ => ?_)
                      clear hK K
                      try simp only [Act.put, List.setIfInBounds_toArray, List.set_cons_zero, List.set_cons_succ]
                      refine wpAnyH_take (i := 2) (v := ?_) rfl (by kernel_rfl) (by kernel_rfl) (by kernel_rfl) (fun _ _ _ h => h) (Or.inl ⟨by rfl, ?_⟩) trivial ?_
                      rotate_left 1
                      · intro w hSw; go_simp; try with_reducible rfl
                      try simp only [Act.put, List.setIfInBounds_toArray, List.set_cons_zero, List.set_cons_succ]
                      refine wpAnyH_take (i := 8) (v := ?_) rfl (by kernel_rfl) (by kernel_rfl) (by kernel_rfl) (fun _ _ _ h => h) (Or.inl ⟨by rfl, ?_⟩) trivial ?_
                      rotate_left 1
                      · intro w hSw; go_simp; try with_reducible rfl
                      try simp only [Act.put, List.setIfInBounds_toArray, List.set_cons_zero, List.set_cons_succ]
                      refine wpAnyH_take (i := 9) (v := ?_) rfl (by kernel_rfl) (by kernel_rfl) (by kernel_rfl) (fun _ _ _ h => h) (Or.inl ⟨by rfl, ?_⟩) trivial ?_
                      rotate_left 1
                      · intro w hSw; go_simp; try with_reducible rfl
                      try simp only [Act.put, List.setIfInBounds_toArray, List.set_cons_zero, List.set_cons_succ]
                      refine wpAnyH_ready (rs := [10]) (by kernel_rfl) (by simp) ?_
                      refine AllReadyH.cons rfl (fun K hK => ?_) ?_
                      · skip
                        go_simp
                        refine hK.out _ _ trivial (fun _ => ?_)
                        clear hK K
                        try simp only [Act.put, List.setIfInBounds_toArray, List.set_cons_zero, List.set_cons_succ]
                        refine wpAnyH_done (by kernel_rfl) ?_ _
                        go_wp2
                        have hT6 := hT5.set2 (10 * N + (((bd.toNat : Nat) : Int) - 48))
                        have hB6 := hB5.setCell (p := ⟨wo.heap.size, 2, none⟩) (Nat.le_refl _) (.int .i64 (10 * N + (((bd.toNat : Nat) : Int) - 48)))
                        clear t2 tf
                        go_roundw
                        case rel => exact ⟨q + 1, p + 1, _, by omega, by omega, by omega, by omega, by omega, fun e => by omega, fun e => by have := hNa (by omega); omega, by have := hNb (by omega); omega, by first | rfl | go_num, by first | rfl | go_num, hT6, hB6, HDn.out⟩
                        case measure => simp [intOf]; omega
                      exact AllReadyH.nil
                    exact AllReadyH.nil
                  · have hdf : isDg (l.getD p 0) = false := by simpa using hd
                    have hex0 : dgs (2 - q) (l.drop p) N = (N, 0) := by rw [hdc]; exact dgs_no _ _ _ _ hdf
                    clear hdc
                    generalize hbd : l.getD p 0 = bd at *
                    have HBd := Lib.hid hbd
                    clear hbd
                    have hbc : ((bd.toNat : Nat) : Int) < 48 ∨ (57 : Int) < ((bd.toNat : Nat) : Int) := by
                      by_cases c1 : 48 ≤ bd.toNat
                      · by_cases c2 : bd.toNat ≤ 57
                        · rw [hdi, decide_eq_true c1, decide_eq_true c2] at hdf; cases hdf
                        · right; omega
                      · left; omega
                    clear hd hdi hdf
                    rcases hbc with hb1 | hb1
                    · have hb2 : ¬ (48 : Int) ≤ ((bd.toNat : Nat) : Int) := by omega
                      have HDd : Hid (dgs 2 (l.drop (at' + 5)) 0 = (N, p - (at' + 5))) := by
                        show _ = _
                        rw [HDg.out, hex0]
                        refine Prod.ext rfl ?_
                        show 0 + _ = _
                        omega
                      obtain ⟨st1, st2⟩ := sp_step (F := X) (S := Y) (N := N) (d := p - (at' + 5)) HSk.out HFs.out HSs.out hneg (by rw [List.drop_drop]; exact HDd.out)
                      have edp : ((l.drop at').drop 5).drop (p - (at' + 5)) = l.drop p := by
                        rw [List.drop_drop, List.drop_drop]
                        congr 1
                        omega
                      rw [edp] at st1 st2
                      have HSt1 := Lib.hid st1
                      have HSt2 := Lib.hid st2
                      have t0 := HT5.out.c0
                      have t1 := HT5.out.c1
                      have t2 := HT5.out.c2
                      have HO5 := Lib.hid (ownsRow_below HO.out HB5.out)
                      have HBt := Lib.hid (HB.out.trans (HB5.out.mono hszr))
                      have hgz := HB5.out.size
                      have HTr : Hid (tripCells (gs ++ [(X, Y, N)]) = tripCells gs ++ [.int .i64 X, .int .i64 Y, .int .i64 N]) := tripSnoc _ _ _ _
                      clear st1 st2 edp hex0 HDg HDd HSk
                      · have hpl2 : p < l.length := by omega
                        have hpl1 : ¬ (p : Int) = ((l.length : Nat) : Int) := by omega
                        have hp3 : (p : Int) < ((l.length : Nat) : Int) := by omega
                        have hst := HSt2.out bd (l.drop (p + 1)) (by rw [← HBd.out]; exact drop_cons hpl2)
                        have HStt := Lib.hid hst
                        clear HSt1 HSt2 hst
                        by_cases hb : bd = 38
                        · have hb1 : ((bd.toNat : Nat) : Int) = 38 := by rw [hb]; rfl
                          have HSn : Hid (spR 6 l = (spR (6 - (k + 1)) (l.drop (p + 1))).map ((gs ++ [(X, Y, N)]) ++ ·)) := by
                            have e : 6 - (k + 1) = 5 - k := by omega
                            show _ = _
                            rw [e]
                            exact HStt.out.1 hb
                          have hwp : IntKind.i64.wrap ((p : Int) + 1) = ((p + 1 : Nat) : Int) := by rw [IntWalk.i64_in _ (by omega)]; omega
                          clear HStt hb
                          go_wp2_with (at_builtin; go_must (refine wpList_append_lies _ rfl _ _ 26 rfl w.heap.size 38 i0 _ 3 24 Tryd.underlying26 hii hz0 hz1 hz2 rfl (by omega) (.slice (some ⟨g, 0, none⟩) k c) k (tripCells gs) rfl (HO5.out.alloc _) ⟨wr.heap.size, 0, none⟩ 1 1 [.int .i64 X, .int .i64 Y, .int .i64 N] rfl rfl (newT _ _ _ _ _) (oneT rfl rfl rfl) (by omega) (by unfold maxLen; omega) (by omega) (by simp; omega) (wr.heap.size + 1) (by simp) ?_); intro gg cap w10 hown1 hg1 hat hlt10; go_must (have HBn := Lib.hid (below_app HBt.out (by omega) hg1 HO5.out)); go_must (have HOn : Hid (w10.ownsRow w.heap.size 38 3 (.slice (some ⟨gg, 0, none⟩) (k + 1) cap) (k + 1) (tripCells (gs ++ [(X, Y, N)]))) := (by show w10.ownsRow _ _ _ _ _ _; rw [HTr.out]; exact hown1)); clear hown1 hg1 hat t0 t1 t2 HO5 HBt HT5 HB5)
                          go_roundw
                          case rel => exact ⟨k + 1, gg, cap, p + 1, gs ++ [(X, Y, N)], by omega, by omega, by first | rfl | go_num, by first | rfl | go_num, HBn.out, HOn.out, HSn.out⟩
                          case measure => simp [lenV]; omega
                        · have hb1 : ¬ ((bd.toNat : Nat) : Int) = 38 := fun q => hb (UInt8.toNat_inj.1 (by show bd.toNat = 38; omega))
                          have HR : Hid (∀ gs', ¬ RdOk l gs') := fun gs' hr => by
                            have q := rd_sp hr
                            rw [HStt.out.2 hb] at q
                            cases q
                          clear HStt hb
                          go_wp2_with (at_builtin; go_must (refine wpList_append_lies _ rfl _ _ 26 rfl w.heap.size 38 i0 _ 3 24 Tryd.underlying26 hii hz0 hz1 hz2 rfl (by omega) (.slice (some ⟨g, 0, none⟩) k c) k (tripCells gs) rfl (HO5.out.alloc _) ⟨wr.heap.size, 0, none⟩ 1 1 [.int .i64 X, .int .i64 Y, .int .i64 N] rfl rfl (newT _ _ _ _ _) (oneT rfl rfl rfl) (by omega) (by unfold maxLen; omega) (by omega) (by simp; omega) (wr.heap.size + 1) (by simp) ?_); intro gg cap w10 hown1 hg1 hat hlt10; go_must (have HBn := Lib.hid (below_app HBt.out (by omega) hg1 HO5.out)); go_must (have HOn : Hid (w10.ownsRow w.heap.size 38 3 (.slice (some ⟨gg, 0, none⟩) (k + 1) cap) (k + 1) (tripCells (gs ++ [(X, Y, N)]))) := (by show w10.ownsRow _ _ _ _ _ _; rw [HTr.out]; exact hown1)); clear hown1 hg1 hat t0 t1 t2 HO5 HBt HT5 HB5)
                          refine bodyPost_ret (v := .tuple #[.slice none 0 0, .bool false]) (by simp [results, Tryd.results11, go_sem]) rfl (rtPost_no HBn.out HR.out)
                    · have hb2 : (48 : Int) ≤ ((bd.toNat : Nat) : Int) := by omega
                      have hb3 : ¬ ((bd.toNat : Nat) : Int) ≤ 57 := by omega
                      have HDd : Hid (dgs 2 (l.drop (at' + 5)) 0 = (N, p - (at' + 5))) := by
                        show _ = _
                        rw [HDg.out, hex0]
                        refine Prod.ext rfl ?_
                        show 0 + _ = _
                        omega
                      obtain ⟨st1, st2⟩ := sp_step (F := X) (S := Y) (N := N) (d := p - (at' + 5)) HSk.out HFs.out HSs.out hneg (by rw [List.drop_drop]; exact HDd.out)
                      have edp : ((l.drop at').drop 5).drop (p - (at' + 5)) = l.drop p := by
                        rw [List.drop_drop, List.drop_drop]
                        congr 1
                        omega
                      rw [edp] at st1 st2
                      have HSt1 := Lib.hid st1
                      have HSt2 := Lib.hid st2
                      have t0 := HT5.out.c0
                      have t1 := HT5.out.c1
                      have t2 := HT5.out.c2
                      have HO5 := Lib.hid (ownsRow_below HO.out HB5.out)
                      have HBt := Lib.hid (HB.out.trans (HB5.out.mono hszr))
                      have hgz := HB5.out.size
                      have HTr : Hid (tripCells (gs ++ [(X, Y, N)]) = tripCells gs ++ [.int .i64 X, .int .i64 Y, .int .i64 N]) := tripSnoc _ _ _ _
                      clear st1 st2 edp hex0 HDg HDd HSk
                      · have hpl2 : p < l.length := by omega
                        have hpl1 : ¬ (p : Int) = ((l.length : Nat) : Int) := by omega
                        have hp3 : (p : Int) < ((l.length : Nat) : Int) := by omega
                        have hst := HSt2.out bd (l.drop (p + 1)) (by rw [← HBd.out]; exact drop_cons hpl2)
                        have HStt := Lib.hid hst
                        clear HSt1 HSt2 hst
                        have hb : ¬ bd = 38 := fun q => by rw [q] at hb1; exact absurd hb1 (by decide)
                        · have hb1 : ¬ ((bd.toNat : Nat) : Int) = 38 := fun q => hb (UInt8.toNat_inj.1 (by show bd.toNat = 38; omega))
                          have HR : Hid (∀ gs', ¬ RdOk l gs') := fun gs' hr => by
                            have q := rd_sp hr
                            rw [HStt.out.2 hb] at q
                            cases q
                          clear HStt hb
                          go_wp2_with (at_builtin; go_must (refine wpList_append_lies _ rfl _ _ 26 rfl w.heap.size 38 i0 _ 3 24 Tryd.underlying26 hii hz0 hz1 hz2 rfl (by omega) (.slice (some ⟨g, 0, none⟩) k c) k (tripCells gs) rfl (HO5.out.alloc _) ⟨wr.heap.size, 0, none⟩ 1 1 [.int .i64 X, .int .i64 Y, .int .i64 N] rfl rfl (newT _ _ _ _ _) (oneT rfl rfl rfl) (by omega) (by unfold maxLen; omega) (by omega) (by simp; omega) (wr.heap.size + 1) (by simp) ?_); intro gg cap w10 hown1 hg1 hat hlt10; go_must (have HBn := Lib.hid (below_app HBt.out (by omega) hg1 HO5.out)); go_must (have HOn : Hid (w10.ownsRow w.heap.size 38 3 (.slice (some ⟨gg, 0, none⟩) (k + 1) cap) (k + 1) (tripCells (gs ++ [(X, Y, N)]))) := (by show w10.ownsRow _ _ _ _ _ _; rw [HTr.out]; exact hown1)); clear hown1 hg1 hat t0 t1 t2 HO5 HBt HT5 HB5)
                          refine bodyPost_ret (v := .tuple #[.slice none 0 0, .bool false]) (by simp [results, Tryd.results11, go_sem]) rfl (rtPost_no HBn.out HR.out)
                · have hpi : ¬ (p : Int) < ((l.length : Nat) : Int) := by omega
                  have hex0 : dgs (2 - q) (l.drop p) N = (N, 0) := by
                    have e0 : l.drop p = [] := List.drop_of_length_le (by omega)
                    rw [e0]; exact dgs_nil _ _
                  have HDd : Hid (dgs 2 (l.drop (at' + 5)) 0 = (N, p - (at' + 5))) := by
                    show _ = _
                    rw [HDg.out, hex0]
                    refine Prod.ext rfl ?_
                    show 0 + _ = _
                    omega
                  obtain ⟨st1, st2⟩ := sp_step (F := X) (S := Y) (N := N) (d := p - (at' + 5)) HSk.out HFs.out HSs.out hneg (by rw [List.drop_drop]; exact HDd.out)
                  have edp : ((l.drop at').drop 5).drop (p - (at' + 5)) = l.drop p := by
                    rw [List.drop_drop, List.drop_drop]
                    congr 1
                    omega
                  rw [edp] at st1 st2
                  have HSt1 := Lib.hid st1
                  have HSt2 := Lib.hid st2
                  have t0 := HT5.out.c0
                  have t1 := HT5.out.c1
                  have t2 := HT5.out.c2
                  have HO5 := Lib.hid (ownsRow_below HO.out HB5.out)
                  have HBt := Lib.hid (HB.out.trans (HB5.out.mono hszr))
                  have hgz := HB5.out.size
                  have HTr : Hid (tripCells (gs ++ [(X, Y, N)]) = tripCells gs ++ [.int .i64 X, .int .i64 Y, .int .i64 N]) := tripSnoc _ _ _ _
                  clear st1 st2 edp hex0 HDg HDd HSk
                  · have hpl : p = l.length := by omega
                    have HSp : Hid (spR 6 l = some (gs ++ [(X, Y, N)])) := HSt1.out (by rw [hpl, List.drop_length])
                    have hpl1 : (p : Int) = ((l.length : Nat) : Int) := by omega
                    have hk16 : k + 1 ≤ 6 := by omega
                    clear HSt1 HSt2
                    go_wp2_with (at_builtin; go_must (refine wpList_append_lies _ rfl _ _ 26 rfl w.heap.size 38 i0 _ 3 24 Tryd.underlying26 hii hz0 hz1 hz2 rfl (by omega) (.slice (some ⟨g, 0, none⟩) k c) k (tripCells gs) rfl (HO5.out.alloc _) ⟨wr.heap.size, 0, none⟩ 1 1 [.int .i64 X, .int .i64 Y, .int .i64 N] rfl rfl (newT _ _ _ _ _) (oneT rfl rfl rfl) (by omega) (by unfold maxLen; omega) (by omega) (by simp; omega) (wr.heap.size + 1) (by simp) ?_); intro gg cap w10 hown1 hg1 hat hlt10; go_must (have HBn := Lib.hid (below_app HBt.out (by omega) hg1 HO5.out)); go_must (have HOn : Hid (w10.ownsRow w.heap.size 38 3 (.slice (some ⟨gg, 0, none⟩) (k + 1) cap) (k + 1) (tripCells (gs ++ [(X, Y, N)]))) := (by show w10.ownsRow _ _ _ _ _ _; rw [HTr.out]; exact hown1)); clear hown1 hg1 hat t0 t1 t2 HO5 HBt HT5 HB5)
                    have CT := l07Tests_any (some ⟨gg, 0, none⟩) (k + 1) cap (gs ++ [(X, Y, N)]) w10 (Rd.own HOn.out)
                    rcases Bool.eq_false_or_eq_true (okTests (gs ++ [(X, Y, N)])) with e | e
                    · rw [e] at CT
                      have CT := Lib.hid CT
                      have CX := l07Text_any (some ⟨gg, 0, none⟩) (k + 1) cap (gs ++ [(X, Y, N)]) w10 (Rd.own HOn.out) (okTests_all e) hk16
                      have hlg : (gs ++ [(X, Y, N)]).length = (k + 1) := (show Trips w10 (some ⟨gg, 0, none⟩) (k + 1) cap (gs ++ [(X, Y, N)]) from Rd.own HOn.out).len
                      have htx : txtTo (gs ++ [(X, Y, N)]) (k + 1) = txtL (gs ++ [(X, Y, N)]) := by unfold txtL; rw [hlg]
                      rw [htx] at CX
                      have CX := Lib.hid CX
                      clear htx
                      by_cases ht : txtL (gs ++ [(X, Y, N)]) = l
                      · have HR : Hid (RdOk l (gs ++ [(X, Y, N)])) := ⟨e, ht⟩
                        rw [ht, HSX.out] at CX
                        have hmm : (sx.toList == sx.toList) = true := by simp
                        clear ht e
                        refine CT.out.mono ?_
                        rintro e wt ⟨rfl, rfl⟩
                        go_wp2_with (fail)
                        refine CX.out.mono ?_
                        rintro e wt ⟨rfl, hbt⟩
                        have HOt := Lib.hid (ownsRow_below HOn.out hbt)
                        have HBt := Lib.hid (HBn.out.trans (hbt.mono HBn.out.size))
                        clear hbt
                        go_wp2
                        refine bodyPost_ret (v := .tuple #[.slice (some ⟨gg, 0, none⟩) (k + 1) cap, .bool true]) (by simp [results, Tryd.results11, go_sem]) rfl (rtPost_yes HBt.out HR.out HOt.out)
                      · have HR : Hid (∀ gs', ¬ RdOk l gs') := fun gs' hr => by
                          have q := rd_sp hr
                          rw [HSp.out] at q
                          obtain rfl := Option.some.inj q
                          exact ht hr.2
                        have hmm : ((ofL (txtL (gs ++ [(X, Y, N)]))).toList == sx.toList) = false := by
                          rw [strEq]
                          exact decide_eq_false (fun q => ht (ofL_inj (q.trans HSX.out.symm)))
                        clear ht e
                        generalize ofL (txtL (gs ++ [(X, Y, N)])) = sy at *
                        refine CT.out.mono ?_
                        rintro e wt ⟨rfl, rfl⟩
                        go_wp2_with (fail)
                        refine CX.out.mono ?_
                        rintro e wt ⟨rfl, hbt⟩
                        have HBt := Lib.hid (HBn.out.trans (hbt.mono HBn.out.size))
                        clear hbt
                        go_wp2
                        refine bodyPost_ret (v := .tuple #[.slice none 0 0, .bool false]) (by simp [results, Tryd.results11, go_sem]) rfl (rtPost_no HBt.out HR.out)
                    · rw [e] at CT
                      have CT := Lib.hid CT
                      have HR : Hid (∀ gs', ¬ RdOk l gs') := fun gs' hr => by
                        have q := rd_sp hr
                        rw [HSp.out] at q
                        obtain rfl := Option.some.inj q
                        rw [hr.1] at e
                        cases e
                      have HBt := HBn
                      clear e
                      refine CT.out.mono ?_
                      rintro e wt ⟨rfl, rfl⟩
                      go_wp2
                      refine bodyPost_ret (v := .tuple #[.slice none 0 0, .bool false]) (by simp [results, Tryd.results11, go_sem]) rfl (rtPost_no HBt.out HR.out)
              · obtain rfl : q = 2 := by omega
                have hex0 : dgs (2 - 2) (l.drop p) N = (N, 0) := rfl
                have HDd : Hid (dgs 2 (l.drop (at' + 5)) 0 = (N, p - (at' + 5))) := by
                  show _ = _
                  rw [HDg.out, hex0]
                  refine Prod.ext rfl ?_
                  show 0 + _ = _
                  omega
                obtain ⟨st1, st2⟩ := sp_step (F := X) (S := Y) (N := N) (d := p - (at' + 5)) HSk.out HFs.out HSs.out hneg (by rw [List.drop_drop]; exact HDd.out)
                have edp : ((l.drop at').drop 5).drop (p - (at' + 5)) = l.drop p := by
                  rw [List.drop_drop, List.drop_drop]
                  congr 1
                  omega
                rw [edp] at st1 st2
                have HSt1 := Lib.hid st1
                have HSt2 := Lib.hid st2
                have t0 := HT5.out.c0
                have t1 := HT5.out.c1
                have t2 := HT5.out.c2
                have HO5 := Lib.hid (ownsRow_below HO.out HB5.out)
                have HBt := Lib.hid (HB.out.trans (HB5.out.mono hszr))
                have hgz := HB5.out.size
                have HTr : Hid (tripCells (gs ++ [(X, Y, N)]) = tripCells gs ++ [.int .i64 X, .int .i64 Y, .int .i64 N]) := tripSnoc _ _ _ _
                clear st1 st2 edp hex0 HDg HDd HSk
                by_cases hpl : p = l.length
                · have HSp : Hid (spR 6 l = some (gs ++ [(X, Y, N)])) := HSt1.out (by rw [hpl, List.drop_length])
                  have hpl1 : (p : Int) = ((l.length : Nat) : Int) := by omega
                  have hk16 : k + 1 ≤ 6 := by omega
                  clear HSt1 HSt2
                  go_wp2_with (at_builtin; go_must (refine wpList_append_lies _ rfl _ _ 26 rfl w.heap.size 38 i0 _ 3 24 Tryd.underlying26 hii hz0 hz1 hz2 rfl (by omega) (.slice (some ⟨g, 0, none⟩) k c) k (tripCells gs) rfl (HO5.out.alloc _) ⟨wr.heap.size, 0, none⟩ 1 1 [.int .i64 X, .int .i64 Y, .int .i64 N] rfl rfl (newT _ _ _ _ _) (oneT rfl rfl rfl) (by omega) (by unfold maxLen; omega) (by omega) (by simp; omega) (wr.heap.size + 1) (by simp) ?_); intro gg cap w10 hown1 hg1 hat hlt10; go_must (have HBn := Lib.hid (below_app HBt.out (by omega) hg1 HO5.out)); go_must (have HOn : Hid (w10.ownsRow w.heap.size 38 3 (.slice (some ⟨gg, 0, none⟩) (k + 1) cap) (k + 1) (tripCells (gs ++ [(X, Y, N)]))) := (by show w10.ownsRow _ _ _ _ _ _; rw [HTr.out]; exact hown1)); clear hown1 hg1 hat t0 t1 t2 HO5 HBt HT5 HB5)
                  have CT := l07Tests_any (some ⟨gg, 0, none⟩) (k + 1) cap (gs ++ [(X, Y, N)]) w10 (Rd.own HOn.out)
                  rcases Bool.eq_false_or_eq_true (okTests (gs ++ [(X, Y, N)])) with e | e
                  · rw [e] at CT
                    have CT := Lib.hid CT
                    have CX := l07Text_any (some ⟨gg, 0, none⟩) (k + 1) cap (gs ++ [(X, Y, N)]) w10 (Rd.own HOn.out) (okTests_all e) hk16
                    have hlg : (gs ++ [(X, Y, N)]).length = (k + 1) := (show Trips w10 (some ⟨gg, 0, none⟩) (k + 1) cap (gs ++ [(X, Y, N)]) from Rd.own HOn.out).len
                    have htx : txtTo (gs ++ [(X, Y, N)]) (k + 1) = txtL (gs ++ [(X, Y, N)]) := by unfold txtL; rw [hlg]
                    rw [htx] at CX
                    have CX := Lib.hid CX
                    clear htx
                    by_cases ht : txtL (gs ++ [(X, Y, N)]) = l
                    · have HR : Hid (RdOk l (gs ++ [(X, Y, N)])) := ⟨e, ht⟩
                      rw [ht, HSX.out] at CX
                      have hmm : (sx.toList == sx.toList) = true := by simp
                      clear ht e
                      refine CT.out.mono ?_
                      rintro e wt ⟨rfl, rfl⟩
                      go_wp2_with (fail)
                      refine CX.out.mono ?_
                      rintro e wt ⟨rfl, hbt⟩
                      have HOt := Lib.hid (ownsRow_below HOn.out hbt)
                      have HBt := Lib.hid (HBn.out.trans (hbt.mono HBn.out.size))
                      clear hbt
                      go_wp2
                      refine bodyPost_ret (v := .tuple #[.slice (some ⟨gg, 0, none⟩) (k + 1) cap, .bool true]) (by simp [results, Tryd.results11, go_sem]) rfl (rtPost_yes HBt.out HR.out HOt.out)
                    · have HR : Hid (∀ gs', ¬ RdOk l gs') := fun gs' hr => by
                        have q := rd_sp hr
                        rw [HSp.out] at q
                        obtain rfl := Option.some.inj q
                        exact ht hr.2
                      have hmm : ((ofL (txtL (gs ++ [(X, Y, N)]))).toList == sx.toList) = false := by
                        rw [strEq]
                        exact decide_eq_false (fun q => ht (ofL_inj (q.trans HSX.out.symm)))
                      clear ht e
                      generalize ofL (txtL (gs ++ [(X, Y, N)])) = sy at *
                      refine CT.out.mono ?_
                      rintro e wt ⟨rfl, rfl⟩
                      go_wp2_with (fail)
                      refine CX.out.mono ?_
                      rintro e wt ⟨rfl, hbt⟩
                      have HBt := Lib.hid (HBn.out.trans (hbt.mono HBn.out.size))
                      clear hbt
                      go_wp2
                      refine bodyPost_ret (v := .tuple #[.slice none 0 0, .bool false]) (by simp [results, Tryd.results11, go_sem]) rfl (rtPost_no HBt.out HR.out)
                  · rw [e] at CT
                    have CT := Lib.hid CT
                    have HR : Hid (∀ gs', ¬ RdOk l gs') := fun gs' hr => by
                      have q := rd_sp hr
                      rw [HSp.out] at q
                      obtain rfl := Option.some.inj q
                      rw [hr.1] at e
                      cases e
                    have HBt := HBn
                    clear e
                    refine CT.out.mono ?_
                    rintro e wt ⟨rfl, rfl⟩
                    go_wp2
                    refine bodyPost_ret (v := .tuple #[.slice none 0 0, .bool false]) (by simp [results, Tryd.results11, go_sem]) rfl (rtPost_no HBt.out HR.out)
                · have hpl2 : p < l.length := by omega
                  have hpl1 : ¬ (p : Int) = ((l.length : Nat) : Int) := by omega
                  have hp3 : (p : Int) < ((l.length : Nat) : Int) := by omega
                  have hgp := HGet.out p
                  have hst := HSt2.out (l.getD p 0) (l.drop (p + 1)) (drop_cons hpl2)
                  have HStt := Lib.hid hst
                  clear HSt1 HSt2 hst
                  generalize l.getD p 0 = bp at *
                  by_cases hb : bp = 38
                  · have hb1 : ((bp.toNat : Nat) : Int) = 38 := by rw [hb]; rfl
                    have HSn : Hid (spR 6 l = (spR (6 - (k + 1)) (l.drop (p + 1))).map ((gs ++ [(X, Y, N)]) ++ ·)) := by
                      have e : 6 - (k + 1) = 5 - k := by omega
                      show _ = _
                      rw [e]
                      exact HStt.out.1 hb
                    have hwp : IntKind.i64.wrap ((p : Int) + 1) = ((p + 1 : Nat) : Int) := by rw [IntWalk.i64_in _ (by omega)]; omega
                    clear HStt hb
                    go_wp2_with (at_builtin; go_must (refine wpList_append_lies _ rfl _ _ 26 rfl w.heap.size 38 i0 _ 3 24 Tryd.underlying26 hii hz0 hz1 hz2 rfl (by omega) (.slice (some ⟨g, 0, none⟩) k c) k (tripCells gs) rfl (HO5.out.alloc _) ⟨wr.heap.size, 0, none⟩ 1 1 [.int .i64 X, .int .i64 Y, .int .i64 N] rfl rfl (newT _ _ _ _ _) (oneT rfl rfl rfl) (by omega) (by unfold maxLen; omega) (by omega) (by simp; omega) (wr.heap.size + 1) (by simp) ?_); intro gg cap w10 hown1 hg1 hat hlt10; go_must (have HBn := Lib.hid (below_app HBt.out (by omega) hg1 HO5.out)); go_must (have HOn : Hid (w10.ownsRow w.heap.size 38 3 (.slice (some ⟨gg, 0, none⟩) (k + 1) cap) (k + 1) (tripCells (gs ++ [(X, Y, N)]))) := (by show w10.ownsRow _ _ _ _ _ _; rw [HTr.out]; exact hown1)); clear hown1 hg1 hat t0 t1 t2 HO5 HBt HT5 HB5)
                    go_roundw
                    case rel => exact ⟨k + 1, gg, cap, p + 1, gs ++ [(X, Y, N)], by omega, by omega, by first | rfl | go_num, by first | rfl | go_num, HBn.out, HOn.out, HSn.out⟩
                    case measure => simp [lenV]; omega
                  · have hb1 : ¬ ((bp.toNat : Nat) : Int) = 38 := fun q => hb (UInt8.toNat_inj.1 (by show bp.toNat = 38; omega))
                    have HR : Hid (∀ gs', ¬ RdOk l gs') := fun gs' hr => by
                      have q := rd_sp hr
                      rw [HStt.out.2 hb] at q
                      cases q
                    clear HStt hb
                    go_wp2_with (at_builtin; go_must (refine wpList_append_lies _ rfl _ _ 26 rfl w.heap.size 38 i0 _ 3 24 Tryd.underlying26 hii hz0 hz1 hz2 rfl (by omega) (.slice (some ⟨g, 0, none⟩) k c) k (tripCells gs) rfl (HO5.out.alloc _) ⟨wr.heap.size, 0, none⟩ 1 1 [.int .i64 X, .int .i64 Y, .int .i64 N] rfl rfl (newT _ _ _ _ _) (oneT rfl rfl rfl) (by omega) (by unfold maxLen; omega) (by omega) (by simp; omega) (wr.heap.size + 1) (by simp) ?_); intro gg cap w10 hown1 hg1 hat hlt10; go_must (have HBn := Lib.hid (below_app HBt.out (by omega) hg1 HO5.out)); go_must (have HOn : Hid (w10.ownsRow w.heap.size 38 3 (.slice (some ⟨gg, 0, none⟩) (k + 1) cap) (k + 1) (tripCells (gs ++ [(X, Y, N)]))) := (by show w10.ownsRow _ _ _ _ _ _; rw [HTr.out]; exact hown1)); clear hown1 hg1 hat t0 t1 t2 HO5 HBt HT5 HB5)
                    refine bodyPost_ret (v := .tuple #[.slice none 0 0, .bool false]) (by simp [results, Tryd.results11, go_sem]) rfl (rtPost_no HBn.out HR.out)
    · obtain rfl : k = 6 := by omega
      have HSp : Hid (spR 6 l = some gs) := by
        show _ = _
        rw [HSq.out]
        show (some []).map (gs ++ ·) = _
        simp
      clear HSq
      have CT := l07Tests_any (some ⟨g, 0, none⟩) 6 c gs wo (Rd.own HO.out)
      rcases Bool.eq_false_or_eq_true (okTests gs) with e | e
      · rw [e] at CT
        have CT := Lib.hid CT
        have CX := l07Text_any (some ⟨g, 0, none⟩) 6 c gs wo (Rd.own HO.out) (okTests_all e) hk6
        have hlg : gs.length = 6 := (show Trips wo (some ⟨g, 0, none⟩) 6 c gs from Rd.own HO.out).len
        have htx : txtTo gs 6 = txtL gs := by unfold txtL; rw [hlg]
        rw [htx] at CX
        have CX := Lib.hid CX
        clear htx
        by_cases ht : txtL gs = l
        · have HR : Hid (RdOk l gs) := ⟨e, ht⟩
          rw [ht, HSX.out] at CX
          have hmm : (sx.toList == sx.toList) = true := by simp
          clear ht e
          go_wp2_with (fail)
          refine CT.out.mono ?_
          rintro e wt ⟨rfl, rfl⟩
          go_wp2_with (fail)
          refine CX.out.mono ?_
          rintro e wt ⟨rfl, hbt⟩
          have HOt := Lib.hid (ownsRow_below HO.out hbt)
          have HBt := Lib.hid (HB.out.trans (hbt.mono HB.out.size))
          clear hbt
          go_wp2
          refine bodyPost_ret (v := .tuple #[.slice (some ⟨g, 0, none⟩) 6 c, .bool true]) (by simp [results, Tryd.results11, go_sem]) rfl (rtPost_yes HBt.out HR.out HOt.out)
        · have HR : Hid (∀ gs', ¬ RdOk l gs') := fun gs' hr => by
            have q := rd_sp hr
            rw [HSp.out] at q
            obtain rfl := Option.some.inj q
            exact ht hr.2
          have hmm : ((ofL (txtL gs)).toList == sx.toList) = false := by
            rw [strEq]
            exact decide_eq_false (fun q => ht (ofL_inj (q.trans HSX.out.symm)))
          clear ht e
          generalize ofL (txtL gs) = sy at *
          go_wp2_with (fail)
          refine CT.out.mono ?_
          rintro e wt ⟨rfl, rfl⟩
          go_wp2_with (fail)
          refine CX.out.mono ?_
          rintro e wt ⟨rfl, hbt⟩
          have HBt := Lib.hid (HB.out.trans (hbt.mono HB.out.size))
          clear hbt
          go_wp2
          refine bodyPost_ret (v := .tuple #[.slice none 0 0, .bool false]) (by simp [results, Tryd.results11, go_sem]) rfl (rtPost_no HBt.out HR.out)
      · rw [e] at CT
        have CT := Lib.hid CT
        have HR : Hid (∀ gs', ¬ RdOk l gs') := fun gs' hr => by
          have q := rd_sp hr
          rw [HSp.out] at q
          obtain rfl := Option.some.inj q
          rw [hr.1] at e
          cases e
        have HBt := HB
        clear e
        go_wp2_with (fail)
        refine CT.out.mono ?_
        rintro e wt ⟨rfl, rfl⟩
        go_wp2
        refine bodyPost_ret (v := .tuple #[.slice none 0 0, .bool false]) (by simp [results, Tryd.results11, go_sem]) rfl (rtPost_no HBt.out HR.out)

end Go.Proofs.YtmijfieiebnbfaaDoor
