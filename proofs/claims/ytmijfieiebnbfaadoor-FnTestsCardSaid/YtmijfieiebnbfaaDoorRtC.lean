/- Reading tests: the program's ReadTests. -/
import Derived.Test.YtmijfieiebnbfaaDoorRtB
import Derived.Deep.RegionHeld3
namespace Go.Proofs.YtmijfieiebnbfaaDoor
open Go.RowKit
set_option linter.unusedVariables false
set_option linter.unusedSimpArgs false

/-- What ReadTests leaves: the tests that the text tells, or nothing. -/
def RtPost (l : List UInt8) (w : World) (e : Ending) (w' : World) : Prop :=
  Below w.heap.size w w' ∧ ((∃ gs g n c, RdOk l gs ∧ e = .returned (.tuple #[.slice (some ⟨g, 0, none⟩) n c, .bool true]) ∧ w'.ownsRow w.heap.size 38 3 (.slice (some ⟨g, 0, none⟩) n c) n (tripCells gs)) ∨ ((∀ gs, ¬ RdOk l gs) ∧ e = .returned (.tuple #[.slice none 0 0, .bool false])))
theorem rtPost_no {l : List UInt8} {w w' : World} (hb : Below w.heap.size w w') (h : ∀ gs, ¬ RdOk l gs) : RtPost l w (.returned (.tuple #[.slice none 0 0, .bool false])) w' := ⟨hb, .inr ⟨h, rfl⟩⟩
theorem rtPost_yes {l : List UInt8} {w w' : World} {gs : List T3} {g n c : Nat} (hb : Below w.heap.size w w') (h : RdOk l gs) (ho : w'.ownsRow w.heap.size 38 3 (.slice (some ⟨g, 0, none⟩) n c) n (tripCells gs)) : RtPost l w (.returned (.tuple #[.slice (some ⟨g, 0, none⟩) n c, .bool true])) w' := ⟨hb, .inl ⟨gs, g, n, c, h, rfl, ho⟩⟩
theorem newT (W : World) (u v x : Value) (T : TypeId) : ∀ j y, [u, v, x][j]? = some y → (W.alloc (.cells #[u, v, x] T)).cell? ((⟨W.heap.size, 0, none⟩ : Addr).add j) = some y := by
  intro j y h
  match j, h with
  | 0, h => simp at h; subst h; simp [Addr.add]
  | 1, h => simp at h; subst h; simp [Addr.add]
  | 2, h => simp at h; subst h; simp [Addr.add]
theorem oneT {u v x : Value} (h1 : u.oneCell' = true) (h2 : v.oneCell' = true) (h3 : x.oneCell' = true) : ∀ y ∈ [u, v, x], y.oneCell' = true := by
  intro y hy
  simp at hy
  rcases hy with rfl | rfl | rfl <;> assumption
theorem tripSnoc (gs : List T3) (x y z : Int) : tripCells (gs ++ [(x, y, z)]) = tripCells gs ++ [.int .i64 x, .int .i64 y, .int .i64 z] := by simp [tripCells]
def wds (l : List UInt8) (k : Nat) : List T3 := ((cutR 38 l).take k).map wordR
theorem wds_succ (l : List UInt8) (k : Nat) (h : k < (cutR 38 l).length) : wds l (k + 1) = wds l k ++ [wordR ((cutR 38 l).getD k [])] := by
  unfold wds
  rw [List.take_add_one, List.getElem?_eq_getElem h, List.map_append]
  simp [h]
theorem wds_all (l : List UInt8) : wds l (cutR 38 l).length = (cutR 38 l).map wordR := by unfold wds; rw [List.take_length]

/-- a test that lies by itself -/
structure TAt (W : World) (tb lo : Nat) : Prop where
  c0 : ∃ v, W.cell? ⟨tb, 0, none⟩ = some v
  c1 : ∃ v, W.cell? ⟨tb, 1, none⟩ = some v
  c2 : ∃ v, W.cell? ⟨tb, 2, none⟩ = some v
  fr : ∀ j, W.frozen? ⟨tb, j, none⟩ = false
  lo : lo ≤ tb
theorem TAt.on {W W' : World} {tb lo : Nat} (h : TAt W tb lo) (hb : Below W.heap.size W W') : TAt W' tb lo := by
  obtain ⟨⟨v0, h0⟩, ⟨v1, h1⟩, ⟨v2, h2⟩, hf, hl⟩ := h
  exact ⟨⟨v0, cell_on hb h0⟩, ⟨v1, cell_on hb h1⟩, ⟨v2, cell_on hb h2⟩, fun j => frozen_on hb (p := ⟨tb, j, none⟩) (show tb < W.heap.size from cell_lt h0) (hf j), hl⟩
theorem tAt_new (W : World) {lo : Nat} (h : lo ≤ W.heap.size) : TAt (W.alloc (.cells #[.int .i64 0, .int .i64 0, .int .i64 0] 38)) W.heap.size lo :=
  ⟨⟨.int .i64 0, by go_simp⟩, ⟨.int .i64 0, by go_simp⟩, ⟨.int .i64 0, by go_simp⟩, fun j => by go_simp, h⟩
theorem tAt_set {W : World} {tb : Nat} {v0 v1 v2 : Value} (h0 : W.cell? ⟨tb, 0, none⟩ = some v0) (h1 : W.cell? ⟨tb, 1, none⟩ = some v1) (h2 : W.cell? ⟨tb, 2, none⟩ = some v2) (a b c : Value) :
    (((W.setCell ⟨tb, 0, none⟩ a).setCell ⟨tb, 1, none⟩ b).setCell ⟨tb, 2, none⟩ c).cell? ⟨tb, 0, none⟩ = some a ∧ (((W.setCell ⟨tb, 0, none⟩ a).setCell ⟨tb, 1, none⟩ b).setCell ⟨tb, 2, none⟩ c).cell? ⟨tb, 1, none⟩ = some b ∧ (((W.setCell ⟨tb, 0, none⟩ a).setCell ⟨tb, 1, none⟩ b).setCell ⟨tb, 2, none⟩ c).cell? ⟨tb, 2, none⟩ = some c := by
  have n1 : (⟨tb, 1, none⟩ : Addr) ≠ ⟨tb, 0, none⟩ := by simp
  have n2 : (⟨tb, 2, none⟩ : Addr) ≠ ⟨tb, 0, none⟩ := by simp
  have n3 : (⟨tb, 2, none⟩ : Addr) ≠ ⟨tb, 1, none⟩ := by simp
  have n4 : (⟨tb, 0, none⟩ : Addr) ≠ ⟨tb, 1, none⟩ := by simp
  have n5 : (⟨tb, 0, none⟩ : Addr) ≠ ⟨tb, 2, none⟩ := by simp
  have n6 : (⟨tb, 1, none⟩ : Addr) ≠ ⟨tb, 2, none⟩ := by simp
  refine ⟨?_, ?_, ?_⟩
  · rw [World.cell?_setCell_other _ _ _ _ n2, World.cell?_setCell_other _ _ _ _ n1]
    exact World.cell?_setCell_same _ _ _ h0
  · rw [World.cell?_setCell_other _ _ _ _ n3]
    have k1 : (W.setCell ⟨tb, 0, none⟩ a).cell? ⟨tb, 1, none⟩ = some v1 := by rw [World.cell?_setCell_other _ _ _ _ n4]; exact h1
    exact World.cell?_setCell_same _ _ _ k1
  · have k2 : ((W.setCell ⟨tb, 0, none⟩ a).setCell ⟨tb, 1, none⟩ b).cell? ⟨tb, 2, none⟩ = some v2 := by rw [World.cell?_setCell_other _ _ _ _ n6, World.cell?_setCell_other _ _ _ _ n5]; exact h2
    exact World.cell?_setCell_same _ _ _ k2
/-- the words lie where no row of tests is -/
def WdAt (l : List UInt8) (B n : Nat) (W : World) : Prop := ∀ k, k < n → W.cell? ⟨B, k, none⟩ = some (.string (ofL ((cutR 38 l).getD k [])))
theorem WdAt.on {l : List UInt8} {B n : Nat} {W W' : World} (h : WdAt l B n W) (hb : Below W.heap.size W W') : WdAt l B n W' := fun k hk => cell_on hb (h k hk)
theorem WdAt.grown {l : List UInt8} {B n g k c : Nat} {W W' : World} {o : Obj} (h : WdAt l B n W) (hg : (W.alloc o).grownBy W' (Value.slice (some ⟨g, 0, none⟩) k c).ownBlock) (hne : g ≠ B) : WdAt l B n W' := fun q hq => by
  have h1 := cell_on ((Below.refl _ _).alloc (Nat.le_refl _) o) (h q hq)
  exact (World.cell?_of_block (hg.block B (cell_lt h1) (fun e => hne (by simp only [Value.ownBlock] at e; exact (Option.some.inj e).symm)))).trans h1

set_option maxHeartbeats 6400000 in
set_option maxRecDepth 100000 in
theorem implReadTests_any (l : List UInt8) (mx : Int) (w : World) (hl : l.length ≤ 1048576) (hmx : w.cell? ⟨0, 0, none⟩ = some (.int .i64 mx)) {es er : Value} (hE : ErrC w es er) (htab : Lib.TabIs Tryd.prog w "internal/strconv.uint64pow10" .u64 Lib.pow10Tab) :
    Calls Tryd.prog 12 #[.string (ofL l)] w (RtPost l w) := by
  have hs := ofL_sz l
  obtain ⟨i0, hii, hz0, hz1, hz2⟩ := info_parts infoTest
  have HTab := Lib.hid (Lib.tabBelow_of_tabIs htab)
  have HEc := Lib.hid hE
  have hbS : Below w.heap.size w (w.alloc (.cells #[] 38)) := (Below.refl _ _).alloc (Nat.le_refl _) _
  have CS := Tryd.strings_Split (ofL l) ⟨#[38]⟩ mx (w.alloc (.cells #[] 38)) (by omega) (cell_on hbS hmx) (Nat.le_refl 1)
  rw [splitB_cut, ← cutB_len] at CS
  have hcb : cutB 38 (ofL l) = (cutR 38 l).map ofL := by unfold cutB; rw [ofL_toList, cutL_R]
  rw [hcb, List.length_map] at CS
  have hn1 : (cutR 38 l).length ≤ 1048577 := by have := cutB_le 38 (ofL l); rw [hcb, List.length_map] at this; omega
  have hO : (w.alloc (.cells #[] 38)).ownsRow w.heap.size 38 3 (.slice (some ⟨w.heap.size, 0, none⟩) 0 0) 0 (tripCells []) := World.ownsRow_made (e := 38) (size := 3) (base := w.heap.size) w #[] 0 (Nat.le_refl _) (Nat.zero_le _) (by simp [tripCells])
  have hzS : (w.alloc (.cells #[] 38)).heap.size = w.heap.size + 1 := by simp
  have hCell : ∀ k, k < (cutR 38 l).length → ((w.alloc (.cells #[] 38)).alloc (.cells (((cutR 38 l).map ofL).map Value.string).toArray 9)).cell? ⟨w.heap.size + 1, k, none⟩ = some (.string (ofL ((cutR 38 l).getD k []))) := fun k hk => by
    rw [← hzS]
    unfold World.cell?
    rw [heap_alloc_new]
    dsimp only
    rw [if_neg (by simp)]
    simp [hk]
  have hwl : ∀ k, k < (cutR 38 l).length → ((cutR 38 l).getD k []).length ≤ 1048576 := fun k hk => by
    have h1 := cutR_mem_len l ((cutR 38 l).getD k []) (getD_mem hk)
    omega
  have HWl := Lib.hid hwl
  have HCell := Lib.hid hCell
  have hbS2 : Below w.heap.size w ((w.alloc (.cells #[] 38)).alloc (.cells (((cutR 38 l).map ofL).map Value.string).toArray 9)) := hbS.alloc (by simp) _
  have HBS := Lib.hid hbS2
  have HO0 := Lib.hid (ownsRow_below hO ((Below.refl _ _).alloc (Nat.le_refl _) (.cells (((cutR 38 l).map ofL).map Value.string).toArray 9)))
  have CS := Lib.hid CS
  have HNo := Lib.hid (fun k hk h => rd_no_word (l := l) (k := k) hk h)
  have HMany := Lib.hid (fun h => rd_many (l := l) h)
  have HYes := Lib.hid (fun hn h => rd_of_words (l := l) hn h)
  have HAllW := Lib.hid (wds_all l)
  have HSuc := Lib.hid (fun k h => wds_succ l k h)
  clear hE htab hO hCell hwl hbS2 hmx
  generalize hN : (cutR 38 l).length = n at *
  have hzS2 : ((w.alloc (.cells #[] 38)).alloc (.cells (((cutR 38 l).map ofL).map Value.string).toArray 9)).heap.size = w.heap.size + 2 := by simp
  go_enter Tryd.func12, Tryd.ntmps12
  go_wp2_with (fail)
  refine CS.out.mono ?_
  rintro e w1 ⟨rfl, rfl⟩
  generalize (w.alloc (.cells #[] 38)).alloc (.cells (((cutR 38 l).map ofL).map Value.string).toArray 9) = w1 at *
  rw [hzS]
  clear CS hcb hbS
  go_wp2
  go_loopw [4, 14] (fun vo vi wr => ∃ (k g c : Nat), k ≤ n ∧ k ≤ 6 ∧ vi = .int .i64 k ∧ vo = .slice (some ⟨g, 0, none⟩) k c ∧ g ≠ w.heap.size + 1 ∧ WdAt l (w.heap.size + 1) n wr ∧ Below w.heap.size w wr ∧ wr.ownsRow w.heap.size 38 3 (.slice (some ⟨g, 0, none⟩) k c) k (tripCells (wds l k)) ∧ Hid (∀ i, i < k → wordOk ((cutR 38 l).getD i []) = true)) (fun _ vi _ => n - (intOf vi).toNat)
  case atStart => exact ⟨0, w.heap.size, 0, by omega, by omega, rfl, rfl, by omega, HCell.out, HBS.out, HO0.out, fun i hi => absurd hi (Nat.not_lt_zero _)⟩
  case round =>
    obtain ⟨k, g, c, hk, hk6, rfl, rfl, hgne, hwd, hbw, hown, HDone⟩ := hrel
    have HWd := Lib.hid hwd
    have HBw := Lib.hid hbw
    have HO := Lib.hid hown
    have hszw := hbw.size
    clear hwd hbw hown HBS HO0
    by_cases hlt : k < n
    · have z := HWd.out k hlt
      have hlw : w.heap.size + 1 < wr.heap.size := cell_lt z
      have hwl := HWl.out k hlt
      have hNk := Lib.hid (fun h => HNo.out k (by omega) h)
      have HSk := Lib.hid (HSuc.out k (by omega))
      generalize hWe : (cutR 38 l).getD k [] = W at *
      have HWe := Lib.hid hWe
      clear hWe
      have hws : (ofL W).size = W.length := ofL_sz W
      have hwk : Hid (wordOk W = (decide (6 ≤ W.length) && ((rdD (W.drop 5)).2 && okTest (fIdx (W.take 4)) (sIdx (W.getD 4 0)) (rdD (W.drop 5)).1))) := rfl
      have hwR : Hid (wordR W = (fIdx (W.take 4), sIdx (W.getD 4 0), (rdD (W.drop 5)).1)) := rfl
      by_cases h6 : W.length < 6
      · have HR := Lib.hid (hNk.out (by rw [hwk.out, decide_eq_false (by omega), Bool.false_and]))
        clear hwk hwR HSk HNo HMany HYes HSuc
        generalize ofL W = sW at *
        go_wp2
        refine bodyPost_ret (v := .tuple #[.slice none 0 0, .bool false]) (by simp [results, Tryd.results12, go_sem]) rfl (rtPost_no HBw.out HR.out)
      by_cases hk7 : k = 6
      · have HR := Lib.hid (HMany.out (by omega))
        subst hk7
        clear hwk hwR HSk HNo HMany HYes HSuc
        generalize ofL W = sW at *
        go_wp2
        refine bodyPost_ret (v := .tuple #[.slice none 0 0, .bool false]) (by simp [results, Tryd.results12, go_sem]) rfl (rtPost_no HBw.out HR.out)
      have CR := Lib.hid (readDecimal_any (W.drop 5) wr (by rw [List.length_drop]; omega) (HEc.out.on HBw.out) (HTab.out wr HBw.out))
      have hx5 : (ofL W).extract 5 (ofL W).size = ofL (W.drop 5) := by
        rw [← ofL_data ((ofL W).extract 5 (ofL W).size), ext_data, ofL_toList, List.take_of_length_le (by omega)]
      have hx4 : (ofL W).extract 0 4 = ofL (W.take 4) := by
        rw [← ofL_data ((ofL W).extract 0 4), ext_data, ofL_toList]; rfl
      have hg4 : ∀ h : 4 < (ofL W).size, (ofL W)[4]'h = W.getD 4 0 := fun h => by
        have h4 : 4 < W.length := by omega
        rw [List.getD_eq_getElem?_getD, List.getElem?_eq_getElem h4]
        rfl
      have CI := Lib.hid (fun b W' h => idxWord_any b 3 (W.take 4) W' h (Nat.le_refl _) (by omega))
      rcases hr : rdD (W.drop 5) with ⟨N, okN⟩
      rw [hr] at CR hwk hwR
      dsimp only at CR hwk hwR
      generalize fIdx (W.take 4) = F at *
      generalize hB4 : W.getD 4 0 = b4 at *
      generalize hF5 : ofL (W.drop 5) = s5 at *
      generalize hF4 : ofL (W.take 4) = s4 at *
      have hl6 : 6 ≤ W.length := by omega
      rw [decide_eq_true hl6, Bool.true_and] at hwk
      generalize ofL W = sW at *
      clear hr hB4 hF5 hF4
      rw [hws] at hx5
      have hnl : ¬ (W.length : Int) < 6 := by omega
      have hnk : ¬ (k : Int) = 6 := by omega
      have hl5 : (5 : Int) ≤ (W.length : Int) := by omega
      have hl4 : (4 : Int) ≤ (W.length : Int) := by omega
      have hl44 : (4 : Int) < (W.length : Int) := by omega
      have hl4s : 4 < sW.size := by omega
      go_wp2_with (fail)
      refine CR.out.mono ?_
      rintro e w2 ⟨rfl, hb2⟩
      have HWd2 := Lib.hid (HWd.out.on hb2)
      have HBw2 := Lib.hid (HBw.out.trans (hb2.mono hszw))
      have HO2 := Lib.hid (ownsRow_below HO.out hb2)
      have hsz2 := hb2.size
      clear hb2 CR HBw HO HWd z
      go_wp2
      have hszx : w.heap.size ≤ w2.heap.size := HBw2.out.size
      have CB := Lib.hid (fun W' => idxSign_any b4 W')
      generalize sIdx b4 = S at *
      have hB : Below w2.heap.size w2 w2.drew := (Below.refl _ _).drew
      refine wp_region_held_drew (S := fun _ => True) (by kernel_rfl) trivial (fun _ => ?_)
      generalize w2.drew = W0 at *
      refine wpAnyH_take (i := 1) (v := ?_) rfl (by kernel_rfl) (by kernel_rfl) (by kernel_rfl) (fun _ _ _ h => h) (Or.inl ⟨by rfl, ?_⟩) trivial ?_
      rotate_left 1
      · intro w hSw; go_simp; try with_reducible rfl
      try simp only [Act.put, List.setIfInBounds_toArray, List.set_cons_zero, List.set_cons_succ]
      refine wpAnyH_take (i := 2) (v := ?_) rfl (by kernel_rfl) (by kernel_rfl) (by kernel_rfl) (fun _ _ _ h => h) (Or.inl ⟨by rfl, ?_⟩) trivial ?_
      rotate_left 1
      · intro w hSw; go_simp; try with_reducible rfl
      try simp only [Act.put, List.setIfInBounds_toArray, List.set_cons_zero, List.set_cons_succ]
      refine wpAnyH_take (i := 4) (v := ?_) rfl (by kernel_rfl) (by kernel_rfl) (by kernel_rfl) (fun _ _ _ h => h) (Or.inl ⟨by rfl, ?_⟩) trivial ?_
      rotate_left 1
      · intro w hSw; go_simp; try with_reducible rfl
      try simp only [Act.put, List.setIfInBounds_toArray, List.set_cons_zero, List.set_cons_succ]
      refine wpAnyH_take (i := 5) (v := ?_) rfl (by kernel_rfl) (by kernel_rfl) (by kernel_rfl) (fun _ _ _ h => h) (Or.inl ⟨by rfl, ?_⟩) trivial ?_
      rotate_left 1
      · intro w hSw; go_simp; try with_reducible rfl
      try simp only [Act.put, List.setIfInBounds_toArray, List.set_cons_zero, List.set_cons_succ]
      refine wpAnyH_take (i := 7) (v := ?_) rfl (by kernel_rfl) (by kernel_rfl) (by kernel_rfl) (fun _ _ _ h => h) (Or.inl ⟨by rfl, ?_⟩) trivial ?_
      rotate_left 1
      · intro w hSw; go_simp; try with_reducible rfl
      try simp only [Act.put, List.setIfInBounds_toArray, List.set_cons_zero, List.set_cons_succ]
      refine wpAnyH_ready (rs := [0, 9]) (by kernel_rfl) (by simp) ?_
      refine AllReadyH.cons rfl (fun K hK => ?_) ?_
      · skip
        go_simp
        go_at_call 26
        refine (fieldWords_any _).mono ?_
        rintro e w3 ⟨rfl, hb3, kw⟩
        have hB := hB.trans (hb3.mono hB.size)
        clear hb3
        refine hK.out _ _ trivial (fun _ => ?_)
        clear hK K
        try simp only [Act.put, List.setIfInBounds_toArray, List.set_cons_zero, List.set_cons_succ]
        refine wpAnyH_ready (rs := [3, 9]) (by kernel_rfl) (by simp) ?_
        refine AllReadyH.cons rfl (fun K hK => ?_) ?_
        · skip
          go_simp
          go_at_call 33
          refine (CI.out _ _ kw).mono ?_
          rintro e w4 ⟨rfl, rfl⟩
          refine hK.out _ _ trivial (fun _ => ?_)
          clear hK K
          try simp only [Act.put, List.setIfInBounds_toArray, List.set_cons_zero, List.set_cons_succ]
          refine wpAnyH_ready (rs := [6, 9]) (by kernel_rfl) (by simp) ?_
          refine AllReadyH.cons rfl (fun K hK => ?_) ?_
          · skip
            go_simp
            go_at_call 34
            refine (CB.out _).mono ?_
            rintro e w5 ⟨rfl, rfl⟩
            refine hK.out _ _ trivial (fun _ => ?_)
            clear hK K
            try simp only [Act.put, List.setIfInBounds_toArray, List.set_cons_zero, List.set_cons_succ]
            refine wpAnyH_take (i := 8) (v := ?_) rfl (by kernel_rfl) (by kernel_rfl) (by kernel_rfl) (fun _ _ _ h => h) (Or.inl ⟨by rfl, ?_⟩) trivial ?_
            rotate_left 1
            · intro w hSw; go_simp; try with_reducible rfl
            try simp only [Act.put, List.setIfInBounds_toArray, List.set_cons_zero, List.set_cons_succ]
            refine wpAnyH_ready (rs := [9]) (by kernel_rfl) (by simp) ?_
            refine AllReadyH.cons rfl (fun K hK => ?_) ?_
            · skip
              go_simp
              have hA : Below w3.heap.size w3 (w3.alloc (.cells #[.int .i64 0, .int .i64 0, .int .i64 0] 38)) := (Below.refl _ _).alloc (Nat.le_refl _) _
              have T0 : TAt (w3.alloc (.cells #[.int .i64 0, .int .i64 0, .int .i64 0] 38)) w3.heap.size w2.heap.size := tAt_new w3 hB.size
              have kw : ∀ x : Nat, x < 3 → (w3.alloc (.cells #[.int .i64 0, .int .i64 0, .int .i64 0] 38)).cell? ⟨W0.heap.size, x, none⟩ = some (.string (ofL (fldL (x : Int)))) := fun x hx => cell_on hA (kw x hx)
              have hB := hB.trans (hA.mono hB.size)
              clear hA
              generalize w3.alloc (.cells #[.int .i64 0, .int .i64 0, .int .i64 0] 38) = Wa at *
              generalize w3.heap.size = tb at *
              refine hK.out _ _ trivial (fun _ => ?_)
              clear hK K
              try simp only [Act.put, List.setIfInBounds_toArray, List.set_cons_zero, List.set_cons_succ]
              refine wpAnyH_ready (rs := [10]) (by kernel_rfl) (by simp) ?_
              refine AllReadyH.cons rfl (fun K hK => ?_) ?_
              · skip
                obtain ⟨⟨v0, t0⟩, ⟨v1, t1⟩, ⟨v2, t2⟩, tf, tl⟩ := T0
                go_simp
                refine hK.out _ _ trivial (fun _ => ?_)
                clear hK K
                try simp only [Act.put, List.setIfInBounds_toArray, List.set_cons_zero, List.set_cons_succ]
                refine wpAnyH_done (by kernel_rfl) ?_ _
                have q0 := t0
                have hTC := tAt_set t0 t1 t2 (.int .i64 F) (.int .i64 S) (.int .i64 N)
                have hB9 := ((hB.setCell (p := ⟨tb, 0, none⟩) tl (.int .i64 F)).setCell (p := ⟨tb, 1, none⟩) tl (.int .i64 S)).setCell (p := ⟨tb, 2, none⟩) tl (.int .i64 N)
                clear t0 t1 t2 tf q0
                obtain ⟨r0, r1, r2⟩ := hTC
                generalize World.setCell _ _ _ = wf at *
                have HB9 := Lib.hid hB9
                have hz9 := hB9.size
                clear hB9 hB
                cases okN with
                | false =>
                  have HR := Lib.hid (hNk.out (by rw [hwk.out]; rfl))
                  go_wp2
                  refine bodyPost_ret (v := .tuple #[.slice none 0 0, .bool false]) (by simp [results, Tryd.results12, go_sem]) rfl (rtPost_no (HBw2.out.trans (HB9.out.mono hszx)) HR.out)
                | true =>
                  have CV := Lib.hid (implValidTest_any F S N wf)
                  go_wp2_with (fail)
                  refine CV.out.mono ?_
                  rintro e w8 ⟨rfl, hb8⟩
                  have HB8 := Lib.hid (HB9.out.trans (hb8.mono hz9))
                  have r0 := cell_on hb8 r0
                  have r1 := cell_on hb8 r1
                  have r2 := cell_on hb8 r2
                  have hz8 := hb8.size
                  clear hb8 CV
                  rcases Bool.eq_false_or_eq_true (okTest F S N) with e | e
                  · rw [e] at hwk
                    rw [e]
                    have HWk : Hid (wordOk W = true) := by show _ = _; rw [hwk.out]; rfl
                    have HS2 : Hid (tripCells (wds l (k + 1)) = tripCells (wds l k) ++ [.int .i64 F, .int .i64 S, .int .i64 N]) := by show _ = _; rw [HSk.out, hwR.out, tripSnoc]
                    have HO8 := Lib.hid (ownsRow_below HO2.out HB8.out)
                    have HBt := Lib.hid (HBw2.out.trans (HB8.out.mono hszx))
                    have HW8 := Lib.hid (HWd2.out.on HB8.out)
                    have hgz := (HO2.out.lt g rfl).2
                    clear HB9 hwk hwR HNo HMany HYes HSuc HSk hNk
                    go_wp2_with (at_builtin; go_must (refine wpList_append_lies _ rfl _ _ 26 rfl w.heap.size 38 i0 _ 3 24 Tryd.underlying26 hii hz0 hz1 hz2 rfl (by omega) (.slice (some ⟨g, 0, none⟩) k c) k (tripCells (wds l k)) rfl (HO8.out.alloc _) ⟨w8.heap.size, 0, none⟩ 1 1 [.int .i64 F, .int .i64 S, .int .i64 N] rfl rfl (newT _ _ _ _ _) (oneT rfl rfl rfl) (by omega) (by unfold maxLen; omega) (by omega) (by simp; omega) (w8.heap.size + 1) (by simp) ?_); intro gg cap w10 hown1 hg1 hat hlt10; go_must (have HBn := Lib.hid (below_app HBt.out (by omega) hg1 HO8.out)); go_must (have HWn := Lib.hid (HW8.out.grown hg1 hgne)); go_must (have hgg : gg ≠ w.heap.size + 1 := by rcases hat with q | q; (· simp only [Value.ownBlock, Option.some.injEq] at q; omega); (· omega)); go_must (have HOn : Hid (w10.ownsRow w.heap.size 38 3 (.slice (some ⟨gg, 0, none⟩) (k + 1) cap) (k + 1) (tripCells (wds l (k + 1)))) := (by show w10.ownsRow _ _ _ _ _ _; rw [HS2.out]; exact hown1)); clear hown1 hg1 hat)
                    go_roundw
                    case rel => exact ⟨k + 1, gg, cap, by omega, by omega, by first | rfl | go_num, by first | rfl | go_num, hgg, HWn.out, HBn.out, HOn.out, fun i hi => by
                      by_cases q : i = k
                      · rw [q, HWe.out]; exact HWk.out
                      · exact HDone.out i (by omega)⟩
                    case measure => simp [intOf]; omega
                  · rw [e] at hwk
                    rw [e]
                    have HR := Lib.hid (hNk.out (by rw [hwk.out]; rfl))
                    go_wp2
                    refine bodyPost_ret (v := .tuple #[.slice none 0 0, .bool false]) (by simp [results, Tryd.results12, go_sem]) rfl (rtPost_no (HBw2.out.trans (HB8.out.mono hszx)) HR.out)
              exact AllReadyH.nil
            exact AllReadyH.nil
          refine AllReadyH.cons rfl (fun K hK => ?_) ?_
          · skip
            go_simp
            have hA : Below w3.heap.size w3 (w3.alloc (.cells #[.int .i64 0, .int .i64 0, .int .i64 0] 38)) := (Below.refl _ _).alloc (Nat.le_refl _) _
            have T0 : TAt (w3.alloc (.cells #[.int .i64 0, .int .i64 0, .int .i64 0] 38)) w3.heap.size w2.heap.size := tAt_new w3 hB.size
            have kw : ∀ x : Nat, x < 3 → (w3.alloc (.cells #[.int .i64 0, .int .i64 0, .int .i64 0] 38)).cell? ⟨W0.heap.size, x, none⟩ = some (.string (ofL (fldL (x : Int)))) := fun x hx => cell_on hA (kw x hx)
            have hB := hB.trans (hA.mono hB.size)
            clear hA
            generalize w3.alloc (.cells #[.int .i64 0, .int .i64 0, .int .i64 0] 38) = Wa at *
            generalize w3.heap.size = tb at *
            refine hK.out _ _ trivial (fun _ => ?_)
            clear hK K
            try simp only [Act.put, List.setIfInBounds_toArray, List.set_cons_zero, List.set_cons_succ]
            refine wpAnyH_ready (rs := [6]) (by kernel_rfl) (by simp) ?_
            refine AllReadyH.cons rfl (fun K hK => ?_) ?_
            · skip
              go_simp
              go_at_call 34
              refine (CB.out _).mono ?_
              rintro e w5 ⟨rfl, rfl⟩
              refine hK.out _ _ trivial (fun _ => ?_)
              clear hK K
              try simp only [Act.put, List.setIfInBounds_toArray, List.set_cons_zero, List.set_cons_succ]
              refine wpAnyH_take (i := 8) (v := ?_) rfl (by kernel_rfl) (by kernel_rfl) (by kernel_rfl) (fun _ _ _ h => h) (Or.inl ⟨by rfl, ?_⟩) trivial ?_
              rotate_left 1
              · intro w hSw; go_simp; try with_reducible rfl
              try simp only [Act.put, List.setIfInBounds_toArray, List.set_cons_zero, List.set_cons_succ]
              refine wpAnyH_ready (rs := [10]) (by kernel_rfl) (by simp) ?_
              refine AllReadyH.cons rfl (fun K hK => ?_) ?_
              · skip
                obtain ⟨⟨v0, t0⟩, ⟨v1, t1⟩, ⟨v2, t2⟩, tf, tl⟩ := T0
                go_simp
                refine hK.out _ _ trivial (fun _ => ?_)
                clear hK K
                try simp only [Act.put, List.setIfInBounds_toArray, List.set_cons_zero, List.set_cons_succ]
                refine wpAnyH_done (by kernel_rfl) ?_ _
                have q0 := t0
                have hTC := tAt_set t0 t1 t2 (.int .i64 F) (.int .i64 S) (.int .i64 N)
                have hB9 := ((hB.setCell (p := ⟨tb, 0, none⟩) tl (.int .i64 F)).setCell (p := ⟨tb, 1, none⟩) tl (.int .i64 S)).setCell (p := ⟨tb, 2, none⟩) tl (.int .i64 N)
                clear t0 t1 t2 tf q0
                obtain ⟨r0, r1, r2⟩ := hTC
                generalize World.setCell _ _ _ = wf at *
                have HB9 := Lib.hid hB9
                have hz9 := hB9.size
                clear hB9 hB
                cases okN with
                | false =>
                  have HR := Lib.hid (hNk.out (by rw [hwk.out]; rfl))
                  go_wp2
                  refine bodyPost_ret (v := .tuple #[.slice none 0 0, .bool false]) (by simp [results, Tryd.results12, go_sem]) rfl (rtPost_no (HBw2.out.trans (HB9.out.mono hszx)) HR.out)
                | true =>
                  have CV := Lib.hid (implValidTest_any F S N wf)
                  go_wp2_with (fail)
                  refine CV.out.mono ?_
                  rintro e w8 ⟨rfl, hb8⟩
                  have HB8 := Lib.hid (HB9.out.trans (hb8.mono hz9))
                  have r0 := cell_on hb8 r0
                  have r1 := cell_on hb8 r1
                  have r2 := cell_on hb8 r2
                  have hz8 := hb8.size
                  clear hb8 CV
                  rcases Bool.eq_false_or_eq_true (okTest F S N) with e | e
                  · rw [e] at hwk
                    rw [e]
                    have HWk : Hid (wordOk W = true) := by show _ = _; rw [hwk.out]; rfl
                    have HS2 : Hid (tripCells (wds l (k + 1)) = tripCells (wds l k) ++ [.int .i64 F, .int .i64 S, .int .i64 N]) := by show _ = _; rw [HSk.out, hwR.out, tripSnoc]
                    have HO8 := Lib.hid (ownsRow_below HO2.out HB8.out)
                    have HBt := Lib.hid (HBw2.out.trans (HB8.out.mono hszx))
                    have HW8 := Lib.hid (HWd2.out.on HB8.out)
                    have hgz := (HO2.out.lt g rfl).2
                    clear HB9 hwk hwR HNo HMany HYes HSuc HSk hNk
                    go_wp2_with (at_builtin; go_must (refine wpList_append_lies _ rfl _ _ 26 rfl w.heap.size 38 i0 _ 3 24 Tryd.underlying26 hii hz0 hz1 hz2 rfl (by omega) (.slice (some ⟨g, 0, none⟩) k c) k (tripCells (wds l k)) rfl (HO8.out.alloc _) ⟨w8.heap.size, 0, none⟩ 1 1 [.int .i64 F, .int .i64 S, .int .i64 N] rfl rfl (newT _ _ _ _ _) (oneT rfl rfl rfl) (by omega) (by unfold maxLen; omega) (by omega) (by simp; omega) (w8.heap.size + 1) (by simp) ?_); intro gg cap w10 hown1 hg1 hat hlt10; go_must (have HBn := Lib.hid (below_app HBt.out (by omega) hg1 HO8.out)); go_must (have HWn := Lib.hid (HW8.out.grown hg1 hgne)); go_must (have hgg : gg ≠ w.heap.size + 1 := by rcases hat with q | q; (· simp only [Value.ownBlock, Option.some.injEq] at q; omega); (· omega)); go_must (have HOn : Hid (w10.ownsRow w.heap.size 38 3 (.slice (some ⟨gg, 0, none⟩) (k + 1) cap) (k + 1) (tripCells (wds l (k + 1)))) := (by show w10.ownsRow _ _ _ _ _ _; rw [HS2.out]; exact hown1)); clear hown1 hg1 hat)
                    go_roundw
                    case rel => exact ⟨k + 1, gg, cap, by omega, by omega, by first | rfl | go_num, by first | rfl | go_num, hgg, HWn.out, HBn.out, HOn.out, fun i hi => by
                      by_cases q : i = k
                      · rw [q, HWe.out]; exact HWk.out
                      · exact HDone.out i (by omega)⟩
                    case measure => simp [intOf]; omega
                  · rw [e] at hwk
                    rw [e]
                    have HR := Lib.hid (hNk.out (by rw [hwk.out]; rfl))
                    go_wp2
                    refine bodyPost_ret (v := .tuple #[.slice none 0 0, .bool false]) (by simp [results, Tryd.results12, go_sem]) rfl (rtPost_no (HBw2.out.trans (HB8.out.mono hszx)) HR.out)
              exact AllReadyH.nil
            exact AllReadyH.nil
          exact AllReadyH.nil
        refine AllReadyH.cons rfl (fun K hK => ?_) ?_
        · skip
          go_simp
          have hA : Below w3.heap.size w3 (w3.alloc (.cells #[.int .i64 0, .int .i64 0, .int .i64 0] 38)) := (Below.refl _ _).alloc (Nat.le_refl _) _
          have T0 : TAt (w3.alloc (.cells #[.int .i64 0, .int .i64 0, .int .i64 0] 38)) w3.heap.size w2.heap.size := tAt_new w3 hB.size
          have kw : ∀ x : Nat, x < 3 → (w3.alloc (.cells #[.int .i64 0, .int .i64 0, .int .i64 0] 38)).cell? ⟨W0.heap.size, x, none⟩ = some (.string (ofL (fldL (x : Int)))) := fun x hx => cell_on hA (kw x hx)
          have hB := hB.trans (hA.mono hB.size)
          clear hA
          generalize w3.alloc (.cells #[.int .i64 0, .int .i64 0, .int .i64 0] 38) = Wa at *
          generalize w3.heap.size = tb at *
          refine hK.out _ _ trivial (fun _ => ?_)
          clear hK K
          try simp only [Act.put, List.setIfInBounds_toArray, List.set_cons_zero, List.set_cons_succ]
          refine wpAnyH_ready (rs := [3]) (by kernel_rfl) (by simp) ?_
          refine AllReadyH.cons rfl (fun K hK => ?_) ?_
          · skip
            go_simp
            go_at_call 33
            refine (CI.out _ _ kw).mono ?_
            rintro e w4 ⟨rfl, rfl⟩
            refine hK.out _ _ trivial (fun _ => ?_)
            clear hK K
            try simp only [Act.put, List.setIfInBounds_toArray, List.set_cons_zero, List.set_cons_succ]
            refine wpAnyH_ready (rs := [6]) (by kernel_rfl) (by simp) ?_
            refine AllReadyH.cons rfl (fun K hK => ?_) ?_
            · skip
              go_simp
              go_at_call 34
              refine (CB.out _).mono ?_
              rintro e w5 ⟨rfl, rfl⟩
              refine hK.out _ _ trivial (fun _ => ?_)
              clear hK K
              try simp only [Act.put, List.setIfInBounds_toArray, List.set_cons_zero, List.set_cons_succ]
              refine wpAnyH_take (i := 8) (v := ?_) rfl (by kernel_rfl) (by kernel_rfl) (by kernel_rfl) (fun _ _ _ h => h) (Or.inl ⟨by rfl, ?_⟩) trivial ?_
              rotate_left 1
              · intro w hSw; go_simp; try with_reducible rfl
              try simp only [Act.put, List.setIfInBounds_toArray, List.set_cons_zero, List.set_cons_succ]
              refine wpAnyH_ready (rs := [10]) (by kernel_rfl) (by simp) ?_
              refine AllReadyH.cons rfl (fun K hK => ?_) ?_
              · skip
                obtain ⟨⟨v0, t0⟩, ⟨v1, t1⟩, ⟨v2, t2⟩, tf, tl⟩ := T0
                go_simp
                refine hK.out _ _ trivial (fun _ => ?_)
                clear hK K
                try simp only [Act.put, List.setIfInBounds_toArray, List.set_cons_zero, List.set_cons_succ]
                refine wpAnyH_done (by kernel_rfl) ?_ _
                have q0 := t0
                have hTC := tAt_set t0 t1 t2 (.int .i64 F) (.int .i64 S) (.int .i64 N)
                have hB9 := ((hB.setCell (p := ⟨tb, 0, none⟩) tl (.int .i64 F)).setCell (p := ⟨tb, 1, none⟩) tl (.int .i64 S)).setCell (p := ⟨tb, 2, none⟩) tl (.int .i64 N)
                clear t0 t1 t2 tf q0
                obtain ⟨r0, r1, r2⟩ := hTC
                generalize World.setCell _ _ _ = wf at *
                have HB9 := Lib.hid hB9
                have hz9 := hB9.size
                clear hB9 hB
                cases okN with
                | false =>
                  have HR := Lib.hid (hNk.out (by rw [hwk.out]; rfl))
                  go_wp2
                  refine bodyPost_ret (v := .tuple #[.slice none 0 0, .bool false]) (by simp [results, Tryd.results12, go_sem]) rfl (rtPost_no (HBw2.out.trans (HB9.out.mono hszx)) HR.out)
                | true =>
                  have CV := Lib.hid (implValidTest_any F S N wf)
                  go_wp2_with (fail)
                  refine CV.out.mono ?_
                  rintro e w8 ⟨rfl, hb8⟩
                  have HB8 := Lib.hid (HB9.out.trans (hb8.mono hz9))
                  have r0 := cell_on hb8 r0
                  have r1 := cell_on hb8 r1
                  have r2 := cell_on hb8 r2
                  have hz8 := hb8.size
                  clear hb8 CV
                  rcases Bool.eq_false_or_eq_true (okTest F S N) with e | e
                  · rw [e] at hwk
                    rw [e]
                    have HWk : Hid (wordOk W = true) := by show _ = _; rw [hwk.out]; rfl
                    have HS2 : Hid (tripCells (wds l (k + 1)) = tripCells (wds l k) ++ [.int .i64 F, .int .i64 S, .int .i64 N]) := by show _ = _; rw [HSk.out, hwR.out, tripSnoc]
                    have HO8 := Lib.hid (ownsRow_below HO2.out HB8.out)
                    have HBt := Lib.hid (HBw2.out.trans (HB8.out.mono hszx))
                    have HW8 := Lib.hid (HWd2.out.on HB8.out)
                    have hgz := (HO2.out.lt g rfl).2
                    clear HB9 hwk hwR HNo HMany HYes HSuc HSk hNk
                    go_wp2_with (at_builtin; go_must (refine wpList_append_lies _ rfl _ _ 26 rfl w.heap.size 38 i0 _ 3 24 Tryd.underlying26 hii hz0 hz1 hz2 rfl (by omega) (.slice (some ⟨g, 0, none⟩) k c) k (tripCells (wds l k)) rfl (HO8.out.alloc _) ⟨w8.heap.size, 0, none⟩ 1 1 [.int .i64 F, .int .i64 S, .int .i64 N] rfl rfl (newT _ _ _ _ _) (oneT rfl rfl rfl) (by omega) (by unfold maxLen; omega) (by omega) (by simp; omega) (w8.heap.size + 1) (by simp) ?_); intro gg cap w10 hown1 hg1 hat hlt10; go_must (have HBn := Lib.hid (below_app HBt.out (by omega) hg1 HO8.out)); go_must (have HWn := Lib.hid (HW8.out.grown hg1 hgne)); go_must (have hgg : gg ≠ w.heap.size + 1 := by rcases hat with q | q; (· simp only [Value.ownBlock, Option.some.injEq] at q; omega); (· omega)); go_must (have HOn : Hid (w10.ownsRow w.heap.size 38 3 (.slice (some ⟨gg, 0, none⟩) (k + 1) cap) (k + 1) (tripCells (wds l (k + 1)))) := (by show w10.ownsRow _ _ _ _ _ _; rw [HS2.out]; exact hown1)); clear hown1 hg1 hat)
                    go_roundw
                    case rel => exact ⟨k + 1, gg, cap, by omega, by omega, by first | rfl | go_num, by first | rfl | go_num, hgg, HWn.out, HBn.out, HOn.out, fun i hi => by
                      by_cases q : i = k
                      · rw [q, HWe.out]; exact HWk.out
                      · exact HDone.out i (by omega)⟩
                    case measure => simp [intOf]; omega
                  · rw [e] at hwk
                    rw [e]
                    have HR := Lib.hid (hNk.out (by rw [hwk.out]; rfl))
                    go_wp2
                    refine bodyPost_ret (v := .tuple #[.slice none 0 0, .bool false]) (by simp [results, Tryd.results12, go_sem]) rfl (rtPost_no (HBw2.out.trans (HB8.out.mono hszx)) HR.out)
              exact AllReadyH.nil
            exact AllReadyH.nil
          exact AllReadyH.nil
        exact AllReadyH.nil
      refine AllReadyH.cons rfl (fun K hK => ?_) ?_
      · skip
        go_simp
        have hA : Below W0.heap.size W0 (W0.alloc (.cells #[.int .i64 0, .int .i64 0, .int .i64 0] 38)) := (Below.refl _ _).alloc (Nat.le_refl _) _
        have T0 : TAt (W0.alloc (.cells #[.int .i64 0, .int .i64 0, .int .i64 0] 38)) W0.heap.size w2.heap.size := tAt_new W0 hB.size
        have hB := hB.trans (hA.mono hB.size)
        clear hA
        generalize W0.alloc (.cells #[.int .i64 0, .int .i64 0, .int .i64 0] 38) = Wa at *
        generalize W0.heap.size = tb at *
        refine hK.out _ _ trivial (fun _ => ?_)
        clear hK K
        try simp only [Act.put, List.setIfInBounds_toArray, List.set_cons_zero, List.set_cons_succ]
        refine wpAnyH_ready (rs := [0]) (by kernel_rfl) (by simp) ?_
        refine AllReadyH.cons rfl (fun K hK => ?_) ?_
        · skip
          go_simp
          go_at_call 26
          refine (fieldWords_any _).mono ?_
          rintro e w3 ⟨rfl, hb3, kw⟩
          have T0 := T0.on hb3
          have hB := hB.trans (hb3.mono hB.size)
          clear hb3
          refine hK.out _ _ trivial (fun _ => ?_)
          clear hK K
          try simp only [Act.put, List.setIfInBounds_toArray, List.set_cons_zero, List.set_cons_succ]
          refine wpAnyH_ready (rs := [3]) (by kernel_rfl) (by simp) ?_
          refine AllReadyH.cons rfl (fun K hK => ?_) ?_
          · skip
            go_simp
            go_at_call 33
            refine (CI.out _ _ kw).mono ?_
            rintro e w4 ⟨rfl, rfl⟩
            refine hK.out _ _ trivial (fun _ => ?_)
            clear hK K
            try simp only [Act.put, List.setIfInBounds_toArray, List.set_cons_zero, List.set_cons_succ]
            refine wpAnyH_ready (rs := [6]) (by kernel_rfl) (by simp) ?_
            refine AllReadyH.cons rfl (fun K hK => ?_) ?_
            · skip
              go_simp
              go_at_call 34
              refine (CB.out _).mono ?_
              rintro e w5 ⟨rfl, rfl⟩
              refine hK.out _ _ trivial (fun _ => ?_)
              clear hK K
              try simp only [Act.put, List.setIfInBounds_toArray, List.set_cons_zero, List.set_cons_succ]
              refine wpAnyH_take (i := 8) (v := ?_) rfl (by kernel_rfl) (by kernel_rfl) (by kernel_rfl) (fun _ _ _ h => h) (Or.inl ⟨by rfl, ?_⟩) trivial ?_
              rotate_left 1
              · intro w hSw; go_simp; try with_reducible rfl
              try simp only [Act.put, List.setIfInBounds_toArray, List.set_cons_zero, List.set_cons_succ]
              refine wpAnyH_ready (rs := [10]) (by kernel_rfl) (by simp) ?_
              refine AllReadyH.cons rfl (fun K hK => ?_) ?_
              · skip
                obtain ⟨⟨v0, t0⟩, ⟨v1, t1⟩, ⟨v2, t2⟩, tf, tl⟩ := T0
                go_simp
                refine hK.out _ _ trivial (fun _ => ?_)
                clear hK K
                try simp only [Act.put, List.setIfInBounds_toArray, List.set_cons_zero, List.set_cons_succ]
                refine wpAnyH_done (by kernel_rfl) ?_ _
                have q0 := t0
                have hTC := tAt_set t0 t1 t2 (.int .i64 F) (.int .i64 S) (.int .i64 N)
                have hB9 := ((hB.setCell (p := ⟨tb, 0, none⟩) tl (.int .i64 F)).setCell (p := ⟨tb, 1, none⟩) tl (.int .i64 S)).setCell (p := ⟨tb, 2, none⟩) tl (.int .i64 N)
                clear t0 t1 t2 tf q0
                obtain ⟨r0, r1, r2⟩ := hTC
                generalize World.setCell _ _ _ = wf at *
                have HB9 := Lib.hid hB9
                have hz9 := hB9.size
                clear hB9 hB
                cases okN with
                | false =>
                  have HR := Lib.hid (hNk.out (by rw [hwk.out]; rfl))
                  go_wp2
                  refine bodyPost_ret (v := .tuple #[.slice none 0 0, .bool false]) (by simp [results, Tryd.results12, go_sem]) rfl (rtPost_no (HBw2.out.trans (HB9.out.mono hszx)) HR.out)
                | true =>
                  have CV := Lib.hid (implValidTest_any F S N wf)
                  go_wp2_with (fail)
                  refine CV.out.mono ?_
                  rintro e w8 ⟨rfl, hb8⟩
                  have HB8 := Lib.hid (HB9.out.trans (hb8.mono hz9))
                  have r0 := cell_on hb8 r0
                  have r1 := cell_on hb8 r1
                  have r2 := cell_on hb8 r2
                  have hz8 := hb8.size
                  clear hb8 CV
                  rcases Bool.eq_false_or_eq_true (okTest F S N) with e | e
                  · rw [e] at hwk
                    rw [e]
                    have HWk : Hid (wordOk W = true) := by show _ = _; rw [hwk.out]; rfl
                    have HS2 : Hid (tripCells (wds l (k + 1)) = tripCells (wds l k) ++ [.int .i64 F, .int .i64 S, .int .i64 N]) := by show _ = _; rw [HSk.out, hwR.out, tripSnoc]
                    have HO8 := Lib.hid (ownsRow_below HO2.out HB8.out)
                    have HBt := Lib.hid (HBw2.out.trans (HB8.out.mono hszx))
                    have HW8 := Lib.hid (HWd2.out.on HB8.out)
                    have hgz := (HO2.out.lt g rfl).2
                    clear HB9 hwk hwR HNo HMany HYes HSuc HSk hNk
                    go_wp2_with (at_builtin; go_must (refine wpList_append_lies _ rfl _ _ 26 rfl w.heap.size 38 i0 _ 3 24 Tryd.underlying26 hii hz0 hz1 hz2 rfl (by omega) (.slice (some ⟨g, 0, none⟩) k c) k (tripCells (wds l k)) rfl (HO8.out.alloc _) ⟨w8.heap.size, 0, none⟩ 1 1 [.int .i64 F, .int .i64 S, .int .i64 N] rfl rfl (newT _ _ _ _ _) (oneT rfl rfl rfl) (by omega) (by unfold maxLen; omega) (by omega) (by simp; omega) (w8.heap.size + 1) (by simp) ?_); intro gg cap w10 hown1 hg1 hat hlt10; go_must (have HBn := Lib.hid (below_app HBt.out (by omega) hg1 HO8.out)); go_must (have HWn := Lib.hid (HW8.out.grown hg1 hgne)); go_must (have hgg : gg ≠ w.heap.size + 1 := by rcases hat with q | q; (· simp only [Value.ownBlock, Option.some.injEq] at q; omega); (· omega)); go_must (have HOn : Hid (w10.ownsRow w.heap.size 38 3 (.slice (some ⟨gg, 0, none⟩) (k + 1) cap) (k + 1) (tripCells (wds l (k + 1)))) := (by show w10.ownsRow _ _ _ _ _ _; rw [HS2.out]; exact hown1)); clear hown1 hg1 hat)
                    go_roundw
                    case rel => exact ⟨k + 1, gg, cap, by omega, by omega, by first | rfl | go_num, by first | rfl | go_num, hgg, HWn.out, HBn.out, HOn.out, fun i hi => by
                      by_cases q : i = k
                      · rw [q, HWe.out]; exact HWk.out
                      · exact HDone.out i (by omega)⟩
                    case measure => simp [intOf]; omega
                  · rw [e] at hwk
                    rw [e]
                    have HR := Lib.hid (hNk.out (by rw [hwk.out]; rfl))
                    go_wp2
                    refine bodyPost_ret (v := .tuple #[.slice none 0 0, .bool false]) (by simp [results, Tryd.results12, go_sem]) rfl (rtPost_no (HBw2.out.trans (HB8.out.mono hszx)) HR.out)
              exact AllReadyH.nil
            exact AllReadyH.nil
          exact AllReadyH.nil
        exact AllReadyH.nil
      exact AllReadyH.nil
    · obtain rfl : k = n := by omega
      have HR := Lib.hid (HYes.out (by omega) (fun i hi => HDone.out i (by omega)))
      have HO2 : Hid (wr.ownsRow w.heap.size 38 3 (.slice (some ⟨g, 0, none⟩) k c) k (tripCells ((cutR 38 l).map wordR))) := by
        show wr.ownsRow _ _ _ _ _ _
        rw [← HAllW.out]
        exact HO.out
      clear HAllW HO
      go_wp2
      refine bodyPost_ret (v := .tuple #[.slice (some ⟨g, 0, none⟩) k c, .bool true]) (by simp [results, Tryd.results12, go_sem]) rfl (rtPost_yes HBw.out HR.out HO2.out)

end Go.Proofs.YtmijfieiebnbfaaDoor
