/- Reading what is stored: the reference's l07Read. -/
import Derived.Test.YtnoageckldilnaaDoorLoadD
namespace Go.Proofs.YtnoageckldilnaaDoor
open Go.RowKit
set_option linter.unusedVariables false

def bAt (l : List UInt8) (at_ : Nat) : Nat := (l.getD at_ 0).toNat
theorem bAt_lt (l : List UInt8) (i : Nat) : bAt l i < 256 := UInt8.toNat_lt _
theorem cnt_out {l : List UInt8} {i : Nat} (h : l.length ≤ i) : (cnt (l.drop i, false)).2.2 = true := by
  unfold cnt
  refine tk_sticky ?_
  rw [tk_bad (by simp; omega)]
theorem tk1 {l : List UInt8} {i : Nat} (h : i < l.length) : tk (l.drop i, false) 1 = ([l.getD i 0], (l.drop (i + 1), false)) := by
  rw [tk_ok (by simp; omega)]
  have e : l.drop i = l.getD i 0 :: l.drop (i + 1) := by rw [List.drop_eq_getElem_cons h]; simp [h]
  simp only
  rw [e]
  simp [List.drop_drop]
theorem cnt_short {l : List UInt8} {i : Nat} (h : i < l.length) (h2 : l.length < i + 1 + bAt l i) : (cnt (l.drop i, false)).2.2 = true := by
  unfold cnt
  rw [tk1 h]
  rw [tk_bad (by simp [hd0]; unfold bAt at h2; simp at h2; omega)]
theorem cnt_some {l : List UInt8} {i : Nat} (h : i < l.length) (h2 : i + 1 + bAt l i ≤ l.length) : cnt (l.drop i, false) = (nums ((l.drop (i + 1)).take (bAt l i)), (l.drop (i + 1 + bAt l i), false)) := by
  unfold cnt
  rw [tk1 h]
  have e : (hd0 ([l.getD i 0], l.drop (i + 1), false).1).toNat = bAt l i := rfl
  rw [e, tk_ok (by simp; omega)]
  simp [nums, List.drop_drop]

/-- What a read leaves. -/
def ReadPost (l : List UInt8) (i : Nat) (w : World) (e : Ending) (w' : World) : Prop :=
  Below w.heap.size w w' ∧ ((cnt (l.drop i, false)).2.2 = true → e = .returned (.tuple #[.slice none 0 0, .int .i64 (-1)])) ∧
  ((cnt (l.drop i, false)).2.2 = false → i < l.length ∧ i + 1 + bAt l i ≤ l.length ∧ (cnt (l.drop i, false)).2.1 = l.drop (i + 1 + bAt l i) ∧ (cnt (l.drop i, false)).1.length = bAt l i ∧ ∃ g c, e = .returned (.tuple #[.slice (some ⟨g, 0, none⟩) (bAt l i) c, .int .i64 ((i + 1 + bAt l i : Nat) : Int)]) ∧
    w'.ownsRow w.heap.size 2 1 (.slice (some ⟨g, 0, none⟩) (bAt l i) c) (bAt l i) (intCells (cnt (l.drop i, false)).1))

theorem ofL_at (l : List UInt8) (i : Nat) (h : i < (ofL l).size) : (ofL l)[i].toNat = bAt l i := by
  have h' : i < l.length := by rwa [ofL_sz] at h
  have e : (ofL l)[i] = l.getD i 0 := by
    have : (ofL l)[i] = l[i] := by
      show (ofL l).data[i] = _
      simp [ofL]
    rw [this]; simp [h']
  show _ = (l.getD i 0).toNat
  exact congrArg UInt8.toNat e

set_option maxHeartbeats 1600000 in
set_option maxRecDepth 100000 in
theorem l07Read_any (l : List UInt8) (i : Nat) (w : World) (hl : l.length ≤ 1048576) (hi : i ≤ 1048576) :
    Calls Tryd.prog 87 #[.string (ofL l), .int .i64 i] w (ReadPost l i w) := by
  have hs := ofL_sz l
  have hat := ofL_at l
  by_cases h1 : i < l.length
  · by_cases h2 : i + 1 + bAt l i ≤ l.length
    · have HC := Lib.hid (cnt_some h1 h2)
      have hb := bAt_lt l i
      have hlt : i < (ofL l).size := by omega
      have hx : ∀ h : i < (ofL l).size, (ofL l)[i].toNat = bAt l i := fun h => hat i h
      have hw1 : IntKind.i64.wrap ((i : Int) + 1) = ((i + 1 : Nat) : Int) := by rw [IntWalk.i64_in _ (by omega)]; omega
      have hw2 : IntKind.i64.wrap (((i + 1 : Nat) : Int) + (bAt l i : Int)) = ((i + 1 + bAt l i : Nat) : Int) := by rw [IntWalk.i64_in _ (by omega)]; omega
      have hwb : IntKind.i64.wrap (bAt l i : Int) = (bAt l i : Int) := IntWalk.i64_in _ (by omega)
      have hlong : ((i + 1 + bAt l i : Nat) : Int) ≤ ((ofL l).size : Int) := by omega
      have hnle : ¬ l.length ≤ i := by omega
      have hnlt : ¬ (l.length : Int) < (i : Int) + 1 + (bAt l i : Int) := by omega
      have HAt : Hid (∀ k, k < bAt l i → ((l.drop (i + 1)).getD k 0).toNat = bAt l (i + 1 + k) ∧ i + 1 + k < l.length) := fun k hk => ⟨by unfold bAt; simp [List.getElem?_drop], by omega⟩
      have HLn : Hid (((l.drop (i + 1)).take (bAt l i)).length = bAt l i) := by show _ = _; rw [List.length_take, List.length_drop]; omega
      have HS := Lib.hid (fun k (hk : k < bAt l i) => nums_succ (l.drop (i + 1)) k (by rw [List.length_drop]; omega))
      have HA1 := Lib.hid hat
      obtain ⟨i0, hii, hz0, hz1, hz2⟩ := info_parts infoI64
      have hO : (w.alloc (.cells #[] 2)).ownsRow w.heap.size 2 1 (.slice (some ⟨w.heap.size, 0, none⟩) 0 0) 0 [] := World.ownsRow_made (e := 2) (size := 1) (base := w.heap.size) w #[] 0 (by simp) (Nat.zero_le _) (by simp)
      have HO0 := Lib.hid hO
      have H2 := Lib.hid h2
      clear hO hat h2
      generalize ofL l = sx at *
      go_enter Tryd.func87, Tryd.ntmps87
      go_wp2
      go_loopw [6, 7] (fun vo vk wr => ∃ (k g c : Nat) (E : List Int), k ≤ bAt l i ∧ vk = .int .i64 k ∧ vo = .slice (some ⟨g, 0, none⟩) E.length c ∧ Hid (E = nums ((l.drop (i + 1)).take k)) ∧ Below w.heap.size w wr ∧ wr.ownsRow w.heap.size 2 1 (.slice (some ⟨g, 0, none⟩) E.length c) E.length (intCells E)) (fun _ vk _ => bAt l i - (intOf vk).toNat)
      case atStart => exact ⟨0, w.heap.size, 0, [], Nat.zero_le _, rfl, rfl, by show _ = _; simp [nums], (Below.refl _ _).alloc (Nat.le_refl _) _, HO0.out⟩
      case round =>
        obtain ⟨k, g, c, E, hk, rfl, rfl, HE, hb2, ho⟩ := hrel
        have HB := Lib.hid hb2
        have HO := Lib.hid ho
        have hsz := hb2.size
        have hEb : E.length ≤ 255 := by rw [HE.out, nums_len, List.length_take]; omega
        clear ho hb2
        by_cases hlt2 : k < bAt l i
        · obtain ⟨ha1, ha2⟩ := HAt.out k hlt2
          have hN := HS.out k hlt2
          rw [ha1] at hN
          have HN := Lib.hid hN
          have hw3 : IntKind.i64.wrap (((i + 1 : Nat) : Int) + (k : Int)) = ((i + 1 + k : Nat) : Int) := by rw [IntWalk.i64_in _ (by omega)]; omega
          have hj : i + 1 + k < sx.size := by omega
          have hx2 : ∀ h : i + 1 + k < sx.size, sx[i + 1 + k].toNat = bAt l (i + 1 + k) := fun h => HA1.out _ h
          have hbx := bAt_lt l (i + 1 + k)
          have hwx : wrap64 (bAt l (i + 1 + k) : Int) = (bAt l (i + 1 + k) : Int) := by unfold wrap64; omega
          have hkp : (k : Int) < (bAt l i : Int) := by omega
          clear ha1 hN
          generalize bAt l (i + 1 + k) = bx at *
          go_wp2_with (first | (at_builtin; go_must (refine wpList_append_lies _ rfl _ _ 22 rfl w.heap.size 2 i0 _ 1 8 Tryd.underlying22 hii hz0 hz1 hz2 rfl (by omega) (.slice (some ⟨g, 0, none⟩) E.length c) E.length (intCells E) rfl (HO.out.alloc _) ⟨wr.heap.size, 0, none⟩ 1 1 [.int .i64 (bx : Int)] rfl rfl (new1 _ _ _) (one1 rfl) (by omega) (by unfold maxLen; omega) (by omega) (by simp; omega) (wr.heap.size + 1) (by simp) ?_); intro gg cap w5 hown1 hg1 hat hlt5; have HBn := Lib.hid (below_app HB.out hsz hg1 HO.out); have HOn : Hid (w5.ownsRow w.heap.size 2 1 (.slice (some ⟨gg, 0, none⟩) (E ++ [(bx : Int)]).length cap) (E ++ [(bx : Int)]).length (intCells (E ++ [(bx : Int)]))) := (by show w5.ownsRow _ _ _ _ _ _; rw [List.length_append, intCells_snoc]; exact hown1); clear hown1 hg1 hat))
          go_roundw
          case rel => exact ⟨k + 1, gg, cap, E ++ [(bx : Int)], by omega, by go_num, by simp, by show _ = _; rw [HE.out, HN.out], HBn.out, HOn.out⟩
          case measure => simp [intOf]; omega
        · obtain rfl : k = bAt l i := by omega
          have hEl : E.length = bAt l i := by rw [HE.out, nums_len, HLn.out]
          have HF : Hid (E = (cnt (l.drop i, false)).1) := by show _ = _; rw [HC.out, HE.out]
          rw [hEl] at HO
          have HEl := Lib.hid hEl
          clear hEl
          go_wp2
          go_quiet (fail)
          go_wp2
          go_ret2
          refine ⟨(HB.out.trans ⟨rfl, rfl, rfl, Nat.le_refl _, fun _ _ => rfl⟩), fun q => ?_, fun _ => ⟨h1, H2.out, by rw [HC.out], by rw [← HF.out]; exact HEl.out, g, c, ?_, ?_⟩⟩
          · rw [HC.out] at q; cases q
          · first | rfl | (rw [HEl.out]; rfl)
          · rw [← HF.out]; exact HO.out
    · have HC := Lib.hid (cnt_short h1 (by omega))
      have hb := bAt_lt l i
      have hlt : i < (ofL l).size := by omega
      have hx : ∀ h : i < (ofL l).size, (ofL l)[i].toNat = bAt l i := fun h => hat i h
      have hw1 : IntKind.i64.wrap ((i : Int) + 1) = ((i + 1 : Nat) : Int) := by rw [IntWalk.i64_in _ (by omega)]; omega
      have hw2 : IntKind.i64.wrap (((i + 1 : Nat) : Int) + (bAt l i : Int)) = ((i + 1 + bAt l i : Nat) : Int) := by rw [IntWalk.i64_in _ (by omega)]; omega
      have hlong : ((ofL l).size : Int) < ((i + 1 + bAt l i : Nat) : Int) := by omega
      clear hat h2
      generalize ofL l = sx at *
      go_enter Tryd.func87, Tryd.ntmps87
      go_wp2
      go_ret2
      exact ⟨Below.refl _ _, fun _ => rfl, fun q => by rw [HC.out] at q; cases q⟩
  · have HC := Lib.hid (cnt_out (i := i) (by omega : l.length ≤ i))
    have hlt : ((ofL l).size : Int) ≤ (i : Int) := by omega
    clear hat
    generalize ofL l = sx at *
    go_enter Tryd.func87, Tryd.ntmps87
    go_wp2
    go_ret2
    exact ⟨Below.refl _ _, fun _ => rfl, fun q => by rw [HC.out] at q; cases q⟩

end Go.Proofs.YtnoageckldilnaaDoor
