/- Texts cut at a mark: spec.l01Cut. -/
import Derived.Test.YtkieaebnhcdhnaaDoorStrA
import Derived.Deep.AppendLies
namespace Go.Proofs.YtkieaebnhcdhnaaDoor
open Go.RowKit
set_option linter.unusedVariables false

theorem infoStr : (Tryd.prog.info? 9).map (fun i => (i.zero, i.size, i.bytes)) = some (some (.string ByteArray.empty), 1, 16) := by kernel_rfl

theorem ext_data (s : ByteArray) (a b : Nat) : (s.extract a b).data.toList = (s.data.toList.take b).drop a := by
  simp [List.extract_eq_take_drop, List.drop_take]
theorem take_snoc (s : ByteArray) (i : Nat) (h : i < s.size) : s.data.toList.take (i + 1) = s.data.toList.take i ++ [s[i]] := by
  have h' : i < s.data.toList.length := h
  rw [List.take_add_one, List.getElem?_eq_getElem h']
  rfl
theorem cut_hit {s : ByteArray} {m : UInt8} {D : List ByteArray} {fr i : Nat} (h : i < s.size) (hm : s[i] = m) (h4 : D.map (fun x => x.data.toList) = (cutS m (s.data.toList.take i)).1) (h5 : (s.data.toList.take i).drop fr = (cutS m (s.data.toList.take i)).2) :
    (D ++ [s.extract fr i]).map (fun x => x.data.toList) = (cutS m (s.data.toList.take (i + 1))).1 ∧ (s.data.toList.take (i + 1)).drop (i + 1) = (cutS m (s.data.toList.take (i + 1))).2 := by
  rw [take_snoc s i h, cutS_snoc, show cutStep m (cutS m (s.data.toList.take i)) s[i] = ((cutS m (s.data.toList.take i)).1 ++ [(cutS m (s.data.toList.take i)).2], []) from if_pos hm]
  refine ⟨?_, ?_⟩
  · rw [List.map_append, h4, ← h5, List.map_cons, List.map_nil, ext_data]
  · have hl : i + 1 ≤ s.data.toList.length := h
    simp; omega
theorem cut_miss {s : ByteArray} {m : UInt8} {D : List ByteArray} {fr i : Nat} (h : i < s.size) (hf : fr ≤ i) (hm : ¬ s[i] = m) (h4 : D.map (fun x => x.data.toList) = (cutS m (s.data.toList.take i)).1) (h5 : (s.data.toList.take i).drop fr = (cutS m (s.data.toList.take i)).2) :
    D.map (fun x => x.data.toList) = (cutS m (s.data.toList.take (i + 1))).1 ∧ (s.data.toList.take (i + 1)).drop fr = (cutS m (s.data.toList.take (i + 1))).2 := by
  rw [take_snoc s i h, cutS_snoc, show cutStep m (cutS m (s.data.toList.take i)) s[i] = ((cutS m (s.data.toList.take i)).1, (cutS m (s.data.toList.take i)).2 ++ [s[i]]) from if_neg hm]
  refine ⟨h4, ?_⟩
  have hl : fr ≤ (s.data.toList.take i).length := by rw [List.length_take]; have : i ≤ s.data.toList.length := Nat.le_of_lt h; omega
  rw [List.drop_append_of_le_length hl, h5]
theorem cut_end {s : ByteArray} {m : UInt8} {D : List ByteArray} {fr i : Nat} (h : i = s.size) (h4 : D.map (fun x => x.data.toList) = (cutS m (s.data.toList.take i)).1) (h5 : (s.data.toList.take i).drop fr = (cutS m (s.data.toList.take i)).2) :
    D ++ [s.extract fr i] = cutB m s := by
  have hl : s.data.toList.length = i := h.symm ▸ rfl
  have e : s.data.toList.take i = s.data.toList := List.take_of_length_le (by omega)
  unfold cutB cutL
  rw [e] at h4 h5
  rw [← h4, ← h5, List.map_append, List.map_map, List.map_cons, List.map_nil]
  congr 1
  · conv => lhs; rw [← List.map_id D]
    exact List.map_congr_left fun x _ => (ofL_data x).symm
  · rw [← ofL_data (s.extract fr i), ext_data, e]

set_option maxHeartbeats 1600000 in
set_option maxRecDepth 100000 in
theorem l01Cut_any (s : ByteArray) (m : UInt8) (w : World) (hs : s.size ≤ 1048576) : Calls Tryd.prog 35 #[.string s, .int .u8 (m.toNat : Int)] w fun e w' => ∃ g c, e = .returned (.slice (some ⟨g, 0, none⟩) (cutB m s).length c) ∧ Below w.heap.size w w' ∧ w'.ownsRow w.heap.size 9 1 (.slice (some ⟨g, 0, none⟩) (cutB m s).length c) (cutB m s).length ((cutB m s).map Value.string) := by
  obtain ⟨i0, hi, hz0, hz1, hz2⟩ := info_parts infoStr
  go_enter Tryd.func35, Tryd.ntmps35
  go_wp2
  go_loopw [5, 6, 7] (fun vo vf vi wr => ∃ (i from' g c : Nat) (D : List ByteArray), vi = .int .i64 i ∧ vf = .int .i64 from' ∧ vo = .slice (some ⟨g, 0, none⟩) D.length c ∧ ((i ≤ s.size ∧ from' ≤ i ∧ D.length ≤ i ∧ D.map (fun x => x.data.toList) = (cutS m (s.data.toList.take i)).1 ∧ (s.data.toList.take i).drop from' = (cutS m (s.data.toList.take i)).2) ∨ (i = s.size + 1 ∧ D = cutB m s)) ∧ Below w.heap.size w wr ∧ wr.ownsRow w.heap.size 9 1 (.slice (some ⟨g, 0, none⟩) D.length c) D.length (D.map Value.string)) (fun _ _ vi _ => s.size + 1 - (intOf vi).toNat)
  case atStart => exact ⟨0, 0, w.heap.size, 0, [], rfl, rfl, rfl, .inl ⟨Nat.zero_le _, Nat.le_refl _, Nat.le_refl _, by simp [cutS], by simp [cutS]⟩, (Below.refl _ _).alloc (Nat.le_refl _) _, World.ownsRow_made (e := 9) (size := 1) (base := w.heap.size) w #[] 0 (by simp) (Nat.zero_le _) (by simp)⟩
  case round =>
    obtain ⟨i, fr, g, c, D, rfl, rfl, rfl, hd, hb, ho⟩ := hrel
    have HB := Lib.hid hb
    have HO := Lib.hid ho
    have hsz := hb.size
    clear hb ho
    rcases hd with ⟨h1, h2, h3, h4, h5⟩ | ⟨h1, h2⟩
    · have H4 := Lib.hid h4
      have H5 := Lib.hid h5
      clear h4 h5
      by_cases hlt : i < s.size
      · have e0 : ((i : Int) == (s.size : Int)) = false := by simp; omega
        by_cases hm : s[i] = m
        · have Hn := Lib.hid (cut_hit hlt hm H4.out H5.out)
          have e1 : ((s[i].toNat : Int) == (m.toNat : Int)) = true := by simp [hm]
          clear hm
          go_wp2_with (first | (at_builtin; go_must (refine wpList_append_lies _ rfl _ _ 22 rfl w.heap.size 9 i0 _ 1 16 Tryd.underlying22 hi hz0 hz1 hz2 rfl (by omega) (.slice (some ⟨g, 0, none⟩) D.length c) D.length (D.map Value.string) rfl (HO.out.alloc _) ⟨wr.heap.size, 0, none⟩ 1 1 [.string (s.extract fr i)] rfl rfl (new1 _ _ _) (one1 rfl) (by omega) (by unfold maxLen; omega) (by omega) (by simp; omega) (wr.heap.size + 1) (by simp) ?_); intro gg cap w5 hown1 hg1 hat hlt5; have HBn := Lib.hid (below_app HB.out hsz hg1 HO.out); have HOn : Hid (w5.ownsRow w.heap.size 9 1 (.slice (some ⟨gg, 0, none⟩) (D ++ [s.extract fr i]).length cap) (D ++ [s.extract fr i]).length ((D ++ [s.extract fr i]).map Value.string)) := (by show w5.ownsRow _ _ _ _ _ _; rw [List.length_append, List.map_append]; exact hown1); clear hown1 hg1 hat))
          go_roundw
          case rel => exact ⟨i + 1, i + 1, gg, cap, D ++ [s.extract fr i], by go_num, by go_num, by simp, .inl ⟨by omega, by omega, by simp; omega, Hn.out.1, Hn.out.2⟩, HBn.out, HOn.out⟩
          case measure => simp [intOf]; omega
        · have Hn := Lib.hid (cut_miss hlt h2 hm H4.out H5.out)
          have e1 : ((s[i].toNat : Int) == (m.toNat : Int)) = false := by
            simp
            intro q
            exact hm (UInt8.toNat_inj.1 (by omega))
          clear hm
          go_wp2
          go_roundw
          case rel => exact ⟨i + 1, fr, g, c, D, by go_num, by go_num, rfl, .inl ⟨by omega, by omega, by omega, Hn.out.1, Hn.out.2⟩, HB.out, HO.out⟩
          case measure => simp [intOf]; omega
      · obtain rfl : i = s.size := by omega
        have Hn := Lib.hid (cut_end rfl H4.out H5.out)
        go_wp2_with (first | (at_builtin; go_must (refine wpList_append_lies _ rfl _ _ 22 rfl w.heap.size 9 i0 _ 1 16 Tryd.underlying22 hi hz0 hz1 hz2 rfl (by omega) (.slice (some ⟨g, 0, none⟩) D.length c) D.length (D.map Value.string) rfl (HO.out.alloc _) ⟨wr.heap.size, 0, none⟩ 1 1 [.string (s.extract fr s.size)] rfl rfl (new1 _ _ _) (one1 rfl) (by omega) (by unfold maxLen; omega) (by omega) (by simp; omega) (wr.heap.size + 1) (by simp) ?_); intro gg cap w5 hown1 hg1 hat hlt5; have HBn := Lib.hid (below_app HB.out hsz hg1 HO.out); have HOn : Hid (w5.ownsRow w.heap.size 9 1 (.slice (some ⟨gg, 0, none⟩) (D ++ [s.extract fr s.size]).length cap) (D ++ [s.extract fr s.size]).length ((D ++ [s.extract fr s.size]).map Value.string)) := (by show w5.ownsRow _ _ _ _ _ _; rw [List.length_append, List.map_append]; exact hown1); clear hown1 hg1 hat))
        go_roundw
        case rel => exact ⟨s.size + 1, s.size + 1, gg, cap, D ++ [s.extract fr s.size], by go_num, by go_num, by simp, .inr ⟨rfl, Hn.out⟩, HBn.out, HOn.out⟩
        case measure => simp [intOf]
    · subst h2
      subst h1
      go_wp2
      go_ret
      exact ⟨g, c, rfl, HB.out, HO.out⟩

end Go.Proofs.YtkieaebnhcdhnaaDoor
