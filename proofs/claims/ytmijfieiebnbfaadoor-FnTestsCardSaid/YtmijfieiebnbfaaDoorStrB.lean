/- Texts cut at a mark: spec.l01Cut. -/
import Derived.Test.YtmijfieiebnbfaaDoorStrA
import Derived.Deep.AppendLies
namespace Go.Proofs.YtmijfieiebnbfaaDoor
open Go.RowKit
set_option linter.unusedVariables false

theorem infoStr : (Tryd.prog.info? 9).map (fun i => (i.zero, i.size, i.bytes)) = some (some (.string ByteArray.empty), 1, 16) := by kernel_rfl

theorem ext_data (s : ByteArray) (a b : Nat) : (s.extract a b).data.toList = (s.data.toList.take b).drop a := by
  simp [List.extract_eq_take_drop, List.drop_take]
theorem take_snoc (s : ByteArray) (i : Nat) (h : i < s.size) : s.data.toList.take (i + 1) = s.data.toList.take i ++ [s[i]] := by
  have h' : i < s.data.toList.length := h
  rw [List.take_add_one, List.getElem?_eq_getElem h']
  rfl
theorem cut_hit {s : ByteArray} {m : UInt8} {D : List ByteArray} {fr i : Nat} (h : i < s.size) (hm : s[i] = m) (h4 : D.map (fun x => x.data.toList) = (cutS m (s.data.toList.take i)).1) (h5 : (s.data.toList.take i).drop fr = (cutS m (s.data.toList.take i)).2) :
    (D ++ [s.extract fr i]).map (fun x => x.data.toList) = (cutS m (s.data.toList.take (i + 1))).1 ∧ (s.data.toList.take (i + 1)).drop (i + 1) = (cutS m (s.data.toList.take (i + 1))).2 := by
  rw [take_snoc s i h, cutS_snoc, show cutStep m (cutS m (s.data.toList.take i)) s[i] = ((cutS m (s.data.toList.take i)).1 ++ [(cutS m (s.data.toList.take i)).2], []) from if_pos hm]
  refine ⟨?_, ?_⟩
  · rw [List.map_append, h4, ← h5, List.map_cons, List.map_nil, ext_data]
  · have hl : i + 1 ≤ s.data.toList.length := h
    simp; omega
theorem cut_miss {s : ByteArray} {m : UInt8} {D : List ByteArray} {fr i : Nat} (h : i < s.size) (hf : fr ≤ i) (hm : ¬ s[i] = m) (h4 : D.map (fun x => x.data.toList) = (cutS m (s.data.toList.take i)).1) (h5 : (s.data.toList.take i).drop fr = (cutS m (s.data.toList.take i)).2) :
    D.map (fun x => x.data.toList) = (cutS m (s.data.toList.take (i + 1))).1 ∧ (s.data.toList.take (i + 1)).drop fr = (cutS m (s.data.toList.take (i + 1))).2 := by
  rw [take_snoc s i h, cutS_snoc, show cutStep m (cutS m (s.data.toList.take i)) s[i] = ((cutS m (s.data.toList.take i)).1, (cutS m (s.data.toList.take i)).2 ++ [s[i]]) from if_neg hm]
  refine ⟨h4, ?_⟩
  have hl : fr ≤ (s.data.toList.take i).length := by rw [List.length_take]; have : i ≤ s.data.toList.length := Nat.le_of_lt h; omega
  rw [List.drop_append_of_le_length hl, h5]
theorem cut_end {s : ByteArray} {m : UInt8} {D : List ByteArray} {fr i : Nat} (h : i = s.size) (h4 : D.map (fun x => x.data.toList) = (cutS m (s.data.toList.take i)).1) (h5 : (s.data.toList.take i).drop fr = (cutS m (s.data.toList.take i)).2) :
    D ++ [s.extract fr i] = cutB m s := by
  have hl : s.data.toList.length = i := h.symm ▸ rfl
  have e : s.data.toList.take i = s.data.toList := List.take_of_length_le (by omega)
  unfold cutB cutL
  rw [e] at h4 h5
  rw [← h4, ← h5, List.map_append, List.map_map, List.map_cons, List.map_nil]
  congr 1
  · conv => lhs; rw [← List.map_id D]
    exact List.map_congr_left fun x _ => (ofL_data x).symm
  · rw [← ofL_data (s.extract fr i), ext_data, e]

end Go.Proofs.YtmijfieiebnbfaaDoor
