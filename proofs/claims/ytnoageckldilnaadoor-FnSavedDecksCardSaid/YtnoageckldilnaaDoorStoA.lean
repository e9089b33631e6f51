/- Bytes of numbers: l07List, counted. -/
import Derived.Test.YtnoageckldilnaaDoorChk
namespace Go.Proofs.YtnoageckldilnaaDoor
open Go.RowKit
set_option linter.unusedVariables false

/-- the lowest byte of a number -/
def byteOf (x : Int) : UInt8 := UInt8.ofNat (x % 256).toNat
theorem byteOf_nat (x : Int) : ((byteOf x).toNat : Int) = x % 256 := by
  have : (byteOf x).toNat = (x % 256).toNat := by unfold byteOf; rw [UInt8.toNat_ofNat']; omega
  rw [this]; omega
theorem byteOf_wrap (x : Int) : IntKind.u8.wrap x = ((byteOf x).toNat : Int) := by rw [byteOf_nat, IntKind.wrap_u8]
/-- how many, and each -/
def bTo (xs : List Int) (k : Nat) : List UInt8 := byteOf xs.length :: (xs.take k).map byteOf
def bList (xs : List Int) : List UInt8 := byteOf xs.length :: xs.map byteOf
theorem bTo_len (xs : List Int) (k : Nat) (h : k ≤ xs.length) : (bTo xs k).length = k + 1 := by simp [bTo]; omega
theorem bList_len (xs : List Int) : (bList xs).length = xs.length + 1 := by simp [bList]
theorem bTo_full (xs : List Int) : bTo xs xs.length = bList xs := by simp [bTo, bList]
theorem bTo_succ (xs : List Int) (k : Nat) (h : k < xs.length) : bTo xs (k + 1) = bTo xs k ++ [byteOf (xs.getD k 0)] := by
  unfold bTo
  rw [List.take_add_one, List.getElem?_eq_getElem h, List.map_append]
  simp [h]
theorem byteCells_app (a b : List UInt8) : byteCells (a ++ b) = byteCells a ++ byteCells b := by simp [byteCells]
/-- the row that a literal lays -/
theorem own_lit (w : World) (B : Nat) (e : TypeId) (L : List Value) (n : Nat) (hn : L.length = n) (hm : n ≤ 1000000) (hB : B ≤ w.heap.size) : (w.alloc (.cells L.toArray e)).ownsRow B e 1 (.slice (some ⟨w.heap.size, 0, none⟩) n n) n L :=
  ⟨by omega, .inr ⟨w.heap.size, n, L.toArray, rfl, hB, heap_alloc_new w _, Nat.le_refl _, by unfold maxLen; omega, by simp [hn], by subst hn; simp⟩⟩

set_option maxHeartbeats 1600000 in
set_option maxRecDepth 100000 in
theorem l07List_any (w0 w : World) (hb : Below w0.heap.size w0 w) (g c : Nat) (D : List UInt8) (ho : w.ownsRow w0.heap.size 5 1 (.slice (some ⟨g, 0, none⟩) D.length c) D.length (byteCells D)) (a : Option Addr) (n cc : Nat) (xs : List Int) (h : Ints w0 a n cc xs) (hD : D.length ≤ 1000000) (hn : n ≤ 1000) :
    Calls Tryd.prog 75 #[.slice (some ⟨g, 0, none⟩) D.length c, .slice a n cc] w fun e w' => ∃ g' c', e = .returned (.slice (some ⟨g', 0, none⟩) (D ++ bList xs).length c') ∧ Below w0.heap.size w0 w' ∧ w'.ownsRow w0.heap.size 5 1 (.slice (some ⟨g', 0, none⟩) (D ++ bList xs).length c') (D ++ bList xs).length (byteCells (D ++ bList xs)) := by
  obtain ⟨hc, hc2, hcell⟩ := h.at
  have hl := h.len
  have HL := Lib.hid hl
  have HCell := Lib.hid hcell
  have HB := Lib.hid hb
  have HO := Lib.hid ho
  have hsz := hb.size
  have hwn : IntKind.u8.wrap (n : Int) = ((byteOf (n : Int)).toNat : Int) := byteOf_wrap _
  have HT0 : Hid (D ++ [byteOf (n : Int)] = D ++ bTo xs 0) := by show _ = _; rw [bTo, hl]; rfl
  clear h hb ho hcell hl
  obtain ⟨i0, hi, hz0, hz1, hz2⟩ := info_parts infoU8
  go_enter Tryd.func75, Tryd.ntmps75
  go_wp2_with (first | (at_builtin; go_must (refine wpList_append_lies _ rfl _ _ 43 rfl w0.heap.size 5 i0 _ 1 1 Tryd.underlying43 hi hz0 hz1 hz2 rfl (by omega) (.slice (some ⟨g, 0, none⟩) D.length c) D.length (byteCells D) rfl (HO.out.alloc _) ⟨w.heap.size, 0, none⟩ 1 1 [.int .u8 ((byteOf (n : Int)).toNat : Int)] rfl rfl (new1 _ _ _) (one1 rfl) (by omega) (by unfold maxLen; omega) (by omega) (by simp; omega) (w.heap.size + 1) (by simp) ?_); intro gg cap w5 hown1 hg1 hat hlt5; have HBn := Lib.hid (below_app HB.out hsz hg1 HO.out); have HOn : Hid (w5.ownsRow w0.heap.size 5 1 (.slice (some ⟨gg, 0, none⟩) (D ++ [byteOf (n : Int)]).length cap) (D ++ [byteOf (n : Int)]).length (byteCells (D ++ [byteOf (n : Int)]))) := (by show w5.ownsRow _ _ _ _ _ _; rw [List.length_append, byteCells_app]; exact hown1); clear hown1 hg1 hat))
  go_loopw [0, 14] (fun vo vi wr => ∃ (k g c : Nat) (E : List UInt8), k ≤ n ∧ vi = .int .i64 k ∧ vo = .slice (some ⟨g, 0, none⟩) E.length c ∧ Hid (E = D ++ bTo xs k) ∧ Below w0.heap.size w0 wr ∧ wr.ownsRow w0.heap.size 5 1 (.slice (some ⟨g, 0, none⟩) E.length c) E.length (byteCells E)) (fun _ vi _ => n - (intOf vi).toNat)
  case atStart => exact ⟨0, gg, cap, D ++ [byteOf (n : Int)], Nat.zero_le _, rfl, by simp, HT0.out, HBn.out, HOn.out⟩
  case round =>
    obtain ⟨k, g, c, E, hk, rfl, rfl, HE, hb, ho⟩ := hrel
    have hEb : E.length ≤ 1010000 := by rw [HE.out]; simp [bTo]; omega
    have HB := Lib.hid hb
    have HO := Lib.hid ho
    have hsz := hb.size
    clear hb ho
    by_cases hlt : k < n
    · obtain ⟨b, off, rfl, hlb, hx⟩ := HCell.out k hlt
      have z0 := cell_on HB.out (hx k hlt)
      have HN := Lib.hid (bTo_succ xs k (by rw [HL.out]; exact hlt))
      clear hx
      generalize xs.getD k 0 = x at *
      have hwx : IntKind.u8.wrap x = ((byteOf x).toNat : Int) := byteOf_wrap _
      generalize byteOf x = bx at *
      go_wp2_with (first | (at_builtin; go_must (refine wpList_append_lies _ rfl _ _ 43 rfl w0.heap.size 5 i0 _ 1 1 Tryd.underlying43 hi hz0 hz1 hz2 rfl (by omega) (.slice (some ⟨g, 0, none⟩) E.length c) E.length (byteCells E) rfl (HO.out.alloc _) ⟨wr.heap.size, 0, none⟩ 1 1 [.int .u8 (bx.toNat : Int)] rfl rfl (new1 _ _ _) (one1 rfl) (by omega) (by unfold maxLen; omega) (by omega) (by simp; omega) (wr.heap.size + 1) (by simp) ?_); intro gg cap w5 hown1 hg1 hat hlt5; have HBn := Lib.hid (below_app HB.out hsz hg1 HO.out); have HOn : Hid (w5.ownsRow w0.heap.size 5 1 (.slice (some ⟨gg, 0, none⟩) (E ++ [bx]).length cap) (E ++ [bx]).length (byteCells (E ++ [bx]))) := (by show w5.ownsRow _ _ _ _ _ _; rw [List.length_append, byteCells_app]; exact hown1); clear hown1 hg1 hat))
      go_roundw
      case rel => exact ⟨k + 1, gg, cap, E ++ [bx], by omega, by go_num, by simp, by show _ = _; rw [HE.out, HN.out, List.append_assoc], HBn.out, HOn.out⟩
      case measure => simp [intOf]; omega
    · obtain rfl : k = n := by omega
      have HF : Hid (E = D ++ bList xs) := by show _ = _; rw [HE.out, ← bTo_full, HL.out]
      go_wp2
      go_ret
      rw [← HF.out]
      exact ⟨g, c, rfl, HB.out, HO.out⟩

set_option maxHeartbeats 1600000 in
set_option maxRecDepth 100000 in
theorem counted_any (a : Option Addr) (n cc : Nat) (xs : List Int) (w : World) (h : Ints w a n cc xs) (hn : n ≤ 1000) :
    Calls Tryd.prog 77 #[.slice a n cc] w (Ret w (.string (ofL (bList xs)))) := by
  obtain ⟨hc, hc2, hcell⟩ := h.at
  have hl := h.len
  have HL := Lib.hid hl
  have HCell := Lib.hid hcell
  have hwn : IntKind.u8.wrap (n : Int) = ((byteOf (n : Int)).toNat : Int) := byteOf_wrap _
  have HT0 : Hid ([byteOf (n : Int)] = bTo xs 0) := by show _ = _; rw [bTo, hl]; rfl
  clear h hcell hl
  obtain ⟨i0, hi, hz0, hz1, hz2⟩ := info_parts infoU8
  go_enter Tryd.func77, Tryd.ntmps77
  go_wp2
  go_loopw [3, 12] (fun vo vi wr => ∃ (k g c : Nat) (E : List UInt8), k ≤ n ∧ vi = .int .i64 k ∧ vo = .slice (some ⟨g, 0, none⟩) E.length c ∧ Hid (E = bTo xs k) ∧ Below w.heap.size w wr ∧ wr.ownsRow w.heap.size 5 1 (.slice (some ⟨g, 0, none⟩) E.length c) E.length (byteCells E)) (fun _ vi _ => n - (intOf vi).toNat)
  case atStart => exact ⟨0, w.heap.size, 1, [byteOf (n : Int)], Nat.zero_le _, rfl, rfl, HT0.out, (Below.refl _ _).alloc (Nat.le_refl _) _, own_one w w.heap.size 5 _ (Nat.le_refl _)⟩
  case round =>
    obtain ⟨k, g, c, E, hk, rfl, rfl, HE, hb, ho⟩ := hrel
    have hEb : E.length ≤ 1010000 := by rw [HE.out]; simp [bTo]; omega
    have HB := Lib.hid hb
    have HO := Lib.hid ho
    have hsz := hb.size
    clear hb ho
    by_cases hlt : k < n
    · obtain ⟨b, off, rfl, hlb, hx⟩ := HCell.out k hlt
      have z0 := cell_on HB.out (hx k hlt)
      have HN := Lib.hid (bTo_succ xs k (by rw [HL.out]; exact hlt))
      clear hx
      generalize xs.getD k 0 = x at *
      have hwx : IntKind.u8.wrap x = ((byteOf x).toNat : Int) := byteOf_wrap _
      generalize byteOf x = bx at *
      go_wp2_with (first | (at_builtin; go_must (refine wpList_append_lies _ rfl _ _ 43 rfl w.heap.size 5 i0 _ 1 1 Tryd.underlying43 hi hz0 hz1 hz2 rfl (by omega) (.slice (some ⟨g, 0, none⟩) E.length c) E.length (byteCells E) rfl (HO.out.alloc _) ⟨wr.heap.size, 0, none⟩ 1 1 [.int .u8 (bx.toNat : Int)] rfl rfl (new1 _ _ _) (one1 rfl) (by omega) (by unfold maxLen; omega) (by omega) (by simp; omega) (wr.heap.size + 1) (by simp) ?_); intro gg cap w5 hown1 hg1 hat hlt5; have HBn := Lib.hid (below_app HB.out hsz hg1 HO.out); have HOn : Hid (w5.ownsRow w.heap.size 5 1 (.slice (some ⟨gg, 0, none⟩) (E ++ [bx]).length cap) (E ++ [bx]).length (byteCells (E ++ [bx]))) := (by show w5.ownsRow _ _ _ _ _ _; rw [List.length_append, byteCells_app]; exact hown1); clear hown1 hg1 hat))
      go_roundw
      case rel => exact ⟨k + 1, gg, cap, E ++ [bx], by omega, by go_num, by simp, by show _ = _; rw [HE.out, HN.out], HBn.out, HOn.out⟩
      case measure => simp [intOf]; omega
    · obtain rfl : k = n := by omega
      have HF : Hid (E = bList xs) := by show _ = _; rw [HE.out, ← bTo_full, HL.out]
      have qc := U8s.str (show U8s wr (some ⟨g, 0, none⟩) E.length c E from Rd.own HO.out) 43 5 Tryd.underlying43 Tryd.underlying5 9 Tryd.underlying9
      go_wp2
      go_ret
      exact ⟨by rw [HF.out]; rfl, HB.out⟩

end Go.Proofs.YtnoageckldilnaaDoor
