/- Reading what is stored: where the reference stands. -/
import Derived.Test.YtnoageckldilnaaDoorBegA
namespace Go.Proofs.YtnoageckldilnaaDoor
open Go.RowKit
set_option linter.unusedVariables false

theorem ld_bad4 {l : List UInt8} (h : (ld4 l).2.2 = true) : (ld5 l).2.2 = true := by
  unfold ld5
  generalize (hd0 (ld4 l).1).toNat = m
  generalize (ld4 l).2 = st at *
  have h0 : (dce 0 st).2.2 = true := h
  exact dce_sticky h0 m (Nat.zero_le _)
theorem ld_bad3 {l : List UInt8} (h : (ld3 l).2.2 = true) : (ld5 l).2.2 = true := ld_bad4 (by unfold ld4; exact tk_sticky h)
theorem ld_bad2 {l : List UInt8} (h : (ld2 l).2.2 = true) : (ld5 l).2.2 = true := ld_bad3 (by unfold ld3; exact cnt_sticky h)
theorem ldN_bad {l : List UInt8} (h : (ld5 l).2.2 = true) : ldN l = 0 := by rw [ldN_eq, if_neg]; rw [h]; simp
theorem ld1_ok {l : List UInt8} (h : 4 ≤ l.length) : ld1 l = (l.drop 4, false) := by unfold ld1; rw [tk_ok (by simpa using h)]
theorem ld_short {l : List UInt8} (h : l.length < 5) : ldN l = 0 := by
  refine ldN_bad (ld_bad2 ?_)
  by_cases q : l.length < 4
  · unfold ld2
    refine tk_sticky (tk_sticky ?_)
    unfold ld1
    rw [tk_bad (by simpa using q)]
  · unfold ld2
    refine tk_sticky ?_
    rw [ld1_ok (by omega), tk_bad (by simp; omega)]
theorem ld_name_short {l : List UInt8} (h : 5 ≤ l.length) (h2 : l.length < 5 + bAt l 4) : ldN l = 0 := by
  refine ldN_bad (ld_bad2 ?_)
  unfold ld2
  rw [ld1_ok (by omega), tk1 (by omega)]
  have e : (hd0 ([l.getD 4 0], l.drop (4 + 1), false).1).toNat = bAt l 4 := rfl
  rw [e, tk_bad (by simp; omega)]
theorem ld2_ok {l : List UInt8} (h : 5 ≤ l.length) (h2 : 5 + bAt l 4 ≤ l.length) : ld2 l = ((l.drop 5).take (bAt l 4), (l.drop (5 + bAt l 4), false)) := by
  unfold ld2
  rw [ld1_ok (by omega), tk1 (by omega)]
  have e : (hd0 ([l.getD 4 0], l.drop (4 + 1), false).1).toNat = bAt l 4 := rfl
  rw [e, tk_ok (by simp; omega)]
  simp [List.drop_drop]
theorem ld3_at {l : List UInt8} (h : 5 ≤ l.length) (h2 : 5 + bAt l 4 ≤ l.length) : ld3 l = cnt (l.drop (5 + bAt l 4), false) := by unfold ld3; rw [ld2_ok h h2]
theorem ld4_short {l : List UInt8} {p : Nat} (h : (ld3 l).2 = (l.drop p, false)) (hp : l.length ≤ p) : ldN l = 0 := by
  refine ldN_bad (ld_bad4 ?_)
  unfold ld4
  rw [h, tk_bad (by simp; omega)]
theorem ld5_at {l : List UInt8} {p : Nat} (h : (ld3 l).2 = (l.drop p, false)) (hp : p < l.length) : ld5 l = dce (bAt l p) (l.drop (p + 1), false) := by
  unfold ld5 ld4
  rw [h, tk1 hp]
  rfl
theorem dce_bad {l : List UInt8} {p q : Nat} {st : LS} {k m : Nat} (h : (dce k st).2 = (l.drop q, false)) (hb : (cnt (l.drop q, false)).2.2 = true) (hk : k < m) : (dce m st).2.2 = true := by
  refine dce_sticky (k := k + 1) ?_ m (by omega)
  rw [dce_succ, h]
  exact hb
theorem diceTo_snoc (xss : List (List Int)) (xs : List Int) (k : Nat) (h : xss.length = k) : diceTo (xss ++ [xs]) (k + 1) = diceTo xss k ++ bList xs := by
  unfold diceTo
  rw [List.take_of_length_le (by simp; omega), List.take_of_length_le (by omega), List.flatMap_append]
  simp
theorem storeB_at (nm : ByteArray) (x0 : List Int) (xss : List (List Int)) : (storeB nm x0 xss).length = nm.size + x0.length + 7 + (diceTo xss xss.length).length := by
  unfold storeB
  rw [List.length_append, headB_len]
/-- the bytes up to a place, as a text -/
theorem pre_eq (l sl : List UInt8) (n : Nat) (hn : n ≤ l.length) (h : sl.length = n) : (decide (ofL sl = (ofL l).extract 0 n)) = sl.isPrefixOf l := by
  rw [ofL_ext]
  simp only [List.drop_zero]
  have e : (ofL sl = ofL (l.take n)) ↔ sl = l.take n := ⟨fun q => by have := congrArg (fun x : ByteArray => x.data.toList) q; simpa [ofL_toList] using this, fun q => by rw [q]⟩
  by_cases q : sl = l.take n
  · rw [decide_eq_true (e.2 q)]
    symm
    rw [List.isPrefixOf_iff_prefix, q]
    exact List.take_prefix _ _
  · rw [decide_eq_false (fun z => q (e.1 z))]
    symm
    rw [Bool.eq_false_iff]
    intro z
    rw [List.isPrefixOf_iff_prefix] at z
    have := List.prefix_iff_eq_take.1 z
    rw [h] at this
    exact q this
theorem pre_long {l sl : List UInt8} (h : l.length < sl.length) : sl.isPrefixOf l = false := by
  rw [Bool.eq_false_iff]
  intro z
  rw [List.isPrefixOf_iff_prefix] at z
  have := z.length_le
  omega

end Go.Proofs.YtnoageckldilnaaDoor
