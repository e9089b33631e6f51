/- Reading what is stored: the loader's counted. -/
import Derived.Test.YtnoageckldilnaaDoorLoadA
namespace Go.Proofs.YtnoageckldilnaaDoor
open Go.RowKit
set_option linter.unusedVariables false

theorem ofL_hd (x : List UInt8) (h : 0 < (ofL x).size) : (ofL x)[0] = hd0 x := by
  cases x with
  | nil => exact absurd h (by simp [ofL, ByteArray.size])
  | cons a l => rfl
/-- An append onto a row that is the one block at lo, or a later one. -/
theorem Chg.app {lo : Nat} {w3 wr w5 : World} {g n c : Nat} {o : Obj} (h : Chg lo (lo + 1) w3 wr) (hg : (wr.alloc o).grownBy w5 (Value.slice (some ⟨g, 0, none⟩) n c).ownBlock) (hb : g = lo ∨ w3.heap.size ≤ g) : Chg lo (lo + 1) w3 w5 := by
  have ha : Below wr.heap.size wr (wr.alloc o) := (Below.refl _ _).alloc (Nat.le_refl _) _
  have hs := h.size
  have hs2 : (wr.alloc o).heap.size = wr.heap.size + 1 := by simp
  refine ⟨hg.os.trans (ha.os.trans h.os), hg.tape.trans (ha.tape.trans h.tape), hg.output.trans (ha.output.trans h.output), Nat.le_trans hs (Nat.le_trans (by omega) hg.size), fun k hk hr => ?_⟩
  rw [hg.block k (by omega) (fun e => by simp [Value.ownBlock] at e; omega), ha.block k (by omega), h.block k hk hr]
/-- the numbers of the first bytes -/
def nums (l : List UInt8) : List Int := l.map fun b => (b.toNat : Int)
theorem nums_len (l : List UInt8) : (nums l).length = l.length := by simp [nums]
theorem nums_succ (l : List UInt8) (k : Nat) (h : k < l.length) : nums (l.take (k + 1)) = nums (l.take k) ++ [((l.getD k 0).toNat : Int)] := by
  unfold nums
  rw [List.take_add_one, List.getElem?_eq_getElem h, List.map_append]
  simp [h]
theorem byteCells_get (l : List UInt8) (k : Nat) (h : k < l.length) : (byteCells l)[k]? = some (.int .u8 ((l.getD k 0).toNat : Int)) := by simp [byteCells, h]
theorem below_chg2 {B lo hi : Nat} {a w w' : World} (h : Below B a w) (hl : B ≤ lo) (hB : B ≤ w.heap.size) (k : Chg lo hi w w') : Below B a w' := below_chg h hB hl k

set_option maxHeartbeats 3200000 in
set_option maxRecDepth 100000 in
theorem counted2_any (b : Nat) (st : LS) (w : World) (h : LdAt w b st) (hl : st.1.length ≤ 1048576) :
    Calls Tryd.prog 85 #[.pointer (some ⟨b, 0, none⟩)] w fun e w' => ∃ g c, e = .returned (.slice (some ⟨g, 0, none⟩) (cnt st).1.length c) ∧ LdAt w' b (cnt st).2 ∧ Chg b (b + 1) w w' ∧ w'.ownsRow w.heap.size 2 1 (.slice (some ⟨g, 0, none⟩) (cnt st).1.length c) (cnt st).1.length (intCells (cnt st).1) := by
  have hblt : b < w.heap.size := cell_lt h.s
  have hA : Below w.heap.size w (w.alloc (.cells #[] 2)) := (Below.refl _ _).alloc (Nat.le_refl _) _
  have HA := Lib.hid hA
  have hO : (w.alloc (.cells #[] 2)).ownsRow w.heap.size 2 1 (.slice (some ⟨w.heap.size, 0, none⟩) 0 0) 0 [] := World.ownsRow_made (e := 2) (size := 1) (base := w.heap.size) w #[] 0 (by simp) (Nat.zero_le _) (by simp)
  have HO0 := Lib.hid hO
  have T1 := Lib.hid (take_any b st 1 _ (h.on hA) (by omega) hl)
  have T2 := Lib.hid (fun W (hW : LdAt W b (tk st 1).2) => take_any b (tk st 1).2 (hd0 (tk st 1).1).toNat W hW (by have := UInt8.toNat_lt (hd0 (tk st 1).1); omega) (Nat.le_trans (tk_left _ _) hl))
  have hs1 : (ofL (tk st 1).1).size = 1 := by rw [ofL_sz, tk_len]
  have hh := ofL_hd (tk st 1).1
  have hbt := UInt8.toNat_lt (hd0 (tk st 1).1)
  have HC1 : Hid ((cnt st).1 = nums (tk (tk st 1).2 (hd0 (tk st 1).1).toNat).1) := rfl
  have HC2 : Hid ((cnt st).2 = (tk (tk st 1).2 (hd0 (tk st 1).1).toNat).2) := rfl
  have HL2 : Hid ((tk (tk st 1).2 (hd0 (tk st 1).1).toNat).1.length = (hd0 (tk st 1).1).toNat) := tk_len _ _
  obtain ⟨i0, hi, hz0, hz1, hz2⟩ := info_parts infoI64
  clear h hl hA hO
  generalize ofL (tk st 1).1 = s1 at *
  generalize hd0 (tk st 1).1 = ch at *
  generalize (tk st 1).2 = st1 at *
  generalize hq2 : tk st1 ch.toNat = q2 at *
  obtain ⟨y, st2⟩ := q2
  dsimp only at HC1 HC2 HL2
  clear hq2
  generalize cnt st = R at *
  go_enter Tryd.func85, Tryd.ntmps85
  go_wp2_with (fail)
  refine T1.out.mono ?_
  rintro e w1 ⟨rfl, hL1, hc1⟩
  have hz4 := hc1.size
  have HCg1 := Lib.hid ((Chg.of_below HA.out (Nat.le_refl _) : Chg b (b + 1) w _).trans hc1)
  have HO1 := Lib.hid (own_chg HO0.out hc1 (own_in HO0.out) (.inr (by omega)))
  have T3 := Lib.hid (T2.out w1 hL1)
  clear hL1 hc1 T1 T2
  go_wp2_with (fail)
  refine T3.out.mono ?_
  rintro e w2 ⟨rfl, hL2, hc2⟩
  have hz5 := hc2.size
  have HLd2 := Lib.hid hL2
  have HCg2 := Lib.hid (HCg1.out.trans hc2)
  have HO2 := Lib.hid (own_chg HO1.out hc2 (fun x hx => by cases hx; exact ⟨Nat.le_refl _, Nat.lt_succ_self _⟩ : In w.heap.size (w.heap.size + 1) _) (.inr (by omega)))
  obtain ⟨cp, o3, hcv, hnm⟩ := bytes_ex w2 (ofL y)
  rw [ofL_toList] at hnm
  have HNm := Lib.hid hnm
  have hsy : (ofL y).size = y.length := ofL_sz y
  have hs2 := HCg2.out.size
  have HB3 : Hid (Below w2.heap.size w2 (w2.alloc o3).drew) := ((Below.refl _ _).alloc (Nat.le_refl _) o3).drew
  have HNm3 : Hid (∀ j u, (byteCells y)[j]? = some u → (w2.alloc o3).drew.cell? ⟨w2.heap.size, j, none⟩ = some u) := fun j u hu => by
    have := hnm j u hu
    rw [addr_add0] at this
    exact this
  rw [hsy] at hcv
  have hyl : y.length ≤ 255 := by have := HL2.out; omega
  clear hL2 hc2 T3 hnm
  go_wp2
  have HLd3 := Lib.hid (HLd2.out.on HB3.out)
  have HCg3 := Lib.hid (HCg2.out.trans (Chg.of_below HB3.out (Nat.le_refl _)))
  have HO3 := Lib.hid (ownsRow_below HO2.out HB3.out)
  have hs3 : w2.heap.size < (w2.alloc o3).drew.heap.size := by simp
  clear HNm hcv
  generalize (w2.alloc o3).drew = w3 at *
  have hlw : w.heap.size < w2.heap.size := by
    have q2 : (w.alloc (.cells #[] 2)).heap.size = w.heap.size + 1 := by simp
    omega
  go_loopw [3, 15] (fun vo vi wr => ∃ (k g c : Nat) (E : List Int), k ≤ y.length ∧ vi = .int .i64 k ∧ vo = .slice (some ⟨g, 0, none⟩) E.length c ∧ Hid (E = nums (y.take k)) ∧ (g = w.heap.size ∨ w3.heap.size ≤ g) ∧ Chg w.heap.size (w.heap.size + 1) w3 wr ∧ wr.ownsRow w.heap.size 2 1 (.slice (some ⟨g, 0, none⟩) E.length c) E.length (intCells E)) (fun _ vi _ => y.length - (intOf vi).toNat)
  case atStart => exact ⟨0, w.heap.size, 0, [], Nat.zero_le _, rfl, rfl, by show _ = _; simp [nums], .inl rfl, Chg.refl _ _ _, HO3.out⟩
  case round =>
    obtain ⟨k, g, c, E, hk, rfl, rfl, HE, hg, hc, ho⟩ := hrel
    have hEb : E.length ≤ 255 := by rw [HE.out, nums_len, List.length_take]; omega
    have HC := Lib.hid hc
    have HO := Lib.hid ho
    have hsz : w.heap.size ≤ wr.heap.size := by have := hc.size; omega
    clear ho
    by_cases hlt : k < y.length
    · have z0 := hc.cell (HNm3.out k _ (byteCells_get y k hlt)) (.inr (by dsimp only; omega))
      have HN := Lib.hid (nums_succ y k hlt)
      have hkp : (k : Int) < (y.length : Int) := by omega
      clear hc
      generalize y.getD k 0 = bx at *
      have hbx := UInt8.toNat_lt bx
      have hwx : wrap64 (bx.toNat : Int) = (bx.toNat : Int) := by unfold wrap64; omega
      go_wp2_with (first | (at_builtin; go_must (refine wpList_append_lies _ rfl _ _ 22 rfl w.heap.size 2 i0 _ 1 8 Tryd.underlying22 hi hz0 hz1 hz2 rfl (by omega) (.slice (some ⟨g, 0, none⟩) E.length c) E.length (intCells E) rfl (HO.out.alloc _) ⟨wr.heap.size, 0, none⟩ 1 1 [.int .i64 (bx.toNat : Int)] rfl rfl (new1 _ _ _) (one1 rfl) (by omega) (by unfold maxLen; omega) (by omega) (by simp; omega) (wr.heap.size + 1) (by simp) ?_); intro gg cap w5 hown1 hg1 hat hlt5; have HCn := Lib.hid (HC.out.app (o := .cells #[.int .i64 (bx.toNat : Int)] 2) hg1 hg); have hgn : gg = w.heap.size ∨ w3.heap.size ≤ gg := (by have := HC.out.size; rcases hat with q | q; (· simp [Value.ownBlock] at q; omega); (· omega)); have HOn : Hid (w5.ownsRow w.heap.size 2 1 (.slice (some ⟨gg, 0, none⟩) (E ++ [(bx.toNat : Int)]).length cap) (E ++ [(bx.toNat : Int)]).length (intCells (E ++ [(bx.toNat : Int)]))) := (by show w5.ownsRow _ _ _ _ _ _; rw [List.length_append, intCells_snoc]; exact hown1); clear hown1 hg1 hat))
      go_roundw
      case rel => exact ⟨k + 1, gg, cap, E ++ [(bx.toNat : Int)], by omega, by go_num, by simp, by show _ = _; rw [HE.out, HN.out], hgn, HCn.out, HOn.out⟩
      case measure => simp [intOf]; omega
    · obtain rfl : k = y.length := by omega
      have HF : Hid (E = R.1) := by show _ = _; rw [HE.out, HC1.out, List.take_of_length_le (Nat.le_refl _)]
      have HL4 : Hid (LdAt wr b R.2) := by
        rw [HC2.out]
        exact ⟨hc.cell HLd3.out.s (.inl (by dsimp only; omega)), hc.cell HLd3.out.bad (.inl (by dsimp only; omega)), fun j => (World.frozen?_of_block (hc.block b (by omega) (.inl (by omega)))).trans (HLd3.out.fr j)⟩
      have HC4 : Hid (Chg b (b + 1) w wr) := ⟨hc.os.trans HCg3.out.os, hc.tape.trans HCg3.out.tape, hc.output.trans HCg3.out.output, Nat.le_trans HCg3.out.size hc.size, fun i h1 h2 => (hc.block i (by omega) (.inl h1)).trans (HCg3.out.block i h1 h2)⟩
      clear hc
      go_wp2
      go_ret
      refine ⟨g, c, ?_, HL4.out, HC4.out, ?_⟩
      · rw [← HF.out]; rfl
      · rw [← HF.out]; exact HO.out

end Go.Proofs.YtnoageckldilnaaDoor
