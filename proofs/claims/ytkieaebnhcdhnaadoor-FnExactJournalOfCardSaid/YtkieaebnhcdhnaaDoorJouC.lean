/- JournalOf: the program's. -/
import Derived.Test.YtkieaebnhcdhnaaDoorJouB
import Derived.Lib.AppendIntMem
namespace Go.Proofs.YtkieaebnhcdhnaaDoor
open Go.RowKit
set_option linter.unusedVariables false

theorem indexNl (x : ByteArray) : decide (0 ≤ Lib.indexByte x.data.toList 10) = hasNl x := by
  have hge := Lib.indexByte_ge x.data.toList 10
  by_cases h : Lib.indexByte x.data.toList 10 = -1
  · rw [decide_eq_false (by omega)]
    refine (hasNl_no fun j hj q => ?_).symm
    exact Lib.indexByte_none h j (by rw [List.getElem?_eq_getElem (show j < x.data.toList.length from hj)]; exact congrArg some q)
  · rw [decide_eq_true (by omega)]
    obtain ⟨o, ho⟩ : ∃ o : Nat, Lib.indexByte x.data.toList 10 = o := ⟨(Lib.indexByte x.data.toList 10).toNat, by omega⟩
    have h1 := (Lib.indexByte_some ho).1
    obtain ⟨h2, h3⟩ := List.getElem?_eq_some_iff.1 h1
    exact (hasNl_yes (show o < x.size from h2) h3).symm

theorem bAt_below {B b : Nat} {p : Value} {bs : List Value} {w w' : World} (h : BAt B b p bs w) (hb : Below w.heap.size w w') : BAt B b p bs w' := by
  have hlt := h.lt
  obtain ⟨h1, v, h2, h3, h4⟩ := h
  exact ⟨h1, v, by rw [hb.block b hlt]; exact h2, ownsRow_below h3 hb, h4⟩
theorem isB_below {B b : Nat} {bs : List Value} {w w' : World} (h : IsB B b bs w) (hb : Below w.heap.size w w') : IsB B b bs w' :=
  h.elim (fun h => .inl (bAt_below h hb)) (fun h => .inr (bAt_below h hb))

set_option maxHeartbeats 3200000 in
set_option maxRecDepth 100000 in
theorem implJournalOf_any (a : Option Addr) (n c : Nat) (xs : List ByteArray) (w : World) (h : Strs w a n c xs) (hsz : ∀ k, k < n → (xs.getD k ByteArray.empty).size ≤ 1048576) (htab : Lib.TabIs Tryd.prog w "internal/strconv.uint64pow10" .u64 Lib.pow10Tab) : Calls Tryd.prog 8 #[.slice a n c] w (Ret w (.tuple #[.string (jRes xs).1, .bool (jRes xs).2])) := by
  have hl := h.len
  have Hl := Lib.hid hl
  have HE : Hid (xs.take n = xs) := List.take_of_length_le (by omega)
  have HS := Lib.hid (fun k (hk : k < n) => jst_succ xs k (by omega))
  have HC := Lib.hid (fun k => jst_c (xs.take k))
  have HSz := Lib.hid hsz
  have HTab := Lib.hid (Lib.tabBelow_of_tabIs htab)
  obtain ⟨hc, hc2, hat⟩ := Row.at ByteArray.empty h
  have HAt := Lib.hid hat
  clear hl hsz h hat htab
  go_enter Tryd.func8, Tryd.ntmps8
  go_wp2
  go_loopw [5, 7, 11] (fun vc _ vi wr => ∃ (i : Nat) (ck : Int) (out : List UInt8), i ≤ n ∧ out.length ≤ 16000 ∧ vi = .int .i64 i ∧ vc = .int .i64 ck ∧ Hid (jst (xs.take i) = (ck, out)) ∧ Hid (∀ k, k < i → hasNl (xs.getD k ByteArray.empty) = false) ∧ IsB w.heap.size w.heap.size (Lib.byteCells out) wr ∧ Below w.heap.size w wr) (fun _ _ vi _ => n - (intOf vi).toNat)
  case atStart =>
    exact ⟨0, 0, [], by omega, by simp, rfl, rfl, by show _ = _; simp [jst], fun k hk => absurd hk (Nat.not_lt_zero _), .inl ⟨Nat.le_refl _, .slice none 0 0, heap_alloc_new w _, World.ownsRow_nil _ _ _ _, by simp [Value.ownBlock]⟩, (Below.refl _ _).alloc (Nat.le_refl _) _⟩
  case round =>
    obtain ⟨i, ck, out, hi, hol, rfl, rfl, HJ, HN, hB, hb⟩ := hrel
    have HB := Lib.hid hB
    have HW := Lib.hid hb
    have hs := hb.size
    have hck := HC.out i
    rw [HJ.out] at hck
    dsimp only at hck
    by_cases hlt : i < n
    · obtain ⟨b, off, rfl, hlb, hx⟩ := HAt.out i hlt
      have z0 := cell_on hb (hx i hlt)
      have hxs := HSz.out i hlt
      have hj := HS.out i hlt
      rw [HJ.out] at hj
      have Hj := Lib.hid hj
      have HNl := Lib.hid (fun (q : hasNl (xs.getD i ByteArray.empty) = true) => jRes_nl (by rw [Hl.out]; exact hlt) q)
      clear hx hj hb hB
      generalize hX : xs.getD i ByteArray.empty = x at *
      have HX := Lib.hid hX
      have CC := Tryd.strings_Contains_one x 10 wr
      rw [indexNl] at CC
      have CC := Lib.hid CC
      clear hX
      have hki : (i : Int) < (n : Int) := by omega
      rcases Bool.eq_false_or_eq_true (hasNl x) with e1 | e1
      · have HR : Hid (jRes xs = (ByteArray.empty, false)) := HNl.out e1
        rw [e1] at CC
        clear e1
        go_wp2_with (fail)
        refine CC.out.mono ?_
        rintro e w2 ⟨rfl, rfl⟩
        go_wp2
        go_ret2
        exact ⟨by rw [HR.out]; rfl, HW.out⟩
      · rw [e1] at CC
        have HNx := Lib.hid e1
        have hbd := chkL_bd x.data.toList ck hck
        have CK := CheckOf_any ck x wr hck hxs
        have hjl := jline_le ck x.data.toList hck
        have hxl : x.data.toList.length = x.size := rfl
        have HStr := Lib.hid (fun cn hc => jline_str cn x ck hc)
        have Hcc : Hid (jstep (ck, out) x = (chkL ck x.data.toList, out ++ jline ck x.data.toList)) := rfl
        generalize hcc : chkL ck x.data.toList = cc at *
        obtain ⟨cn, rfl⟩ : ∃ cn : Nat, cc = cn := ⟨cc.toNat, by omega⟩
        have CD := Lib.hid (Decimal_any cn wr (by omega) (HTab.out wr HW.out))
        have HStr := Lib.hid (HStr.out cn rfl)
        have hd := dec_len cn
        have hds : (decB cn).size ≤ 65010 := by unfold decB; rw [ofL_size]; omega
        have CK := Lib.hid CK
        rw [hxl] at hjl
        generalize jline ck x.data.toList = JL at *
        have hJs : (ofL JL).size ≤ 1200000 := by rw [ofL_size]; omega
        have hz1 : (decB cn).size + 1 ≤ 9223372036854775807 := by omega
        have hz2 : (decB cn ++ ⟨#[32]⟩).size + x.size ≤ 9223372036854775807 := by rw [ByteArray.size_append]; show (decB cn).size + 1 + _ ≤ _; omega
        have hz3 : (decB cn ++ ⟨#[32]⟩ ++ x).size + 1 ≤ 9223372036854775807 := by rw [ByteArray.size_append, ByteArray.size_append]; show (decB cn).size + 1 + _ + 1 ≤ _; omega
        have hcells : ∀ W, IsB w.heap.size w.heap.size (Lib.byteCells out) W → w.heap.size ≤ W.heap.size → Calls Tryd.prog 17 #[.pointer (some ⟨w.heap.size, 0, none⟩), .string (decB cn ++ ⟨#[32]⟩ ++ x ++ ⟨#[10]⟩)] W fun e w' => e = .returned (.tuple #[.int .i64 (ofL JL).size, .nilIface]) ∧ IsB w.heap.size w.heap.size (Lib.byteCells (out ++ JL)) w' ∧ Below w.heap.size W w' := fun W hBW hsW => by
          have := WriteString_any w.heap.size w.heap.size (Lib.byteCells out) (ofL JL) W hBW (by rw [Lib.byteCells_length]; omega) hsW
          rw [HStr.out]
          refine this.mono ?_
          rintro e w' ⟨rfl, h1, h2⟩
          refine ⟨rfl, .inr ?_, h2⟩
          have e3 : Lib.byteCells out ++ Lib.strCells (ofL JL) = Lib.byteCells (out ++ JL) := by
            show Lib.byteCells out ++ Lib.byteCells JL = _
            simp [Lib.byteCells]
          rw [e3] at h1
          exact h1
        have CWr := Lib.hid hcells
        clear hcells hcc hd hxl e1
        go_wp2_with (fail)
        refine CC.out.mono ?_
        rintro e w2 ⟨rfl, rfl⟩
        clear CC
        go_wp2_with (fail)
        refine CK.out.mono ?_
        rintro e w2 ⟨rfl, rfl⟩
        clear CK
        go_wp2_with (fail)
        refine CD.out.mono ?_
        rintro e w3 ⟨rfl, hb3⟩
        have hs2 := HW.out.size
        have HB3 := Lib.hid (isB_below HB.out hb3)
        have HW3 := Lib.hid (HW.out.trans (hb3.mono hs2))
        have hs3 := HW3.out.size
        clear hb3 CD HB
        go_wp2_with (fail)
        refine (CWr.out w3 HB3.out hs3).mono ?_
        rintro e w4 ⟨rfl, hB4, hb4⟩
        have HB4 := Lib.hid hB4
        have HW4 := Lib.hid (HW3.out.trans hb4)
        have CL := Tryd.Builder_Len w.heap.size w.heap.size (Lib.byteCells (out ++ JL)) w4 hB4
        rw [Lib.byteCells_length] at CL
        have CL := Lib.hid CL
        clear hB4 hb4 CWr HB3 HW3
        generalize hout : out ++ JL = out2 at *
        have Hout := Lib.hid hout
        have hol2 : out2.length ≤ 4000000 := by rw [← hout, List.length_append]; have := ofL_size JL; omega
        clear hout
        go_wp2_with (fail)
        refine CL.out.mono ?_
        rintro e w5 ⟨rfl, rfl⟩
        by_cases hbig : 16000 < out2.length
        · have HR : Hid (jRes xs = (ByteArray.empty, false)) := jRes_long (k := i + 1) (by rw [Hj.out, Hcc.out]; exact hbig)
          have hb1 : (16000 : Int) < (out2.length : Int) := by omega
          go_wp2
          go_ret2
          exact ⟨by rw [HR.out]; rfl, HW4.out⟩
        · have hb1 : (out2.length : Int) ≤ 16000 := by omega
          go_wp2
          go_roundw
          case rel => exact ⟨i + 1, cn, out2, by omega, by omega, by go_num, rfl, by show _ = _; rw [Hj.out, Hcc.out], fun k hk => by
            by_cases q : k = i
            · subst q; rw [HX.out]; exact HNx.out
            · exact HN.out k (by omega), HB4.out, HW4.out⟩
          case measure => simp [intOf]; omega
    · obtain rfl : i = n := by omega
      have HJ2 : Hid ((jst xs).2 = out) := by show _ = _; have := HJ.out; rw [HE.out] at this; rw [this]
      have HR : Hid (jRes xs = (ofL out, true)) := by
        show _ = _
        rw [jRes_ok (fun k hk => HN.out k (by rw [← Hl.out]; exact hk)) (by rw [HJ2.out]; exact hol), HJ2.out]
      have C1 := Lib.hid (Tryd.Builder_String_any w.heap.size w.heap.size out wr hB hs)
      clear hB hb
      go_wp2_with (fail)
      refine C1.out.mono ?_
      rintro e w2 ⟨rfl, hb2⟩
      have HW2 := Lib.hid (HW.out.trans hb2)
      clear hb2 C1
      go_wp2
      go_ret2
      exact ⟨by rw [HR.out]; rfl, HW2.out⟩

end Go.Proofs.YtkieaebnhcdhnaaDoor
