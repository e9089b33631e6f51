/- What is stored, in bytes: the reference's l07Store. -/
import Derived.Test.YtnoageckldilnaaDoorStoA
import Derived.Test.YtnoageckldilnaaDoorSavB
import Derived.Laws.IdiomStrings
import Derived.Lib.SlBytesConst
import Derived.ArgAppend
namespace Go.Proofs.YtnoageckldilnaaDoor
open Go.RowKit
set_option linter.unusedVariables false

def diceTo (xss : List (List Int)) (k : Nat) : List UInt8 := (xss.take k).flatMap bList
theorem diceTo_succ (xss : List (List Int)) (k : Nat) (h : k < xss.length) : diceTo xss (k + 1) = diceTo xss k ++ bList (xss.getD k []) := by
  unfold diceTo
  rw [List.take_add_one, List.getElem?_eq_getElem h, List.flatMap_append]
  simp [h]
theorem diceTo_len (xss : List (List Int)) (hr : ∀ i, i < xss.length → (xss.getD i []).length ≤ 12) : ∀ k, k ≤ xss.length → (diceTo xss k).length ≤ 13 * k := by
  intro k
  induction k with
  | zero => intro _; simp [diceTo]
  | succ k ih =>
    intro hk
    rw [diceTo_succ _ _ (by omega), List.length_append, bList_len]
    have := ih (by omega)
    have := hr k (by omega)
    omega
def headB (nm : ByteArray) (x0 : List Int) (m : Int) : List UInt8 := ((([68, 67, 75, 49] ++ [byteOf (nm.size : Int)]) ++ nm.data.toList) ++ bList x0) ++ [byteOf m]
def storeB (nm : ByteArray) (x0 : List Int) (xss : List (List Int)) : List UInt8 := headB nm x0 xss.length ++ diceTo xss xss.length
def storeC (nm : ByteArray) (x0 : List Int) (xss : List (List Int)) : Int := chkL 0 (storeB nm x0 xss)
def storeL (nm : ByteArray) (x0 : List Int) (xss : List (List Int)) : List UInt8 := storeB nm x0 xss ++ [byteOf (storeC nm x0 xss), byteOf (storeC nm x0 xss / 256)]
theorem storeC_bd (nm : ByteArray) (x0 : List Int) (xss : List (List Int)) : 0 ≤ storeC nm x0 xss ∧ storeC nm x0 xss ≤ 65002 := chkL_bd _ _ (by omega)
theorem headB_len (nm : ByteArray) (x0 : List Int) (m : Int) : (headB nm x0 m).length = nm.size + x0.length + 7 := by
  have : nm.data.toList.length = nm.size := rfl
  simp [headB, bList_len, this]
  omega
/-- what a valid one bounds -/
theorem ok_bounds {nm : ByteArray} {x0 : List Int} {xss : List (List Int)} (h : okSaved nm x0 xss = true) : 1 ≤ nm.size ∧ nm.size ≤ 8 ∧ x0.length ≤ 52 ∧ xss.length ≤ 6 ∧ ∀ i, i < xss.length → (xss.getD i []).length ≤ 12 := by
  unfold okSaved nameOk okDeck at h
  simp only [Bool.and_eq_true, decide_eq_true_eq] at h
  obtain ⟨⟨⟨h1, h2⟩, _⟩, ⟨_, h3, _⟩, h4, h5⟩ := h
  have hl : nm.data.toList.length = nm.size := rfl
  refine ⟨by omega, by omega, h3, h4, fun i hi => ?_⟩
  have := List.all_eq_true.1 h5 (xss.getD i []) (getD_mem hi)
  unfold okDie at this
  simp only [Bool.and_eq_true, decide_eq_true_eq] at this
  exact this.2.1
theorem storeB_len {nm : ByteArray} {x0 : List Int} {xss : List (List Int)} (h : okSaved nm x0 xss = true) : (storeB nm x0 xss).length ≤ 145 := by
  obtain ⟨h1, h2, h3, h4, h5⟩ := ok_bounds h
  unfold storeB
  rw [List.length_append, headB_len]
  have := diceTo_len xss h5 xss.length (Nat.le_refl _)
  omega
theorem storeL_len (nm : ByteArray) (x0 : List Int) (xss : List (List Int)) : (storeL nm x0 xss).length = (storeB nm x0 xss).length + 2 := by simp [storeL]

/-- A text as bytes: a new block. -/
theorem bytes_ex (w : World) (s : ByteArray) : ∃ (cap : Nat) (o : Obj), (convert 9 43 (.string s)).run Tryd.prog w = .ok (.slice (some ⟨w.heap.size, 0, none⟩) s.size cap) (w.alloc o).drew ∧ ∀ j u, (byteCells s.data.toList)[j]? = some u → (w.alloc o).cell? ((⟨w.heap.size, 0, none⟩ : Addr).add j) = some u := by
  refine ⟨_, _, run_bytes_of_string w 9 43 5 s Tryd.underlying9 Tryd.underlying43 Tryd.underlying5, fun j u hu => ?_⟩
  have hj : j < s.data.toList.length := by have := (List.getElem?_eq_some_iff.1 hu).1; rwa [byteCells_len] at this
  have e : (⟨w.heap.size, 0, none⟩ : Addr).add j = ⟨w.heap.size, j, none⟩ := by
    unfold Addr.add
    split
    · rename_i h0; subst h0; rfl
    · simp
  rw [e]
  have hj2 : j < s.data.size := hj
  show (World.alloc w _).cell? _ = _
  unfold World.cell?
  rw [heap_alloc_new]
  rw [← hu]
  unfold bytesRow
  simp only []
  rw [if_neg (by simp), Array.getElem?_append_left (by simpa using hj2)]
  simp [byteCells]

theorem addr_add0 (g j : Nat) : (⟨g, 0, none⟩ : Addr).add j = ⟨g, j, none⟩ := by
  unfold Addr.add
  split
  · rename_i h0; subst h0; rfl
  · simp
theorem lit_cells (w : World) (L : List Value) (T : TypeId) (fr : Nat × Nat) : ∀ j u, L[j]? = some u → (w.alloc (.cells L.toArray T fr)).cell? ((⟨w.heap.size, 0, none⟩ : Addr).add j) = some u := by
  intro j u hu
  rw [addr_add0]
  unfold World.cell?
  rw [heap_alloc_new]
  simpa using hu
/-- A slice that owns something has a place. -/
theorem own_place {w : World} {B : Nat} {e : TypeId} {sz : Nat} {v : Value} {n : Nat} {xs : List Value} (h : w.ownsRow B e sz v n xs) (hn : 0 < n) : ∃ g c, v = .slice (some ⟨g, 0, none⟩) n c := by
  rcases h.2 with ⟨_, h2⟩ | ⟨g, cap, cur, h1, _⟩
  · omega
  · exact ⟨g, cap, h1⟩

set_option maxHeartbeats 3200000 in
set_option maxRecDepth 100000 in
theorem l07Store_any (b off : Nat) (nm : ByteArray) (a0 : Option Addr) (n0 c0 : Nat) (x0 : List Int) (a1 : Option Addr) (n1 c1 : Nat) (ss : List Spot) (xss : List (List Int)) (w : World)
    (hs : SavAt w b off nm a0 n0 c0 a1 n1 c1) (h0 : Ints w a0 n0 c0 x0) (h1 : IntSS w a1 n1 c1 ss xss) (hok : okSaved nm x0 xss = true) :
    Calls Tryd.prog 43 #[.pointer (some ⟨b, off, none⟩)] w (Ret w (.string (ofL (storeL nm x0 xss)))) := by
  obtain ⟨b1, b2, b3, b4, b5⟩ := ok_bounds hok
  obtain ⟨hc, hc2, hcell⟩ := h1.at
  have HCell := Lib.hid hcell
  have hl0 := h0.len
  have hl1 := h1.len
  have HR : Hid (∀ i, i < n1 → Ints w (ss.getD i spot0).1 (ss.getD i spot0).2.1 (ss.getD i spot0).2.2 (xss.getD i []) ∧ (ss.getD i spot0).2.1 ≤ 12 ∧ diceTo xss (i + 1) = diceTo xss i ++ bList (xss.getD i [])) := fun i hi => ⟨h1.row i hi, by have := (h1.row i hi).len; have := b5 i (by omega); omega, diceTo_succ xss i (by omega)⟩
  have HDL : Hid (∀ k, k ≤ n1 → (diceTo xss k).length ≤ 13 * k) := fun k hk => diceTo_len xss b5 k (by omega)
  have HSv := Lib.hid hs
  have hc0 := hs.nm
  have hc1 := hs.deck
  have hc2' := hs.dice
  have HI0 := Lib.hid h0
  have HN1 := Lib.hid hl1
  have HN0 := Lib.hid hl0
  have HSB : Hid (storeB nm x0 xss = headB nm x0 (n1 : Int) ++ diceTo xss n1) := by show _ = _; unfold storeB; rw [hl1]
  have HSC : Hid (storeC nm x0 xss = chkL 0 (storeB nm x0 xss)) := rfl
  have HSL : Hid (storeL nm x0 xss = storeB nm x0 xss ++ [byteOf (storeC nm x0 xss), byteOf (storeC nm x0 xss / 256)]) := rfl
  have hSl := storeB_len hok
  obtain ⟨k0, k1⟩ := storeC_bd nm x0 xss
  have hnl : n0 ≤ 52 := by omega
  have hml : n1 ≤ 6 := by omega
  clear hs h0 h1 hok b3 b4 b5 hcell hl0 hl1
  have hwn : IntKind.u8.wrap (nm.size : Int) = ((byteOf (nm.size : Int)).toNat : Int) := byteOf_wrap _
  have hwm : IntKind.u8.wrap (n1 : Int) = ((byteOf (n1 : Int)).toNat : Int) := byteOf_wrap _
  have hx1 : IntKind.u8.wrap (storeC nm x0 xss % 256) = ((byteOf (storeC nm x0 xss)).toNat : Int) := by rw [IntKind.wrap_u8, byteOf_nat]; omega
  have hx2 : IntKind.u8.wrap (storeC nm x0 xss / 256) = ((byteOf (storeC nm x0 xss / 256)).toNat : Int) := byteOf_wrap _
  generalize storeL nm x0 xss = SL at *
  generalize hSC : storeC nm x0 xss = cN at *
  generalize hSB : storeB nm x0 xss = SB at *
  clear hSC hSB
  have HH : Hid (((([68, 67, 75, 49] ++ [byteOf (nm.size : Int)]) ++ nm.data.toList) ++ bList x0) ++ [byteOf (n1 : Int)] = headB nm x0 (n1 : Int)) := rfl
  have HHl : Hid ((headB nm x0 (n1 : Int)).length = nm.size + n0 + 7) := by show _ = _; rw [headB_len, HN0.out]
  have HNl : Hid (nm.data.toList.length = nm.size) := rfl
  have HBl : Hid ((bList x0).length = n0 + 1) := by show _ = _; rw [bList_len, HN0.out]
  generalize headB nm x0 (n1 : Int) = HD at *
  generalize byteOf (nm.size : Int) = bn at *
  generalize byteOf (n1 : Int) = bm at *
  generalize byteOf (cN / 256) = bh at *
  generalize byteOf cN = bl at *
  obtain ⟨i0, hi, hz0, hz1, hz2⟩ := info_parts infoU8
  have kc := Lib.run_convert_bytes_const (P := Tryd.prog) w 43 5 #[.int .u8 68, .int .u8 67, .int .u8 75, .int .u8 49] 4 4 Tryd.underlying43 Tryd.underlying5
  have e4 : (#[Value.int .u8 68, .int .u8 67, .int .u8 75, .int .u8 49] : Array Value).size = 4 := rfl
  rw [e4] at kc
  clear e4
  have hB1 : Below w.heap.size w (w.alloc (.cells #[.int .u8 68, .int .u8 67, .int .u8 75, .int .u8 49] 5 (4, 5))) := (Below.refl _ _).alloc (Nat.le_refl _) _
  have g0 := cell_on hB1 hc0
  obtain ⟨W2, hW2⟩ : ∃ W2, W2 = (w.alloc (.cells #[.int .u8 68, .int .u8 67, .int .u8 75, .int .u8 49] 5 (4, 5))).alloc (.cells #[.int .u8 (bn.toNat : Int)] 5) := ⟨_, rfl⟩
  have HW2 := Lib.hid hW2
  have hB2 : Hid (Below w.heap.size w W2) := by rw [hW2]; exact hB1.alloc (by simp) _
  have hnew : Hid (∀ j u, [Value.int .u8 (bn.toNat : Int)][j]? = some u → W2.cell? ((⟨w.heap.size + 1, 0, none⟩ : Addr).add j) = some u) := by
    have := new1 (w.alloc (.cells #[.int .u8 68, .int .u8 67, .int .u8 75, .int .u8 49] 5 (4, 5))) (.int .u8 (bn.toNat : Int)) 5
    simp only [World.size_alloc] at this
    rw [hW2]
    exact this
  have hold : Hid (∀ b, some (⟨w.heap.size, 0, none⟩ : Addr) = some b → ∀ j u, [Value.int .u8 68, .int .u8 67, .int .u8 75, .int .u8 49][j]? = some u → W2.cell? (b.add j) = some u) := by
    intro b hb j u hu
    cases hb
    rw [hW2]
    exact cell_on ((Below.refl _ _).alloc (Nat.le_refl _) _) (lit_cells w [.int .u8 68, .int .u8 67, .int .u8 75, .int .u8 49] 5 (4, 5) j u hu)
  clear hB1
  go_enter Tryd.func43, Tryd.ntmps43
  go_wp2_with (first
    | (at_builtin; rw [← HW2.out]; clear HW2; (refine wpList_append_grows W2 rfl _ _ 43 rfl 5 i0 _ 1 1 Tryd.underlying43 hi hz0 hz1 hz2 rfl (by omega) (some ⟨w.heap.size, 0, none⟩) 4 4 [.int .u8 68, .int .u8 67, .int .u8 75, .int .u8 49] rfl (fun q => by cases q) rfl hold.out ⟨w.heap.size + 1, 0, none⟩ 1 1 [.int .u8 (bn.toNat : Int)] rfl rfl hnew.out (one1 rfl) (by omega) (by unfold maxLen; omega) (by omega) ?_); intro v5 w5 hown1 hg1; have hb5 := below_made hB2.out hB2.out.size hg1; have HB5 := Lib.hid hb5; have hc0 := cell_on hb5 HSv.out.nm; obtain ⟨g5, c5, ev5⟩ := own_place hown1 (by omega); subst ev5; have HO5 : Hid (w5.ownsRow w.heap.size 5 1 (.slice (some ⟨g5, 0, none⟩) 5 c5) 5 (byteCells ([68, 67, 75, 49] ++ [bn]))) := (ownsRow_low hown1 hB2.out.size); clear hg1 hown1 hb5 kc hold hnew hB2; obtain ⟨cp, o6, hcv, hnm⟩ := bytes_ex w5 nm; have HNm := Lib.hid hnm; clear hnm; have hs5 := HB5.out.size; generalize hD5 : ([68, 67, 75, 49] ++ [bn] : List UInt8) = D5 at *; have HD5 := Lib.hid hD5; clear hD5)
    | (at_builtin; (refine wpList_append_lies _ rfl _ _ 43 rfl w.heap.size 5 i0 _ 1 1 Tryd.underlying43 hi hz0 hz1 hz2 rfl (by omega) (.slice (some ⟨g5, 0, none⟩) 5 c5) 5 (byteCells D5) rfl (ownsRow_drewN (HO5.out.alloc _) 1) ⟨w5.heap.size, 0, none⟩ nm.size cp (byteCells nm.data.toList) rfl (by rw [byteCells_len, HNl.out, Nat.mul_one]) HNm.out (byteCells_one _) (by omega) (by unfold maxLen; omega) (by omega) (by simp; omega) (w5.heap.size + 1) (by simp) ?_); intro g6 c6 w6 hown2 hg2 hat2 hlt6; have hb6 := below_grown ((HB5.out.alloc hs5 o6).drew) (by simp; omega) hg2 (ownsRow_drewN (HO5.out.alloc o6) 1); have HB6 := Lib.hid hb6; have hc1 := cell_on hb6 HSv.out.deck; have hD6 : (D5 ++ nm.data.toList).length = 5 + nm.size := (by rw [List.length_append, HNl.out, ← HD5.out]; rfl); have CL := l07List_any w w6 hb6 g6 c6 (D5 ++ nm.data.toList) (by rw [hD6, byteCells_app]; exact hown2) a0 n0 c0 x0 HI0.out (by omega) (by omega); rw [hD6] at CL; have CL := Lib.hid CL; have hL7 : ((D5 ++ nm.data.toList) ++ bList x0).length = 5 + nm.size + (n0 + 1) := (by rw [List.length_append, hD6, HBl.out]); generalize hD7 : (D5 ++ nm.data.toList) ++ bList x0 = D7 at *; have HD7 := Lib.hid hD7; have hL7b : D7.length ≤ 100 := (by omega); have HL7 := Lib.hid hL7; clear hD7 hL7 hown2 hg2 hat2 hlt6 hb6 hD6 HNm hcv HO5)
    | (go_at_call 75; refine CL.out.mono ?_; rintro e w7 ⟨g7, c7, rfl, hb7, ho7⟩; have HB7 := Lib.hid hb7; have HO7 := Lib.hid ho7; have hc2' := cell_on hb7 HSv.out.dice; have hs7 := hb7.size; clear hb7 ho7 CL)
    | (at_builtin; go_must (refine wpList_append_lies _ rfl _ _ 43 rfl w.heap.size 5 i0 _ 1 1 Tryd.underlying43 hi hz0 hz1 hz2 rfl (by omega) (.slice (some ⟨g7, 0, none⟩) D7.length c7) D7.length (byteCells D7) rfl (HO7.out.alloc _) ⟨w7.heap.size, 0, none⟩ 1 1 [.int .u8 (bm.toNat : Int)] rfl rfl (new1 _ _ _) (one1 rfl) (by omega) (by unfold maxLen; omega) (by omega) (by simp; omega) (w7.heap.size + 1) (by simp) ?_); intro g8 c8 w8 hown1 hg1 hat hlt5; have hb8 := below_app HB7.out hs7 hg1 HO7.out; have hc2' := cell_on hb8 HSv.out.dice; have HB8 := Lib.hid hb8; have HO8 : Hid (w8.ownsRow w.heap.size 5 1 (.slice (some ⟨g8, 0, none⟩) (D7 ++ [bm]).length c8) (D7 ++ [bm]).length (byteCells (D7 ++ [bm]))) := (by show w8.ownsRow _ _ _ _ _ _; rw [List.length_append, byteCells_app]; exact hown1); clear hown1 hg1 hat hb8 HO7))
  clear hc0 hc1 hc2'
  have HD8 : Hid (D7 ++ [bm] = HD ++ diceTo xss 0) := by
    show _ = _
    rw [← HH.out, ← HD7.out, ← HD5.out]
    simp [diceTo]
  have HXB : Hid (∀ k, k ≤ n1 → (HD ++ diceTo xss k).length ≤ 145) := fun k hk => by
    rw [List.length_append, HHl.out]
    have := HDL.out k hk
    omega
  go_loopw [3, 43] (fun vo vi wr => ∃ (k g c : Nat) (E : List UInt8), k ≤ n1 ∧ vi = .int .i64 k ∧ vo = .slice (some ⟨g, 0, none⟩) E.length c ∧ Hid (E = HD ++ diceTo xss k) ∧ Below w.heap.size w wr ∧ wr.ownsRow w.heap.size 5 1 (.slice (some ⟨g, 0, none⟩) E.length c) E.length (byteCells E)) (fun _ vi _ => n1 - (intOf vi).toNat)
  case atStart => exact ⟨0, g8, c8, D7 ++ [bm], Nat.zero_le _, rfl, by simp, HD8.out, HB8.out, HO8.out⟩
  case round =>
    obtain ⟨k, g, c, E, hk, rfl, rfl, HE, hb, ho⟩ := hrel
    have hEb : E.length ≤ 145 := by rw [HE.out]; exact HXB.out k hk
    have HB := Lib.hid hb
    have HO := Lib.hid ho
    have hsz := hb.size
    have hc2' := cell_on hb HSv.out.dice
    clear ho
    by_cases hlt : k < n1
    · obtain ⟨db, doff, rfl, hlb, hx⟩ := HCell.out k hlt
      have z0 := cell_on hb (hx k hlt)
      obtain ⟨hr1, hr2, hr3⟩ := HR.out k hlt
      have HDn := Lib.hid hr3
      clear hx hb hr3
      generalize xss.getD k [] = xs at *
      rcases hsp : ss.getD k spot0 with ⟨A, L, C⟩
      rw [hsp] at z0 hr1 hr2
      dsimp only at z0 hr1 hr2
      clear hsp
      have CL := Lib.hid (l07List_any w wr HB.out g c E HO.out A L C xs hr1 (by omega) (by omega))
      clear hr1
      go_wp2_with (fail)
      refine CL.out.mono ?_
      rintro e w9 ⟨g9, c9, rfl, hb9, ho9⟩
      have HB9 := Lib.hid hb9
      have HO9 := Lib.hid ho9
      clear hb9 ho9 CL
      generalize hE9 : E ++ bList xs = E9 at *
      have HE9 := Lib.hid hE9
      clear hE9
      go_wp2
      go_roundw
      case rel => exact ⟨k + 1, g9, c9, E9, by omega, by go_num, rfl, by show _ = _; rw [HDn.out, ← List.append_assoc, ← HE.out, HE9.out], HB9.out, HO9.out⟩
      case measure => simp [intOf]; omega
    · obtain rfl : k = n1 := by omega
      have HF : Hid (E = SB) := by show _ = _; rw [HE.out, HSB.out]
      have qc := U8s.str (show U8s wr (some ⟨g, 0, none⟩) E.length c E from Rd.own HO.out) 43 5 Tryd.underlying43 Tryd.underlying5 9 Tryd.underlying9
      have hsE : (ofL E).size = E.length := by simp [ofL, ByteArray.size]
      have CK := l01Check_any 0 (ofL E) wr (by omega) (by omega)
      rw [ofL_toList, HF.out, ← HSC.out, ← HF.out] at CK
      have CK := Lib.hid CK
      have hnw : Hid (∀ j u, [Value.int .u8 (bl.toNat : Int), .int .u8 (bh.toNat : Int)][j]? = some u → (wr.alloc (.cells #[.int .u8 (bl.toNat : Int), .int .u8 (bh.toNat : Int)] 5)).cell? ((⟨wr.heap.size, 0, none⟩ : Addr).add j) = some u) := lit_cells wr [Value.int .u8 (bl.toNat : Int), .int .u8 (bh.toNat : Int)] 5 (0, 0)
      clear hsE hb hc2'
      go_wp2_with (first
        | (go_at_call 76; refine CK.out.mono ?_; rintro e w9 ⟨rfl, rfl⟩)
        | (at_builtin; go_must (refine wpList_append_lies _ rfl _ _ 43 rfl w.heap.size 5 i0 _ 1 1 Tryd.underlying43 hi hz0 hz1 hz2 rfl (by omega) (.slice (some ⟨g, 0, none⟩) E.length c) E.length (byteCells E) rfl (HO.out.alloc _) ⟨wr.heap.size, 0, none⟩ 2 2 [.int .u8 (bl.toNat : Int), .int .u8 (bh.toNat : Int)] rfl rfl hnw.out (byteCells_one [bl, bh]) (by omega) (by unfold maxLen; omega) (by omega) (by simp; omega) (wr.heap.size + 1) (by simp) ?_); intro g8 c8 w8 hown1 hg1 hat hlt5; have hb8 := below_grown (HB.out.alloc hsz _) (by simp; omega) hg1 (HO.out.alloc _); have HB8 := Lib.hid hb8; have qc := U8s.str (show U8s w8 (some ⟨g8, 0, none⟩) (E ++ [bl, bh]).length c8 (E ++ [bl, bh]) from Rd.own (by rw [List.length_append, List.map_append]; exact hown1)) 43 5 Tryd.underlying43 Tryd.underlying5 9 Tryd.underlying9; rw [List.length_append, show [bl, bh].length = 2 from rfl] at qc; clear hown1 hg1 hat hb8))
      go_ret
      exact ⟨by rw [HSL.out, ← HF.out]; rfl, HB8.out⟩

end Go.Proofs.YtnoageckldilnaaDoor
