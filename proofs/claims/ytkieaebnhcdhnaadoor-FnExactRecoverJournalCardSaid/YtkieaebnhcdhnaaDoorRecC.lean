/- RecoverJournal: both. -/
import Derived.Test.YtkieaebnhcdhnaaDoorRecB
import Derived.Lib.AppendIntMem
namespace Go.Proofs.YtkieaebnhcdhnaaDoor
open Go.RowKit
set_option linter.unusedVariables false

def RetSt (E : TypeId) (w : World) (r : List ByteArray × Int × Bool) (e : Ending) (w' : World) : Prop :=
  ∃ a n c, e = .returned (.tuple #[.slice a n c, .int .i64 r.2.1, .bool r.2.2]) ∧ Below w.heap.size w w' ∧ w'.ownsRow w.heap.size E 1 (.slice a n c) n (r.1.map Value.string)

set_option maxHeartbeats 1600000 in
theorem specRecoverJournal_any (s : ByteArray) (w : World) : Calls Tryd.prog 10 #[.string s] w (RetSt 9 w (recRes s)) := by
  by_cases hs : s.size ≤ 16000
  · obtain ⟨n, hn⟩ : ∃ n, (cutB 10 s).length = n + 1 := ⟨(cutB 10 s).length - 1, by have := cutB_pos 10 s; omega⟩
    have C := l08Recover_any s n w hs hn
    rw [linesFrom_zero hn] at C
    have HR : Hid (recRes s = ((recS 0 (cutR 10 s.data.toList).dropLast).1.map ofL, (((recS 0 (cutR 10 s.data.toList).dropLast).2 : Nat) : Int), true)) := by show _ = _; unfold recRes; rw [if_pos hs]
    generalize recS 0 (cutR 10 s.data.toList).dropLast = rr at *
    have C := Lib.hid C
    clear hn
    go_enter Tryd.func10, Tryd.ntmps10
    go_wp2_with (fail)
    refine C.out.mono ?_
    rintro e w1 ⟨g, c, D, k, rfl, hb, ho, h1, h2⟩
    have HB := Lib.hid hb
    have HO := Lib.hid ho
    have H1 := Lib.hid h1
    have H2 := Lib.hid h2
    clear hb ho h1 h2 C
    go_wp2
    go_ret3
    refine ⟨some ⟨g, 0, none⟩, D.length, c, ?_, HB.out, ?_⟩
    · rw [HR.out, H2.out]; rfl
    · rw [HR.out, H1.out]; exact HO.out
  · have HR : Hid (recRes s = ([], 0, false)) := by show _ = _; unfold recRes; rw [if_neg hs]
    go_enter Tryd.func10, Tryd.ntmps10
    go_wp2
    go_ret3
    exact ⟨none, 0, 0, by rw [HR.out]; rfl, Below.refl _ _, by rw [HR.out]; exact World.ownsRow_nil _ _ _ _⟩

theorem cut_le1 (l sep : List UInt8) : (Lib.cut l sep).1.length ≤ l.length := by
  unfold Lib.cut
  split
  · simp; omega
  · simp
theorem cut_le2 (l sep : List UInt8) : (Lib.cut l sep).2.1.length ≤ l.length := by
  unfold Lib.cut
  split
  · simp
  · simp
theorem dropLast_cons_ne {α : Type} (a : α) {l : List α} (h : l ≠ []) : (a :: l).dropLast = a :: l.dropLast := by
  cases l with
  | nil => exact absurd rfl h
  | cons b l => rfl
theorem cutR_ne0 (m : UInt8) (l : List UInt8) : cutR m l ≠ [] := by
  obtain ⟨p, ps, e⟩ := cutR_ne m l
  rw [e]; simp

set_option maxHeartbeats 3200000 in
set_option maxRecDepth 100000 in
theorem implRecoverJournal_any (s : ByteArray) (mx : Int) (w : World) (hm : w.cell? ⟨0, 0, none⟩ = some (.int .i64 mx)) (htab : Lib.TabIs Tryd.prog w "internal/strconv.uint64pow10" .u64 Lib.pow10Tab) : Calls Tryd.prog 11 #[.string s] w (RetSt 9 w (recRes s)) := by
  by_cases hs : s.size ≤ 16000
  · have HR : Hid (recRes s = ((recS 0 (cutR 10 s.data.toList).dropLast).1.map ofL, (((recS 0 (cutR 10 s.data.toList).dropLast).2 : Nat) : Int), true)) := by show _ = _; unfold recRes; rw [if_pos hs]
    obtain ⟨i0, hi, hz0, hz1, hz2⟩ := info_parts infoStr
    have HT : Hid (RecAt (cutR 10 s.data.toList).dropLast [] 0 0 (cutR 10 (s.data.toList.drop 0)).dropLast) := RecAt.start _
    generalize (cutR 10 s.data.toList).dropLast = T at *
    have HTab := Lib.hid (Lib.tabBelow_of_tabIs htab)
    have HM := Lib.hid (fun W (hW : Below w.heap.size w W) => cell_on hW hm)
    clear htab hm
    go_enter Tryd.func11, Tryd.ntmps11
    go_wp2
    go_loopw [5, 6, 7, 8, 9, 10, 11, 12, 13, 14, 15] (fun vo va vc _ _ _ _ _ _ _ _ wr => ∃ (p g c : Nat) (ck : Int) (D : List ByteArray), p ≤ s.size ∧ D.length ≤ p ∧ va = .int .i64 p ∧ vc = .int .i64 ck ∧ vo = .slice (some ⟨g, 0, none⟩) D.length c ∧ RecAt T D p ck (cutR 10 (s.data.toList.drop p)).dropLast ∧ Below w.heap.size w wr ∧ wr.ownsRow w.heap.size 9 1 (.slice (some ⟨g, 0, none⟩) D.length c) D.length (D.map Value.string)) (fun _ va _ _ _ _ _ _ _ _ _ _ => s.size - (intOf va).toNat)
    case atStart => exact ⟨0, w.heap.size, 0, 0, [], by omega, by simp, rfl, rfl, rfl, HT.out, (Below.refl _ _).alloc (Nat.le_refl _) _, World.ownsRow_made (e := 9) (size := 1) (base := w.heap.size) w #[] 0 (by simp) (Nat.zero_le _) (by simp)⟩
    case round =>
      obtain ⟨p, g, c, ck, D, hp, hDl, rfl, rfl, rfl, hRA, hb, ho⟩ := hrel
      have HA := Lib.hid hRA
      have HB := Lib.hid hb
      have HO := Lib.hid ho
      have hsz := hb.size
      have hck := hRA.c
      clear hb ho hRA HT
      have hyd : (s.extract p s.size).data.toList = s.data.toList.drop p := by
        rw [ext_data, List.take_of_length_le (show s.data.toList.length ≤ s.size from Nat.le_refl _)]
      have hl : (s.data.toList.drop p).length + p = s.size := by rw [List.length_drop]; have : s.data.toList.length = s.size := rfl; omega
      have C1 := Tryd.strings_Cut (s.extract p s.size) ⟨#[10]⟩ mx wr (by rw [ByteArray.size_extract]; omega) (HM.out wr HB.out)
      rw [hyd] at C1
      have C2 : Hid (∀ (W : World) (x : List UInt8), x.length ≤ 16000 → Below w.heap.size w W → Calls Tryd.prog 22 #[.string (ofL x), .string ⟨#[32]⟩] W fun e w' => e = .returned (.tuple #[.string (ofL (Lib.cut x [32]).1), .string (ofL (Lib.cut x [32]).2.1), .bool (Lib.cut x [32]).2.2]) ∧ ∃ n, w' = W.drewN n) := by
        intro W x hx hW
        have := Tryd.strings_Cut (ofL x) ⟨#[32]⟩ mx W (by rw [show (ofL x).size = x.length from by simp [ofL, ByteArray.size]]; omega) (HM.out W hW)
        rw [ofL_toList] at this
        exact this
      have HDD := Lib.hid (fun j => (List.drop_drop (i := j) (j := p) (l := s.data.toList)).symm)
      clear hyd
      generalize hY : s.data.toList.drop p = Y at *
      clear hY
      rcases first_or 10 Y with ⟨j, hj1, hj2, hj3⟩ | hno
      · have hcut := cut_at hj2 hj3
        have hR := cutR_first hj2 hj3
        have hR' : (cutR 10 Y).dropLast = Y.take j :: (cutR 10 (Y.drop (j + 1))).dropLast := by rw [hR, dropLast_cons_ne _ (cutR_ne0 _ _)]
        rw [hR'] at HA
        rw [show (⟨#[10]⟩ : ByteArray).data.toList = [10] from rfl, hcut] at C1
        have hlen : (Y.take j).length = j := by rw [List.length_take]; omega
        have HDj : Hid (s.data.toList.drop (p + (j + 1)) = Y.drop (j + 1)) := HDD.out (j + 1)
        generalize Y.take j = x at *
        have hxs : (ofL x).size = j := by rw [show (ofL x).size = x.length from by simp [ofL, ByteArray.size], hlen]
        have C1 : Hid (Calls Tryd.prog 22 #[.string (s.extract p s.size), .string ⟨#[10]⟩] wr fun e w' => e = .returned (.tuple #[.string (ofL x), .string (ofL (Y.drop (j + 1))), .bool true]) ∧ ∃ n, w' = wr.drewN n) := C1
        have hlo : lineOk ck x = ((Lib.cut x [32]).2.2 && decide ((Lib.cut x [32]).1 = Lib.decDigits (lineC ck x).toNat)) := rfl
        have hlc : lineC ck x = chkL ck (Lib.cut x [32]).2.1 := rfl
        have hb2 := cut_le2 x [32]
        have hbd := chkL_bd (Lib.cut x [32]).2.1 ck hck
        rw [← hlc] at hbd
        have CK := fun W => CheckOf_any ck (ofL (Lib.cut x [32]).2.1) W hck (by rw [show (ofL (Lib.cut x [32]).2.1).size = (Lib.cut x [32]).2.1.length from by simp [ofL, ByteArray.size]]; omega)
        rw [ofL_toList, ← hlc] at CK
        have CK := Lib.hid CK
        have HYes := Lib.hid (fun h => HA.out.yes h (ofL (Lib.cut x [32]).2.1) (ofL_toList _))
        have HNo := Lib.hid (fun (h : lineOk ck x = false) => HA.out.done (recS_no h))
        have C2 := Lib.hid (fun W hW => C2.out W x (by omega) hW)
        generalize lineC ck x = cc at *
        obtain ⟨cn, rfl⟩ : ∃ cn : Nat, cc = cn := ⟨cc.toNat, by omega⟩
        have CD := Lib.hid (fun W (hW : Below w.heap.size w W) => Decimal_any cn W (by omega) (HTab.out W hW))
        generalize (Lib.cut x [32]).2.1 = Bq at *
        generalize (Lib.cut x [32]).1 = A at *
        generalize (Lib.cut x [32]).2.2 = F at *
        generalize lineOk ck x = ok at *
        have hE : ((ofL A).toList == (decB cn).toList) = decide (A = Lib.decDigits cn) := by
          rw [strEq]
          refine decide_eq_decide.2 ⟨fun q => ?_, fun q => by rw [q]; rfl⟩
          have : (ofL A).data.toList = (decB cn).data.toList := by rw [q]
          rw [ofL_toList] at this
          rw [this]
          exact ofL_toList _
        have HE := Lib.hid hE
        rw [Int.toNat_natCast] at hlo
        have HLo := Lib.hid hlo
        have HX := Lib.hid hxs
        have HLen := Lib.hid hlen
        clear hcut hR hR' hlo hlc hE hxs hj2 hj3 hlen HDD
        go_wp2_with (fail)
        refine C1.out.mono ?_
        rintro e w2 ⟨rfl, q1, rfl⟩
        have HB2 := Lib.hid (HB.out.trans (Quiet.below (w := wr) (w' := wr.drewN q1) ⟨q1, rfl⟩ _))
        have HO2 := Lib.hid (ownsRow_drewN HO.out q1)
        have hs2 := HB2.out.size
        clear C1 HB HO hsz
        generalize wr.drewN q1 = w2 at *
        go_wp2_with (fail)
        refine (C2.out _ HB2.out).mono ?_
        rintro e w3 ⟨rfl, q2, rfl⟩
        have HB3 := Lib.hid (HB2.out.trans (Quiet.below (w := w2) (w' := w2.drewN q2) ⟨q2, rfl⟩ _))
        have HO3 := Lib.hid (ownsRow_drewN HO2.out q2)
        have hs3 := HB3.out.size
        clear C2 HB2 HO2 hs2
        generalize w2.drewN q2 = w3 at *
        go_wp2_with (fail)
        refine (CK.out _).mono ?_
        rintro e w4 ⟨rfl, rfl⟩
        clear CK
        cases F
        · obtain ⟨h1, h2⟩ := HNo.out (by rw [HLo.out]; rfl)
          have H1 := Lib.hid h1
          have H2 := Lib.hid h2
          clear h1 h2
          go_wp2
          go_ret3
          refine ⟨some ⟨g, 0, none⟩, D.length, c, ?_, HB3.out, ?_⟩
          · rw [HR.out, H2.out]; rfl
          · rw [HR.out, H1.out]; exact HO3.out
        · have C4 := Lib.hid (CD.out w3 HB3.out)
          clear CD
          rcases Bool.eq_false_or_eq_true (decide (A = Lib.decDigits cn)) with e1 | e1
          · rw [e1] at HE HLo
            have e2 := HE.out
            have HA2 := Lib.hid (HYes.out (by rw [HLo.out]; rfl))
            clear HE
            go_wp2_with (fail)
            refine C4.out.mono ?_
            rintro e w5 ⟨rfl, hb5⟩
            have HB5 := Lib.hid (HB3.out.trans (hb5.mono hs3))
            have hs5 := HB5.out.size
            have HO5 := Lib.hid (ownsRow_below HO3.out hb5)
            have hxs := HX.out
            have hw1 : IntKind.i64.wrap ((j : Int) + 1) = ((j + 1 : Nat) : Int) := by rw [IntWalk.i64_in _ (by omega)]; omega
            have hw2 : IntKind.i64.wrap ((p : Int) + ((j + 1 : Nat) : Int)) = ((p + (j + 1) : Nat) : Int) := by rw [IntWalk.i64_in _ (by omega)]; omega
            clear hb5 C4
            go_wp2_with (first | (at_builtin; go_must (refine wpList_append_lies _ rfl _ _ 22 rfl w.heap.size 9 i0 _ 1 16 Tryd.underlying22 hi hz0 hz1 hz2 rfl (by omega) (.slice (some ⟨g, 0, none⟩) D.length c) D.length (D.map Value.string) rfl (HO5.out.alloc _) ⟨w5.heap.size, 0, none⟩ 1 1 [.string (ofL Bq)] rfl rfl (new1 _ _ _) (one1 rfl) (by omega) (by unfold maxLen; omega) (by omega) (by simp; omega) (w5.heap.size + 1) (by simp) ?_); intro gg cap w6 hown1 hg1 hat hlt5; have HBn := Lib.hid (below_app HB5.out hs5 hg1 HO5.out); have HOn : Hid (w6.ownsRow w.heap.size 9 1 (.slice (some ⟨gg, 0, none⟩) (D ++ [ofL Bq]).length cap) (D ++ [ofL Bq]).length ((D ++ [ofL Bq]).map Value.string)) := (by show w6.ownsRow _ _ _ _ _ _; rw [List.length_append, List.map_append]; exact hown1); clear hown1 hg1 hat))
            go_roundw
            case rel => exact ⟨p + (j + 1), gg, cap, cn, D ++ [ofL Bq], by omega, by simp; omega, by go_num, by go_num, by simp, by rw [HDj.out, ← HLen.out]; rw [HLen.out]; have := HA2.out; rw [HLen.out] at this; exact this, HBn.out, HOn.out⟩
            case measure => simp [intOf]; omega
          · rw [e1] at HE HLo
            have e2 := HE.out
            obtain ⟨h1, h2⟩ := HNo.out (by rw [HLo.out]; rfl)
            have H1 := Lib.hid h1
            have H2 := Lib.hid h2
            clear h1 h2 HE
            go_wp2_with (fail)
            refine C4.out.mono ?_
            rintro e w5 ⟨rfl, hb5⟩
            have HB5 := Lib.hid (HB3.out.trans (hb5.mono hs3))
            have HO5 := Lib.hid (ownsRow_below HO3.out hb5)
            clear hb5 C4
            go_wp2
            go_ret3
            refine ⟨some ⟨g, 0, none⟩, D.length, c, ?_, HB5.out, ?_⟩
            · rw [HR.out, H2.out]; rfl
            · rw [HR.out, H1.out]; exact HO5.out
      · have hcut := cut_none hno
        have hR := cutR_none hno
        have hNil : (cutR 10 Y).dropLast = [] := by rw [hR]; rfl
        rw [hNil] at HA
        rw [show (⟨#[10]⟩ : ByteArray).data.toList = [10] from rfl, hcut] at C1
        obtain ⟨h1, h2⟩ := HA.out.done rfl
        have H1 := Lib.hid h1
        have H2 := Lib.hid h2
        have C1 : Hid (Calls Tryd.prog 22 #[.string (s.extract p s.size), .string ⟨#[10]⟩] wr fun e w' => e = .returned (.tuple #[.string (ofL Y), .string (ofL []), .bool false]) ∧ ∃ n, w' = wr.drewN n) := C1
        have hb2 := cut_le2 Y [32]
        have CK := fun W => CheckOf_any ck (ofL (Lib.cut Y [32]).2.1) W hck (by rw [show (ofL (Lib.cut Y [32]).2.1).size = (Lib.cut Y [32]).2.1.length from by simp [ofL, ByteArray.size]]; omega)
        have CK := Lib.hid CK
        have C2 := Lib.hid (fun W hW => C2.out W Y (by omega) hW)
        generalize (Lib.cut Y [32]).2.1 = Bq at *
        generalize (Lib.cut Y [32]).1 = A at *
        generalize (Lib.cut Y [32]).2.2 = F at *
        generalize chkL ck (ofL Bq).data.toList = cc at *
        clear hcut hR hNil h1 h2 HDD hno
        go_wp2_with (fail)
        refine C1.out.mono ?_
        rintro e w2 ⟨rfl, q1, rfl⟩
        have HB2 := Lib.hid (HB.out.trans (Quiet.below (w := wr) (w' := wr.drewN q1) ⟨q1, rfl⟩ _))
        have HO2 := Lib.hid (ownsRow_drewN HO.out q1)
        clear C1 HB HO hsz
        generalize wr.drewN q1 = w2 at *
        go_wp2_with (fail)
        refine (C2.out _ HB2.out).mono ?_
        rintro e w3 ⟨rfl, q2, rfl⟩
        have HB3 := Lib.hid (HB2.out.trans (Quiet.below (w := w2) (w' := w2.drewN q2) ⟨q2, rfl⟩ _))
        have HO3 := Lib.hid (ownsRow_drewN HO2.out q2)
        clear C2 HB2 HO2
        generalize w2.drewN q2 = w3 at *
        go_wp2_with (fail)
        refine (CK.out _).mono ?_
        rintro e w4 ⟨rfl, rfl⟩
        clear CK
        go_wp2
        go_ret3
        refine ⟨some ⟨g, 0, none⟩, D.length, c, ?_, HB3.out, ?_⟩
        · rw [HR.out, H2.out]; rfl
        · rw [HR.out, H1.out]; exact HO3.out
  · have HR : Hid (recRes s = ([], 0, false)) := by show _ = _; unfold recRes; rw [if_neg hs]
    go_enter Tryd.func11, Tryd.ntmps11
    go_wp2
    go_ret3
    exact ⟨none, 0, 0, by rw [HR.out]; rfl, Below.refl _ _, by rw [HR.out]; exact World.ownsRow_nil _ _ _ _⟩

end Go.Proofs.YtkieaebnhcdhnaaDoor
