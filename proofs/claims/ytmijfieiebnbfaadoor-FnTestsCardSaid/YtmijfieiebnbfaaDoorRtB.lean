/- Reading tests: the program's decimals, its index of a word. -/
import Derived.Test.YtmijfieiebnbfaaDoorRtA
import Derived.Lib.AtoiErrMem
namespace Go.Proofs.YtmijfieiebnbfaaDoor
open Go.RowKit
set_option linter.unusedVariables false
set_option linter.unusedSimpArgs false

/-- the two cells of errors -/
structure ErrC (w : World) (es er : Value) : Prop where
  s : w.cell? ⟨2, 0, none⟩ = some es
  r : w.cell? ⟨3, 0, none⟩ = some er
  sv : es = .nilIface ∨ ∃ te pe, es = .iface te pe
  rv : er = .nilIface ∨ ∃ te pe, er = .iface te pe
theorem ErrC.on {w w' : World} {es er : Value} (h : ErrC w es er) (hb : Below w.heap.size w w') : ErrC w' es er := ⟨cell_on hb h.s, cell_on hb h.r, h.sv, h.rv⟩

set_option maxHeartbeats 800000 in
theorem DecimalZ_any (n : Int) (w : World) (hn : -1000000000000000 ≤ n ∧ n ≤ 1000000000000000) (htab : Lib.TabIs Tryd.prog w "internal/strconv.uint64pow10" .u64 Lib.pow10Tab) : Calls Tryd.prog 27 #[.int .i64 n] w (Ret w (.string (ofL (Lib.itoa n)))) := by
  have C := Tryd.strconv_FormatInt_10 n (by omega) (by omega) w htab
  have C := Lib.hid C
  clear htab
  go_enter Tryd.func27, Tryd.ntmps27
  go_wp2_with (fail)
  refine C.out.mono ?_
  rintro e w1 ⟨rfl, k, os, rfl⟩
  go_wp2
  go_ret
  exact ⟨rfl, below_sgrow (Quiet.below ⟨k, rfl⟩ _) os⟩

theorem isValue_any (n : Int) (w : World) : Calls Tryd.prog 51 #[.int .i64 n] w (RetS w (.bool (inB n (-1000000000000000) 1000000000000000))) := by
  go_enter Tryd.func51, Tryd.ntmps51
  go_wp2_with (first | (go_at_call 37; refine (within_any _ _ _ _).mono ?_; rintro e w' ⟨rfl, rfl⟩))
  go_ret
  exact ⟨rfl, rfl⟩

theorem parse_ex (l : List UInt8) (w : World) (hl : l.length ≤ 1048576) {es er : Value} (hE : ErrC w es er) :
    Calls Tryd.prog 50 #[.string (ofL l), .int .i64 10, .int .i64 64] w fun e w' => Below w.heap.size w w' ∧ ((∃ n, Lib.parseIntB 64 l = .ok n ∧ e = .returned (.tuple #[.int .i64 n, .nilIface])) ∨ ((∀ n, Lib.parseIntB 64 l ≠ .ok n) ∧ ∃ m T N, e = .returned (.tuple #[.int .i64 m, .iface T (.pointer (some ⟨N, 0, none⟩))]))) := by
  have hs := ofL_sz l
  have ht := ofL_toList l
  rcases hp : Lib.parseIntB 64 l with n | _ | _
  ·
    refine (Tryd.strconv_ParseInt_10_at64_ok (ofL l) (by omega) n (by rw [ht]; exact hp) w).mono ?_
    rintro e w1 ⟨rfl, h⟩
    refine ⟨?_, .inl ⟨n, rfl, rfl⟩⟩
    rcases h with rfl | ⟨t, rfl⟩
    · exact Below.refl _ _
    · exact Lib.bytesWorld_below _ _ _
  ·
    refine (Tryd.strconv_ParseInt_10_at64_syntax (ofL l) (by omega) (by rw [ht]; exact hp) es w hE.s hE.sv).mono ?_
    rintro e w1 ⟨N, rfl, _, _, hb⟩
    exact ⟨hb, .inr ⟨fun n q => (by cases q), 0, _, N, rfl⟩⟩
  ·
    refine (Tryd.strconv_ParseInt_10_at64_range (ofL l) (by omega) (by rw [ht]; exact hp) er w hE.r hE.rv).mono ?_
    rintro e w1 ⟨N, rfl, _, _, hb⟩
    exact ⟨hb, .inr ⟨fun n q => (by cases q), _, _, N, rfl⟩⟩

theorem ofL_inj {a b : List UInt8} (h : ofL a = ofL b) : a = b := by rw [← ofL_toList a, ← ofL_toList b, h]
theorem rdD_no {l : List UInt8} (h : ∀ n, Lib.parseIntB 64 l ≠ .ok n) : rdD l = (0, false) := by
  unfold rdD
  rcases hp : Lib.parseIntB 64 l with n | _ | _
  · exact absurd hp (h n)
  · rfl
  · rfl
theorem rdD_ok {l : List UInt8} {n : Int} (h : Lib.parseIntB 64 l = .ok n) : rdD l = if (-1000000000000000 ≤ n ∧ n ≤ 1000000000000000) ∧ Lib.itoa n = l then (n, true) else (0, false) := by
  unfold rdD; rw [h]

set_option maxHeartbeats 1600000 in
theorem readDecimal_any (l : List UInt8) (w : World) (hl : l.length ≤ 1048576) {es er : Value} (hE : ErrC w es er) (htab : Lib.TabIs Tryd.prog w "internal/strconv.uint64pow10" .u64 Lib.pow10Tab) :
    Calls Tryd.prog 32 #[.string (ofL l)] w (Ret w (.tuple #[.int .i64 (rdD l).1, .bool (rdD l).2])) := by
  have CP := Lib.hid (parse_ex l w hl hE)
  have HTab := Lib.hid (Lib.tabBelow_of_tabIs htab)
  have HN := Lib.hid (fun h => rdD_no (l := l) h)
  have HK := Lib.hid (fun n h => rdD_ok (l := l) (n := n) h)
  have HI := Lib.hid (fun b (h : ofL b = ofL l) => ofL_inj h)
  clear hE htab
  generalize rdD l = R at *
  generalize hsl : ofL l = s at *
  have HSL := Lib.hid hsl
  clear hsl
  go_enter Tryd.func32, Tryd.ntmps32
  go_wp2_with (fail)
  refine CP.out.mono ?_
  rintro e w1 ⟨hb1, h⟩
  have HB1 := Lib.hid hb1
  clear hb1 CP
  rcases h with ⟨n, hp, rfl⟩ | ⟨hno, m, T, N, rfl⟩
  · have HR := Lib.hid (HK.out n hp)
    clear hp
    by_cases hv : -1000000000000000 ≤ n ∧ n ≤ 1000000000000000
    · have hiv : inB n (-1000000000000000) 1000000000000000 = true := (inB_iff _ _ _).2 hv
      have CV := isValue_any n w1
      rw [hiv] at CV
      have CV := Lib.hid CV
      have CD := Lib.hid (DecimalZ_any n w1 hv (HTab.out w1 HB1.out))
      by_cases hd : Lib.itoa n = l
      · have hR : Hid (R = (n, true)) := by show _ = _; rw [HR.out, if_pos ⟨hv, hd⟩]
        have hss : ofL (Lib.itoa n) = s := by rw [hd]; exact HSL.out
        rw [hss] at CD
        have hmm : (s.toList == s.toList) = true := by simp
        clear hd hss HR
        go_wp2_with (fail)
        refine CV.out.mono ?_
        rintro e w2 ⟨rfl, rfl⟩
        go_wp2_with (fail)
        refine CD.out.mono ?_
        rintro e w3 ⟨rfl, hb3⟩
        go_wp2
        go_ret2
        exact ⟨ret_ib hR.out, HB1.out.trans (hb3.mono HB1.out.size)⟩
      · have hR : Hid (R = (0, false)) := by show _ = _; rw [HR.out, if_neg (fun q => hd q.2)]
        have hss : ((ofL (Lib.itoa n)).toList == s.toList) = false := by
          rw [strEq]
          exact decide_eq_false (fun q => hd (HI.out _ q))
        clear hd HR
        generalize ofL (Lib.itoa n) = d at *
        go_wp2_with (fail)
        refine CV.out.mono ?_
        rintro e w2 ⟨rfl, rfl⟩
        go_wp2_with (fail)
        refine CD.out.mono ?_
        rintro e w3 ⟨rfl, hb3⟩
        go_wp2
        go_ret2
        exact ⟨ret_ib hR.out, HB1.out.trans (hb3.mono HB1.out.size)⟩
    · have hR : Hid (R = (0, false)) := by show _ = _; rw [HR.out, if_neg (fun q => hv q.1)]
      have hiv : inB n (-1000000000000000) 1000000000000000 = false := by
        rw [Bool.eq_false_iff]
        exact fun q => hv ((inB_iff _ _ _).1 q)
      have CV := isValue_any n w1
      rw [hiv] at CV
      have CV := Lib.hid CV
      clear hv HR
      go_wp2_with (fail)
      refine CV.out.mono ?_
      rintro e w2 ⟨rfl, rfl⟩
      go_wp2
      go_ret2
      exact ⟨ret_ib hR.out, HB1.out⟩
  · have hR := Lib.hid (HN.out hno)
    clear hno
    go_wp2
    go_ret2
    exact ⟨ret_ib hR.out, HB1.out⟩

theorem ret_iR {a b : Int} (h : b = a) : Ending.returned (.int .i64 a) = Ending.returned (.int .i64 b) := by rw [h]
set_option maxHeartbeats 1600000 in
theorem idxWord_any (b c : Nat) (l : List UInt8) (w : World) (hx : ∀ x : Nat, x < 3 → w.cell? ⟨b, x, none⟩ = some (.string (ofL (fldL (x : Int))))) (hc : 3 ≤ c) (hc2 : c ≤ 1000) :
    Calls Tryd.prog 33 #[.slice (some ⟨b, 0, none⟩) 3 c, .string (ofL l)] w (RetS w (.int .i64 (fIdx l))) := by
  have HX := Lib.hid hx
  have HEq := Lib.hid (fun (x : Nat) => strEq (ofL l) (ofL (fldL (x : Int))))
  have HI := Lib.hid (fun (x : Nat) (h : ofL l = ofL (fldL (x : Int))) => ofL_inj h)
  clear hx
  go_enter Tryd.func33, Tryd.ntmps33
  go_wp2
  go_loop [8] (fun v => ∃ k : Nat, k ≤ 3 ∧ v = .int .i64 k ∧ ∀ j : Nat, j < k → l ≠ fldL (j : Int)) (fun v => 3 - (intOf v).toNat)
  case atStart => exact ⟨0, by omega, rfl, fun j hj => absurd hj (Nat.not_lt_zero _)⟩
  case round =>
    obtain ⟨k, hk, rfl, hno⟩ := hrel
    have HN := Lib.hid hno
    clear hno
    by_cases hlt : k < 3
    · have z := HX.out k hlt
      by_cases e : l = fldL (k : Int)
      · have hR : Hid (fIdx l = k) := by show _ = _; rw [e]; exact fIdx_fld k hlt
        have hm : ((ofL l).toList == (ofL (fldL (k : Int))).toList) = true := by rw [HEq.out]; exact decide_eq_true (by rw [e])
        clear e
        generalize ofL (fldL (k : Int)) = F at *
        generalize ofL l = s at *
        go_wp2
        go_ret
        exact ⟨ret_iR hR.out, rfl⟩
      · have hm : ((ofL l).toList == (ofL (fldL (k : Int))).toList) = false := by rw [HEq.out]; exact decide_eq_false (fun q => e (HI.out k q))
        have HE := Lib.hid e
        clear e
        generalize ofL (fldL (k : Int)) = F at *
        generalize ofL l = s at *
        go_wp2
        go_round
        case rel => exact ⟨k + 1, by omega, by go_num, fun j hj => by
          by_cases q : j = k
          · rw [q]; exact HE.out
          · exact HN.out j (by omega)⟩
        case measure => simp [intOf]; omega
    · obtain rfl : k = 3 := by omega
      have hR : Hid (fIdx l = -1) := by
        show _ = _
        unfold fIdx
        have h0 : l ≠ fldL 0 := HN.out 0 (by omega)
        have h1 : l ≠ fldL 1 := HN.out 1 (by omega)
        have h2 : l ≠ fldL 2 := HN.out 2 (by omega)
        rw [if_neg h0, if_neg h1, if_neg h2]
      go_wp2
      go_ret
      exact ⟨ret_iR hR.out, rfl⟩
theorem idxSign_any (b : UInt8) (w : World) : Calls Tryd.prog 34 #[.string ⟨#[61, 60, 62]⟩, .int .u8 (b.toNat : Int)] w (RetS w (.int .i64 (sIdx b))) := by
  refine (Tryd.strings_IndexByte ⟨#[61, 60, 62]⟩ (b.toNat : Int) w).mono ?_
  rintro e w1 ⟨rfl, rfl⟩
  refine ⟨?_, rfl⟩
  have hb : ((b.toNat : Int)).toNat.toUInt8 = b := by simp
  rw [hb]
  congr 2
  unfold sIdx
  show Lib.indexByte [61, 60, 62] b = _
  unfold Lib.indexByte Lib.indexByte Lib.indexByte Lib.indexByte
  by_cases h1 : b = 61
  · subst h1; decide
  · by_cases h2 : b = 60
    · subst h2; decide
    · by_cases h3 : b = 62
      · subst h3; decide
      · rw [if_neg h1, if_neg h2, if_neg h3]
        have e1 : ((61 : UInt8) == b) = false := by simpa using fun q => h1 q.symm
        have e2 : ((60 : UInt8) == b) = false := by simpa using fun q => h2 q.symm
        have e3 : ((62 : UInt8) == b) = false := by simpa using fun q => h3 q.symm
        simp [e1, e2, e3]

end Go.Proofs.YtmijfieiebnbfaaDoor
