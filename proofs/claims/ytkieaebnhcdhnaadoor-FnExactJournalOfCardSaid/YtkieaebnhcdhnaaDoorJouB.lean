/- JournalOf: the reference's. -/
import Derived.Test.YtkieaebnhcdhnaaDoorJouA
import Derived.Deep.RegionHeld3
namespace Go.Proofs.YtkieaebnhcdhnaaDoor
open Go.RowKit
set_option linter.unusedVariables false

theorem dec_len : ∀ u : Nat, (Lib.decDigits u).length ≤ u + 1 := by
  intro u
  induction u using Nat.strongRecOn with
  | _ u ih =>
    rw [decDigits_eq]
    split
    · simp
    · have := ih (u / 10) (by omega)
      rw [List.length_append]
      simp
      omega
theorem ofL_size (l : List UInt8) : (ofL l).size = l.length := by simp [ofL, ByteArray.size]
theorem ofL_append (a b : List UInt8) : ofL a ++ ofL b = ofL (a ++ b) := by
  rw [← ofL_data (ofL a ++ ofL b)]
  congr 1
theorem jline_le (c : Int) (l : List UInt8) (hc : 0 ≤ c ∧ c ≤ 65002) : (jline c l).length ≤ l.length + 65010 := by
  have h1 := chkL_bd l c hc
  have h2 := dec_len (chkL c l).toNat
  unfold jline
  simp
  omega

set_option maxHeartbeats 3200000 in
set_option maxRecDepth 100000 in
theorem l08Journal_any (a : Option Addr) (n c : Nat) (xs : List ByteArray) (w : World) (h : Strs w a n c xs) (hn : n ≤ 16000) (hsz : ∀ k, k < n → (xs.getD k ByteArray.empty).size ≤ 16000) : Calls Tryd.prog 14 #[.slice a n c] w (Ret w (.string (ofL (jst xs).2))) := by
  have hl := h.len
  have HE : Hid (xs.take n = xs) := List.take_of_length_le (by omega)
  have HS := Lib.hid (fun k (hk : k < n) => jst_succ xs k (by omega))
  have HC := Lib.hid (fun k => jst_c (xs.take k))
  have HSz := Lib.hid hsz
  obtain ⟨hc, hc2, hat⟩ := Row.at ByteArray.empty h
  have HAt := Lib.hid hat
  clear hl hsz h hat
  go_enter Tryd.func14, Tryd.ntmps14
  go_wp2
  go_loopw [3, 4, 5] (fun vo vc vi wr => ∃ (k : Nat) (ck : Int) (out : List UInt8), k ≤ n ∧ out.length ≤ k * 82000 ∧ vi = .int .i64 k ∧ vc = .int .i64 ck ∧ vo = .string (ofL out) ∧ Hid (jst (xs.take k) = (ck, out)) ∧ Below w.heap.size w wr) (fun _ _ vi _ => n - (intOf vi).toNat)
  case atStart => exact ⟨0, 0, [], by omega, by simp, rfl, rfl, rfl, by show _ = _; simp [jst], Below.refl _ _⟩
  case round =>
    obtain ⟨k, ck, out, hk, hol, rfl, rfl, rfl, HJ, hb⟩ := hrel
    have HB := Lib.hid hb
    have hs := hb.size
    have hck := HC.out k
    rw [HJ.out] at hck
    dsimp only at hck
    by_cases hlt : k < n
    · obtain ⟨b, off, rfl, hlb, hx⟩ := HAt.out k hlt
      have z0 := cell_on hb (hx k hlt)
      have hxs := HSz.out k hlt
      have hj := HS.out k hlt
      rw [HJ.out] at hj
      have Hj := Lib.hid hj
      clear hx hj hb HJ
      generalize xs.getD k ByteArray.empty = x at *
      have hbd := chkL_bd x.data.toList ck hck
      have C1 := l01Check_any ck x wr hck (by omega)
      have hjl := jline_le ck x.data.toList hck
      have hxl : x.data.toList.length = x.size := rfl
      have HStr := Lib.hid (fun cn hc => jline_str cn x ck hc)
      have Hcc : Hid (jstep (ck, out) x = (chkL ck x.data.toList, out ++ jline ck x.data.toList)) := rfl
      generalize hcc : chkL ck x.data.toList = cc at *
      obtain ⟨cn, rfl⟩ : ∃ cn : Nat, cc = cn := ⟨cc.toNat, by omega⟩
      have CD := Lib.hid (fun W => l01Dec_any cn W (by omega))
      have HStr := Lib.hid (HStr.out cn rfl)
      have hd := dec_len cn
      have hds : (decB cn).size ≤ 65010 := by unfold decB; rw [ofL_size]; omega
      have hos : (ofL out).size ≤ 1312000000 := by rw [ofL_size]; omega
      have C1 := Lib.hid C1
      have hki : (k : Int) < (n : Int) := by omega
      rw [hxl] at hjl
      generalize jline ck x.data.toList = JL at *
      have HCat := Lib.hid (ofL_append out JL)
      have hJs : (ofL JL).size ≤ 82000 := by rw [ofL_size]; omega
      clear hcc hd hxl
      go_wp2_with (fail)
      refine C1.out.mono ?_
      rintro e w2 ⟨rfl, rfl⟩
      clear C1
      have hz1 : ¬ 9223372036854775807 < (decB cn).size + 1 := by omega
      have hz2 : ¬ 9223372036854775807 < (decB cn).size + 1 + x.size := by omega
      have hz3 : ¬ 9223372036854775807 < (decB cn).size + 1 + x.size + 1 := by omega
      have hz4 : ¬ 9223372036854775807 < (ofL out).size + ((decB cn).size + 1 + x.size + 1) := by omega
      go_wp2
      go_region_held3 (fun W => W.cell? ⟨b, off + k, none⟩ = some (.string x)) (first | exact z0 | go_keep)
        (first
          | (go_at_call 25; refine (CD.out _).mono ?_; rintro e w3 ⟨rfl, hb3⟩; have z0 := cell_on hb3 z0))
      have HB3 := Lib.hid (HB.out.trans (((Below.refl _ _).drew.trans hb3).mono hs))
      clear hb3 z0 CD hz1 hz2 hz3 hz4
      go_wp2
      go_roundw
      case rel => exact ⟨k + 1, cn, out ++ JL, by omega, by rw [List.length_append]; have : (ofL JL).size = JL.length := ofL_size JL; omega, by go_num, rfl, by rw [HStr.out, HCat.out], by show _ = _; rw [Hj.out, Hcc.out], HB3.out⟩
      case measure => simp [intOf]; omega
    · obtain rfl : k = n := by omega
      have HJ2 : Hid ((jst xs).2 = out) := by show _ = _; have := HJ.out; rw [HE.out] at this; rw [this]
      clear hb
      go_wp2
      go_ret
      exact ⟨by rw [HJ2.out]; rfl, HB.out⟩

theorem jst_low (xs : List ByteArray) (k : Nat) (h : k < xs.length) : (jst (xs.take k)).2.length + (xs.getD k ByteArray.empty).size + 3 ≤ (jst (xs.take (k + 1))).2.length := by
  rw [jst_succ xs k h]
  have := jline_len (jst (xs.take k)).1 (xs.getD k ByteArray.empty).data.toList
  have e : (xs.getD k ByteArray.empty).data.toList.length = (xs.getD k ByteArray.empty).size := rfl
  unfold jstep
  rw [List.length_append]
  omega
theorem hasNl_yes {x : ByteArray} {j : Nat} (h : j < x.size) (hj : x[j] = 10) : hasNl x = true := by
  unfold hasNl
  rw [List.any_eq_true]
  exact ⟨x[j], List.getElem_mem (show j < x.data.toList.length from h), by simp [hj]⟩
theorem hasNl_no {x : ByteArray} (h : ∀ j (hj : j < x.size), x[j] ≠ 10) : hasNl x = false := by
  unfold hasNl
  rw [List.any_eq_false]
  intro b hb
  obtain ⟨j, hj, rfl⟩ := List.getElem_of_mem hb
  have := h j hj
  rw [beq_iff_eq]
  exact this

set_option maxHeartbeats 3200000 in
set_option maxRecDepth 100000 in
theorem specJournalOf_any (a : Option Addr) (n c : Nat) (xs : List ByteArray) (w : World) (h : Strs w a n c xs) (hsz : ∀ k, k < n → (xs.getD k ByteArray.empty).size ≤ 1048576) : Calls Tryd.prog 6 #[.slice a n c] w (Ret w (.tuple #[.string (jRes xs).1, .bool (jRes xs).2])) := by
  have hl := h.len
  have HH := Lib.hid h
  have Hl := Lib.hid hl
  have HSz := Lib.hid hsz
  obtain ⟨hc, hc2, hat⟩ := Row.at ByteArray.empty h
  have HAt := Lib.hid hat
  clear hl hsz h hat
  go_enter Tryd.func6, Tryd.ntmps6
  go_wp2
  go_loopw [4, 5, 6] (fun vt vi _ wr => ∃ (i t : Nat), i ≤ n ∧ 3 * i ≤ t ∧ t ≤ 16000 ∧ vi = .int .i64 i ∧ vt = .int .i64 t ∧ Hid (t ≤ (jst (xs.take i)).2.length) ∧ Hid (∀ k, k < i → hasNl (xs.getD k ByteArray.empty) = false ∧ (xs.getD k ByteArray.empty).size ≤ 16000) ∧ wr = w) (fun _ vi _ _ => n - (intOf vi).toNat)
  case atStart => exact ⟨0, 0, by omega, by omega, by omega, rfl, rfl, Nat.zero_le _, fun k hk => absurd hk (Nat.not_lt_zero _), rfl⟩
  case round =>
    obtain ⟨i, t, hi, hti, ht, rfl, rfl, HT, HN, rfl⟩ := hrel
    by_cases hlt : i < n
    · obtain ⟨b, off, rfl, hlb, hx⟩ := HAt.out i hlt
      have z0 := hx i hlt
      have hxs := HSz.out i hlt
      have HLow := Lib.hid (jst_low xs i (by rw [Hl.out]; exact hlt))
      have HNl := Lib.hid (fun (q : hasNl (xs.getD i ByteArray.empty) = true) => jRes_nl (by rw [Hl.out]; exact hlt) q)
      clear hx
      generalize hX : xs.getD i ByteArray.empty = x at *
      have HX := Lib.hid hX
      clear hX
      have hw1 : IntKind.i64.wrap ((x.size : Int) + 3) = ((x.size + 3 : Nat) : Int) := by rw [IntWalk.i64_in _ (by omega)]; omega
      have hw2 : IntKind.i64.wrap ((t : Int) + ((x.size + 3 : Nat) : Int)) = ((t + (x.size + 3) : Nat) : Int) := by rw [IntWalk.i64_in _ (by omega)]; omega
      generalize hy : x.size + 3 = y at *
      have Hy := Lib.hid hy
      have hy2 : x.size ≤ y := by omega
      have hy3 : 3 ≤ y := by omega
      clear hy
      generalize hT2 : t + y = t2 at *
      have HT2 := Lib.hid hT2
      have ht3 : 3 * (i + 1) ≤ t2 := by omega
      have hx2 : x.size ≤ t2 := by omega
      clear hT2
      by_cases hbig : 16000 < t2
      · have HR : Hid (jRes xs = (ByteArray.empty, false)) := jRes_long (k := i + 1) (by have h1 := HLow.out; have h2 := HT.out; have h3 := HT2.out; have h4 := Hy.out; omega)
        have hb1 : (16000 : Int) < (t2 : Int) := by omega
        go_wp2
        go_ret2
        exact ⟨by rw [HR.out]; rfl, Below.refl _ _⟩
      · have hb1 : (t2 : Int) ≤ 16000 := by omega
        have hx16 : x.size ≤ 16000 := by omega
        go_wp2
        go_loopw [6] (fun vj wx => ∃ j : Nat, j ≤ x.size ∧ vj = .int .i64 j ∧ Hid (∀ k (hk : k < x.size), k < j → x[k] ≠ 10) ∧ wx = wr) (fun vj _ => x.size - (intOf vj).toNat)
        case atStart => exact ⟨0, by omega, rfl, fun k _ hk => absurd hk (Nat.not_lt_zero _), rfl⟩
        case round =>
          obtain ⟨j, hj, rfl, HNj, rfl⟩ := hrel
          by_cases hjl : j < x.size
          · by_cases h10 : x[j] = 10
            · have HR : Hid (jRes xs = (ByteArray.empty, false)) := HNl.out (hasNl_yes hjl h10)
              have e1 : ((x[j].toNat : Int) == 10) = true := by rw [h10]; rfl
              clear h10
              go_wp2
              go_ret2
              exact ⟨by rw [HR.out]; rfl, Below.refl _ _⟩
            · have e1 : ((x[j].toNat : Int) == 10) = false := by
                simp
                intro q
                exact h10 (UInt8.toNat_inj.1 (by have : (10 : UInt8).toNat = 10 := rfl; omega))
              have HN2 : Hid (∀ k (hk : k < x.size), k < j + 1 → x[k] ≠ 10) := fun k hk hkj => by
                by_cases q : k = j
                · subst q; exact h10
                · exact HNj.out k hk (by omega)
              clear h10
              go_wp2
              go_roundw
              case rel => exact ⟨j + 1, by omega, by go_num, HN2, by first | rfl | trivial⟩
              case measure => simp [intOf]; omega
          · obtain rfl : j = x.size := by omega
            have HNx : Hid (hasNl x = false) := hasNl_no (fun k hk => HNj.out k hk hk)
            go_wp2
            go_roundw
            case rel => exact ⟨i + 1, t2, by omega, ht3, by omega, by go_num, rfl, by show _ ≤ _; have h1 := HLow.out; have h2 := HT.out; have h3 := HT2.out; have h4 := Hy.out; omega, fun k hk => by
              by_cases q : k = i
              · subst q; rw [HX.out]; exact ⟨HNx.out, hx16⟩
              · exact HN.out k (by omega), by first | rfl | trivial⟩
            case measure => simp [intOf]; omega
    · obtain rfl : i = n := by omega
      have C1 := Lib.hid (l08Journal_any a i c xs wr HH.out (by omega) (fun k hk => (HN.out k hk).2))
      have HRs := Lib.hid (fun (q : (jst xs).2.length ≤ 16000) => jRes_ok (xs := xs) (fun k hk => (HN.out k (by rw [← Hl.out]; exact hk)).1) q)
      have HRl := Lib.hid (fun (q : 16000 < (jst xs).2.length) => jRes_long (xs := xs) (k := xs.length) (by rw [List.take_length]; exact q))
      have hos := ofL_size (jst xs).2
      generalize (jst xs).2 = out at *
      have HOs := Lib.hid hos
      clear hos
      by_cases hbig : out.length ≤ 16000
      · have HR := Lib.hid (HRs.out hbig)
        have hb1 : (ofL out).size ≤ 16000 := by rw [HOs.out]; exact hbig
        go_wp2_with (fail)
        refine C1.out.mono ?_
        rintro e w2 ⟨rfl, hb2⟩
        have HB2 := Lib.hid hb2
        clear hb2 C1
        go_wp2
        go_ret2
        exact ⟨by rw [HR.out]; rfl, HB2.out⟩
      · have HR := Lib.hid (HRl.out (by omega))
        have hb1 : (16000 : Int) < ((ofL out).size : Int) := by rw [HOs.out]; omega
        go_wp2_with (fail)
        refine C1.out.mono ?_
        rintro e w2 ⟨rfl, hb2⟩
        have HB2 := Lib.hid hb2
        clear hb2 C1
        go_wp2
        go_ret2
        exact ⟨by rw [HR.out]; rfl, HB2.out⟩

end Go.Proofs.YtkieaebnhcdhnaaDoor
