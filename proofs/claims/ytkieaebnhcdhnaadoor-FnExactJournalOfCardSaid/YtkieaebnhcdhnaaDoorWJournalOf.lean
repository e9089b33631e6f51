/- The walk of the law FnExactJournalOf. -/
import Derived.Test.YtkieaebnhcdhnaaDoorJouC
import Derived.Test.YtkieaebnhcdhnaaDoorChg
namespace Go.Proofs.YtkieaebnhcdhnaaDoor
open Go.RowKit
set_option linter.unusedVariables false

set_option maxHeartbeats 1600000 in
theorem szStringS_any (a : Option Addr) (n c : Nat) (xs : List ByteArray) (w : World) (h : Strs w a n c xs) (hm : ∀ k, k < n → (xs.getD k ByteArray.empty).size ≤ maxLen) : Calls Tryd.prog 5 #[.slice a n c, .int .i64 1048576] w fun e w' => ∃ r : Int, e = .returned (.int .i64 r) ∧ (0 ≤ r → n ≤ 1048576 ∧ ∀ k, k < n → (xs.getD k ByteArray.empty).size ≤ 1048576) ∧ w' = w := by
  obtain ⟨hc, hc2, hat⟩ := Row.at ByteArray.empty h
  have HAt := Lib.hid hat
  have HM := Lib.hid hm
  clear h hat hm
  by_cases hn : n ≤ 1048576
  · have hw1 : IntKind.i64.wrap (1048576 - (n : Int)) = 1048576 - (n : Int) := IntWalk.i64_in _ (by omega)
    go_enter Tryd.func5, Tryd.ntmps5
    go_wp2
    go_loop [1, 5] (fun vl vi => ∃ (i : Nat) (l : Int), i ≤ n ∧ 0 ≤ l ∧ l ≤ 1048576 ∧ vi = .int .i64 i ∧ vl = .int .i64 l ∧ Hid (∀ k, k < i → (xs.getD k ByteArray.empty).size ≤ 1048576)) (fun _ vi => n - (intOf vi).toNat)
    case atStart => exact ⟨0, 1048576 - n, by omega, by omega, by omega, rfl, by go_num, fun k hk => absurd hk (Nat.not_lt_zero _)⟩
    case round =>
      obtain ⟨i, l, hi, hl0, hl1, rfl, rfl, HS⟩ := hrel
      by_cases hlt : i < n
      · obtain ⟨b, off, rfl, hlb, hx⟩ := HAt.out i hlt
        have z0 := hx i hlt
        have hmx := HM.out i hlt
        clear hx
        generalize hX : xs.getD i ByteArray.empty = x at *
        have HX := Lib.hid hX
        clear hX
        have hw2 : IntKind.i64.wrap (l - (x.size : Int)) = l - (x.size : Int) := IntWalk.i64_in _ (by unfold maxLen at hmx; omega)
        by_cases hb : l - (x.size : Int) < 0
        · go_wp2
          go_ret
          exact ⟨-1, rfl, fun q => by omega, rfl⟩
        · go_wp2
          go_round
          case rel => exact ⟨i + 1, l - x.size, by omega, by omega, by omega, by go_num, rfl, fun k hk => by
            by_cases q : k = i
            · subst q; rw [HX.out]; omega
            · exact HS.out k (by omega)⟩
          case measure => simp [intOf]; omega
      · obtain rfl : i = n := by omega
        go_wp2
        go_ret
        exact ⟨l, rfl, fun _ => by first | exact ⟨hn, HS.out⟩ | exact HS.out, rfl⟩
  · have hw1 : IntKind.i64.wrap (1048576 - (n : Int)) = 1048576 - (n : Int) := IntWalk.i64_in _ (by omega)
    go_enter Tryd.func5, Tryd.ntmps5
    go_wp2
    go_ret
    exact ⟨-1, rfl, fun q => by omega, rfl⟩

set_option maxHeartbeats 3200000 in
theorem fnExactJournalOf_walk (a : Option Addr) (n c : Nat) (xs : List ByteArray) (mx : Int) (w : World) (h : Strs w a n c xs) (hm : ∀ k, k < n → (xs.getD k ByteArray.empty).size ≤ maxLen) (htab : Lib.TabIs Tryd.prog w "internal/strconv.uint64pow10" .u64 Lib.pow10Tab) : Calls Tryd.prog 3 #[.slice a n c] w (Ret w (.bool true)) := by
  have C0 := Lib.hid (szStringS_any a n c xs w h hm)
  have HV := Lib.hid h
  have HT := Lib.hid (Lib.tabBelow_of_tabIs htab)
  clear h hm htab
  go_enter Tryd.func3, Tryd.ntmps3
  go_wp2_with (fail)
  refine C0.out.mono ?_
  rintro e w0 ⟨r, rfl, hr, rfl⟩
  by_cases hr0 : r < 0
  · clear hr
    go_wp2
    go_ret
    exact ⟨rfl, Below.refl _ _⟩
  obtain ⟨hn, hsz⟩ := hr (by omega)
  have HSz := Lib.hid hsz
  have HB := Lib.hid (Below.refl w0.heap.size w0)
  clear hr hsz C0
  go_wp2_with (fail)
  refine (toStringS_any _ _ _ _ _ (HV.out.mono HB.out) hn).mono ?_
  rintro e w1 ⟨g1, rfl, hb1, o1⟩
  replace HB := Lib.hid (HB.out.trans (hb1.mono HB.out.size))
  clear hb1
  go_wp2_with (fail)
  refine (specJournalOf_any _ _ _ _ _ (Rd.own o1) HSz.out).mono ?_
  rintro e w2 ⟨rfl, hb2⟩
  replace HB := Lib.hid (HB.out.trans (hb2.mono HB.out.size))
  clear hb2 o1
  go_wp2_with (fail)
  refine (toStringS_any _ _ _ _ _ (HV.out.mono HB.out) hn).mono ?_
  rintro e w3 ⟨g3, rfl, hb3, o3⟩
  replace HB := Lib.hid (HB.out.trans (hb3.mono HB.out.size))
  clear hb3
  go_wp2_with (fail)
  refine (implJournalOf_any _ _ _ _ _ (Rd.own o3) HSz.out (HT.out _ HB.out)).mono ?_
  rintro e w4 ⟨rfl, hb4⟩
  replace o3 := ownsRow_below o3 hb4
  replace HB := Lib.hid (HB.out.trans (hb4.mono HB.out.size))
  clear hb4
  have hbe : ((jRes xs).1.toList == (jRes xs).1.toList) = true := by simp
  generalize (jRes xs).1 = s1 at *
  generalize (jRes xs).2 = s2 at *
  go_wp2_with (fail)
  refine (toStringS_any _ _ _ _ _ (HV.out.mono HB.out) hn).mono ?_
  rintro e w5 ⟨g5, rfl, hb5, o5⟩
  replace o3 := ownsRow_below o3 hb5
  replace HB := Lib.hid (HB.out.trans (hb5.mono HB.out.size))
  clear hb5
  go_wp2_with (fail)
  refine (eqStringS_any _ _ _ _ _ _ _ _ _ (Rd.own o3) (Rd.own o5)).mono ?_
  rintro e w6 ⟨rfl, hq6⟩
  replace HB := Lib.hid (HB.out.trans (hq6.b.mono HB.out.size))
  clear hq6
  go_wp2
  go_ret
  exact ⟨rfl, HB.out⟩

end Go.Proofs.YtkieaebnhcdhnaaDoor
