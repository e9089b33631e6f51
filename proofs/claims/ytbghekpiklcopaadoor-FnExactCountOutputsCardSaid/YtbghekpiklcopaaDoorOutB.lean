/- CountOutputs: both. -/
import Derived.Test.YtbghekpiklcopaaDoorOutA
namespace Go.Proofs.YtbghekpiklcopaaDoor
open Go.RowKit
set_option linter.unusedVariables false

def outR (P : List ByteArray) (n : Nat) (s : ByteArray) : Int × Int × Bool := if outOk P n s = true then (((badN (P.take n) : Nat) : Int), (n : Int) - (badN (P.take n) : Nat), true) else (0, 0, false)
theorem str_lit (x : ByteArray) (l : List UInt8) : (x.toList == l) = decide (x = ofL l) := by
  rw [← strEq, show (ofL l).toList = l from by rw [ByteArray.toList_eq, ofL_toList]]
theorem isBad_eq (x : ByteArray) : isBad x = ((x.toList == [110, 111]) || (x.toList == [119, 104, 97, 116])) := by
  rw [str_lit, str_lit]; rfl
theorem bad_step {P : List ByteArray} {n k : Nat} {x : ByteArray} (hn : P.length = n + 1) (hk : k < n) (hx : P.getD k ByteArray.empty = x) {b : Bool} (h : isBad x = b) : badN (P.take (k + 1)) = badN (P.take k) + (if b = true then 1 else 0) := by
  rw [badN_succ P k (by omega), hx, h]
theorem bad_le (P : List ByteArray) (k : Nat) : badN (P.take k) ≤ k := Nat.le_trans (badN_le _) (List.length_take_le _ _)

set_option maxHeartbeats 1600000 in
set_option maxRecDepth 100000 in
theorem specCountOutputs_any (s : ByteArray) (n : Nat) (w : World) (hs : s.size ≤ 1048576) (hn : (cutB 10 s).length = n + 1) : Calls Tryd.prog 4 #[.string s] w (Ret w (.tuple #[.int .i64 (outR (cutB 10 s) n s).1, .int .i64 (outR (cutB 10 s) n s).2.1, .bool (outR (cutB 10 s) n s).2.2])) := by
  have C := l08Lines_any s n w hs hn
  have hle := cutB_le 10 s
  have hn2 : n ≤ 1048576 := by omega
  generalize cutB 10 s = P at *
  have HR : Hid (outR P n s = if (decide (P.getD n ByteArray.empty = ByteArray.empty) && decide (s.size ≤ 16000)) = true then (((badN (P.take n) : Nat) : Int), (n : Int) - (badN (P.take n) : Nat), true) else (0, 0, false)) := rfl
  have C := Lib.hid C
  have Hn := Lib.hid hn
  generalize P.getD n ByteArray.empty = L at *
  have HB := Lib.hid (fun k => bad_le P k)
  have HBS := Lib.hid (fun k (x : ByteArray) (b : Bool) (hk : k < n) (hx : P.getD k ByteArray.empty = x) (h : isBad x = b) => bad_step hn hk hx h)
  clear hn hle
  by_cases h1 : s.size ≤ 16000
  · by_cases h2 : L = ByteArray.empty
    · have hO : outR P n s = (((badN (P.take n) : Nat) : Int), (n : Int) - (badN (P.take n) : Nat), true) := by rw [HR.out, if_pos (by simp [h1, h2])]
      rw [hO]
      subst h2
      clear hO HR
      go_enter Tryd.func4, Tryd.ntmps4
      go_wp2_with (fail)
      refine C.out.mono ?_
      rintro e w1 ⟨g, c, rfl, hb, hS⟩
      obtain ⟨hc, hc2, hat⟩ := Row.at ByteArray.empty hS
      have HAt : Hid (∀ k, k < n → w1.cell? ⟨g, k, none⟩ = some (.string (P.getD k ByteArray.empty))) := fun k hk => by
        obtain ⟨b, off, e, hlb, hx⟩ := hat k (by omega)
        simp only [Option.some.injEq, Addr.mk.injEq] at e
        obtain ⟨rfl, rfl, _⟩ := e
        have := hx k (by omega)
        rw [Nat.zero_add] at this
        exact this
      have HB1 := Lib.hid hb
      have hnc : n ≤ c := by omega
      clear hb hS hat C
      go_wp2
      go_loop [7, 8] (fun vb vi => ∃ k : Nat, k ≤ n ∧ vi = .int .i64 k ∧ vb = .int .i64 (badN (P.take k) : Nat)) (fun _ vi => n - (intOf vi).toNat)
      case atStart => exact ⟨0, by omega, rfl, by simp [badN]⟩
      case round =>
        obtain ⟨k, hk, rfl, rfl⟩ := hrel
        by_cases hlt : k < n
        · have z0 := HAt.out k hlt
          have HX := Lib.hid (fun b h => HBS.out k _ b hlt rfl h)
          have hbk := HB.out k
          generalize badN (P.take k) = B at *
          generalize P.getD k ByteArray.empty = x at *
          have HE := Lib.hid (isBad_eq x)
          have hw1 : IntKind.i64.wrap ((B : Int) + 1) = ((B + 1 : Nat) : Int) := by rw [IntWalk.i64_in _ (by omega)]; omega
          rcases Bool.eq_false_or_eq_true (x.toList == [110, 111]) with e1 | e1
          · have HN : Hid (badN (P.take (k + 1)) = B + 1) := by show _ = _; have := HX.out true (by rw [HE.out, e1]; rfl); simpa using this
            go_wp2
            go_round
            case rel => exact ⟨k + 1, by omega, by go_num, by rw [HN.out]; first | rfl | simp⟩
            case measure => simp [intOf]; omega
          · rcases Bool.eq_false_or_eq_true (x.toList == [119, 104, 97, 116]) with e2 | e2
            · have HN : Hid (badN (P.take (k + 1)) = B + 1) := by show _ = _; have := HX.out true (by rw [HE.out, e1, e2]; rfl); simpa using this
              go_wp2
              go_round
              case rel => exact ⟨k + 1, by omega, by go_num, by rw [HN.out]; first | rfl | simp⟩
              case measure => simp [intOf]; omega
            · have HN : Hid (badN (P.take (k + 1)) = B) := by show _ = _; have := HX.out false (by rw [HE.out, e1, e2]; rfl); simpa using this
              go_wp2
              go_round
              case rel => exact ⟨k + 1, by omega, by go_num, by rw [HN.out]⟩
              case measure => simp [intOf]; omega
        · obtain rfl : k = n := by omega
          have hbk := HB.out k
          generalize badN (P.take k) = B at *
          have hw1 : IntKind.i64.wrap ((k : Int) - (B : Int)) = (k : Int) - (B : Int) := IntWalk.i64_in _ (by omega)
          go_wp2
          go_ret3
          exact ⟨rfl, HB1.out⟩
    · have hO : outR P n s = (0, 0, false) := by rw [HR.out, if_neg (by simp [h2])]
      have e1 : (L.toList == (⟨#[]⟩ : ByteArray).toList) = false := by rw [strEq]; exact decide_eq_false h2
      have e2 : (L.toList == []) = false := by
        have := e1
        rw [show (⟨#[]⟩ : ByteArray).toList = [] from by rw [ByteArray.toList_eq]] at this
        exact this
      have e3 : L.toList.isEmpty = false := by simpa using e2
      rw [hO]
      clear hO HR
      go_enter Tryd.func4, Tryd.ntmps4
      go_wp2_with (fail)
      refine C.out.mono ?_
      rintro e w1 ⟨g, c, rfl, hb, hS⟩
      have HB1 := Lib.hid hb
      clear hb hS C
      go_wp2
      go_ret3
      exact ⟨rfl, HB1.out⟩
  · have hO : outR P n s = (0, 0, false) := by rw [HR.out, if_neg (by simp [h1])]
    rw [hO]
    clear hO HR
    go_enter Tryd.func4, Tryd.ntmps4
    go_wp2
    go_ret3
    exact ⟨rfl, Below.refl _ _⟩

set_option maxHeartbeats 1600000 in
set_option maxRecDepth 100000 in
theorem implCountOutputs_any (s : ByteArray) (n : Nat) (mx : Int) (w : World) (hs : s.size ≤ 1048576) (hn : (cutB 10 s).length = n + 1) (hm : w.cell? ⟨0, 0, none⟩ = some (.int .i64 mx)) : Calls Tryd.prog 5 #[.string s] w (Ret w (.tuple #[.int .i64 (outR (cutB 10 s) n s).1, .int .i64 (outR (cutB 10 s) n s).2.1, .bool (outR (cutB 10 s) n s).2.2])) := by
  have C := linesOf_any s n mx w hs hn hm
  have hle := cutB_le 10 s
  have hn2 : n ≤ 1048576 := by omega
  generalize cutB 10 s = P at *
  have HR : Hid (outR P n s = if outOk P n s = true then (((badN (P.take n) : Nat) : Int), (n : Int) - (badN (P.take n) : Nat), true) else (0, 0, false)) := rfl
  have Hn := Lib.hid hn
  have HB := Lib.hid (fun k => bad_le P k)
  have HBS := Lib.hid (fun k (x : ByteArray) (b : Bool) (hk : k < n) (hx : P.getD k ByteArray.empty = x) (h : isBad x = b) => bad_step hn hk hx h)
  generalize outOk P n s = O at *
  clear hn hle
  cases O
  · have hO : outR P n s = (0, 0, false) := by rw [HR.out, if_neg (by simp)]
    have C := Lib.hid C
    rw [hO]
    clear hO HR
    go_enter Tryd.func5, Tryd.ntmps5
    go_wp2_with (fail)
    refine C.out.mono ?_
    rintro e w1 ⟨g, c, rfl, hb, hS⟩
    have HB1 := Lib.hid hb
    clear hb hS C
    go_wp2
    go_ret3
    exact ⟨rfl, HB1.out⟩
  · have hO : outR P n s = (((badN (P.take n) : Nat) : Int), (n : Int) - (badN (P.take n) : Nat), true) := by rw [HR.out, if_pos rfl]
    have C := Lib.hid C
    rw [hO]
    clear hO HR
    go_enter Tryd.func5, Tryd.ntmps5
    go_wp2_with (fail)
    refine C.out.mono ?_
    rintro e w1 ⟨g, c, rfl, hb, hS⟩
    obtain ⟨hc, hc2, hat⟩ := Row.at ByteArray.empty hS
    have HAt : Hid (∀ k, k < n → w1.cell? ⟨g, k, none⟩ = some (.string (P.getD k ByteArray.empty))) := fun k hk => by
      obtain ⟨b, off, e, hlb, hx⟩ := hat k (by omega)
      simp only [Option.some.injEq, Addr.mk.injEq] at e
      obtain ⟨rfl, rfl, _⟩ := e
      have := hx k (by omega)
      rw [Nat.zero_add] at this
      exact this
    have HB1 := Lib.hid hb
    have hnc : n ≤ c := by omega
    clear hb hS hat C
    go_wp2
    go_loop [7, 9, 19] (fun vb _ vi => ∃ k : Nat, k ≤ n ∧ vi = .int .i64 k ∧ vb = .int .i64 (badN (P.take k) : Nat)) (fun _ _ vi => n - (intOf vi).toNat)
    case atStart => exact ⟨0, by omega, rfl, by simp [badN]⟩
    case round =>
      obtain ⟨k, hk, rfl, rfl⟩ := hrel
      by_cases hlt : k < n
      · have z0 := HAt.out k hlt
        have HX := Lib.hid (fun b h => HBS.out k _ b hlt rfl h)
        have hbk := HB.out k
        generalize badN (P.take k) = B at *
        generalize P.getD k ByteArray.empty = x at *
        have HE := Lib.hid (isBad_eq x)
        have hw1 : IntKind.i64.wrap ((B : Int) + 1) = ((B + 1 : Nat) : Int) := by rw [IntWalk.i64_in _ (by omega)]; omega
        rcases Bool.eq_false_or_eq_true (x.toList == [110, 111]) with e1 | e1
        · have HN : Hid (badN (P.take (k + 1)) = B + 1) := by show _ = _; have := HX.out true (by rw [HE.out, e1]; rfl); simpa using this
          go_wp2
          go_round
          case rel => exact ⟨k + 1, by omega, by go_num, by rw [HN.out]; first | rfl | simp⟩
          case measure => simp [intOf]; omega
        · rcases Bool.eq_false_or_eq_true (x.toList == [119, 104, 97, 116]) with e2 | e2
          · have HN : Hid (badN (P.take (k + 1)) = B + 1) := by show _ = _; have := HX.out true (by rw [HE.out, e1, e2]; rfl); simpa using this
            go_wp2
            go_round
            case rel => exact ⟨k + 1, by omega, by go_num, by rw [HN.out]; first | rfl | simp⟩
            case measure => simp [intOf]; omega
          · have HN : Hid (badN (P.take (k + 1)) = B) := by show _ = _; have := HX.out false (by rw [HE.out, e1, e2]; rfl); simpa using this
            go_wp2
            go_round
            case rel => exact ⟨k + 1, by omega, by go_num, by rw [HN.out]⟩
            case measure => simp [intOf]; omega
      · obtain rfl : k = n := by omega
        have hbk := HB.out k
        generalize badN (P.take k) = B at *
        have hw1 : IntKind.i64.wrap ((k : Int) - (B : Int)) = (k : Int) - (B : Int) := IntWalk.i64_in _ (by omega)
        go_wp2
        go_ret3
        exact ⟨rfl, HB1.out⟩

set_option maxHeartbeats 1600000 in
theorem fnExactCountOutputs_walk (s : ByteArray) (mx : Int) (w : World) (hm : w.cell? ⟨0, 0, none⟩ = some (.int .i64 mx)) : Calls Tryd.prog 3 #[.string s] w (Ret w (.bool true)) := by
  by_cases hs : s.size ≤ 1048576
  · obtain ⟨n, hn⟩ : ∃ n, (cutB 10 s).length = n + 1 := ⟨(cutB 10 s).length - 1, by have := cutB_pos 10 s; omega⟩
    have C1 := Lib.hid (specCountOutputs_any s n w hs hn)
    have C2 := Lib.hid (fun W (hW : Below w.heap.size w W) => implCountOutputs_any s n mx W hs hn (cell_on hW hm))
    generalize outR (cutB 10 s) n s = r at *
    obtain ⟨r1, r2, r3⟩ := r
    clear hn
    go_enter Tryd.func3, Tryd.ntmps3
    go_wp2_with (fail)
    refine C1.out.mono ?_
    rintro e w1 ⟨rfl, hb1⟩
    have HB1 := Lib.hid hb1
    have hs1 := hb1.size
    clear hb1 C1
    go_wp2_with (fail)
    refine (C2.out _ HB1.out).mono ?_
    rintro e w2 ⟨rfl, hb2⟩
    have HB2 := Lib.hid (HB1.out.trans (hb2.mono hs1))
    clear hb2 C2
    go_wp2
    go_ret
    exact ⟨rfl, HB2.out⟩
  · go_enter Tryd.func3, Tryd.ntmps3
    go_wp2
    go_ret
    exact ⟨rfl, Below.refl _ _⟩

end Go.Proofs.YtbghekpiklcopaaDoor
