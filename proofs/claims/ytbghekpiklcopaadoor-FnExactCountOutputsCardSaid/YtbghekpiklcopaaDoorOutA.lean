/- CountOutputs: the lines of a text. -/
import Derived.Test.YtbghekpiklcopaaDoorStrB
import Derived.Test.YtbghekpiklcopaaDoorShelf
import Derived.Deep.QuietTactic
namespace Go.Proofs.YtbghekpiklcopaaDoor
open Go.RowKit
set_option linter.unusedVariables false

theorem Strs.own {w : World} {B : Nat} {e : TypeId} {a : Option Addr} {n c : Nat} {xs : List ByteArray} (h : w.ownsRow B e 1 (.slice a n c) n (xs.map Value.string)) : Strs w a n c xs := Rd.own h
theorem cutB_pos (m : UInt8) (s : ByteArray) : 1 ≤ (cutB m s).length := by rw [cutB_len]; omega

set_option maxHeartbeats 1600000 in
set_option maxRecDepth 100000 in
theorem l08Lines_any (s : ByteArray) (n : Nat) (w : World) (hs : s.size ≤ 1048576) (hn : (cutB 10 s).length = n + 1) : Calls Tryd.prog 6 #[.string s] w fun e w' => ∃ g c, e = .returned (.tuple #[.slice (some ⟨g, 0, none⟩) n c, .string ((cutB 10 s).getD n ByteArray.empty)]) ∧ Below w.heap.size w w' ∧ Strs w' (some ⟨g, 0, none⟩) (n + 1) c (cutB 10 s) := by
  have C := l01Cut_any s 10 w hs
  rw [hn] at C
  have C := Lib.hid C
  have hle := cutB_le 10 s
  have hn2 : n ≤ 1048576 := by omega
  generalize cutB 10 s = P at *
  generalize hL : P.getD n ByteArray.empty = L at *
  have HL := Lib.hid hL
  have Hn := Lib.hid hn
  clear hL hn hle
  have hw1 : IntKind.i64.wrap (((n + 1 : Nat) : Int) - 1) = (n : Int) := by rw [IntWalk.i64_in _ (by omega)]; omega
  have hk1 : (n : Int) < ((n + 1 : Nat) : Int) := by omega
  generalize n + 1 = n1 at *
  go_enter Tryd.func6, Tryd.ntmps6
  go_wp2_with (fail)
  refine C.out.mono ?_
  rintro e w1 ⟨g, c, rfl, hb, ho⟩
  have hS := Strs.own ho
  have HS := Lib.hid hS
  obtain ⟨hc, hc2, hat⟩ := Row.at ByteArray.empty hS
  obtain ⟨b, off, e, hlb, hx⟩ := hat n (by omega)
  simp only [Option.some.injEq, Addr.mk.injEq] at e
  obtain ⟨rfl, rfl, _⟩ := e
  have z0 := hx n (by omega)
  rw [Nat.zero_add, HL.out] at z0
  have HB := Lib.hid hb
  have hnc : n ≤ c := by omega
  clear hb ho hS hat hx C
  go_wp2
  go_quiet (fail)
  go_wp2
  go_ret2
  exact ⟨g, c, rfl, HB.out.trans (Quiet.below ⟨_, rfl⟩ _), HS.out.mono (Quiet.b ⟨_, rfl⟩)⟩

def outOk (P : List ByteArray) (n : Nat) (s : ByteArray) : Bool := decide (P.getD n ByteArray.empty = ByteArray.empty) && decide (s.size ≤ 16000)
set_option maxHeartbeats 1600000 in
set_option maxRecDepth 100000 in
theorem linesOf_any (s : ByteArray) (n : Nat) (mx : Int) (w : World) (hs : s.size ≤ 1048576) (hn : (cutB 10 s).length = n + 1) (hm : w.cell? ⟨0, 0, none⟩ = some (.int .i64 mx)) : Calls Tryd.prog 7 #[.string s] w fun e w' => ∃ g c, e = .returned (.tuple #[.slice (some ⟨g, 0, none⟩) n c, .bool (outOk (cutB 10 s) n s)]) ∧ Below w.heap.size w w' ∧ Strs w' (some ⟨g, 0, none⟩) (n + 1) c (cutB 10 s) := by
  have C := Tryd.strings_Split s ⟨#[10]⟩ mx w (by omega) hm (Nat.le_refl 1)
  rw [← cutB_len, splitB_cut] at C
  rw [hn] at C
  have hS : Strs (w.alloc (.cells ((cutB 10 s).map Value.string).toArray 9)) (some ⟨w.heap.size, 0, none⟩) (n + 1) (n + 1) (cutB 10 s) := ⟨by simp [hn], Nat.le_refl _, by have := cutB_le 10 s; omega, .inr ⟨_, _, rfl, by simp, fun j hj => by simp⟩⟩
  have hb : Below w.heap.size w (w.alloc (.cells ((cutB 10 s).map Value.string).toArray 9)) := (Below.refl _ _).alloc (Nat.le_refl _) _
  have C := Lib.hid C
  have hle := cutB_le 10 s
  have hn2 : n ≤ 1048576 := by omega
  generalize w.alloc (.cells ((cutB 10 s).map Value.string).toArray 9) = W at *
  generalize cutB 10 s = P at *
  obtain ⟨hc, hc2, hat⟩ := Row.at ByteArray.empty hS
  obtain ⟨b, off, e, hlb, hx⟩ := hat n (by omega)
  simp only [Option.some.injEq, Addr.mk.injEq] at e
  obtain ⟨rfl, rfl, _⟩ := e
  have z0 := hx n (by omega)
  rw [Nat.zero_add] at z0
  have HS := Lib.hid hS
  have HB := Lib.hid hb
  have HO : Hid (outOk P n s = (decide (P.getD n ByteArray.empty = ByteArray.empty) && decide (s.size ≤ 16000))) := rfl
  generalize outOk P n s = O at *
  generalize P.getD n ByteArray.empty = L at *
  have Hn := Lib.hid hn
  clear hn hle hat hx hS hb
  have hw1 : IntKind.i64.wrap (((n + 1 : Nat) : Int) - 1) = (n : Int) := by rw [IntWalk.i64_in _ (by omega)]; omega
  have hk1 : (n : Int) < ((n + 1 : Nat) : Int) := by omega
  generalize n + 1 = n1 at *
  have hnc : n ≤ n1 := by omega
  go_enter Tryd.func7, Tryd.ntmps7
  go_wp2_with (fail)
  refine C.out.mono ?_
  rintro e w1 ⟨rfl, rfl⟩
  by_cases h1 : L = ByteArray.empty
  · have hO : decide ((s.size : Int) ≤ 16000) = O := by
      rw [HO.out, decide_eq_true h1, Bool.true_and]
      exact decide_eq_decide.2 ⟨fun q => by omega, fun q => by omega⟩
    have HO2 := Lib.hid hO
    subst h1
    clear hO HO
    go_wp2
    go_quiet (fail)
    go_wp2
    go_ret2
    exact ⟨_, _, by rw [← HO2.out]; rfl, HB.out.trans (Quiet.below ⟨_, rfl⟩ _), HS.out.mono (Quiet.b ⟨_, rfl⟩)⟩
  · have hO : false = O := by rw [HO.out, decide_eq_false h1]; rfl
    have e1 : (L.toList == (⟨#[]⟩ : ByteArray).toList) = false := by rw [strEq]; exact decide_eq_false h1
    have e2 : (L.toList == []) = false := by
      have := e1
      rw [show (⟨#[]⟩ : ByteArray).toList = [] from by rw [ByteArray.toList_eq]] at this
      exact this
    have e3 : L.toList.isEmpty = false := by simpa using e2
    have HO2 := Lib.hid hO
    clear hO HO
    go_wp2
    go_quiet (fail)
    go_wp2
    go_ret2
    exact ⟨_, _, by rw [← HO2.out]; rfl, HB.out.trans (Quiet.below ⟨_, rfl⟩ _), HS.out.mono (Quiet.b ⟨_, rfl⟩)⟩

end Go.Proofs.YtbghekpiklcopaaDoor
