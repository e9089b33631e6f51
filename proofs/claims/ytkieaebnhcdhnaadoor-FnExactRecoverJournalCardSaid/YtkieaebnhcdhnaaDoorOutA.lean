/- CountOutputs: the lines of a text. -/
import Derived.Test.YtkieaebnhcdhnaaDoorStrB
import Derived.Test.YtkieaebnhcdhnaaDoorShelf
import Derived.Deep.QuietTactic
namespace Go.Proofs.YtkieaebnhcdhnaaDoor
open Go.RowKit
set_option linter.unusedVariables false

theorem Strs.own {w : World} {B : Nat} {e : TypeId} {a : Option Addr} {n c : Nat} {xs : List ByteArray} (h : w.ownsRow B e 1 (.slice a n c) n (xs.map Value.string)) : Strs w a n c xs := Rd.own h
theorem cutB_pos (m : UInt8) (s : ByteArray) : 1 ≤ (cutB m s).length := by rw [cutB_len]; omega

set_option maxHeartbeats 1600000 in
set_option maxRecDepth 100000 in
theorem l08Lines_any (s : ByteArray) (n : Nat) (w : World) (hs : s.size ≤ 1048576) (hn : (cutB 10 s).length = n + 1) : Calls Tryd.prog 30 #[.string s] w fun e w' => ∃ g c, e = .returned (.tuple #[.slice (some ⟨g, 0, none⟩) n c, .string ((cutB 10 s).getD n ByteArray.empty)]) ∧ Below w.heap.size w w' ∧ Strs w' (some ⟨g, 0, none⟩) (n + 1) c (cutB 10 s) := by
  have C := l01Cut_any s 10 w hs
  rw [hn] at C
  have C := Lib.hid C
  have hle := cutB_le 10 s
  have hn2 : n ≤ 1048576 := by omega
  generalize cutB 10 s = P at *
  generalize hL : P.getD n ByteArray.empty = L at *
  have HL := Lib.hid hL
  have Hn := Lib.hid hn
  clear hL hn hle
  have hw1 : IntKind.i64.wrap (((n + 1 : Nat) : Int) - 1) = (n : Int) := by rw [IntWalk.i64_in _ (by omega)]; omega
  have hk1 : (n : Int) < ((n + 1 : Nat) : Int) := by omega
  generalize n + 1 = n1 at *
  go_enter Tryd.func30, Tryd.ntmps30
  go_wp2_with (fail)
  refine C.out.mono ?_
  rintro e w1 ⟨g, c, rfl, hb, ho⟩
  have hS := Strs.own ho
  have HS := Lib.hid hS
  obtain ⟨hc, hc2, hat⟩ := Row.at ByteArray.empty hS
  obtain ⟨b, off, e, hlb, hx⟩ := hat n (by omega)
  simp only [Option.some.injEq, Addr.mk.injEq] at e
  obtain ⟨rfl, rfl, _⟩ := e
  have z0 := hx n (by omega)
  rw [Nat.zero_add, HL.out] at z0
  have HB := Lib.hid hb
  have hnc : n ≤ c := by omega
  clear hb ho hS hat hx C
  go_wp2
  go_quiet (fail)
  go_wp2
  go_ret2
  exact ⟨g, c, rfl, HB.out.trans (Quiet.below ⟨_, rfl⟩ _), HS.out.mono (Quiet.b ⟨_, rfl⟩)⟩

end Go.Proofs.YtkieaebnhcdhnaaDoor
