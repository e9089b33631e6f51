/- slices.Grow of nil, slices.Concat of two. -/
import Derived.Test.YtgldfmkjnggedaaViews
import Derived.Test.YtgldfmkjnggedaaI64
import Derived.Test.YtgldfmkjnggedaaClone
import Derived.Test.YtgldfmkjnggedaaChgC
import Derived.Lib.AppendZeros
namespace Go.Proofs.Ytgldfmkjnggedaa
open Go.RowKit
set_option linter.unusedVariables false

set_option maxRecDepth 100000 in
theorem growNil_any (m : Nat) (w : World) (h1 : 1 ≤ m) (hm : m ≤ 64) :
    Calls Try.prog 43 #[.slice none 0 0, .int .i64 m] w fun e w' => ∃ G, e = .returned (.slice (some ⟨w.heap.size, 0, none⟩) 0 G) ∧ Below w.heap.size w w' ∧ w'.ownsRow w.heap.size 2 1 (.slice (some ⟨w.heap.size, 0, none⟩) 0 G) 0 [] := by
  obtain ⟨i0, hi, hz0, hz1, hz2⟩ := info_parts infoI64
  have hr := Lib.hid (Lib.run_append_nil_zeros (P := Try.prog) w 25 3 25 2 i0 (.int .i64 0) .i64 .i64 Try.underlying25 Try.underlying3 hi hz0 m (by omega) (by omega) (by omega) (by rw [hz2]; omega))
  have hge := grownCap_ge w m 0 2
  have hle := grownCap_le_maxLen w m 0 2 (by unfold maxLen; omega)
  generalize grownCap w m 0 2 = G at *
  have hle' : G ≤ 9223372036854775807 := by unfold maxLen at hle; omega
  have HLe := Lib.hid hle
  have hsz : Hid ((Builtin.zeroCells (Value.int .i64 0).cells m ++ Builtin.zeroCells (Value.int .i64 0).cells (G - m)).size = G * 1) := by
    show _ = _
    simp [Builtin.zeroCells, Value.cells]
    omega
  clear hle
  generalize hC : (Builtin.zeroCells (Value.int .i64 0).cells m ++ Builtin.zeroCells (Value.int .i64 0).cells (G - m)) = C at *
  clear hC
  go_enter Try.func43, Try.ntmps43
  go_wp2_with (at_builtin; refine Lib.wpList_append_run _ rfl _ _ _ _ rfl _ _ rfl rfl _ _ hr.out ?_)
  go_ret
  exact ⟨G, rfl, ((Below.refl w.heap.size w).drew).alloc (by simp) _, World.ownsRow_made w.drew C G (by simp) HLe.out hsz.out⟩

set_option maxHeartbeats 800000 in
set_option maxRecDepth 100000 in
theorem concat2_any (b : Nat) (ad : Addr) (n c : Nat) (xs : List Int) (ad' : Addr) (n' c' : Nat) (ys : List Int) (w : World) (h : Ints w (some ad) n c xs) (h' : Ints w (some ad') n' c' ys)
    (e0 : w.cell? ⟨b, 0, none⟩ = some (.slice (some ad) n c)) (e1 : w.cell? ⟨b, 1, none⟩ = some (.slice (some ad') n' c')) (h1 : 1 ≤ n + n') (hn : n + n' ≤ 64) :
    Calls Try.prog 32 #[.slice (some ⟨b, 0, none⟩) 2 2] w fun e w' => ∃ a c2, e = .returned (.slice a (n + n') c2) ∧ Below w.heap.size w w' ∧ w'.ownsRow w.heap.size 2 1 (.slice a (n + n') c2) (n + n') (intCells (xs ++ ys)) := by
  obtain ⟨i0, hi, hz0, hz1, hz2⟩ := info_parts infoI64
  have hl := Lib.hid h.len
  have hl' := Lib.hid h'.len
  have hN := Lib.hid h.news
  have hN' := Lib.hid h'.news
  have hL : Hid ((intCells xs).length = n * 1) := h.1
  have hL' : Hid ((intCells ys).length = n' * 1) := h'.1
  obtain ⟨hc, hb, _⟩ := h.at
  obtain ⟨hc', hb', _⟩ := h'.at
  have HO1x : Hid (∀ u ∈ intCells xs, u.oneCell' = true) := intCells_one xs
  have HO1y : Hid (∀ u ∈ intCells ys, u.oneCell' = true) := intCells_one ys
  have HA : Hid (intCells (xs ++ ys) = intCells xs ++ intCells ys) := List.map_append
  generalize intCells (xs ++ ys) = cs at *
  generalize intCells xs = cx at *
  generalize intCells ys = cy at *
  clear h h'
  have CG := Lib.hid (fun W => growNil_any (n + n') W h1 hn)
  have E0 := Lib.hid e0
  have E1 := Lib.hid e1
  clear e0 e1
  go_enter Try.func32, Try.ntmps32
  go_wp2
  go_loop [3, 11] (fun vs vi => (vi = .int .i64 0 ∧ vs = .int .i64 0) ∨ (vi = .int .i64 1 ∧ vs = .int .i64 n) ∨ (vi = .int .i64 2 ∧ vs = .int .i64 ((n + n' : Nat) : Int))) (fun _ vi => 2 - (intOf vi).toNat)
  case atStart => exact .inl ⟨rfl, rfl⟩
  case round =>
    rcases hrel with ⟨rfl, rfl⟩ | ⟨rfl, rfl⟩ | ⟨rfl, rfl⟩
    · have e0 := E0.out
      go_wp2
      go_round
      case rel => exact .inr (.inl ⟨rfl, rfl⟩)
      case measure => simp [intOf]
    · have e1 := E1.out
      go_wp2
      go_round
      case rel => exact .inr (.inr ⟨rfl, by go_num⟩)
      case measure => simp [intOf]
    · go_wp2_with (fail)
      refine (CG.out _).mono ?_
      rintro e w1 ⟨G, rfl, hb1, ho1⟩
      have HB1 := Lib.hid hb1
      have HO1 := Lib.hid ho1
      clear hb1 ho1
      go_wp2
      go_loopw [6, 27] (fun vo vi wr => ∃ (m : Nat) (oa : Option Addr) (oc : Nat) (zs : List Value), vo = .slice oa m oc ∧ Below w.heap.size w wr ∧ wr.ownsRow w.heap.size 2 1 (.slice oa m oc) m zs ∧ ((vi = .int .i64 0 ∧ m = 0 ∧ zs = []) ∨ (vi = .int .i64 1 ∧ m = n ∧ zs = cx) ∨ (vi = .int .i64 2 ∧ m = n + n' ∧ zs = cx ++ cy))) (fun _ vi _ => 2 - (intOf vi).toNat)
      case atStart => exact ⟨0, _, _, [], rfl, HB1.out, HO1.out, .inl ⟨rfl, rfl, rfl⟩⟩
      case round =>
        obtain ⟨m, oa, oc, zs, rfl, hbel, hown, hcase⟩ := hrel
        have HB := Lib.hid hbel
        have hs := hbel.size
        clear hbel HB1 HO1
        rcases hcase with ⟨rfl, rfl, rfl⟩ | ⟨rfl, rfl, rfl⟩ | ⟨rfl, rfl, rfl⟩
        · have e0 := cell_on HB.out E0.out
          go_wp2_with (first | (at_builtin; go_must (refine wpList_append_own _ rfl _ _ 25 rfl w.heap.size 2 i0 (.int .i64 0) 1 8 Try.underlying25 hi hz0 hz1 hz2 rfl (by decide) _ _ _ rfl hown ad n c cx rfl hL.out (fun j u hu => cell_on HB.out (hN.out j u hu)) HO1x.out (by unfold maxLen; omega) (by omega) hs ?_); intro v' w5 hown1 hg1 _))
          have HB5 := Lib.hid (below_grown HB.out hs hg1 hown)
          simp only [Nat.zero_add, List.nil_append] at hown1
          obtain ⟨a5, c5, rfl⟩ := own_form hown1
          have HO5 := Lib.hid hown1
          clear hown1 hg1 hown e0
          go_wp2
          go_roundw
          case rel => exact ⟨n, a5, c5, cx, rfl, HB5.out, HO5.out, .inr (.inl ⟨rfl, rfl, rfl⟩)⟩
          case measure => simp [intOf]
        · have e1 := cell_on HB.out E1.out
          go_wp2_with (first | (at_builtin; go_must (refine wpList_append_own _ rfl _ _ 25 rfl w.heap.size 2 i0 (.int .i64 0) 1 8 Try.underlying25 hi hz0 hz1 hz2 rfl (by decide) _ _ _ rfl hown ad' n' c' cy rfl hL'.out (fun j u hu => cell_on HB.out (hN'.out j u hu)) HO1y.out (by unfold maxLen; omega) (by omega) hs ?_); intro v' w5 hown1 hg1 _))
          have HB5 := Lib.hid (below_grown HB.out hs hg1 hown)
          obtain ⟨a5, c5, rfl⟩ := own_form hown1
          have HO5 := Lib.hid hown1
          clear hown1 hg1 hown e1
          go_wp2
          go_roundw
          case rel => exact ⟨_, a5, c5, _, rfl, HB5.out, HO5.out, .inr (.inr ⟨rfl, rfl, rfl⟩)⟩
          case measure => simp [intOf]
        · have HO := Lib.hid hown
          clear hown
          go_wp2
          go_ret
          exact ⟨_, _, rfl, HB.out, by rw [HA.out]; exact HO.out⟩

end Go.Proofs.Ytgldfmkjnggedaa
