/- Pegs, impl: PegMoves, PegLeast and PegReach. -/
import Derived.Test.YtdnhhkbijamadaaPegR
import Derived.Test.YtdnhhkbijamadaaPegH
import Derived.Maps.OwnSet
namespace Go.Proofs.Ytdnhhkbijamadaa
open Go.RowKit
set_option linter.unusedVariables false
set_option linter.unusedSimpArgs false

theorem isB_yes {n : Nat} (h1 : 1 ≤ n) (h14 : n ≤ 14) : isB n = true := by
  unfold isB
  rw [decide_eq_true h1, decide_eq_true h14]
  rfl
theorem Grow.size {n x : Nat} {D : DataW Unit} (hK : KeysB D) (h : Grow n x (.map []) D) : 1 ≤ Maps.size D ∧ (Maps.size D = 1 ↔ mv n x = []) := by
  have h1 := Maps.size_del (k := .int .i64 (x : Int)) hK.tidy
  rw [if_pos h.has] at h1
  refine ⟨by omega, fun e => ?_, fun e => ?_⟩
  · rcases hm : mv n x with _ | ⟨p, l⟩
    · rfl
    · exfalso
      have hp : p ∈ mv n x := by rw [hm]; exact List.mem_cons_self
      have hy := h.next (by simp [Maps.has]) p hp
      have ho := ones_md (mv_good hp)
      generalize md x p.1 p.2 = y at *
      have hne : y ≠ x := fun q => by rw [q] at ho; omega
      have hne' : (Lit.int .i64 (y : Int)) ≠ .int .i64 (x : Int) := fun q => by simp at q; exact hne (by omega)
      have h2 := Maps.size_del (k := .int .i64 (y : Int)) (hK.tidy.del (.int .i64 (x : Int)))
      rw [Maps.has_del_other hne', if_pos hy] at h2
      omega
  · have := h.few e
    have e0 : Maps.size (.map [] : DataW Unit) = 0 := rfl
    omega

set_option maxHeartbeats 800000 in
theorem implPegMoves_any (ad : Addr) (n c : Nat) (bs : List Bool) (w : World) (h : Row Value.bool w (some ad) n c bs) (h1 : 1 ≤ n) (h14 : n ≤ 14) :
    Calls Try.prog 6 #[.slice (some ad) n c] w fun e w' => ∃ m a' c', e = .returned (.tuple #[.slice a' m c', .bool true]) ∧ Below w.heap.size w w' ∧ w'.ownsRow w.heap.size 2 1 (.slice a' m c') m (intCells (flatP (mv n (bN bs)))) := by
  obtain ⟨hc, hb, _⟩ := h.at false
  have C0 := isBoard_any (some ad) n c w hc hb
  rw [isB_yes h1 h14] at C0
  have C0 := Lib.hid C0
  have C1 := Lib.hid (pegMoves_any (some ad) n c bs w h h14)
  clear h
  go_enter Try.func6, Try.ntmps6
  go_wp2_with (fail)
  refine C0.out.mono ?_
  rintro e w1 ⟨rfl, rfl⟩
  go_wp2_with (fail)
  refine C1.out.mono ?_
  rintro e w1 ⟨m, a', c', rfl, hb1, ho1⟩
  go_wp2
  go_ret2
  exact ⟨m, a', c', rfl, hb1, ho1⟩

set_option maxHeartbeats 800000 in
theorem implPegLeast_any (ad : Addr) (n c : Nat) (bs : List Bool) (w : World) (h : Row Value.bool w (some ad) n c bs) (h1 : 1 ≤ n) (h14 : n ≤ 14) :
    Calls Try.prog 7 #[.slice (some ad) n c] w (Ret w (.tuple #[.int .i64 (Lst n (bN bs) : Nat), .bool true])) := by
  obtain ⟨hc, hb, _⟩ := h.at false
  have C0 := isBoard_any (some ad) n c w hc hb
  rw [isB_yes h1 h14] at C0
  have C0 := Lib.hid C0
  have hmm := @run_makeMap Try.prog
  have HAv0 : Hid (Av w.heap.size (some ad)) := fun x hx => by have := Rd.in_heap h (by omega) x hx; omega
  have HB0 : Hid (Below w.heap.size w (w.alloc (.map #[] 0))) := (Below.refl _ _).alloc (Nat.le_refl _) _
  have CP := Lib.hid (pegLeast_any n w.heap.size h1 h14 _ ad c bs _ (h.mono HB0.out) HAv0.out rfl (TabP.new n w))
  clear h
  go_enter Try.func7, Try.ntmps7
  go_wp2_with (fail)
  refine C0.out.mono ?_
  rintro e w1 ⟨rfl, rfl⟩
  go_wp2_with (fail)
  refine CP.out.mono ?_
  rintro e w2 ⟨rfl, hc2, ht2⟩
  have HB2 : Hid (Below w.heap.size w w2) := below_chg HB0.out HB0.out.size (Nat.le_refl _) hc2
  clear hc2 ht2 CP
  go_wp2
  go_ret2
  exact ⟨rfl, HB2.out⟩

set_option maxHeartbeats 800000 in
theorem implPegReach_any (ad : Addr) (n c : Nat) (bs : List Bool) (w : World) (h : Row Value.bool w (some ad) n c bs) (h1 : 1 ≤ n) (h14 : n ≤ 14) :
    Calls Try.prog 9 #[.slice (some ad) n c] w fun e w' => ∃ k : Nat, e = .returned (.tuple #[.int .i64 (k : Int), .bool true]) ∧ Below w.heap.size w w' ∧ 1 ≤ k ∧ (k = 1 ↔ mv n (bN bs) = []) ∧ k ≤ 16384 := by
  obtain ⟨hc, hb, _⟩ := h.at false
  have C0 := isBoard_any (some ad) n c w hc hb
  rw [isB_yes h1 h14] at C0
  have C0 := Lib.hid C0
  have hmm := @run_makeMap Try.prog
  have HAv0 : Hid (Av w.heap.size (some ad)) := fun x hx => by have := Rd.in_heap h (by omega) x hx; omega
  have HB0 : Hid (Below w.heap.size w (w.alloc (.map #[] 0))) := (Below.refl _ _).alloc (Nat.le_refl _) _
  have hT : TabQ n w.heap.size (w.alloc (.map #[] 0)) (.map []) := ⟨⟨0, World.ownsMap_made w Try.prog 3 _⟩, KnownP.empty n⟩
  have CP := Lib.hid (pegGrow_any n w.heap.size h1 h14 _ ad c bs _ _ (h.mono HB0.out) HAv0.out rfl hT)
  clear h hT
  go_enter Try.func9, Try.ntmps9
  go_wp2_with (fail)
  refine C0.out.mono ?_
  rintro e w1 ⟨rfl, rfl⟩
  go_wp2_with (fail)
  refine CP.out.mono ?_
  rintro e w2 ⟨rfl, hc2, D, ht2, hg2⟩
  have HB2 : Hid (Below w.heap.size w w2) := below_chg HB0.out HB0.out.size (Nat.le_refl _) hc2
  obtain ⟨k, hD, hKn, hk⟩ := ht2.tight
  have HS := Lib.hid (Grow.size hKn.1 hg2)
  have hsz := hKn.1.size
  have HD := Lib.hid hD
  clear hc2 ht2 CP hg2 hKn hD
  go_wp2_with (first | (at_len; refine wpList_len_own _ rfl _ 37 rfl 3 2 Try.underlying37 _ w.heap.size k D rfl HD.out ?_))
  go_ret2
  exact ⟨Maps.size D, rfl, HB2.out, HS.out.1, HS.out.2, hsz⟩

end Go.Proofs.Ytdnhhkbijamadaa
