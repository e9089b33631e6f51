/- The law FnPegs: the deck that is drawn, the board's growth. -/
import Derived.Test.YtdnhhkbijamadaaDeckOk
import Derived.Test.YtdnhhkbijamadaaLawA
import Derived.Test.YtdnhhkbijamadaaPegS
import Derived.Test.YtdnhhkbijamadaaFPegsA
import Derived.Test.YtdnhhkbijamadaaClockB
namespace Go.Proofs.Ytdnhhkbijamadaa
open Go.RowKit
set_option linter.unusedVariables false
set_option linter.unusedSimpArgs false

theorem R8Deck_any (a : Option Addr) (m c : Nat) (bs : List Int) (N : Nat) (w : World) (h : Bytes w a m c bs) (ok : okB bs) (hN1 : 1 ≤ N) (hN : N ≤ 64) :
    Calls Try.prog 10 #[.slice a m c, .int .i64 N] w fun e w' => ∃ g c' xs, e = .returned (.slice (some ⟨g, 0, none⟩) N c') ∧ Below w.heap.size w w' ∧ Ints w' (some ⟨g, 0, none⟩) N c' xs ∧ xs.Perm (upto N) := by
  have C := Lib.hid (l00From_any a m c bs w h ok)
  clear h ok
  go_enter Try.func10, Try.ntmps10
  go_wp2_with (fail)
  refine C.out.mono ?_
  rintro e w1 ⟨rfl, hb, hs⟩
  have HB1 := Lib.hid hb
  have hsz := hb.size
  have C2 := Lib.hid (drawOk_any _ _ N w1 hs hN1 hN (by omega))
  clear hb hs C
  go_wp2_with (fail)
  refine C2.out.mono ?_
  rintro e w2 ⟨g, c', xs, rfl, hc, _, ho, hp⟩
  have HB2 := Lib.hid (below_chg HB1.out hsz (Nat.le_refl _) hc)
  have HI := Lib.hid (show Ints w2 (some ⟨g, 0, none⟩) N c' xs from Rd.own ho)
  have HP := Lib.hid hp
  clear hc ho hp C2
  go_wp2
  go_ret
  exact ⟨g, c', xs, rfl, HB2.out, HI.out, HP.out⟩
theorem deck_ok {xs : List Int} {N : Nat} (h : xs.Perm (upto N)) (h1 : 1 ≤ N) (h52 : N ≤ 52) : okDeck xs = true ∧ ∀ i, i < N → 0 ≤ xs.getD i 0 ∧ xs.getD i 0 < 64 := by
  obtain ⟨hl, hnd, hr⟩ := upto_ok N h
  have hin : ∀ i, i < N → xs.getD i 0 ∈ xs := fun i hi => by
    rw [List.getD_eq_getElem?_getD, List.getElem?_eq_getElem (by omega)]
    exact List.getElem_mem _
  refine ⟨?_, fun i hi => by have := hr _ (hin i hi); omega⟩
  have ho : okOrder xs = true := by
    rw [okOrder, List.all_eq_true]
    intro j hj
    have hj' : j < xs.length := by simpa using hj
    have e : xs.getD j 0 = xs[j] := by simp [hj']
    have hb := hr _ (hin j (by omega))
    unfold goodAt
    rw [Bool.and_eq_true]
    refine ⟨?_, ?_⟩
    · first
        | exact (inB_iff _ _ _).2 ⟨by omega, by omega⟩
        | (simp only [Bool.and_eq_true, decide_eq_true_eq]; omega)
    · have hno : xs.getD j 0 ∉ xs.take j := by
        rw [e]
        intro hm
        obtain ⟨i, hi, e2⟩ := List.getElem_of_mem hm
        rw [List.length_take] at hi
        rw [List.getElem_take] at e2
        have := (List.nodup_iff_pairwise_ne.1 hnd)
        exact List.pairwise_iff_getElem.1 this i j (by omega) hj' (by omega) e2
      simpa using hno
  unfold okDeck
  rw [ho, decide_eq_true (show 1 ≤ xs.length by omega), decide_eq_true (show xs.length ≤ 52 by omega)]
  rfl
/-- the number of pegs grows with the board -/
theorem peg_snoc (bs : List Bool) (b : Bool) : sumR (fun i => ((bs ++ [b]).getD i false).toNat) (bs.length + 1) = sumR (fun i => (bs.getD i false).toNat) bs.length + b.toNat := by
  rw [sumR_succ]
  congr 1
  · exact sumR_congr _ fun j hj => by simp [List.getElem?_append_left hj]
  · simp
theorem rowB_at {w : World} {g n c : Nat} {bs : List Bool} (h : Row Value.bool w (some ⟨g, 0, none⟩) n c bs) {i : Nat} (hi : i < n) : w.cell? ⟨g, i, none⟩ = some (.bool (bs.getD i false)) := by
  obtain ⟨_, _, hx⟩ := h.at false
  obtain ⟨b, off, e, _, hy⟩ := hx i hi
  simp only [Option.some.injEq, Addr.mk.injEq] at e
  obtain ⟨rfl, rfl, _⟩ := e
  have := hy i hi
  rw [Nat.zero_add] at this
  exact this
theorem ints_at0 {w : World} {g n c : Nat} {xs : List Int} (h : Ints w (some ⟨g, 0, none⟩) n c xs) {i : Nat} (hi : i < n) : w.cell? ⟨g, i, none⟩ = some (.int .i64 (xs.getD i 0)) := by
  obtain ⟨_, _, hx⟩ := h.at
  obtain ⟨b, off, e, _, hy⟩ := hx i hi
  simp only [Option.some.injEq, Addr.mk.injEq] at e
  obtain ⟨rfl, rfl, _⟩ := e
  have := hy i hi
  rw [Nat.zero_add] at this
  exact this

end Go.Proofs.Ytdnhhkbijamadaa
