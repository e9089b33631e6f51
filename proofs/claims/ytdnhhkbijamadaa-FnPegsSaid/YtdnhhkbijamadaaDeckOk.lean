/- A deck drawn: l02DrawOk. -/
import Derived.Test.YtdnhhkbijamadaaSrc
import Derived.Test.YtdnhhkbijamadaaNewDeck
import Derived.Deep.OwnRows
namespace Go.Proofs.Ytdnhhkbijamadaa
open Go.RowKit
set_option linter.unusedVariables false

theorem putJ {w : World} {B g n c : Nat} {E : TypeId} {xs : List Int} (h : w.ownsRow B E 1 (.slice (some ⟨g, 0, none⟩) n c) n (intCells xs)) (i : Nat) (v : Int) :
    (w.setCell ⟨g, i, none⟩ (.int .i64 v)).ownsRow B E 1 (.slice (some ⟨g, 0, none⟩) n c) n (intCells (xs.set i v)) := by
  have := (h.stored i (.int .i64 v)).1
  rw [intCells_set] at this
  exact this
theorem getJ {w : World} {B g n c : Nat} {E : TypeId} {xs : List Int} (h : w.ownsRow B E 1 (.slice (some ⟨g, 0, none⟩) n c) n (intCells xs)) (i : Nat) (hi : i < n) : w.cell? ⟨g, i, none⟩ = some (.int .i64 (xs.getD i 0)) ∧ w.frozen? ⟨g, i, none⟩ = false := by
  refine ⟨?_, h.frozenAt i⟩
  have hr : Ints w _ n c xs := Rd.own h
  obtain ⟨_, _, hx⟩ := hr.at
  obtain ⟨b, off, e, _, hy⟩ := hx i hi
  obtain ⟨rfl, rfl⟩ : g = b ∧ off = 0 := by have := Option.some.inj e; simp at this; exact ⟨this.1, this.2.symm⟩
  simpa using hy i hi
theorem own_at0 {w : World} {B n c : Nat} {a : Option Addr} {E : TypeId} {cs : List Value} (h : w.ownsRow B E 1 (.slice a n c) n cs) (hn : 1 ≤ n) : ∃ g, a = some ⟨g, 0, none⟩ := by
  rcases h.2 with ⟨_, h2⟩ | ⟨g, cap, cur, h1, _⟩
  · omega
  · simp only [Value.slice.injEq] at h1; exact ⟨g, h1.1⟩
theorem swap_perm (xs : List Int) {i k : Nat} (hi : i < xs.length) (hk : k < xs.length) : ((xs.set i (xs.getD k 0)).set k (xs.getD i 0)).Perm xs := by
  have e1 : xs.getD k 0 = xs[k] := by simp [hk]
  have e2 : xs.getD i 0 = xs[i] := by simp [hi]
  rw [e1, e2]
  exact List.set_set_perm hi hk
theorem upto_ok (N : Nat) {xs : List Int} (h : xs.Perm (upto N)) : xs.length = N ∧ xs.Nodup ∧ ∀ x ∈ xs, 0 ≤ x ∧ x < N := by
  refine ⟨by rw [h.length_eq, upto_len], ?_, fun x hx => ?_⟩
  · refine h.nodup_iff.2 ?_
    unfold upto
    rw [List.nodup_iff_pairwise_ne, List.pairwise_map]
    exact (List.nodup_iff_pairwise_ne.1 List.nodup_range).imp fun h e => h (by omega)
  · have := h.mem_iff.1 hx
    unfold upto at this
    obtain ⟨i, hi, rfl⟩ := List.mem_map.1 this
    have := List.mem_range.1 hi
    omega
theorem chgB {lo hi : Nat} {a w : World} (h : Below a.heap.size a w) : Chg lo hi a w := Chg.of_below h (Nat.le_refl _)

set_option maxHeartbeats 3200000 in
set_option maxRecDepth 100000 in
theorem drawOk_any (g k N : Nat) (w : World) (h : Src g k w) (hN1 : 1 ≤ N) (hN : N ≤ 64) (hk : k < 1000000) : Calls Try.prog 17 #[.pointer (some ⟨g, 0, none⟩), .int .i64 N] w fun e w' => ∃ g' c xs, e = .returned (.slice (some ⟨g', 0, none⟩) N c) ∧ Chg g (g + 1) w w' ∧ Src g (k + N) w' ∧ w'.ownsRow w.heap.size 2 1 (.slice (some ⟨g', 0, none⟩) N c) N (intCells xs) ∧ xs.Perm (upto N) := by
  have hlt : g < w.heap.size := h.lt
  have HS := Lib.hid h
  have C1 := Lib.hid (l02New_any N w (by omega))
  clear h
  go_enter Try.func17, Try.ntmps17
  go_wp2_with (fail)
  refine C1.out.mono ?_
  rintro e w1 ⟨a, c, rfl, hb, ho⟩
  obtain ⟨d, rfl⟩ := own_at0 ho hN1
  have hd : w.heap.size ≤ d := (own_in ho _ rfl).1
  have HB1 := Lib.hid hb
  have HO1 := Lib.hid ho
  have HS1 := Lib.hid (HS.out.on hb)
  clear hb ho C1
  go_wp2
  go_loopw [6] (fun vi wr => ∃ (i : Nat) (xs : List Int), i < N ∧ vi = .int .i64 i ∧ xs.Perm (upto N) ∧ Src g (k + N - i) wr ∧ Chg g (g + 1) w wr ∧ wr.ownsRow w.heap.size 2 1 (.slice (some ⟨d, 0, none⟩) N c) N (intCells xs)) (fun vi _ => (intOf vi).toNat)
  case atStart => exact ⟨N - 1, _, by omega, by go_num, .refl _, HS1.out.more (by omega), chgB HB1.out, HO1.out⟩
  case round =>
    obtain ⟨i, xs, hi, rfl, hp, hsrc, hchg, hown⟩ := hrel
    have HC := Lib.hid hchg
    have HO := Lib.hid hown
    have HP := Lib.hid hp
    have hsz := hchg.size
    have hxl : xs.length = N := by rw [hp.length_eq, upto_len]
    have HX := Lib.hid hxl
    clear hchg hown hp hxl HO1 HS1
    by_cases hi0 : 0 < i
    · have C3 := Lib.hid (pick_any g _ ((i : Int) + 1) wr hsrc (by omega) (by omega) (by omega))
      clear hsrc
      have hw1 : IntKind.i64.wrap ((i : Int) + 1) = (i : Int) + 1 := IntWalk.i64_in _ (by omega)
      go_wp2_with (fail)
      refine C3.out.mono ?_
      rintro e w3 ⟨y, rfl, hy0, hy1, hc, hs⟩
      obtain ⟨y, rfl⟩ : ∃ q : Nat, y = q := ⟨y.toNat, by omega⟩
      have hyN : y < N := by omega
      have HC3 := Lib.hid (HC.out.trans hc)
      have HS3 := Lib.hid (hs.more (show k + N - i + 1 ≤ k + N - (i - 1) by omega))
      have HO3 := Lib.hid (own_chg HO.out hc (own_in HO.out) (.inr (by omega)))
      clear hc hs C3 HC HO
      obtain ⟨z0, f0⟩ := getJ HO3.out i hi
      obtain ⟨z1, f1⟩ := getJ HO3.out y hyN
      have HPn := Lib.hid ((swap_perm xs (show i < xs.length by rw [HX.out]; exact hi) (show y < xs.length by rw [HX.out]; exact hyN)).trans HP.out)
      have HOn := Lib.hid (putJ (putJ HO3.out i (xs.getD y 0)) y (xs.getD i 0))
      have hK := (((Chg.refl w.heap.size (d + 1) w3).set (p := ⟨d, i, none⟩) (.int .i64 (xs.getD y 0)) hd (Nat.lt_succ_self _)).set (p := ⟨d, y, none⟩) (.int .i64 (xs.getD i 0)) hd (Nat.lt_succ_self _))
      have HSn := Lib.hid (HS3.out.chg hK hlt)
      have HCn := Lib.hid ((HC3.out.setNewS (p := ⟨d, i, none⟩) (.int .i64 (xs.getD y 0)) hd).setNewS (p := ⟨d, y, none⟩) (.int .i64 (xs.getD i 0)) hd)
      generalize xs.getD i 0 = u at *
      generalize xs.getD y 0 = v at *
      obtain ⟨i', rfl⟩ : ∃ i', i = i' + 1 := ⟨i - 1, by omega⟩
      have hwm : IntKind.i64.wrap (((i' + 1 : Nat) : Int) - 1) = (i' : Int) := by rw [IntWalk.i64_in _ (by omega)]; omega
      clear hK
      by_cases hyi : y = i' + 1
      · subst hyi
        obtain rfl : u = v := by rw [z0] at z1; simpa using z1
        go_wp2
        go_roundw
        case rel => exact ⟨i', _, by omega, by go_num, HPn.out, HSn.out, HCn.out, HOn.out⟩
        case measure => simp [intOf]
      · have hyj : ¬ i' + 1 = y := fun e => hyi e.symm
        go_wp2
        go_roundw
        case rel => exact ⟨i', _, by omega, by go_num, HPn.out, HSn.out, HCn.out, HOn.out⟩
        case measure => simp [intOf]
    · obtain rfl : i = 0 := by omega
      have HS9 := Lib.hid (hsrc.more (show k + N - 0 ≤ k + N by omega))
      clear hsrc
      go_wp2
      go_ret
      exact ⟨d, c, xs, rfl, HC.out, HS9.out, HO.out, HP.out⟩

end Go.Proofs.Ytdnhhkbijamadaa
