/- The law of tiles: SameTiles, r8Meets, R8Counts, R8Tiles. -/
import Derived.Test.YtnagmeeoeilbcaaLawA
import Derived.Test.YtnagmeeoeilbcaaFTilesA
namespace Go.Proofs.Ytnagmeeoeilbcaa
open Go.RowKit
set_option linter.unusedVariables false

set_option maxHeartbeats 1600000 in
set_option maxRecDepth 100000 in
theorem equalTile_same (a : Option Addr) (n c : Nat) (ts : List (Int × Int)) (w : World) (h : Duos w a n c ts) : Calls Try.prog 35 #[.slice a n c, .slice a n c] w (Ret w (.bool true)) := by
  obtain ⟨hc, hb, hcell⟩ := h.at
  have HCe := Lib.hid hcell
  clear h hcell
  go_enter Try.func35, Try.ntmps35
  go_wp2
  go_loopw [13] (fun i wr => ∃ k : Nat, k ≤ n ∧ i = .int .i64 k ∧ Quiet w wr) (fun i _ => n - (intOf i).toNat)
  case atStart => exact ⟨0, by omega, rfl, Quiet.refl _⟩
  case round =>
    obtain ⟨k, hk, rfl, hq⟩ := hrel
    have HW := Lib.hid hq
    by_cases hlt : k < n
    · obtain ⟨b, off, rfl, hlb, hx⟩ := HCe.out k hlt
      obtain ⟨x0, x1⟩ := hx k hlt
      have x0 := cell_on hq.b x0
      have x1 := cell_on hq.b x1
      clear hx hq
      generalize (ts.getD k (0, 0)).1 = u at *
      generalize (ts.getD k (0, 0)).2 = v at *
      go_wp2
      go_quiet (fail)
      go_wp2
      go_roundw
      case rel => exact ⟨k + 1, by omega, by go_num, HW.out.drewN _⟩
      case measure => simp [intOf]; omega
    · obtain rfl : k = n := by omega
      clear hq
      go_wp2
      go_ret
      exact ⟨rfl, HW.out.b⟩
theorem SameTiles_same (a : Option Addr) (n c : Nat) (ts : List (Int × Int)) (w : World) (h : Duos w a n c ts) : Calls Try.prog 16 #[.slice a n c, .slice a n c] w (Ret w (.bool true)) := by
  have C := Lib.hid (equalTile_same a n c ts w h)
  clear h
  go_enter Try.func16, Try.ntmps16
  go_wp2_with (fail)
  refine C.out.mono ?_
  rintro e w1 ⟨rfl, hb⟩
  have HB := Lib.hid hb
  clear hb
  go_wp2
  go_ret
  exact ⟨rfl, HB.out⟩

theorem meets_step (ts : List (Int × Int)) (L : List Nat) (j : Nat) (e : Int) (h : j < L.length) : meetsL ts (L.drop j) e = if e = (ts.getD (L.getD j 0) (0, 0)).1 then meetsL ts (L.drop (j + 1)) (ts.getD (L.getD j 0) (0, 0)).2 else if e = (ts.getD (L.getD j 0) (0, 0)).2 then meetsL ts (L.drop (j + 1)) (ts.getD (L.getD j 0) (0, 0)).1 else false := by
  rw [List.drop_eq_getElem_cons h]
  have e1 : L.getD j 0 = L[j] := by simp [h]
  rw [e1]
  rfl
set_option maxHeartbeats 1600000 in
set_option maxRecDepth 100000 in
theorem r8Meets_any (a : Option Addr) (n c : Nat) (ts : List (Int × Int)) (a' : Option Addr) (n' c' : Nat) (S : List Nat) (e0 : Int) (w : World) (h : Duos w a n c ts) (h' : Ints w a' n' c' (S.map fun (i : Nat) => (i : Int))) (hS : ∀ i ∈ S, i < n) :
    Calls Try.prog 18 #[.slice a n c, .slice a' n' c', .int .i64 e0] w (Ret w (.bool (meetsL ts S e0))) := by
  have HL : Hid (S.length = n') := by show _ = _; have := h'.len; simpa using this
  obtain ⟨hc, hb, hcell⟩ := h.at
  obtain ⟨hc', hb', hcell'⟩ := h'.at
  have HCe := Lib.hid hcell
  have HCe' := Lib.hid hcell'
  have HS : Hid (∀ j, j < n' → S.getD j 0 < n ∧ (S.map fun (i : Nat) => (i : Int)).getD j 0 = (S.getD j 0 : Nat)) := fun j hj => by
    have := HL.out
    exact ⟨hS _ (getD_mem (d := 0) (by omega)), by simp [show j < S.length by omega]⟩
  clear h h' hcell hcell' hS
  generalize hM : meetsL ts S e0 = M at *
  have HM := Lib.hid hM
  clear hM
  go_enter Try.func18, Try.ntmps18
  go_wp2
  go_loopw [2, 7] (fun ve vi wr => ∃ (k : Nat) (e : Int), k ≤ n' ∧ vi = .int .i64 k ∧ ve = .int .i64 e ∧ meetsL ts (S.drop k) e = M ∧ Below w.heap.size w wr) (fun _ vi _ => n' - (intOf vi).toNat)
  case atStart => exact ⟨0, e0, by omega, rfl, rfl, HM.out, Below.refl _ _⟩
  case round =>
    obtain ⟨k, e, hk, rfl, rfl, hm, hbel⟩ := hrel
    have HB := Lib.hid hbel
    have hsz := hbel.size
    by_cases hlt : k < n'
    · obtain ⟨b', off', rfl, hlb', hx'⟩ := HCe'.out k hlt
      have y0 := hx' k hlt
      obtain ⟨hin, hse⟩ := HS.out k hlt
      rw [hse] at y0
      rw [meets_step ts S k e (by rw [HL.out]; exact hlt)] at hm
      generalize hQ : S.getD k 0 = q at *
      obtain ⟨b, off, rfl, hlb, hx⟩ := HCe.out q hin
      obtain ⟨x0, x1⟩ := hx q hin
      have y0 := (hbel.cell (p := ⟨b', off' + k, none⟩) hlb').trans y0
      have x0 := (hbel.cell (p := ⟨b, off + q * 2, none⟩) hlb).trans x0
      have x1 := (hbel.cell (p := ⟨b, off + q * 2 + 1, none⟩) hlb).trans x1
      clear hx hx' hbel hQ hse
      generalize (ts.getD q (0, 0)).1 = u at *
      generalize (ts.getD q (0, 0)).2 = v at *
      have HBa : ∀ T, Hid (Below w.heap.size w (wr.alloc (.cells #[.int .i64 u, .int .i64 v] T))) := fun T => HB.out.alloc hsz _
      by_cases h1 : e = u
      · rw [if_pos h1] at hm
        have HMm := Lib.hid hm
        subst h1
        clear hm
        go_wp2
        go_roundw
        case rel => exact ⟨k + 1, v, by omega, by go_num, rfl, HMm.out, (HBa _).out⟩
        case measure => simp [intOf]; omega
      · rw [if_neg h1] at hm
        have e1 : (e == u) = false := by simpa using h1
        by_cases h2 : e = v
        · rw [if_pos h2] at hm
          have HMm := Lib.hid hm
          subst h2
          clear hm
          go_wp2
          go_roundw
          case rel => exact ⟨k + 1, u, by omega, by go_num, rfl, HMm.out, (HBa _).out⟩
          case measure => simp [intOf]; omega
        · rw [if_neg h2] at hm
          have HMm := Lib.hid hm
          have e2 : (e == v) = false := by simpa using h2
          clear hm
          go_wp2
          go_ret
          exact ⟨ret_bool HMm.out, (HBa _).out⟩
    · obtain rfl : k = n' := by omega
      rw [List.drop_of_length_le (by rw [HL.out]; omega)] at hm
      have HMm : Hid (true = M) := hm
      clear hbel hm
      go_wp2
      go_ret
      exact ⟨ret_bool HMm.out, HB.out⟩

end Go.Proofs.Ytnagmeeoeilbcaa
