/- Tests: which cards pass: passes. -/
import Derived.Test.YtmijfieiebnbfaaDoorPassesA
namespace Go.Proofs.YtmijfieiebnbfaaDoor
open Go.RowKit Go.Shelf

set_option maxHeartbeats 2000000 in
theorem implPasses_any (a : Option Addr) (n c : Nat) (gs : List (Int × Int × Int)) (card : Int) (w : World) (h : Trips w a n c gs) (hv : ∀ g ∈ gs, okTest3 g = true) (hc0 : 0 ≤ card) (hc1 : card ≤ 51) :
    Calls Tryd.prog 38 #[.slice a n c, .int .i64 card] w (Ret w (.bool (gs.all (passT card)))) := by
  obtain ⟨hc, hb, hcell⟩ := h.at
  have hl := Lib.hid h.len
  have HV := Lib.hid hv
  clear h hv
  have hd : card / 13 ≤ 3 := by omega
  have hd0 : 0 ≤ card / 13 := by omega
  go_enter Tryd.func38, Tryd.ntmps38
  go_wp2
  go_loopw [10] (fun i wr => ∃ k : Nat, k ≤ n ∧ i = .int .i64 k ∧ AllTo (passT card) (0, 0, 0) gs k ∧ Below w.heap.size w wr) (fun i _ => n - (intOf i).toNat)
  case atStart => exact ⟨0, by omega, rfl, AllTo.zero _ _ _, Below.refl _ _⟩
  case round =>
    obtain ⟨k, hk, rfl, hto, hbel⟩ := hrel
    have HT := Lib.hid hto
    clear hto
    by_cases hlt : k < n
    · obtain ⟨b, off, rfl, hlb, hx⟩ := hcell k hlt
      obtain ⟨h0', h1', h2'⟩ := hx k hlt
      have h0 := cell_on hbel h0'
      have h1 := cell_on hbel h1'
      have h2 := cell_on hbel h2'
      have hlw : b < wr.heap.size := Nat.lt_of_lt_of_le hlb hbel.size
      have HB := Lib.hid hbel
      have HZ := Lib.hid hbel.size
      have HS : Hid (passT card (gs.getD k (0, 0, 0)) = true → AllTo (passT card) (0, 0, 0) gs (k + 1)) := fun e => HT.out.succ e
      have HN : Hid (passT card (gs.getD k (0, 0, 0)) = false → gs.all (passT card) = false) := fun e => all_not (by rw [hl.out]; exact hlt) e
      have HK : Hid (okTest3 (gs.getD k (0, 0, 0)) = true) := HV.out _ (getD_mem (by rw [hl.out]; exact hlt))
      clear hcell hx hbel h0' h1' h2'
      generalize gs.getD k (0, 0, 0) = g at *
      obtain ⟨f, s, m⟩ := g
      obtain ⟨cf, cs, cm, cm'⟩ := okTest3_cases HK.out
      simp only at h0 h1 h2 cf cs cm cm'
      have HE : Hid (∀ b : Bool, b = (if s = 0 then decide (fieldOf f card = m) else if s = 1 then decide (fieldOf f card < m) else decide (m < fieldOf f card)) → passT card (f, s, m) = b) := fun b e => by rw [e]; rfl
      rcases cf with rfl | rfl | rfl <;> rcases cs with rfl | rfl | rfl
      · by_cases hq : card % 13 = m
        · have hq1 : (card % 13 != m) = false := by simp [hq]
          have HQ := Lib.hid hq
          clear hq
          go_wp2
          go_roundw
          case rel => exact ⟨k + 1, by omega, by go_num, HS.out (HE.out true (by simp [fieldOf, HQ.out])), by first | exact HB.out | exact (HB.out.alloc (by simpa using HZ.out) _) | exact ((HB.out.alloc HZ.out _).alloc (by have := HZ.out; simp; omega) _)⟩
          case measure => simp [intOf]; omega
        · have hq1 : (card % 13 != m) = true := by simp [hq]
          have HQ := Lib.hid hq
          clear hq
          go_wp2
          go_ret
          exact ⟨ret_bool (HN.out (HE.out false (by simp [fieldOf, HQ.out]))).symm, by first | exact HB.out | exact (HB.out.alloc (by simpa using HZ.out) _) | exact ((HB.out.alloc HZ.out _).alloc (by have := HZ.out; simp; omega) _)⟩
      · by_cases hq : card % 13 < m
        · have HQ := Lib.hid hq
          go_wp2
          go_roundw
          case rel => exact ⟨k + 1, by omega, by go_num, HS.out (HE.out true (by simp [fieldOf, HQ.out])), by first | exact HB.out | exact (HB.out.alloc (by simpa using HZ.out) _) | exact ((HB.out.alloc HZ.out _).alloc (by have := HZ.out; simp; omega) _)⟩
          case measure => simp [intOf]; omega
        · have HQ := Lib.hid hq
          go_wp2
          go_ret
          exact ⟨ret_bool (HN.out (HE.out false (by simp [fieldOf, HQ.out]))).symm, by first | exact HB.out | exact (HB.out.alloc (by simpa using HZ.out) _) | exact ((HB.out.alloc HZ.out _).alloc (by have := HZ.out; simp; omega) _)⟩
      · by_cases hq : m < card % 13
        · have HQ := Lib.hid hq
          go_wp2
          go_roundw
          case rel => exact ⟨k + 1, by omega, by go_num, HS.out (HE.out true (by simp [fieldOf, HQ.out])), by first | exact HB.out | exact (HB.out.alloc (by simpa using HZ.out) _) | exact ((HB.out.alloc HZ.out _).alloc (by have := HZ.out; simp; omega) _)⟩
          case measure => simp [intOf]; omega
        · have HQ := Lib.hid hq
          go_wp2
          go_ret
          exact ⟨ret_bool (HN.out (HE.out false (by simp [fieldOf, HQ.out]))).symm, by first | exact HB.out | exact (HB.out.alloc (by simpa using HZ.out) _) | exact ((HB.out.alloc HZ.out _).alloc (by have := HZ.out; simp; omega) _)⟩
      · by_cases hq : card / 13 = m
        · have hq1 : (card / 13 != m) = false := by simp [hq]
          have HQ := Lib.hid hq
          clear hq
          go_wp2
          go_roundw
          case rel => exact ⟨k + 1, by omega, by go_num, HS.out (HE.out true (by simp [fieldOf, HQ.out])), by first | exact HB.out | exact (HB.out.alloc (by simpa using HZ.out) _) | exact ((HB.out.alloc HZ.out _).alloc (by have := HZ.out; simp; omega) _)⟩
          case measure => simp [intOf]; omega
        · have hq1 : (card / 13 != m) = true := by simp [hq]
          have HQ := Lib.hid hq
          clear hq
          go_wp2
          go_ret
          exact ⟨ret_bool (HN.out (HE.out false (by simp [fieldOf, HQ.out]))).symm, by first | exact HB.out | exact (HB.out.alloc (by simpa using HZ.out) _) | exact ((HB.out.alloc HZ.out _).alloc (by have := HZ.out; simp; omega) _)⟩
      · by_cases hq : card / 13 < m
        · have HQ := Lib.hid hq
          go_wp2
          go_roundw
          case rel => exact ⟨k + 1, by omega, by go_num, HS.out (HE.out true (by simp [fieldOf, HQ.out])), by first | exact HB.out | exact (HB.out.alloc (by simpa using HZ.out) _) | exact ((HB.out.alloc HZ.out _).alloc (by have := HZ.out; simp; omega) _)⟩
          case measure => simp [intOf]; omega
        · have HQ := Lib.hid hq
          go_wp2
          go_ret
          exact ⟨ret_bool (HN.out (HE.out false (by simp [fieldOf, HQ.out]))).symm, by first | exact HB.out | exact (HB.out.alloc (by simpa using HZ.out) _) | exact ((HB.out.alloc HZ.out _).alloc (by have := HZ.out; simp; omega) _)⟩
      · by_cases hq : m < card / 13
        · have HQ := Lib.hid hq
          go_wp2
          go_roundw
          case rel => exact ⟨k + 1, by omega, by go_num, HS.out (HE.out true (by simp [fieldOf, HQ.out])), by first | exact HB.out | exact (HB.out.alloc (by simpa using HZ.out) _) | exact ((HB.out.alloc HZ.out _).alloc (by have := HZ.out; simp; omega) _)⟩
          case measure => simp [intOf]; omega
        · have HQ := Lib.hid hq
          go_wp2
          go_ret
          exact ⟨ret_bool (HN.out (HE.out false (by simp [fieldOf, HQ.out]))).symm, by first | exact HB.out | exact (HB.out.alloc (by simpa using HZ.out) _) | exact ((HB.out.alloc HZ.out _).alloc (by have := HZ.out; simp; omega) _)⟩
      · by_cases hq : card = m
        · have hq1 : (card != m) = false := by simp [hq]
          have HQ := Lib.hid hq
          clear hq
          go_wp2
          go_roundw
          case rel => exact ⟨k + 1, by omega, by go_num, HS.out (HE.out true (by simp [fieldOf, HQ.out])), by first | exact HB.out | exact (HB.out.alloc (by simpa using HZ.out) _) | exact ((HB.out.alloc HZ.out _).alloc (by have := HZ.out; simp; omega) _)⟩
          case measure => simp [intOf]; omega
        · have hq1 : (card != m) = true := by simp [hq]
          have HQ := Lib.hid hq
          clear hq
          go_wp2
          go_ret
          exact ⟨ret_bool (HN.out (HE.out false (by simp [fieldOf, HQ.out]))).symm, by first | exact HB.out | exact (HB.out.alloc (by simpa using HZ.out) _) | exact ((HB.out.alloc HZ.out _).alloc (by have := HZ.out; simp; omega) _)⟩
      · by_cases hq : card < m
        · have HQ := Lib.hid hq
          go_wp2
          go_roundw
          case rel => exact ⟨k + 1, by omega, by go_num, HS.out (HE.out true (by simp [fieldOf, HQ.out])), by first | exact HB.out | exact (HB.out.alloc (by simpa using HZ.out) _) | exact ((HB.out.alloc HZ.out _).alloc (by have := HZ.out; simp; omega) _)⟩
          case measure => simp [intOf]; omega
        · have HQ := Lib.hid hq
          go_wp2
          go_ret
          exact ⟨ret_bool (HN.out (HE.out false (by simp [fieldOf, HQ.out]))).symm, by first | exact HB.out | exact (HB.out.alloc (by simpa using HZ.out) _) | exact ((HB.out.alloc HZ.out _).alloc (by have := HZ.out; simp; omega) _)⟩
      · by_cases hq : m < card
        · have HQ := Lib.hid hq
          go_wp2
          go_roundw
          case rel => exact ⟨k + 1, by omega, by go_num, HS.out (HE.out true (by simp [fieldOf, HQ.out])), by first | exact HB.out | exact (HB.out.alloc (by simpa using HZ.out) _) | exact ((HB.out.alloc HZ.out _).alloc (by have := HZ.out; simp; omega) _)⟩
          case measure => simp [intOf]; omega
        · have HQ := Lib.hid hq
          go_wp2
          go_ret
          exact ⟨ret_bool (HN.out (HE.out false (by simp [fieldOf, HQ.out]))).symm, by first | exact HB.out | exact (HB.out.alloc (by simpa using HZ.out) _) | exact ((HB.out.alloc HZ.out _).alloc (by have := HZ.out; simp; omega) _)⟩
    · obtain rfl : k = n := by omega
      have HB := Lib.hid hbel
      clear hcell hbel
      go_wp2
      go_ret
      exact ⟨ret_bool (HT.out.all hl.out).symm, HB.out⟩

end Go.Proofs.YtmijfieiebnbfaaDoor
