/- Tests: which cards pass, of both. -/
import Derived.Test.YtmijfieiebnbfaaDoorL7Tests
import Derived.Test.YtmijfieiebnbfaaDoorSlTest
import Derived.Shelf.Abstract
namespace Go.Proofs.YtmijfieiebnbfaaDoor
open Go.RowKit Go.Shelf

def okTest3 (g : Int × Int × Int) : Bool := okTest g.1 g.2.1 g.2.2
/-- the number of a card that a field asks for -/
def fieldOf (f card : Int) : Int := if f = 0 then card % 13 else if f = 1 then card / 13 else card
def passT (card : Int) (g : Int × Int × Int) : Bool := if g.2.1 = 0 then decide (fieldOf g.1 card = g.2.2) else if g.2.1 = 1 then decide (fieldOf g.1 card < g.2.2) else decide (g.2.2 < fieldOf g.1 card)
theorem okTest3_cases {g : Int × Int × Int} (h : okTest3 g = true) : (g.1 = 0 ∨ g.1 = 1 ∨ g.1 = 2) ∧ (g.2.1 = 0 ∨ g.2.1 = 1 ∨ g.2.1 = 2) ∧ 0 ≤ g.2.2 ∧ g.2.2 ≤ 51 := by
  simp only [okTest3, okTest, Bool.and_eq_true, inB_iff] at h
  omega

set_option maxHeartbeats 2000000 in
theorem l07Passes_any (a : Option Addr) (n c : Nat) (gs : List (Int × Int × Int)) (card : Int) (w : World) (h : Trips w a n c gs) (hv : ∀ g ∈ gs, okTest3 g = true) (hc0 : 0 ≤ card) (hc1 : card ≤ 51) :
    Calls Tryd.prog 40 #[.slice a n c, .int .i64 card] w (Ret w (.bool (gs.all (passT card)))) := by
  obtain ⟨hc, hb, hcell⟩ := h.at
  have hl := Lib.hid h.len
  have HV := Lib.hid hv
  clear h hv
  have hd : card / 13 ≤ 3 := by omega
  have hd0 : 0 ≤ card / 13 := by omega
  go_enter Tryd.func40, Tryd.ntmps40
  go_wp2
  go_loopw [10] (fun i wr => ∃ k : Nat, k ≤ n ∧ i = .int .i64 k ∧ AllTo (passT card) (0, 0, 0) gs k ∧ Below w.heap.size w wr) (fun i _ => n - (intOf i).toNat)
  case atStart => exact ⟨0, by omega, rfl, AllTo.zero _ _ _, Below.refl _ _⟩
  case round =>
    obtain ⟨k, hk, rfl, hto, hbel⟩ := hrel
    have HT := Lib.hid hto
    clear hto
    by_cases hlt : k < n
    · obtain ⟨b, off, rfl, hlb, hx⟩ := hcell k hlt
      obtain ⟨h0', h1', h2'⟩ := hx k hlt
      have h0 := cell_on hbel h0'
      have h1 := cell_on hbel h1'
      have h2 := cell_on hbel h2'
      have hlw : b < wr.heap.size := Nat.lt_of_lt_of_le hlb hbel.size
      have HB := Lib.hid hbel
      have HZ := Lib.hid hbel.size
      have HS : Hid (passT card (gs.getD k (0, 0, 0)) = true → AllTo (passT card) (0, 0, 0) gs (k + 1)) := fun e => HT.out.succ e
      have HN : Hid (passT card (gs.getD k (0, 0, 0)) = false → gs.all (passT card) = false) := fun e => all_not (by rw [hl.out]; exact hlt) e
      have HK : Hid (okTest3 (gs.getD k (0, 0, 0)) = true) := HV.out _ (getD_mem (by rw [hl.out]; exact hlt))
      clear hcell hx hbel h0' h1' h2'
      generalize gs.getD k (0, 0, 0) = g at *
      obtain ⟨f, s, m⟩ := g
      obtain ⟨cf, cs, cm, cm'⟩ := okTest3_cases HK.out
      simp only at h0 h1 h2 cf cs cm cm'
      have HE : Hid (∀ b : Bool, b = (if s = 0 then decide (fieldOf f card = m) else if s = 1 then decide (fieldOf f card < m) else decide (m < fieldOf f card)) → passT card (f, s, m) = b) := fun b e => by rw [e]; rfl
      rcases cf with rfl | rfl | rfl <;> rcases cs with rfl | rfl | rfl
      · by_cases hq : card % 13 = m
        · have hq1 : (card % 13 != m) = false := by simp [hq]
          have HQ := Lib.hid hq
          clear hq
          go_wp2
          go_roundw
          case rel => exact ⟨k + 1, by omega, by go_num, HS.out (HE.out true (by simp [fieldOf, HQ.out])), HB.out⟩
          case measure => simp [intOf]; omega
        · have hq1 : (card % 13 != m) = true := by simp [hq]
          have HQ := Lib.hid hq
          clear hq
          go_wp2
          go_ret
          exact ⟨ret_bool (HN.out (HE.out false (by simp [fieldOf, HQ.out]))).symm, HB.out⟩
      · by_cases hq : card % 13 < m
        · have HQ := Lib.hid hq
          go_wp2
          go_roundw
          case rel => exact ⟨k + 1, by omega, by go_num, HS.out (HE.out true (by simp [fieldOf, HQ.out])), HB.out⟩
          case measure => simp [intOf]; omega
        · have HQ := Lib.hid hq
          go_wp2
          go_ret
          exact ⟨ret_bool (HN.out (HE.out false (by simp [fieldOf, HQ.out]))).symm, HB.out⟩
      · by_cases hq : m < card % 13
        · have HQ := Lib.hid hq
          go_wp2
          go_roundw
          case rel => exact ⟨k + 1, by omega, by go_num, HS.out (HE.out true (by simp [fieldOf, HQ.out])), HB.out⟩
          case measure => simp [intOf]; omega
        · have HQ := Lib.hid hq
          go_wp2
          go_ret
          exact ⟨ret_bool (HN.out (HE.out false (by simp [fieldOf, HQ.out]))).symm, HB.out⟩
      · by_cases hq : card / 13 = m
        · have hq1 : (card / 13 != m) = false := by simp [hq]
          have HQ := Lib.hid hq
          clear hq
          go_wp2
          go_roundw
          case rel => exact ⟨k + 1, by omega, by go_num, HS.out (HE.out true (by simp [fieldOf, HQ.out])), HB.out⟩
          case measure => simp [intOf]; omega
        · have hq1 : (card / 13 != m) = true := by simp [hq]
          have HQ := Lib.hid hq
          clear hq
          go_wp2
          go_ret
          exact ⟨ret_bool (HN.out (HE.out false (by simp [fieldOf, HQ.out]))).symm, HB.out⟩
      · by_cases hq : card / 13 < m
        · have HQ := Lib.hid hq
          go_wp2
          go_roundw
          case rel => exact ⟨k + 1, by omega, by go_num, HS.out (HE.out true (by simp [fieldOf, HQ.out])), HB.out⟩
          case measure => simp [intOf]; omega
        · have HQ := Lib.hid hq
          go_wp2
          go_ret
          exact ⟨ret_bool (HN.out (HE.out false (by simp [fieldOf, HQ.out]))).symm, HB.out⟩
      · by_cases hq : m < card / 13
        · have HQ := Lib.hid hq
          go_wp2
          go_roundw
          case rel => exact ⟨k + 1, by omega, by go_num, HS.out (HE.out true (by simp [fieldOf, HQ.out])), HB.out⟩
          case measure => simp [intOf]; omega
        · have HQ := Lib.hid hq
          go_wp2
          go_ret
          exact ⟨ret_bool (HN.out (HE.out false (by simp [fieldOf, HQ.out]))).symm, HB.out⟩
      · by_cases hq : card = m
        · have hq1 : (card != m) = false := by simp [hq]
          have HQ := Lib.hid hq
          clear hq
          go_wp2
          go_roundw
          case rel => exact ⟨k + 1, by omega, by go_num, HS.out (HE.out true (by simp [fieldOf, HQ.out])), HB.out⟩
          case measure => simp [intOf]; omega
        · have hq1 : (card != m) = true := by simp [hq]
          have HQ := Lib.hid hq
          clear hq
          go_wp2
          go_ret
          exact ⟨ret_bool (HN.out (HE.out false (by simp [fieldOf, HQ.out]))).symm, HB.out⟩
      · by_cases hq : card < m
        · have HQ := Lib.hid hq
          go_wp2
          go_roundw
          case rel => exact ⟨k + 1, by omega, by go_num, HS.out (HE.out true (by simp [fieldOf, HQ.out])), HB.out⟩
          case measure => simp [intOf]; omega
        · have HQ := Lib.hid hq
          go_wp2
          go_ret
          exact ⟨ret_bool (HN.out (HE.out false (by simp [fieldOf, HQ.out]))).symm, HB.out⟩
      · by_cases hq : m < card
        · have HQ := Lib.hid hq
          go_wp2
          go_roundw
          case rel => exact ⟨k + 1, by omega, by go_num, HS.out (HE.out true (by simp [fieldOf, HQ.out])), HB.out⟩
          case measure => simp [intOf]; omega
        · have HQ := Lib.hid hq
          go_wp2
          go_ret
          exact ⟨ret_bool (HN.out (HE.out false (by simp [fieldOf, HQ.out]))).symm, HB.out⟩
    · obtain rfl : k = n := by omega
      have HB := Lib.hid hbel
      clear hcell hbel
      go_wp2
      go_ret
      exact ⟨ret_bool (HT.out.all hl.out).symm, HB.out⟩

end Go.Proofs.YtmijfieiebnbfaaDoor
