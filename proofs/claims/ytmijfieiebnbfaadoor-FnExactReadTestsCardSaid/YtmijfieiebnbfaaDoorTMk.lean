/- Marks on rows of tests, and that they are held. -/
import Derived.Test.YtmijfieiebnbfaaDoorTest
import Derived.Test.YtmijfieiebnbfaaDoorChg
namespace Go.Proofs.YtmijfieiebnbfaaDoor
open Go.RowKit
set_option linter.unusedVariables false

theorem trip_set (hs : List (Int × Int × Int)) : ∀ k, k < hs.length → ∀ a b c : Int, (((tripCells hs).set (k * 3) (.int .i64 a)).set (k * 3 + 1) (.int .i64 b)).set (k * 3 + 2) (.int .i64 c) = tripCells (hs.set k (a, b, c)) := by
  induction hs with
  | nil => intro k h; exact absurd h (Nat.not_lt_zero _)
  | cons g r ih =>
    intro k h a b c
    cases k with
    | zero => rfl
    | succ k =>
      have e : (k + 1) * 3 = k * 3 + 3 := by omega
      have h2 := ih k (by simp at h; omega) a b c
      rw [e]
      show ((([Value.int .i64 g.1, .int .i64 g.2.1, .int .i64 g.2.2] ++ tripCells r).set (k * 3 + 3) _).set (k * 3 + 3 + 1) _).set (k * 3 + 3 + 2) _ = [Value.int .i64 g.1, .int .i64 g.2.1, .int .i64 g.2.2] ++ tripCells (r.set k (a, b, c))
      rw [← h2]
      rfl
/-- the test with the marks from y on -/
def tm3 (y : Int) : Int × Int × Int := (y, y + 1, y + 2)
def TMk (x : Int) (k : Nat) (hs : List (Int × Int × Int)) : Prop := ∀ i, i < k → hs.getD i (0, 0, 0) = tm3 (x + 3 * i)
theorem TMk.step {x : Int} {k : Nat} {hs : List (Int × Int × Int)} (h : TMk x k hs) (hk : k < hs.length) : TMk x (k + 1) (hs.set k (tm3 (x + 3 * k))) := fun i hi => by
  by_cases q : i = k
  · subst q
    rw [List.getD_eq_getElem?_getD, List.getElem?_set_self hk]
    rfl
  · rw [List.getD_eq_getElem?_getD, List.getElem?_set_ne (Ne.symm q), ← List.getD_eq_getElem?_getD]
    exact h i (by omega)

set_option maxHeartbeats 800000 in
theorem markTestS2_any (B g n c : Nat) (gs : List (Int × Int × Int)) (x : Int) (w : World) (h : w.ownsRow B 38 3 (.slice (some ⟨g, 0, none⟩) n c) n (tripCells gs)) (hn : n ≤ 1048576) (hx : 0 ≤ x) (hx' : x ≤ 1000000000000) :
    Calls Tryd.prog 13 #[.slice (some ⟨g, 0, none⟩) n c, .int .i64 x] w fun e w' => e = .returned (.int .i64 (x + 3 * n)) ∧ w.grownBy w' (some g) ∧ ∃ hs, w'.ownsRow B 38 3 (.slice (some ⟨g, 0, none⟩) n c) n (tripCells hs) ∧ TMk x n hs := by
  have hnc : n ≤ c := (Rd.own h : Rd w _ n c 3 _).2.1
  have hgl : gs.length = n := (show Trips w (some ⟨g, 0, none⟩) n c gs from Rd.own h).len
  have HO1 := Lib.hid h
  clear h
  go_enter Tryd.func13, Tryd.ntmps13
  go_wp2
  go_loopw [1, 5] (fun m i wr => ∃ (k : Nat) (hs : List (Int × Int × Int)), k ≤ n ∧ i = .int .i64 k ∧ m = .int .i64 (x + 3 * k) ∧ hs.length = n ∧ wr.ownsRow B 38 3 (.slice (some ⟨g, 0, none⟩) n c) n (tripCells hs) ∧ w.grownBy wr (some g) ∧ Hid (TMk x k hs)) (fun _ i _ => n - (intOf i).toNat)
  case atStart => exact ⟨0, gs, by omega, rfl, by simp, hgl, HO1.out, World.grownBy.refl _ _, fun i hi => absurd hi (Nat.not_lt_zero _)⟩
  case round =>
    obtain ⟨k, hs, hk, rfl, rfl, hlen, hown, hgr, HM⟩ := hrel
    have HG := Lib.hid hgr
    have HO := Lib.hid hown
    clear hgr
    by_cases hlt : k < n
    · obtain ⟨q0, c0⟩ : ∃ q, wr.cell? ⟨g, k * 3, none⟩ = some q := ⟨_, (hown.cellAt (k * 3) (by omega)).trans (List.getElem?_eq_getElem (by have := hown.1; omega))⟩
      obtain ⟨q1, c1⟩ : ∃ q, wr.cell? ⟨g, k * 3 + 1, none⟩ = some q := ⟨_, (hown.cellAt (k * 3 + 1) (by omega)).trans (List.getElem?_eq_getElem (by have := hown.1; omega))⟩
      obtain ⟨q2, c2⟩ : ∃ q, wr.cell? ⟨g, k * 3 + 2, none⟩ = some q := ⟨_, (hown.cellAt (k * 3 + 2) (by omega)).trans (List.getElem?_eq_getElem (by have := hown.1; omega))⟩
      have f := fun j => hown.frozenAt j
      have HS := Lib.hid (trip_set hs k (by omega) (x + 3 * k) (x + 3 * k + 1) (x + 3 * k + 2))
      have HM2 := Lib.hid (HM.out.step (by omega))
      clear hown
      go_wp2
      go_roundw
      case rel =>
        have g0 := HO.out.stored (k * 3) (.int .i64 (x + 3 * k))
        have g1 := g0.1.stored (k * 3 + 1) (.int .i64 (x + 3 * k + 1))
        have g2 := g1.1.stored (k * 3 + 2) (.int .i64 (x + 3 * k + 2))
        exact ⟨k + 1, hs.set k (tm3 (x + 3 * k)), by omega, by go_num, by go_num, by rw [List.length_set]; exact hlen, by rw [show tm3 (x + 3 * (k : Int)) = (x + 3 * (k : Int), x + 3 * (k : Int) + 1, x + 3 * (k : Int) + 2) from rfl, ← HS.out]; simpa [Int.add_assoc] using g2.1, by simpa [Int.add_assoc] using HG.out.trans (g0.2.trans (g1.2.trans g2.2)), HM2.out⟩
      case measure => simp [intOf]; omega
    · obtain rfl : k = n := by omega
      clear hown
      go_wp2
      go_ret
      exact ⟨ret_int (by omega), HG.out, hs, HO.out, HM.out⟩

set_option maxHeartbeats 800000 in
theorem heldTestS2_any (a : Option Addr) (n c : Nat) (hs : List (Int × Int × Int)) (x : Int) (w : World) (h : Trips w a n c hs) (hm : TMk x n hs) (hn : n ≤ 1048576) (hx : 0 ≤ x) (hx' : x ≤ 1000000000000) :
    Calls Tryd.prog 14 #[.slice a n c, .int .i64 x] w (RetS w (.int .i64 (x + 3 * n))) := by
  obtain ⟨hc, hb, hcell⟩ := h.at
  have HC := Lib.hid hcell
  have HM := Lib.hid hm
  clear h hcell hm
  go_enter Tryd.func14, Tryd.ntmps14
  go_wp2
  go_loop [1, 5] (fun m i => ∃ k : Nat, k ≤ n ∧ i = .int .i64 k ∧ m = .int .i64 (x + 3 * k)) (fun _ i => n - (intOf i).toNat)
  case atStart => exact ⟨0, by omega, rfl, by simp⟩
  case round =>
    obtain ⟨k, hk, rfl, rfl⟩ := hrel
    by_cases hlt : k < n
    · obtain ⟨b, off, rfl, hlb, hx2⟩ := HC.out k hlt
      obtain ⟨y0, y1, y2⟩ := hx2 k hlt
      rw [HM.out k hlt] at y0 y1 y2
      dsimp only [tm3] at y0 y1 y2
      clear hx2
      go_wp2
      go_round
      case rel => exact ⟨k + 1, by omega, by go_num, by first | rfl | go_num⟩
      case measure => simp [intOf]; omega
    · obtain rfl : k = n := by omega
      go_wp2
      go_ret
      exact ⟨ret_int (by omega), rfl⟩

end Go.Proofs.YtmijfieiebnbfaaDoor
