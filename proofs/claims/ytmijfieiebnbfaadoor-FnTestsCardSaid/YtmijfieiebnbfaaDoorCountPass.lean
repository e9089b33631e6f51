/- CountPassing of both. -/
import Derived.Test.YtmijfieiebnbfaaDoorTestsC
import Derived.Test.YtmijfieiebnbfaaDoorRet
namespace Go.Proofs.YtmijfieiebnbfaaDoor
open Go.RowKit Go.Shelf
set_option linter.unusedVariables false

def cardOk (card : Int) : Bool := inB card 0 51
/-- how many of the cards pass -/
def passCount (gs : List (Int × Int × Int)) : List Int → Int
  | [] => 0
  | x :: xs => (if gs.all (passT x) then 1 else 0) + passCount gs xs
theorem passCount_snoc (gs : List (Int × Int × Int)) (xs : List Int) (x : Int) : passCount gs (xs ++ [x]) = passCount gs xs + (if gs.all (passT x) then 1 else 0) := by
  induction xs with
  | nil => simp [passCount]
  | cons y ys ih => simp only [List.cons_append, passCount, ih]; omega
theorem passCount_bd (gs : List (Int × Int × Int)) (xs : List Int) : 0 ≤ passCount gs xs ∧ passCount gs xs ≤ xs.length := by
  induction xs with
  | nil => simp [passCount]
  | cons y ys ih => simp only [passCount, List.length_cons]; split <;> omega
/-- what CountPassing tells -/
def countRes (gs : List (Int × Int × Int)) (xs : List Int) : Int × Bool := if okTests gs && (decide (xs.length ≤ 52) && xs.all cardOk) then (passCount gs xs, true) else (0, false)

set_option maxHeartbeats 1000000 in
theorem implCountPassing_any (a : Option Addr) (n c : Nat) (gs : List (Int × Int × Int)) (b : Option Addr) (m d : Nat) (xs : List Int) (w : World) (h : Trips w a n c gs) (k : Ints w b m d xs) :
    Calls Tryd.prog 20 #[.slice a n c, .slice b m d] w (Ret w (.tuple #[.int .i64 (countRes gs xs).1, .bool (countRes gs xs).2])) := by
  have HD : Hid (countRes gs xs = if okTests gs && (decide (xs.length ≤ 52) && xs.all cardOk) then (passCount gs xs, true) else (0, false)) := rfl
  obtain ⟨hc, hb, hcell⟩ := k.at
  have hl := Lib.hid k.len
  rcases Bool.eq_false_or_eq_true (okTests gs) with e0 | e0
  · by_cases hm : m ≤ 52
    · have HV := Lib.hid (okTests_all e0)
      go_enter Tryd.func20, Tryd.ntmps20
      go_wp2_with (first | (go_at_call 25; refine (areTests_any _ _ _ _ _ h).mono ?_; rintro e w1 ⟨rfl, hb1⟩))
      go_loopw [6, 19] (fun CNT i wr => ∃ j : Nat, j ≤ m ∧ i = .int .i64 j ∧ CNT = .int .i64 (passCount gs (xs.take j)) ∧ AllTo cardOk 0 xs j ∧ Below w.heap.size w wr) (fun _ i _ => m - (intOf i).toNat)
      case atStart => exact ⟨0, by omega, rfl, rfl, AllTo.zero _ _ _, hb1⟩
      case round =>
        obtain ⟨j, hj, rfl, rfl, hto, hbel⟩ := hrel
        have HT := Lib.hid hto
        clear hto
        by_cases hlt : j < m
        · obtain ⟨b, off, rfl, hlb, hx⟩ := hcell j hlt
          have h0 := cell_on hbel (hx j hlt)
          have HB := Lib.hid hbel
          have HS : Hid (cardOk (xs.getD j 0) = true → AllTo cardOk 0 xs (j + 1)) := fun e => HT.out.succ e
          have HN : Hid (cardOk (xs.getD j 0) = false → xs.all cardOk = false) := fun e => all_not (by rw [hl.out]; exact hlt) e
          have HP : Hid (passCount gs (xs.take (j + 1)) = passCount gs (xs.take j) + (if gs.all (passT (xs.getD j 0)) then 1 else 0)) := by
            have hjx : j < xs.length := by rw [hl.out]; exact hlt
            show passCount gs (xs.take (j + 1)) = _
            rw [List.take_succ_eq_append_getElem hjx, passCount_snoc, show xs.getD j 0 = xs[j] from by simp [hjx]]
          have hbd := passCount_bd gs (xs.take j)
          have hbl : (xs.take j).length ≤ j := List.length_take_le _ _
          have hT := HB.out.size
          clear hcell hx hbel
          generalize xs.getD j 0 = x at *
          generalize passCount gs (xs.take j) = C at *
          rcases Bool.eq_false_or_eq_true (cardOk x) with ec | ec
          · obtain ⟨c0, c1⟩ := (inB_iff _ _ _).1 ec
            have ec' : inB x 0 51 = true := ec
            have h2 := h.mono HB.out
            rcases Bool.eq_false_or_eq_true (gs.all (passT x)) with ep | ep
            · go_wp2_with (first | (go_at_call 37; refine (within_any _ _ _ _).mono ?_; rintro e w' ⟨rfl, rfl⟩) | (go_at_call 38; refine (implPasses_any _ _ _ _ _ _ h2 HV.out c0 c1).mono ?_; rintro e w2 ⟨rfl, hb2⟩))
              go_roundw
              case rel => exact ⟨j + 1, by omega, by go_num, by rw [HP.out, if_pos ep], HS.out ec, HB.out.trans (hb2.mono HB.out.size)⟩
              case measure => simp [intOf]; omega
            · go_wp2_with (first | (go_at_call 37; refine (within_any _ _ _ _).mono ?_; rintro e w' ⟨rfl, rfl⟩) | (go_at_call 38; refine (implPasses_any _ _ _ _ _ _ h2 HV.out c0 c1).mono ?_; rintro e w2 ⟨rfl, hb2⟩))
              go_roundw
              case rel => exact ⟨j + 1, by omega, by go_num, by rw [HP.out, if_neg (by simp [ep])]; simp, HS.out ec, HB.out.trans (hb2.mono HB.out.size)⟩
              case measure => simp [intOf]; omega
          · have ec' : inB x 0 51 = false := ec
            go_wp2_with (first | (go_at_call 37; refine (within_any _ _ _ _).mono ?_; rintro e w' ⟨rfl, rfl⟩))
            go_ret2
            exact ⟨ret_ib (by rw [HD.out, HN.out ec]; simp), HB.out⟩
        · obtain rfl : j = m := by omega
          have HB := Lib.hid hbel
          clear hcell hbel
          go_wp2
          go_ret2
          exact ⟨ret_ib (by rw [HD.out, HT.out.all hl.out, hl.out, List.take_of_length_le (by rw [hl.out]; exact Nat.le_refl _)]; simp [e0, hm]), HB.out⟩
    · go_enter Tryd.func20, Tryd.ntmps20
      go_wp2_with (first | (go_at_call 25; refine (areTests_any _ _ _ _ _ h).mono ?_; rintro e w1 ⟨rfl, hb1⟩))
      go_ret2
      exact ⟨ret_ib (by rw [HD.out, hl.out]; simp [hm]), hb1⟩
  · go_enter Tryd.func20, Tryd.ntmps20
    go_wp2_with (first | (go_at_call 25; refine (areTests_any _ _ _ _ _ h).mono ?_; rintro e w1 ⟨rfl, hb1⟩))
    go_ret2
    exact ⟨ret_ib (by rw [HD.out]; simp [e0]), hb1⟩

end Go.Proofs.YtmijfieiebnbfaaDoor
