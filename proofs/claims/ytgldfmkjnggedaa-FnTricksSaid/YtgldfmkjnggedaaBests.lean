/- BestsShared of both. -/
import Derived.Test.YtgldfmkjnggedaaIntSB
import Derived.Test.YtgldfmkjnggedaaTrickJ
import Derived.Deep.RegionHeld3
import Derived.Deep.AppendLies
namespace Go.Proofs.Ytgldfmkjnggedaa
open Go.RowKit
set_option linter.unusedVariables false

def rowR (xss yss : List (List Int)) (t : Int) (k : Nat) : Int × Bool := bestRes (xss.getD k []) (yss.getD k []) true t
def bestsL (xss yss : List (List Int)) (t : Int) (k : Nat) : List Int := (List.range k).map fun j => (rowR xss yss t j).1
def bestsOk (xss yss : List (List Int)) (t wk : Int) : Bool := decide (1 ≤ xss.length ∧ xss.length ≤ 8 ∧ yss.length = xss.length) && inB t (-1) 3 && inB wk 1 8 && (List.range xss.length).all fun j => (rowR xss yss t j).2
def bestsRes (xss yss : List (List Int)) (t wk : Int) : List Int × Bool := if bestsOk xss yss t wk = true then (bestsL xss yss t xss.length, true) else ([], false)
theorem bestsL_succ (xss yss : List (List Int)) (t : Int) (k : Nat) : bestsL xss yss t (k + 1) = bestsL xss yss t k ++ [(rowR xss yss t k).1] := by simp [bestsL, List.range_succ]
theorem bestsL_len (xss yss : List (List Int)) (t : Int) (k : Nat) : (bestsL xss yss t k).length = k := by simp [bestsL]
theorem bests_no {xss yss : List (List Int)} {t wk : Int} (h : ¬ (1 ≤ xss.length ∧ xss.length ≤ 8 ∧ yss.length = xss.length)) : bestsRes xss yss t wk = ([], false) := by
  unfold bestsRes bestsOk; rw [decide_eq_false h]; rfl
theorem bests_noT {xss yss : List (List Int)} {t wk : Int} (h : inB t (-1) 3 = false) : bestsRes xss yss t wk = ([], false) := by
  unfold bestsRes bestsOk; rw [h]; simp
theorem bests_noW {xss yss : List (List Int)} {t wk : Int} (h : inB wk 1 8 = false) : bestsRes xss yss t wk = ([], false) := by
  unfold bestsRes bestsOk; rw [h]; simp
theorem bests_row {xss yss : List (List Int)} {t wk : Int} {k : Nat} (hk : k < xss.length) (h : (rowR xss yss t k).2 = false) : bestsRes xss yss t wk = ([], false) := by
  have e : ((List.range xss.length).all fun j => (rowR xss yss t j).2) = false := List.all_eq_false.2 ⟨k, List.mem_range.2 hk, by rw [h]; exact Bool.false_ne_true⟩
  unfold bestsRes bestsOk; rw [e]; simp
theorem row_t {xs ys : List Int} {b : Bool} {t : Int} (h : (bestRes xs ys b t).2 = true) : inB t (-1) 3 = true := by
  unfold bestRes at h
  split at h
  · rename_i e
    unfold okGameB at e
    rw [Bool.and_eq_true] at e
    exact e.2
  · cases h
theorem bests_yes {xss yss : List (List Int)} {t wk : Int} (h : 1 ≤ xss.length ∧ xss.length ≤ 8 ∧ yss.length = xss.length) (hw : inB wk 1 8 = true) (ha : ∀ k, k < xss.length → (rowR xss yss t k).2 = true) : bestsRes xss yss t wk = (bestsL xss yss t xss.length, true) := by
  have e : ((List.range xss.length).all fun j => (rowR xss yss t j).2) = true := List.all_eq_true.2 fun k hk => ha k (List.mem_range.1 hk)
  have et : inB t (-1) 3 = true := row_t (ha 0 (by omega))
  unfold bestsRes bestsOk; rw [e, hw, et, decide_eq_true h]; rfl
theorem bestsRes_len (xss yss : List (List Int)) (t wk : Int) : (bestsRes xss yss t wk).1.length ≤ 1048576 := by
  unfold bestsRes
  split
  · rename_i e
    have : xss.length ≤ 8 := by
      unfold bestsOk at e
      simp only [Bool.and_eq_true, decide_eq_true_eq] at e
      exact e.1.1.1.2.1
    simp only [bestsL_len]; omega
  · simp

theorem areWorkers_any (x : Int) (w : World) : Calls Try.prog 30 #[.int .i64 x] w (RetS w (.bool (inB x 1 8))) := by
  go_enter Try.func30, Try.ntmps30
  go_wp2_with (fail)
  refine (within_any _ _ _ _).mono ?_
  rintro e w1 ⟨rfl, rfl⟩
  go_wp2
  go_ret
  exact ⟨rfl, rfl⟩

set_option maxHeartbeats 1600000 in
set_option maxRecDepth 100000 in
theorem implBestsShared_any (a : Option Addr) (n c : Nat) (ss : List Spot) (xss : List (List Int)) (a' : Option Addr) (n' c' : Nat) (ss' : List Spot) (yss : List (List Int)) (t wk : Int) (w : World) (h : IntSS w a n c ss xss) (h' : IntSS w a' n' c' ss' yss) (hs : ∀ i, i < n → ∃ x, (ss.getD i spot0).1 = some x) (hs' : ∀ i, i < n' → ∃ x, (ss'.getD i spot0).1 = some x) :
    Calls Try.prog 10 #[.slice a n c, .slice a' n' c', .int .i64 t, .int .i64 wk] w (RetI 2 w (bestsRes xss yss t wk)) := by
  obtain ⟨hc, hb, hcell⟩ := h.at
  obtain ⟨hc', hb', hcell'⟩ := h'.at
  have hl := h.len
  have hl' := h'.len
  have HNo : Hid (¬ (1 ≤ n ∧ n ≤ 8 ∧ n' = n) → bestsRes xss yss t wk = ([], false)) := fun e => bests_no (by rw [hl, hl']; exact e)
  have HNw : Hid (inB wk 1 8 = false → bestsRes xss yss t wk = ([], false)) := bests_noW
  by_cases hn1 : 1 ≤ n
  case neg =>
    have HR := Lib.hid (HNo.out (by omega))
    clear h h' hcell hcell' HNo HNw hl hl' hs hs'
    generalize bestsRes xss yss t wk = r at *
    go_enter Try.func10, Try.ntmps10
    go_wp2
    go_ret2
    exact RetI.nil HR.out (Below.refl _ _)
  by_cases hn8 : n ≤ 8
  case neg =>
    have HR := Lib.hid (HNo.out (by omega))
    clear h h' hcell hcell' HNo HNw hl hl' hs hs'
    generalize bestsRes xss yss t wk = r at *
    go_enter Try.func10, Try.ntmps10
    go_wp2
    go_ret2
    exact RetI.nil HR.out (Below.refl _ _)
  by_cases hnn : n' = n
  case neg =>
    have HR := Lib.hid (HNo.out (by omega))
    have hne : ((n' : Int) != n) = true := by simp only [bne_iff_ne, ne_eq]; omega
    clear h h' hcell hcell' HNo HNw hl hl' hs hs'
    generalize bestsRes xss yss t wk = r at *
    go_enter Try.func10, Try.ntmps10
    go_wp2
    go_ret2
    exact RetI.nil HR.out (Below.refl _ _)
  subst hnn
  rcases Bool.eq_false_or_eq_true (inB wk 1 8) with ew | ew
  case inr =>
    have HR := Lib.hid (HNw.out ew)
    have CW := areWorkers_any wk w
    rw [ew] at CW
    clear h h' hcell hcell' HNo HNw hl hl' hs hs'
    generalize bestsRes xss yss t wk = r at *
    go_enter Try.func10, Try.ntmps10
    go_wp2_with (fail)
    refine CW.mono ?_
    rintro e w1 ⟨rfl, rfl⟩
    go_wp2
    go_ret2
    exact RetI.nil HR.out (Below.refl _ _)
  have CW := areWorkers_any wk w
  rw [ew] at CW
  have HYes : Hid ((∀ k, k < n' → (rowR xss yss t k).2 = true) → bestsRes xss yss t wk = (bestsL xss yss t n', true)) := fun e => by
    have := bests_yes (xss := xss) (yss := yss) (t := t) (wk := wk) ⟨by omega, by omega, by omega⟩ ew (by rw [hl]; exact e)
    rw [hl] at this
    exact this
  have HRow : Hid (∀ k, k < n' → (rowR xss yss t k).2 = false → bestsRes xss yss t wk = ([], false)) := fun k hk e => bests_row (by omega) e
  have CB : Hid (∀ k, k < n' → ∀ W, Below w.heap.size w W → Calls Try.prog 7 #[.slice (ss.getD k spot0).1 (ss.getD k spot0).2.1 (ss.getD k spot0).2.2, .slice (ss'.getD k spot0).1 (ss'.getD k spot0).2.1 (ss'.getD k spot0).2.2, .bool true, .int .i64 t] W (Ret W (.tuple #[.int .i64 (rowR xss yss t k).1, .bool (rowR xss yss t k).2]))) := fun k hk W hW => by
    obtain ⟨x, hx⟩ := hs k hk
    obtain ⟨y, hy⟩ := hs' k hk
    have h1 := (h.row k hk).mono hW
    have h2 := (h'.row k hk).mono hW
    rw [hx] at h1 ⊢
    rw [hy] at h2 ⊢
    exact implTrickBest_any x _ _ _ y _ _ _ true t W h1 h2
  obtain ⟨i0, hi, hz0, hz1, hz2⟩ := info_parts infoI64
  clear h h' HNo HNw hl hl' hs hs' ew
  generalize bestsRes xss yss t wk = r at *
  go_enter Try.func10, Try.ntmps10
  go_wp2_with (fail)
  refine CW.mono ?_
  rintro e w1 ⟨rfl, rfl⟩
  clear CW
  go_wp2
  go_loopw [10, 38] (fun v i wr => ∃ k : Nat, k ≤ n' ∧ i = .int .i64 k ∧ Below w.heap.size w wr ∧ (∃ a c, v = .slice a k c ∧ wr.ownsRow w.heap.size 2 1 (.slice a k c) k (intCells (bestsL xss yss t k))) ∧ ∀ j, j < k → (rowR xss yss t j).2 = true) (fun _ i _ => n' - (intOf i).toNat)
  case atStart => exact ⟨0, by omega, rfl, (Below.refl _ _).alloc (Nat.le_refl _) _, ⟨_, _, rfl, World.ownsRow_made w #[] 0 (Nat.le_refl _) (by unfold maxLen; omega) rfl⟩, fun j hj => by omega⟩
  case round =>
    obtain ⟨k, hk, rfl, hbel, ⟨oa, oc, rfl, hown⟩, hall⟩ := hrel
    have HB := Lib.hid hbel
    have HO := Lib.hid hown
    have HA := Lib.hid hall
    clear hbel hown hall
    by_cases hlt : k < n'
    · obtain ⟨b, off, rfl, hlb, hx⟩ := hcell k hlt
      obtain ⟨b', off', rfl, hlb', hy⟩ := hcell' k hlt
      have hxk := cell_on HB.out (hx k hlt)
      have hyk := cell_on HB.out (hy k hlt)
      have CC := Lib.hid (CB.out k hlt wr HB.out)
      have HRk := Lib.hid (HRow.out k hlt)
      have HSu := Lib.hid (bestsL_succ xss yss t k)
      have HA' : Hid ((rowR xss yss t k).2 = true → ∀ j, j < k + 1 → (rowR xss yss t j).2 = true) := fun e j hj => by
        by_cases q : j = k
        · subst q; exact e
        · exact HA.out j (by omega)
      clear hx hy
      rcases hsx : ss.getD k spot0 with ⟨A, L, C⟩
      rcases hsy : ss'.getD k spot0 with ⟨A', L', C'⟩
      rw [hsx] at hxk CC
      rw [hsy] at hyk CC
      dsimp only at hxk hyk CC
      clear hsx hsy
      rcases hrw : rowR xss yss t k with ⟨v, ok⟩
      rw [hrw] at CC HRk HSu HA'
      dsimp only at CC HRk HSu HA'
      clear hrw
      cases ok
      · have HE := Lib.hid (HRk.out rfl)
        go_wp2_with (fail)
        refine CC.out.mono ?_
        rintro e w2 ⟨rfl, hb2⟩
        have HB2 := Lib.hid (HB.out.trans (hb2.mono HB.out.size))
        clear hb2 CC hxk hyk
        go_wp2
        go_ret2
        exact RetI.nil HE.out HB2.out
      · have HE := Lib.hid (HA'.out rfl)
        go_wp2_with (fail)
        refine CC.out.mono ?_
        rintro e w2 ⟨rfl, hb2⟩
        have HB2 := Lib.hid (HB.out.trans (hb2.mono HB.out.size))
        have hs2 := HB2.out.size
        have hown := ownsRow_below HO.out hb2
        clear hb2 CC hxk hyk HO
        generalize bestsL xss yss t k = Lk at *
        go_wp2_with (first | (at_builtin; go_must (refine wpList_append_own _ rfl _ _ 25 rfl w.heap.size 2 i0 (.int .i64 0) 1 8 Try.underlying25 hi hz0 hz1 hz2 rfl (by decide) _ _ _ rfl (hown.alloc _) ⟨w2.heap.size, 0, none⟩ 1 1 [.int .i64 v] rfl rfl (new1 _ _ _) (one1 rfl) (by unfold maxLen; omega) (by omega) (by simp; omega) ?_); intro v' w5 hown1 hg1 _))
        have HB5 := Lib.hid (below_app HB2.out hs2 hg1 hown)
        obtain ⟨a5, c5, rfl⟩ := own_form hown1
        have HO5 : Hid (w5.ownsRow w.heap.size 2 1 (.slice a5 (k + 1) c5) (k + 1) (intCells (bestsL xss yss t (k + 1)))) := by show World.ownsRow _ _ _ _ _ _ _; rw [HSu.out, intCells_snoc]; exact hown1
        clear hown1 hg1 hown
        go_wp2
        go_roundw
        case rel => exact ⟨k + 1, by omega, by go_num, HB5.out, ⟨a5, c5, rfl, HO5.out⟩, HE.out⟩
        case measure => simp [intOf]; omega
    · obtain rfl : k = n' := by omega
      have HE := Lib.hid (HYes.out HA.out)
      clear hcell hcell'
      generalize bestsL xss yss t k = Lk at *
      go_wp2
      go_ret2
      exact RetI.ok HE.out HB.out HO.out

end Go.Proofs.Ytgldfmkjnggedaa
