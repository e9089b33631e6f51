/- Tiles: AreTiles of both. -/
import Derived.Test.YtnagmeeoeilbcaaLongA
import Derived.Test.YtnagmeeoeilbcaaBasic
import Derived.Test.YtnagmeeoeilbcaaTile
import Derived.Test.YtnagmeeoeilbcaaSlTile
import Derived.Test.YtnagmeeoeilbcaaRet
import Derived.Shelf.Abstract
namespace Go.Proofs.Ytnagmeeoeilbcaa
open Go.RowKit Go.Shelf
set_option linter.unusedVariables false

def okTile (x y : Int) : Bool := inB x 0 6 && inB y 0 6
def okTile2 (g : Int × Int) : Bool := okTile g.1 g.2
def okTiles (ts : List (Int × Int)) : Bool := decide (1 ≤ ts.length) && (decide (ts.length ≤ 8) && ts.all okTile2)
theorem okTiles_iff (ts : List (Int × Int)) : okTiles ts = true ↔ 1 ≤ ts.length ∧ ts.length ≤ 8 ∧ ∀ g ∈ ts, okTile2 g = true := by simp [okTiles]
theorem okTile2_at {ts : List (Int × Int)} (h : ∀ g ∈ ts, okTile2 g = true) {i : Nat} (hi : i < ts.length) : 0 ≤ (ts.getD i (0, 0)).1 ∧ (ts.getD i (0, 0)).1 ≤ 6 ∧ 0 ≤ (ts.getD i (0, 0)).2 ∧ (ts.getD i (0, 0)).2 ≤ 6 := by
  have hm : ts.getD i (0, 0) ∈ ts := by
    simp only [List.getD_eq_getElem?_getD, List.getElem?_eq_getElem hi, Option.getD_some]
    exact List.getElem_mem _
  have := h _ hm
  simp only [okTile2, okTile, Bool.and_eq_true, inB_iff] at this
  exact ⟨this.1.1, this.1.2, this.2.1, this.2.2⟩
theorem tA_lt {ts : List (Int × Int)} (h : ∀ g ∈ ts, okTile2 g = true) {i : Nat} (hi : i < ts.length) : tA ts i < 7 ∧ tB ts i < 7 ∧ (ts.getD i (0, 0)).1 = (tA ts i : Nat) ∧ (ts.getD i (0, 0)).2 = (tB ts i : Nat) := by
  have := okTile2_at h hi
  unfold tA tB
  omega

theorem AreTiles1_any (x y : Int) (w : World) : Calls Try.prog 34 #[.agg #[.int .i64 x, .int .i64 y]] w (Ret w (.bool (!okTile2 (x, y)))) := by
  have HE : Hid (okTile2 (x, y) = (inB x 0 6 && inB y 0 6)) := rfl
  rcases Bool.eq_false_or_eq_true (inB x 0 6) with e0 | e0 <;> rcases Bool.eq_false_or_eq_true (inB y 0 6) with e1 | e1
  all_goals
    go_enter Try.func34, Try.ntmps34
    go_wp2_with (first | (go_at_call 24; refine (within_any _ _ _ _).mono ?_; rintro e w' ⟨rfl, rfl⟩))
    go_ret
    exact ⟨ret_bool (by rw [HE.out]; simp [e0, e1]), (Below.refl _ _).alloc (Nat.le_refl _) _⟩

theorem tiles_any_not (gs : List (Int × Int)) : (gs.any fun g => !okTile2 g) = !gs.all okTile2 := by
  induction gs with
  | nil => rfl
  | cons g gs ih => simp [ih]

theorem AreTiles_any (a : Option Addr) (n c : Nat) (gs : List (Int × Int)) (w : World) (h : Duos w a n c gs) :
    Calls Try.prog 15 #[.slice a n c] w (Ret w (.bool (okTiles gs))) := by
  have HD : Hid (okTiles gs = (decide (1 ≤ gs.length) && (decide (gs.length ≤ 8) && gs.all okTile2))) := rfl
  have hl := Lib.hid h.len
  obtain ⟨hc, hb, _⟩ := h.at
  have C := containsFuncTile_any (fun g => !okTile2 g) 34 #[] (enters_of Try.func34 (by kernel_rfl) rfl) a n c gs w h
    (fun W _ g _ => AreTiles1_any g.1 g.2 W)
  rw [tiles_any_not] at C
  have HC := Lib.hid C
  clear C h
  by_cases hn1 : 1 ≤ n
  · by_cases hn6 : n ≤ 8
    · go_enter Try.func15, Try.ntmps15
      go_wp2_with (fail)
      refine HC.out.mono ?_
      rintro e w1 ⟨rfl, hb1⟩
      have HB := Lib.hid hb1
      clear hb1
      go_wp2
      go_ret
      exact ⟨ret_bool (by rw [HD.out, hl.out]; simp [hn1, hn6] <;> omega), HB.out⟩
    · go_enter Try.func15, Try.ntmps15
      go_wp2
      go_ret
      exact ⟨ret_bool (by rw [HD.out, hl.out]; simp [hn6]), Below.refl _ _⟩
  · go_enter Try.func15, Try.ntmps15
    go_wp2
    go_ret
    exact ⟨ret_bool (by rw [HD.out, hl.out]; simp [hn1]), Below.refl _ _⟩

end Go.Proofs.Ytnagmeeoeilbcaa
