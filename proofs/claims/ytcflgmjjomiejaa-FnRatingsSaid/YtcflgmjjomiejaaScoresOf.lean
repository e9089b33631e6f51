/- ScoresOf of both. -/
import Derived.Test.YtcflgmjjomiejaaScM
import Derived.Test.YtcflgmjjomiejaaL7GamesB
namespace Go.Proofs.Ytcflgmjjomiejaa
open Go.RowKit

/-- what ScoresOf tells -/
def scoresRes (p : Int) (gs : List (Int × Int × Int)) : List Int × Bool := if okGames p gs then (tally scorePs p.toNat gs, true) else ([], false)
theorem scoresRes_len (p : Int) (gs : List (Int × Int × Int)) : (scoresRes p gs).1.length ≤ 1048576 := by
  unfold scoresRes
  split
  · rename_i h
    obtain ⟨⟨_, h1⟩, _⟩ := okGames_all h
    dsimp only
    rw [tally_len]
    omega
  · simp

theorem implScoresOf_any (p : Int) (a : Option Addr) (n c : Nat) (gs : List (Int × Int × Int)) (w : World) (h : Trips w a n c gs) :
    Calls Try.prog 16 #[.int .i64 p, .slice a n c] w (RetI 2 w (scoresRes p gs)) := by
  have hl := h.len
  rcases Bool.eq_false_or_eq_true (okGames p gs) with e0 | e0
  · have HR : Hid (scoresRes p gs = (tally scorePs p.toNat gs, true)) := if_pos e0
    obtain ⟨⟨p1, p2⟩, p3, p4⟩ := okGames_all e0
    obtain ⟨q, rfl⟩ : ∃ q : Nat, p = (q : Int) := ⟨p.toNat, by omega⟩
    have H4 := Lib.hid p4
    clear p4 hl
    go_enter Try.func16, Try.ntmps16
    go_wp2_with (fail)
    refine (implAreGames_any _ _ _ _ _ _ h).mono ?_
    rintro e w1 ⟨rfl, hb1⟩
    skip
    have h1 := h.mono hb1
    go_wp2_with (fail)
    refine (scoresOf_any q _ _ _ _ _ h1 (by omega) (by have := h1.len; omega) H4.out).mono ?_
    rintro e w2 ⟨g, rfl, hb2, ho⟩
    have HB := Lib.hid (hb1.trans (hb2.mono hb1.size))
    have HO := Lib.hid (ownsRow_low ho hb1.size)
    clear ho hb1 hb2 h h1
    go_wp2
    go_ret2
    exact RetI.ok HR.out HB.out HO.out
  · have HR : Hid (scoresRes p gs = ([], false)) := by show (if okGames p gs then _ else _) = _; rw [e0]; rfl
    clear hl
    go_enter Try.func16, Try.ntmps16
    go_wp2_with (fail)
    refine (implAreGames_any _ _ _ _ _ _ h).mono ?_
    rintro e w1 ⟨rfl, hb1⟩
    skip
    clear h
    go_wp2
    go_ret2
    exact RetI.nil HR.out hb1

end Go.Proofs.Ytcflgmjjomiejaa
