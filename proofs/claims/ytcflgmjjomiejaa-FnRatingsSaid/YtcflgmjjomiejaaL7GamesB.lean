/- Games: AreGames of both. -/
import Derived.Test.YtcflgmjjomiejaaL7Games
import Derived.Test.YtcflgmjjomiejaaSlGame
import Derived.Shelf.Abstract
namespace Go.Proofs.Ytcflgmjjomiejaa
open Go.RowKit Go.Shelf

theorem AreGames1_any (p g0 g1 g2 : Int) (b off : Nat) (w : World) (hp : 2 ≤ p) (hp' : p ≤ 16) (hc : w.cell? ⟨b, off, none⟩ = some (.int .i64 p)) :
    Calls Try.prog 41 #[.agg #[.int .i64 g0, .int .i64 g1, .int .i64 g2], .pointer (some ⟨b, off, none⟩)] w (Ret w (.bool (!okGame p (g0, g1, g2)))) := by
  have HE : Hid (okGame p (g0, g1, g2) = (inB g0 0 (p - 1) && inB g1 0 (p - 1) && !(g0 == g1) && inB g2 0 2)) := rfl
  have hc' := cell_on (w' := w.alloc (.cells #[.int .i64 g0, .int .i64 g1, .int .i64 g2] 55)) ((Below.refl _ _).alloc (Nat.le_refl _) _) hc
  rcases Bool.eq_false_or_eq_true (inB g0 0 (p - 1)) with e0 | e0 <;> rcases Bool.eq_false_or_eq_true (inB g1 0 (p - 1)) with e1 | e1 <;> rcases Bool.eq_false_or_eq_true (g0 == g1) with e2 | e2 <;> rcases Bool.eq_false_or_eq_true (inB g2 0 2) with e3 | e3
  all_goals
    go_enter Try.func41, Try.ntmps41
    go_wp2_with (first | (go_at_call 39; refine (within_any _ _ _ _).mono ?_; rintro e w' ⟨rfl, rfl⟩))
    go_ret
    exact ⟨ret_bool (by rw [HE.out]; simp [e0, e1, e2, e3]), (Below.refl _ _).alloc (Nat.le_refl _) _⟩

theorem games_any_not (p : Int) (gs : List (Int × Int × Int)) : (gs.any fun g => !okGame p g) = !gs.all (okGame p) := by
  induction gs with
  | nil => rfl
  | cons g gs ih => simp [ih]

theorem implAreGames_any (p : Int) (a : Option Addr) (n c : Nat) (gs : List (Int × Int × Int)) (w : World) (h : Trips w a n c gs) :
    Calls Try.prog 11 #[.int .i64 p, .slice a n c] w (Ret w (.bool (okGames p gs))) := by
  have HD : Hid (okGames p gs = (inB p 2 16 && decide (gs.length ≤ 128) && gs.all (okGame p))) := rfl
  have hl := Lib.hid h.len
  obtain ⟨hc, hb, _⟩ := h.at
  rcases Bool.eq_false_or_eq_true (inB p 2 16) with hp | hp
  · by_cases hn : n ≤ 128
    · obtain ⟨p1, p2⟩ := (inB_iff _ _ _).1 hp
      have C := containsFuncGame_any (fun g => !okGame p g) 41 #[.pointer (some ⟨w.heap.size, 0, none⟩)] (enters_of Try.func41 (by kernel_rfl) rfl) a n c gs (w.alloc (.cells #[.int .i64 p] 2)) (h.mono ((Below.refl _ _).alloc (Nat.le_refl _) _))
        (fun W hW g _ => AreGames1_any p g.1 g.2.1 g.2.2 w.heap.size 0 W p1 p2 (cell_on hW (by simp)))
      rw [games_any_not] at C
      have HC := Lib.hid C
      clear C h
      go_enter Try.func11, Try.ntmps11
      go_wp2_with (first | (go_at_call 39; refine (within_any _ _ _ _).mono ?_; rintro e w' ⟨rfl, rfl⟩))
      refine HC.out.mono ?_
      rintro e w2 ⟨rfl, hb2⟩
      have HB := Lib.hid (((Below.refl w.heap.size w).alloc (Nat.le_refl _) _).trans (hb2.mono (by simp)))
      clear hb2
      go_wp2
      go_ret
      exact ⟨ret_bool (by rw [HD.out, hl.out]; simp [hp, hn]), HB.out⟩
    · clear h
      go_enter Try.func11, Try.ntmps11
      go_wp2_with (first | (go_at_call 39; refine (within_any _ _ _ _).mono ?_; rintro e w' ⟨rfl, rfl⟩))
      go_ret
      exact ⟨ret_bool (by rw [HD.out, hl.out]; simp [hn]), (Below.refl _ _).alloc (Nat.le_refl _) _⟩
  · clear h
    go_enter Try.func11, Try.ntmps11
    go_wp2_with (first | (go_at_call 39; refine (within_any _ _ _ _).mono ?_; rintro e w' ⟨rfl, rfl⟩))
    go_ret
    exact ⟨ret_bool (by rw [HD.out]; simp [hp]), (Below.refl _ _).alloc (Nat.le_refl _) _⟩

end Go.Proofs.Ytcflgmjjomiejaa
