/- Games: l07Games, AreGames, SameGames of both. -/
import Derived.Test.YtcflgmjjomiejaaBasic
import Derived.Test.YtcflgmjjomiejaaGame
namespace Go.Proofs.Ytcflgmjjomiejaa
open Go.RowKit

/-- a game of p players -/
def okGame (p : Int) (g : Int × Int × Int) : Bool := inB g.1 0 (p - 1) && inB g.2.1 0 (p - 1) && !(g.1 == g.2.1) && inB g.2.2 0 2
def okGames (p : Int) (gs : List (Int × Int × Int)) : Bool := inB p 2 16 && decide (gs.length ≤ 128) && gs.all (okGame p)
/-- the first k are games -/
def GamesTo (p : Int) (gs : List (Int × Int × Int)) (k : Nat) : Prop := ∀ j, j < k → okGame p (gs.getD j (0, 0, 0)) = true
theorem GamesTo.all {p : Int} {gs : List (Int × Int × Int)} {k : Nat} (h : GamesTo p gs k) (hk : gs.length = k) : gs.all (okGame p) = true := by
  rw [List.all_eq_true]
  intro g hg
  obtain ⟨i, hi, rfl⟩ := List.getElem_of_mem hg
  have := h i (by omega)
  simpa [hi] using this
theorem games_not {p : Int} {gs : List (Int × Int × Int)} {k : Nat} (hk : k < gs.length) (h : okGame p (gs.getD k (0, 0, 0)) = false) : gs.all (okGame p) = false := by
  rw [List.all_eq_false]
  exact ⟨gs[k], List.getElem_mem hk, by simpa [hk] using h⟩

set_option maxHeartbeats 800000 in
theorem l07Games_any (p : Int) (a : Option Addr) (n c : Nat) (gs : List (Int × Int × Int)) (w : World) (h : Trips w a n c gs) :
    Calls Try.prog 32 #[.int .i64 p, .slice a n c] w (RetQ w (.bool (okGames p gs))) := by
  obtain ⟨hc, hb, hcell⟩ := h.at
  have hl := h.len
  clear h
  have HD : Hid (okGames p gs = (inB p 2 16 && decide (gs.length ≤ 128) && gs.all (okGame p))) := rfl
  have hH := Lib.hid hl
  clear hl
  by_cases hp : inB p 2 16 = true
  · by_cases hn : n ≤ 128
    · obtain ⟨p1, p2⟩ := (inB_iff _ _ _).1 hp
      go_enter Try.func32, Try.ntmps32
      go_wp2_with (first | (go_at_call 48; refine (l00In_any _ _ _ _).mono ?_; rintro e w' ⟨rfl, rfl⟩))
      go_loopw [17] (fun i wr => ∃ k : Nat, k ≤ n ∧ i = .int .i64 k ∧ GamesTo p gs k ∧ Quiet w wr) (fun i _ => n - (intOf i).toNat)
      case atStart => exact ⟨0, by omega, rfl, fun j hj => by omega, Quiet.refl _⟩
      case round =>
        obtain ⟨k, hk, rfl, hto, hq⟩ := hrel
        have HT := Lib.hid hto
        have HW := Lib.hid hq
        clear hto hq
        by_cases hlt : k < n
        · obtain ⟨b, off, rfl, hlb, hx⟩ := hcell k hlt
          obtain ⟨h0', h1', h2'⟩ := hx k hlt
          have h0 := cell_on (HW.out.below _) h0'
          have h1 := cell_on (HW.out.below _) h1'
          have h2 := cell_on (HW.out.below _) h2'
          clear hcell hx h0' h1' h2'
          have HE : Hid (okGame p (gs.getD k (0, 0, 0)) = (inB (gs.getD k (0, 0, 0)).1 0 (p - 1) && inB (gs.getD k (0, 0, 0)).2.1 0 (p - 1) && !((gs.getD k (0, 0, 0)).1 == (gs.getD k (0, 0, 0)).2.1) && inB (gs.getD k (0, 0, 0)).2.2 0 2)) := rfl
          generalize hg : gs.getD k (0, 0, 0) = g at *
          obtain ⟨g0, g1, g2⟩ := g
          have HG := Lib.hid hg
          clear hg
          simp only at h0 h1 h2 HE
          have HF : Hid (okGame p (g0, g1, g2) = false → gs.all (okGame p) = false) := fun h => games_not (k := k) (by rw [hH.out]; exact hlt) (by rw [← HG.out] at h; exact h)
          rcases Bool.eq_false_or_eq_true (inB g0 0 (p - 1)) with e0 | e0
          · rcases Bool.eq_false_or_eq_true (inB g1 0 (p - 1)) with e1 | e1
            · rcases Bool.eq_false_or_eq_true (g0 == g1) with e2 | e2
              · go_wp2
                go_quiet ((go_at_call 48; exact qS (l00In_any _ _ _ _)))
                go_wp2
                go_ret
                exact ⟨ret_bool (by rw [HD.out, HF.out (by rw [HE.out]; simp [e0, e1, e2])]; simp), HW.out.trans ⟨_, rfl⟩⟩
              · rcases Bool.eq_false_or_eq_true (inB g2 0 2) with e3 | e3
                · have HT' : Hid (GamesTo p gs (k + 1)) := by
                    intro j hj
                    by_cases hjk : j = k
                    · subst hjk; rw [HG.out, HE.out]; simp [e0, e1, e2, e3]
                    · exact HT.out j (by omega)
                  go_wp2
                  go_quiet ((go_at_call 48; exact qS (l00In_any _ _ _ _)))
                  go_wp2
                  go_roundw
                  case rel => exact ⟨k + 1, by omega, by go_num, HT'.out, HW.out.trans ⟨_, rfl⟩⟩
                  case measure => simp [intOf]; omega
                · go_wp2
                  go_quiet ((go_at_call 48; exact qS (l00In_any _ _ _ _)))
                  go_wp2
                  go_ret
                  exact ⟨ret_bool (by rw [HD.out, HF.out (by rw [HE.out]; simp [e0, e1, e2, e3])]; simp), HW.out.trans ⟨_, rfl⟩⟩
            · go_wp2
              go_quiet ((go_at_call 48; exact qS (l00In_any _ _ _ _)))
              go_wp2
              go_ret
              exact ⟨ret_bool (by rw [HD.out, HF.out (by rw [HE.out]; simp [e0, e1])]; simp), HW.out.trans ⟨_, rfl⟩⟩
          · go_wp2
            go_quiet ((go_at_call 48; exact qS (l00In_any _ _ _ _)))
            go_wp2
            go_ret
            exact ⟨ret_bool (by rw [HD.out, HF.out (by rw [HE.out]; simp [e0])]; simp), HW.out.trans ⟨_, rfl⟩⟩
        · obtain rfl : k = n := by omega
          clear hcell
          go_wp2
          go_ret
          exact ⟨ret_bool (by rw [HD.out, HT.out.all hH.out, hH.out]; simp [hp]; omega), HW.out⟩
    · go_enter Try.func32, Try.ntmps32
      go_wp2_with (first | (go_at_call 48; refine (l00In_any _ _ _ _).mono ?_; rintro e w' ⟨rfl, rfl⟩))
      go_ret
      exact ⟨ret_bool (by rw [HD.out, hH.out]; simp [hn]), Quiet.refl _⟩
  · simp only [Bool.not_eq_true] at hp
    go_enter Try.func32, Try.ntmps32
    go_wp2_with (first | (go_at_call 48; refine (l00In_any _ _ _ _).mono ?_; rintro e w' ⟨rfl, rfl⟩))
    go_ret
    exact ⟨ret_bool (by rw [HD.out]; simp [hp]), Quiet.refl _⟩

end Go.Proofs.Ytcflgmjjomiejaa
