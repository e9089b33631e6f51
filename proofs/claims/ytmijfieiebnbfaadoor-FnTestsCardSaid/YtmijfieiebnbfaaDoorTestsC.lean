/- Tests: lists of them, PassesTests and CountPassing of both. -/
import Derived.Test.YtmijfieiebnbfaaDoorPassesB
import Derived.Test.YtmijfieiebnbfaaDoorI64
namespace Go.Proofs.YtmijfieiebnbfaaDoor
open Go.RowKit Go.Shelf

def okTests (gs : List (Int × Int × Int)) : Bool := decide (1 ≤ gs.length) && (decide (gs.length ≤ 6) && gs.all okTest3)
theorem okTests_all {gs : List (Int × Int × Int)} (h : okTests gs = true) : ∀ g ∈ gs, okTest3 g = true := by
  simp only [okTests, Bool.and_eq_true, List.all_eq_true] at h
  exact h.2.2
theorem okTests_len {gs : List (Int × Int × Int)} (h : okTests gs = true) : 1 ≤ gs.length ∧ gs.length ≤ 6 := by
  simp only [okTests, Bool.and_eq_true, decide_eq_true_eq] at h
  exact ⟨h.1, h.2.1⟩

theorem l07Tests_any (a : Option Addr) (n c : Nat) (gs : List (Int × Int × Int)) (w : World) (h : Trips w a n c gs) :
    Calls Tryd.prog 22 #[.slice a n c] w (RetS w (.bool (okTests gs))) := by
  obtain ⟨hc, hb, hcell⟩ := h.at
  have hl := Lib.hid h.len
  clear h
  have HD : Hid (okTests gs = (decide (1 ≤ gs.length) && (decide (gs.length ≤ 6) && gs.all okTest3))) := rfl
  by_cases hn1 : 1 ≤ n
  · by_cases hn6 : n ≤ 6
    all_goals
      go_enter Tryd.func22, Tryd.ntmps22
      go_wp2
      go_loop [6] (fun i => ∃ k : Nat, k ≤ n ∧ i = .int .i64 k ∧ AllTo okTest3 (0, 0, 0) gs k) (fun i => n - (intOf i).toNat)
      case atStart => exact ⟨0, by omega, rfl, AllTo.zero _ _ _⟩
      case round =>
        obtain ⟨k, hk, rfl, hto⟩ := hrel
        have HT := Lib.hid hto
        clear hto
        by_cases hlt : k < n
        · obtain ⟨b, off, rfl, hlb, hx⟩ := hcell k hlt
          obtain ⟨h0, h1, h2⟩ := hx k hlt
          have HS : Hid (okTest3 (gs.getD k (0, 0, 0)) = true → AllTo okTest3 (0, 0, 0) gs (k + 1)) := fun e => HT.out.succ e
          have HN : Hid (okTest3 (gs.getD k (0, 0, 0)) = false → gs.all okTest3 = false) := fun e => all_not (by rw [hl.out]; exact hlt) e
          clear hcell hx
          generalize gs.getD k (0, 0, 0) = g at *
          obtain ⟨x, y, z⟩ := g
          simp only at h0 h1 h2
          have C := l07Test_any b (off + k * 3) x y z w h0 h1 h2
          have HC := Lib.hid C
          clear C
          have HE : Hid (okTest3 (x, y, z) = okTest x y z) := rfl
          generalize okTest x y z = r at *
          go_wp2_with (fail)
          refine HC.out.mono ?_
          rintro e w' ⟨rfl, rfl⟩
          cases r
          · go_wp2
            go_ret
            exact ⟨ret_bool (by rw [HD.out, HN.out HE.out]; simp), rfl⟩
          · go_wp2
            go_round
            case rel => exact ⟨k + 1, by omega, by go_num, HS.out HE.out⟩
            case measure => simp [intOf]; omega
        · obtain rfl : k = n := by omega
          clear hcell
          go_wp2
          go_ret
          exact ⟨ret_bool (by rw [HD.out, HT.out.all hl.out, hl.out]; simp [hn1, hn6] <;> omega), rfl⟩
  · obtain rfl : n = 0 := by omega
    go_enter Tryd.func22, Tryd.ntmps22
    go_wp2
    refine wp_loop_rounds 1 ?_
    rw [rounds_succ]
    go_wp2
    go_ret
    exact ⟨ret_bool (by rw [HD.out, hl.out]; simp), rfl⟩

theorem areTests1_any (x y z : Int) (w : World) : Calls Tryd.prog 44 #[.agg #[.int .i64 x, .int .i64 y, .int .i64 z]] w (Ret w (.bool (!okTest x y z))) := by
  go_enter Tryd.func44, Tryd.ntmps44
  go_wp2_with (fail)
  refine (implValidTest_any _ _ _ _).mono ?_
  rintro e w1 ⟨rfl, hb1⟩
  have HB := ((Below.refl w.heap.size w).alloc (Nat.le_refl _) _).trans (hb1.mono (by simp))
  clear hb1
  go_wp2
  go_ret
  exact ⟨rfl, HB⟩

theorem tests_any_not (gs : List (Int × Int × Int)) : (gs.any fun g => !okTest3 g) = !gs.all okTest3 := by
  induction gs with
  | nil => rfl
  | cons g gs ih => simp [ih]

theorem areTests_any (a : Option Addr) (n c : Nat) (gs : List (Int × Int × Int)) (w : World) (h : Trips w a n c gs) :
    Calls Tryd.prog 25 #[.slice a n c] w (Ret w (.bool (okTests gs))) := by
  have HD : Hid (okTests gs = (decide (1 ≤ gs.length) && (decide (gs.length ≤ 6) && gs.all okTest3))) := rfl
  have hl := Lib.hid h.len
  obtain ⟨hc, hb, _⟩ := h.at
  have C := containsFuncTest_any (fun g => !okTest3 g) 44 #[] (enters_of Tryd.func44 (by kernel_rfl) rfl) a n c gs w h
    (fun W _ g _ => areTests1_any g.1 g.2.1 g.2.2 W)
  rw [tests_any_not] at C
  have HC := Lib.hid C
  clear C h
  by_cases hn1 : 1 ≤ n
  · by_cases hn6 : n ≤ 6
    · go_enter Tryd.func25, Tryd.ntmps25
      go_wp2_with (fail)
      refine HC.out.mono ?_
      rintro e w1 ⟨rfl, hb1⟩
      have HB := Lib.hid hb1
      clear hb1
      go_wp2
      go_ret
      exact ⟨ret_bool (by rw [HD.out, hl.out]; simp [hn1, hn6] <;> omega), HB.out⟩
    · go_enter Tryd.func25, Tryd.ntmps25
      go_wp2
      go_ret
      exact ⟨ret_bool (by rw [HD.out, hl.out]; simp [hn6]), Below.refl _ _⟩
  · go_enter Tryd.func25, Tryd.ntmps25
    go_wp2
    go_ret
    exact ⟨ret_bool (by rw [HD.out, hl.out]; simp [hn1]), Below.refl _ _⟩

/-- what PassesTests tells -/
def passRes (gs : List (Int × Int × Int)) (card : Int) : Bool × Bool := if okTests gs && inB card 0 51 then (gs.all (passT card), true) else (false, false)

theorem specPassesTests_any (a : Option Addr) (n c : Nat) (gs : List (Int × Int × Int)) (card : Int) (w : World) (h : Trips w a n c gs) :
    Calls Tryd.prog 19 #[.slice a n c, .int .i64 card] w (Ret w (.tuple #[.bool (passRes gs card).1, .bool (passRes gs card).2])) := by
  have HD : Hid (passRes gs card = if okTests gs && inB card 0 51 then (gs.all (passT card), true) else (false, false)) := rfl
  rcases Bool.eq_false_or_eq_true (okTests gs) with e0 | e0 <;> rcases Bool.eq_false_or_eq_true (inB card 0 51) with e1 | e1
  · obtain ⟨c0, c1⟩ := (inB_iff _ _ _).1 e1
    have HV := Lib.hid (okTests_all e0)
    go_enter Tryd.func19, Tryd.ntmps19
    go_wp2_with (first | (go_at_call 22; refine (l07Tests_any _ _ _ _ _ h).mono ?_; rintro e w' ⟨rfl, rfl⟩) | (go_at_call 39; refine (l00In_any _ _ _ _).mono ?_; rintro e w' ⟨rfl, rfl⟩) | (go_at_call 40; refine (l07Passes_any _ _ _ _ _ _ h HV.out c0 c1).mono ?_; rintro e w' ⟨rfl, hb⟩))
    go_ret2
    exact ⟨by rw [HD.out]; simp [e0, e1], hb⟩
  all_goals
    go_enter Tryd.func19, Tryd.ntmps19
    go_wp2_with (first | (go_at_call 22; refine (l07Tests_any _ _ _ _ _ h).mono ?_; rintro e w' ⟨rfl, rfl⟩) | (go_at_call 39; refine (l00In_any _ _ _ _).mono ?_; rintro e w' ⟨rfl, rfl⟩))
    go_ret2
    exact ⟨by rw [HD.out]; simp [e0, e1], Below.refl _ _⟩

theorem implPassesTests_any (a : Option Addr) (n c : Nat) (gs : List (Int × Int × Int)) (card : Int) (w : World) (h : Trips w a n c gs) :
    Calls Tryd.prog 18 #[.slice a n c, .int .i64 card] w (Ret w (.tuple #[.bool (passRes gs card).1, .bool (passRes gs card).2])) := by
  have HD : Hid (passRes gs card = if okTests gs && inB card 0 51 then (gs.all (passT card), true) else (false, false)) := rfl
  rcases Bool.eq_false_or_eq_true (okTests gs) with e0 | e0 <;> rcases Bool.eq_false_or_eq_true (inB card 0 51) with e1 | e1
  · obtain ⟨c0, c1⟩ := (inB_iff _ _ _).1 e1
    have HV := Lib.hid (okTests_all e0)
    go_enter Tryd.func18, Tryd.ntmps18
    go_wp2_with (first | (go_at_call 25; refine (areTests_any _ _ _ _ _ h).mono ?_; rintro e w1 ⟨rfl, hb1⟩) | (go_at_call 37; refine (within_any _ _ _ _).mono ?_; rintro e w' ⟨rfl, rfl⟩) | (go_at_call 38; refine (implPasses_any _ _ _ _ _ _ (h.mono hb1) HV.out c0 c1).mono ?_; rintro e w2 ⟨rfl, hb2⟩))
    go_ret2
    exact ⟨by rw [HD.out]; simp [e0, e1], hb1.trans (hb2.mono hb1.size)⟩
  all_goals
    go_enter Tryd.func18, Tryd.ntmps18
    go_wp2_with (first | (go_at_call 25; refine (areTests_any _ _ _ _ _ h).mono ?_; rintro e w1 ⟨rfl, hb1⟩) | (go_at_call 37; refine (within_any _ _ _ _).mono ?_; rintro e w' ⟨rfl, rfl⟩))
    go_ret2
    exact ⟨by rw [HD.out]; simp [e0, e1], hb1⟩

end Go.Proofs.YtmijfieiebnbfaaDoor
