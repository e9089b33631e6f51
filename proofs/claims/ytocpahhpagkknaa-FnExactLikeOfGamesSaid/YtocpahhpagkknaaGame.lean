/- The laws' own words on Game: toGame, toGameS, eqGame, eqGameS, markGameS, szGameS. -/
import Derived.Test.YtocpahhpagkknaaViews
import Derived.Test.YtocpahhpagkknaaProg
import Derived.StillTailTactics
namespace Go.Proofs.Ytocpahhpagkknaa
open Go.RowKit

theorem infoGame : (Try.prog.info? 49).map (fun i => (i.zero, i.size, i.bytes)) = some (some (.agg #[.int .i64 0, .int .i64 0, .int .i64 0]), 3, 24) := by kernel_rfl

theorem toGame_any (x0 x1 x2 : Int) (w : World) : Calls Try.prog 30 #[.agg #[.int .i64 x0, .int .i64 x1, .int .i64 x2]] w (Ret w (.agg #[.int .i64 x0, .int .i64 x1, .int .i64 x2])) := by
  go_enter Try.func30, Try.ntmps30
  go_wp2
  exact bodyPost_ret (v := .agg #[.int .i64 x0, .int .i64 x1, .int .i64 x2]) (by simp [results, Try.results30, go_sem]) rfl ⟨rfl, by
    repeat (first | exact Below.refl _ _ | refine Below.setCell ?_ (by simp) _ | refine Below.alloc ?_ (by first | (simp; done) | (simp; omega)) _)⟩

theorem toGameS_any (a : Option Addr) (n c : Nat) (gs : List (Int × Int × Int)) (w : World) (h : Trips w a n c gs) (hn : n ≤ 1048576) :
    Calls Try.prog 14 #[.slice a n c] w fun e w' => ∃ g, e = .returned (.slice (some ⟨g, 0, none⟩) n n) ∧ Below w.heap.size w w' ∧ w'.ownsRow w.heap.size 49 3 (.slice (some ⟨g, 0, none⟩) n n) n (tripCells gs) := by
  obtain ⟨hc, hb, hcell⟩ := h.at
  have hl := h.len
  clear h
  have hf := Lib.hid (fun j (hj : j < n) => tripCells_get gs j (by omega))
  have hL := Lib.hid (tripCells_len gs)
  have hH := Lib.hid hl
  clear hl
  obtain ⟨i0, hi, hz0, hz1, hz2⟩ := info_parts infoGame
  go_enter Try.func14, Try.ntmps14
  go_wp2_with (first | (at_make; go_must (refine wpList_make_full _ rfl _ _ 34 rfl w.heap.size 49 i0 _ 3 Try.underlying34 hi hz0 hz1 _ _ _ _ n rfl rfl rfl rfl (by rw [hz2]; omega) (by unfold maxLen; omega) (by simp) ?_; intro w1 hown1 hg1)))
  have hown1' := Lib.hid hown1
  have hg1' := Lib.hid hg1
  clear hown1 hg1
  go_loopw [4] (fun i wr => ∃ k : Nat, k ≤ n ∧ i = .int .i64 k ∧ Below w.heap.size w wr ∧ wr.ownsRow w.heap.size 49 3 (.slice (some ⟨w.heap.size, 0, none⟩) n n) n (cellsTo (fun j => ((tripCells gs)[j]?).getD undef) (.int .i64 0) (n * 3) (k * 3))) (fun i _ => n - (intOf i).toNat)
  case atStart => exact ⟨0, by omega, rfl, below_made (Below.refl _ _) (Nat.le_refl _) hg1'.out, by rw [Nat.zero_mul, cellsTo_zero]; have := hown1'.out; rw [made_const _ (.int .i64 0) (by decide) (by intro i hi; match i, hi with | 0, _ => rfl | 1, _ => rfl | 2, _ => rfl)] at this; exact this⟩
  case round =>
    obtain ⟨k, hk, rfl, hbel, hown⟩ := hrel
    by_cases hlt : k < n
    · obtain ⟨b, off, rfl, hlb, hx⟩ := hcell k hlt
      obtain ⟨h0, h1, h2⟩ := hx k hlt
      have r0 := (hbel.cell (p := ⟨b, off + k * 3, none⟩) hlb).trans h0
      have r1 := (hbel.cell (p := ⟨b, off + k * 3 + 1, none⟩) hlb).trans h1
      have r2 := (hbel.cell (p := ⟨b, off + k * 3 + 2, none⟩) hlb).trans h2
      have HO := Lib.hid hown
      have HB := Lib.hid hbel
      have HS := Lib.hid hbel.size
      clear hcell hx hown hbel h0 h1 h2
      go_wp2_with (fail)
      refine (toGame_any _ _ _ _).mono ?_
      rintro e w2 ⟨rfl, hb2⟩
      have hown2 := ownsRow_below HO.out hb2
      have c0 := hown2.cellAt (k * 3) (by omega)
      have c1 := hown2.cellAt (k * 3 + 1) (by omega)
      have c2 := hown2.cellAt (k * 3 + 2) (by omega)
      rw [cellsTo_get _ _ _ _ _ (by omega), if_neg (by omega)] at c0 c1 c2
      have f := fun j => hown2.frozenAt j
      have HO2 := Lib.hid hown2
      have HB2 := Lib.hid (HB.out.trans (hb2.mono HS.out))
      clear hown2 hb2
      go_wp2_with (fail)
      go_roundw
      case rel =>
        obtain ⟨q0, q1, q2⟩ := hf.out k hlt
        refine ⟨k + 1, by omega, by go_num, (((HB2.out.setCell (by simp) _).setCell (by simp) _).setCell (by simp) _), ?_⟩
        have g0 := (HO2.out.stored (k * 3) (.int .i64 (gs.getD k (0, 0, 0)).1)).1
        rw [cellsTo_set _ _ _ _ _ (by simp [q0])] at g0
        have g1 := (g0.stored (k * 3 + 1) (.int .i64 (gs.getD k (0, 0, 0)).2.1)).1
        rw [cellsTo_set _ _ _ _ _ (by simp [q1])] at g1
        have g2 := (g1.stored (k * 3 + 2) (.int .i64 (gs.getD k (0, 0, 0)).2.2)).1
        rw [cellsTo_set _ _ _ _ _ (by simp [q2])] at g2
        rw [show (k + 1) * 3 = k * 3 + 3 by omega]
        simpa using g2
      case measure => simp [intOf]; omega
    · obtain rfl : k = n := by omega
      have HO := Lib.hid hown
      have HB := Lib.hid hbel
      clear hown hbel hcell
      go_wp2
      go_ret
      refine ⟨_, rfl, HB.out, ?_⟩
      have := HO.out
      rw [cellsTo_full _ _ _ (tripCells gs) (by rw [hL.out, hH.out]) (fun j hj => by rw [List.getElem?_eq_getElem (by rw [hL.out, hH.out]; exact hj)]; rfl)] at this
      exact this

theorem szGameS_ok (a : Option Addr) (n c : Nat) (x : Int) (w : World) (h0 : n ≤ 9223372036854775807) (h : (n : Int) ≤ x) (hx : x ≤ 1048576) :
    Calls Try.prog 12 #[.slice a n c, .int .i64 x] w (RetS w (.int .i64 (x - n))) := by
  go_enter Try.func12, Try.ntmps12
  go_wp2
  go_ret
  exact ⟨rfl, rfl⟩

theorem szGameS_no (a : Option Addr) (n c : Nat) (x : Int) (w : World) (h0 : n ≤ 9223372036854775807) (h : x < (n : Int)) (hx : 0 ≤ x) (hx' : x ≤ 1048576) :
    Calls Try.prog 12 #[.slice a n c, .int .i64 x] w (RetS w (.int .i64 (-1))) := by
  go_enter Try.func12, Try.ntmps12
  go_wp2
  go_ret
  exact ⟨rfl, rfl⟩

theorem eqGame_same (x0 x1 x2 : Int) (w : World) : Calls Try.prog 35 #[.agg #[.int .i64 x0, .int .i64 x1, .int .i64 x2], .agg #[.int .i64 x0, .int .i64 x1, .int .i64 x2]] w (Ret w (.bool true)) := by
  go_enter Try.func35, Try.ntmps35
  go_wp2
  go_ret
  exact ⟨rfl, by
    repeat (first | exact Below.refl _ _ | refine Below.setCell ?_ (by simp) _ | refine Below.alloc ?_ (by first | (simp; done) | (simp; omega)) _)⟩

set_option maxRecDepth 100000 in
theorem eqGameS_same (a : Option Addr) (n c : Nat) (a' : Option Addr) (c' : Nat) (gs : List (Int × Int × Int)) (w : World) (h : Trips w a n c gs) (h' : Trips w a' n c' gs) :
    Calls Try.prog 17 #[.slice a n c, .slice a' n c'] w (Ret w (.bool true)) := by
  obtain ⟨hc, hb, hcell⟩ := h.at
  obtain ⟨hc', hb', hcell'⟩ := h'.at
  clear h h'
  go_enter Try.func17, Try.ntmps17
  go_wp2
  go_loopw [5] (fun i wr => ∃ k : Nat, k ≤ n ∧ i = .int .i64 k ∧ Below w.heap.size w wr) (fun i _ => n - (intOf i).toNat)
  case atStart => exact ⟨0, by omega, rfl, Below.refl _ _⟩
  case round =>
    obtain ⟨k, hk, rfl, hbel⟩ := hrel
    by_cases hlt : k < n
    · obtain ⟨b, off, rfl, hlb, hx⟩ := hcell k hlt
      obtain ⟨h0, h1, h2⟩ := hx k hlt
      have r0 := (hbel.cell (p := ⟨b, off + k * 3, none⟩) hlb).trans h0
      have r1 := (hbel.cell (p := ⟨b, off + k * 3 + 1, none⟩) hlb).trans h1
      have r2 := (hbel.cell (p := ⟨b, off + k * 3 + 2, none⟩) hlb).trans h2
      obtain ⟨b', off', rfl, hlb', hx'⟩ := hcell' k hlt
      obtain ⟨h0, h1, h2⟩ := hx' k hlt
      have s0 := (hbel.cell (p := ⟨b', off' + k * 3, none⟩) hlb').trans h0
      have s1 := (hbel.cell (p := ⟨b', off' + k * 3 + 1, none⟩) hlb').trans h1
      have s2 := (hbel.cell (p := ⟨b', off' + k * 3 + 2, none⟩) hlb').trans h2
      have HB := Lib.hid hbel
      have HS := Lib.hid hbel.size
      clear hcell hcell' hx hx' hbel h0 h1 h2 
      go_wp2_with (fail)
      go_still_tail 8, (by kernel_rfl)
      change wpList _ _ _ _ _ wr.drew
      go_wp2_with (fail)
      refine (eqGame_same _ _ _ _).mono ?_
      rintro e w2 ⟨rfl, hb2⟩
      have HB2 := Lib.hid (HB.out.drew.trans (hb2.mono HS.out))
      clear hb2
      go_wp2
      go_roundw
      case rel => exact ⟨k + 1, by omega, by go_num, HB2.out⟩
      case measure => simp [intOf]; omega
    · obtain rfl : k = n := by omega
      have HB := Lib.hid hbel
      clear hbel hcell hcell'
      go_wp2
      go_ret
      exact ⟨rfl, HB.out⟩

theorem markGameS_any (B : Nat) (a : Option Addr) (n c : Nat) (L : List Value) (x : Int) (w : World) (h : w.ownsRow B 49 3 (.slice a n c) n L) (hn : n ≤ 1048576) (hx : 0 ≤ x) (hx' : x ≤ 1000000000000) :
    Calls Try.prog 20 #[.slice a n c, .int .i64 x] w fun e w' => e = .returned (.int .i64 (x + 3 * n)) ∧ w.grownBy w' (Value.slice a n c).ownBlock := by
  rcases h.2 with ⟨h1, rfl⟩ | ⟨g, cap, cur, h1, hB, hg, hnc, hcm, hcs, htake⟩
  · simp only [Value.slice.injEq] at h1
    obtain ⟨rfl, _, rfl⟩ := h1
    clear h
    go_enter Try.func20, Try.ntmps20
    go_wp2
    refine wp_loop_rounds 1 ?_
    rw [rounds_succ]
    go_wp2
    go_ret
    exact ⟨ret_int (by simp), World.grownBy.refl _ _⟩
  · simp only [Value.slice.injEq] at h1
    obtain ⟨rfl, _, rfl⟩ := h1
    have HO1 := Lib.hid h
    clear hg hcs htake hcm h hB
    go_enter Try.func20, Try.ntmps20
    go_wp2
    go_loopw [1, 5] (fun m i wr => ∃ k : Nat, k ≤ n ∧ i = .int .i64 k ∧ m = .int .i64 (x + 3 * k) ∧ (∃ L', wr.ownsRow B 49 3 (.slice (some ⟨g, 0, none⟩) n c) n L') ∧ w.grownBy wr (some g)) (fun _ i _ => n - (intOf i).toNat)
    case atStart => exact ⟨0, by omega, rfl, by simp, ⟨_, HO1.out⟩, World.grownBy.refl _ _⟩
    case round =>
      obtain ⟨k, hk, rfl, rfl, ⟨L', hown⟩, hgr⟩ := hrel
      have HG := Lib.hid hgr
      have HO := Lib.hid hown
      clear hgr
      by_cases hlt : k < n
      · obtain ⟨q0, c0⟩ : ∃ q, wr.cell? ⟨g, k * 3, none⟩ = some q := ⟨_, (hown.cellAt (k * 3) (by omega)).trans (List.getElem?_eq_getElem (by have := hown.1; omega))⟩
        obtain ⟨q1, c1⟩ : ∃ q, wr.cell? ⟨g, k * 3 + 1, none⟩ = some q := ⟨_, (hown.cellAt (k * 3 + 1) (by omega)).trans (List.getElem?_eq_getElem (by have := hown.1; omega))⟩
        obtain ⟨q2, c2⟩ : ∃ q, wr.cell? ⟨g, k * 3 + 2, none⟩ = some q := ⟨_, (hown.cellAt (k * 3 + 2) (by omega)).trans (List.getElem?_eq_getElem (by have := hown.1; omega))⟩
        have f := fun j => hown.frozenAt j
        clear hown
        go_wp2
        go_roundw
        case rel =>
          have g0 := HO.out.stored (k * 3) (.int .i64 (x + 3 * k))
          have g1 := g0.1.stored (k * 3 + 1) (.int .i64 (x + 3 * k + 1))
          have g2 := g1.1.stored (k * 3 + 2) (.int .i64 (x + 3 * k + 2))
          exact ⟨k + 1, by omega, by go_num, by go_num, ⟨_, by simpa [Int.add_assoc] using g2.1⟩, by simpa [Int.add_assoc] using HG.out.trans (g0.2.trans (g1.2.trans (g2.2)))⟩
        case measure => simp [intOf]; omega
      · obtain rfl : k = n := by omega
        clear hown
        go_wp2
        go_ret
        exact ⟨ret_int (by omega), HG.out⟩

end Go.Proofs.Ytocpahhpagkknaa
