/- Games that are drawn: spec.B10Games. -/
import Derived.Test.YtcflgmjjomiejaaL7Games
import Derived.Test.YtcflgmjjomiejaaSrc
import Derived.Test.YtcflgmjjomiejaaChg
import Derived.Deep.AppendLies
import Derived.Deep.RegionHeld3
namespace Go.Proofs.Ytcflgmjjomiejaa
open Go.RowKit
set_option linter.unusedVariables false
set_option linter.unusedSimpArgs false

theorem newG (W : World) (u v x : Value) (T : TypeId) : ∀ j y, [u, v, x][j]? = some y → (W.alloc (.cells #[u, v, x] T)).cell? ((⟨W.heap.size, 0, none⟩ : Addr).add j) = some y := by
  intro j y hj
  match j, hj with
  | 0, h => simp at h; subst h; go_simp
  | 1, h => simp at h; subst h; go_simp
  | 2, h => simp at h; subst h; go_simp
theorem oneG {u v x : Value} (h1 : u.oneCell' = true) (h2 : v.oneCell' = true) (h3 : x.oneCell' = true) : ∀ y ∈ [u, v, x], y.oneCell' = true := by
  intro y hy
  simp at hy
  rcases hy with rfl | rfl | rfl <;> assumption
theorem tripSnocG (gs : List (Int × Int × Int)) (x y z : Int) : tripCells (gs ++ [(x, y, z)]) = tripCells gs ++ [.int .i64 x, .int .i64 y, .int .i64 z] := by simp [tripCells]

/-- the three cells of a game, none of which is frozen -/
structure GmC (W : World) (tb : Nat) (F S N : Int) : Prop where
  c0 : W.cell? ⟨tb, 0, none⟩ = some (.int .i64 F)
  c1 : W.cell? ⟨tb, 1, none⟩ = some (.int .i64 S)
  c2 : W.cell? ⟨tb, 2, none⟩ = some (.int .i64 N)
  fr : ∀ j, W.frozen? ⟨tb, j, none⟩ = false
theorem GmC.set1 {W : World} {tb : Nat} {F S N : Int} (h : GmC W tb F S N) (v : Int) : GmC (W.setCell ⟨tb, 1, none⟩ (.int .i64 v)) tb F v N := by
  obtain ⟨h0, h1, h2, h3⟩ := h
  exact ⟨by rw [World.cell?_setCell_other _ _ _ _ (by simp)]; exact h0, World.cell?_setCell_same _ _ _ h1, by rw [World.cell?_setCell_other _ _ _ _ (by simp)]; exact h2, fun j => by rw [World.frozen?_setCell]; exact h3 j⟩
theorem GmC.set2 {W : World} {tb : Nat} {F S N : Int} (h : GmC W tb F S N) (v : Int) : GmC (W.setCell ⟨tb, 2, none⟩ (.int .i64 v)) tb F S v := by
  obtain ⟨h0, h1, h2, h3⟩ := h
  exact ⟨by rw [World.cell?_setCell_other _ _ _ _ (by simp)]; exact h0, by rw [World.cell?_setCell_other _ _ _ _ (by simp)]; exact h1, World.cell?_setCell_same _ _ _ h2, fun j => by rw [World.frozen?_setCell]; exact h3 j⟩
theorem GmC.drewN {W : World} {tb : Nat} {F S N : Int} (h : GmC W tb F S N) (q : Nat) : GmC (W.drewN q) tb F S N := ⟨h.c0, h.c1, h.c2, h.fr⟩
theorem GmC.new (W : World) (F S N : Int) : GmC (W.alloc (.cells #[.int .i64 F, .int .i64 S, .int .i64 N] 55)) W.heap.size F S N := ⟨by go_simp, by go_simp, by go_simp, fun j => by go_simp⟩
theorem GmC.chg {W W' : World} {tb lo hi : Nat} {F S N : Int} (h : GmC W tb F S N) (hc : Chg lo hi W W') (hd : tb < lo ∨ hi ≤ tb) : GmC W' tb F S N :=
  ⟨hc.cell h.c0 hd, hc.cell h.c1 hd, hc.cell h.c2 hd, fun j => (World.frozen?_of_block (hc.block tb (cell_lt h.c0) hd)).trans (h.fr j)⟩
theorem Chg.of_setG {w : World} {b j : Nat} (v : Value) : Chg b (b + 1) w (w.setCell ⟨b, j, none⟩ v) := (Chg.refl b (b + 1) w).set (p := ⟨b, j, none⟩) v (Nat.le_refl _) (Nat.lt_succ_self _)
theorem okGame_draw {p : Nat} {x y z : Int} (hp : 2 ≤ p) (hx : 0 ≤ x ∧ x < p) (hy : 0 ≤ y ∧ y < p - 1) (hz : 0 ≤ z ∧ z < 3) : okGame p (x, (x + 1 + y) % (p : Int), z) = true := by
  have h1 := Int.emod_nonneg (x + 1 + y) (show (p : Int) ≠ 0 by omega)
  have h2 := Int.emod_lt_of_pos (x + 1 + y) (show (0 : Int) < p by omega)
  have h3 : x ≠ (x + 1 + y) % (p : Int) := by
    by_cases h : x + 1 + y < p
    · rw [Int.emod_eq_of_lt (by omega) h]; omega
    · have e : (x + 1 + y) % (p : Int) = x + 1 + y - p := by
        rw [← Int.sub_emod_right (x + 1 + y) (p : Int), Int.emod_eq_of_lt (by omega) (by omega)]
      rw [e]; omega
  unfold okGame inB
  dsimp only
  rw [decide_eq_true hx.1, decide_eq_true (by omega : x ≤ (p : Int) - 1), decide_eq_true h1, decide_eq_true (by omega : (x + 1 + y) % (p : Int) ≤ (p : Int) - 1), decide_eq_true hz.1, decide_eq_true (by omega : z ≤ 2)]
  have e2 : (x == (x + 1 + y) % (p : Int)) = false := by simpa using h3
  rw [e2]
  rfl
theorem all_snocG {p : Int} {gs : List (Int × Int × Int)} {y : Int × Int × Int} (h : ∀ g ∈ gs, okGame p g = true) (h2 : okGame p y = true) : ∀ g ∈ gs ++ [y], okGame p g = true := fun g hg => by
  rcases List.mem_append.1 hg with hg | hg
  · exact h g hg
  · rw [List.mem_singleton.1 hg]; exact h2

/-- An append to what has come behind the beginning. -/
theorem Chg.grownC {lo hi : Nat} {a w w' : World} {v : Value} {e : TypeId} {s n : Nat} {xs : List Value} (h : Chg lo hi a w) (g : w.grownBy w' v.ownBlock) (ho : w.ownsRow a.heap.size e s v n xs) : Chg lo hi a w' :=
  ⟨g.os.trans h.os, g.tape.trans h.tape, g.output.trans h.output, Nat.le_trans h.size g.size, fun k hk hr => (g.block k (Nat.lt_of_lt_of_le hk h.size) (fun e => by have := (ho.lt k e.symm).1; omega)).trans (h.block k hk hr)⟩
/-- what a draw of games gives: an own row of few games -/
def DrawnG (B p : Nat) (w : World) (e : Ending) (w' : World) : Prop := ∃ g k cc gs, e = .returned (.slice (some ⟨g, 0, none⟩) k cc) ∧ k ≤ 8 ∧ Below B w w' ∧ w'.ownsRow (B + 1) 55 3 (.slice (some ⟨g, 0, none⟩) k cc) k (tripCells gs) ∧ ∀ g ∈ gs, okGame p g = true

set_option maxHeartbeats 3200000 in
set_option maxRecDepth 100000 in
theorem l07DrawOk_any (gs0 p : Nat) (w : World) (hs : Src gs0 0 w) (hp : 2 ≤ p) (hp2 : p ≤ 16) :
    Calls Try.prog 27 #[.pointer (some ⟨gs0, 0, none⟩), .int .i64 p] w fun e w' => ∃ g k cc gs, e = .returned (.slice (some ⟨g, 0, none⟩) k cc) ∧ k ≤ 8 ∧ Chg gs0 (gs0 + 1) w w' ∧ w'.ownsRow w.heap.size 55 3 (.slice (some ⟨g, 0, none⟩) k cc) k (tripCells gs) ∧ ∀ g ∈ gs, okGame p g = true := by
  have HS := Lib.hid hs
  have hgl := hs.lt
  have HO0 : Hid ((w.alloc (.cells #[] 55)).ownsRow w.heap.size 55 3 (.slice (some ⟨w.heap.size, 0, none⟩) 0 0) 0 (tripCells [])) := World.ownsRow_made (e := 55) (size := 3) (base := w.heap.size) w #[] 0 (Nat.le_refl _) (Nat.zero_le _) (by simp [tripCells])
  have hbA : Below w.heap.size w (w.alloc (.cells #[] 55)) := (Below.refl _ _).alloc (Nat.le_refl _) _
  have HS1 : Hid (Src gs0 0 (w.alloc (.cells #[] 55))) := hs.on hbA
  have HB1 : Hid (Chg gs0 (gs0 + 1) w (w.alloc (.cells #[] 55))) := Chg.of_below hbA (Nat.le_refl _)
  have hz1 : (w.alloc (.cells #[] 55)).heap.size = w.heap.size + 1 := by simp
  clear hs HS hbA
  obtain ⟨i0, hii, hv0, hv1, hv2⟩ := info_parts infoGame
  go_enter Try.func27, Try.ntmps27
  go_wp2_with (fail)
  generalize w.alloc (.cells #[] 55) = w2 at *
  refine (pick_any gs0 0 9 w2 HS1.out (by omega) (by omega) (by omega)).mono ?_
  rintro e w3 ⟨N, rfl, hN0, hN1, hc3, hs3⟩
  obtain ⟨N, rfl⟩ : ∃ q : Nat, N = q := ⟨N.toNat, by omega⟩
  have HS3 := Lib.hid (hs3.more (show 0 + 1 ≤ 100 - 10 * N by omega))
  have HO3 := Lib.hid (own_chg HO0.out hc3 (own_in HO0.out) (.inr (by omega)))
  have HB3 := Lib.hid (HB1.out.trans hc3)
  clear hc3 hs3 HB1 HS1 HO0
  go_wp2
  go_loopw [5, 6] (fun vo vn wr => ∃ (i m g cc : Nat) (gs : List (Int × Int × Int)), i + m = N ∧ vn = .int .i64 i ∧ vo = .slice (some ⟨g, 0, none⟩) m cc ∧ Src gs0 (100 - 10 * i) wr ∧ wr.ownsRow w.heap.size 55 3 (.slice (some ⟨g, 0, none⟩) m cc) m (tripCells gs) ∧ Chg gs0 (gs0 + 1) w wr ∧ Hid (∀ g ∈ gs, okGame p g = true)) (fun _ vn _ => (intOf vn).toNat)
  case atStart => exact ⟨N, 0, w.heap.size, 0, [], by omega, rfl, rfl, HS3.out, HO3.out, HB3.out, fun x hx => (by cases hx)⟩
  case round =>
    obtain ⟨i, m, g, cc, gs, him, rfl, rfl, hs, ho, hb, HAll⟩ := hrel
    have HS := Lib.hid hs
    have HO := Lib.hid ho
    have HB := Lib.hid hb
    have hsz := hb.size
    clear hs ho hb HS3 HO3 HB3
    by_cases hi0 : 0 < i
    · have hw1 : IntKind.i64.wrap ((i : Int) - 1) = ((i - 1 : Nat) : Int) := by rw [IntWalk.i64_in _ (by omega)]; omega
      go_wp2_with (fail)
      refine (pick_any gs0 _ p wr HS.out (by omega) (by omega) (by omega)).mono ?_
      rintro e w4 ⟨x, rfl, hx0, hx1, hc4, hs4⟩
      have hz4 := hc4.size
      have HT4 := Lib.hid (GmC.new w4 x 0 0)
      have hbT : Below w4.heap.size w4 (w4.alloc (.cells #[.int .i64 x, .int .i64 0, .int .i64 0] 55)) := (Below.refl _ _).alloc (Nat.le_refl _) _
      have HS4 := Lib.hid (hs4.on hbT)
      have HC4 : Hid (Chg gs0 (gs0 + 1) wr (w4.alloc (.cells #[.int .i64 x, .int .i64 0, .int .i64 0] 55))) := hc4.trans (Chg.of_below hbT (Nat.le_refl _))
      have hzT : (w4.alloc (.cells #[.int .i64 x, .int .i64 0, .int .i64 0] 55)).heap.size = w4.heap.size + 1 := by simp
      clear hc4 hs4 hbT HS
      go_wp2_with (fail)
      generalize w4.alloc (.cells #[.int .i64 x, .int .i64 0, .int .i64 0] 55) = w5 at *
      generalize w4.heap.size = tb at *
      have t0 := HT4.out.c0
      have t1 := HT4.out.c1
      have hwA : IntKind.i64.wrap (x + 1) = x + 1 := IntWalk.i64_in _ (by omega)
      have hwB : IntKind.i64.wrap ((p : Int) - 1) = (p : Int) - 1 := IntWalk.i64_in _ (by omega)
      have hp0 : ¬ ((p : Int) = 0) := by omega
      have hp9 : ¬ (p = 0) := by omega
      go_region_held3 (fun W => W.cell? ⟨tb, 0, none⟩ = some (.int .i64 x)) (first | exact t0 | exact k0 | exact (World.cell?_setCell_other _ _ _ _ (by simp)).trans k0 | go_keep)
        (first | (go_at_call 58; refine (pick_any gs0 (100 - 10 * i + 1) ((p : Int) - 1) _ (HS4.out.on (Quiet.b ⟨_, rfl⟩)) (by omega) (by omega) (by omega)).mono ?_; rintro e w6 ⟨y, rfl, hy0, hy1, hc6, hs6⟩; have k0 := hc6.cell t0 (.inr (show gs0 + 1 ≤ tb by omega)); have k1 := hc6.cell t1 (.inr (show gs0 + 1 ≤ tb by omega)); have kf : w6.frozen? ⟨tb, 1, none⟩ = false := ((HT4.out.drewN 1).chg hc6 (.inr (by omega))).fr 1; have hwS : IntKind.i64.wrap (x + 1 + y) = x + 1 + y := IntWalk.i64_in _ (by omega); have hmd : (x + 1 + y).tmod (p : Int) = (x + 1 + y) % (p : Int) := Int.tmod_eq_emod_of_nonneg (by omega); have hnn : 0 ≤ x + 1 + y := (by omega); have hmw : IntKind.i64.wrap ((x + 1 + y) % (p : Int)) = (x + 1 + y) % (p : Int) := IntWalk.i64_in _ (by have := Int.emod_nonneg (x + 1 + y) (show (p : Int) ≠ 0 by omega); have := Int.emod_lt_of_pos (x + 1 + y) (show (0 : Int) < p by omega); omega)))
      generalize hyv : (x + 1 + y) % (p : Int) = yv at *
      have HG := Lib.hid (okGame_draw hp ⟨hx0, hx1⟩ ⟨hy0, hy1⟩ (z := 0) (by omega))
      have HG2 : Hid (∀ z : Int, 0 ≤ z ∧ z < 3 → okGame p (x, yv, z) = true) := fun z hz => by
        rw [← hyv]
        exact okGame_draw hp ⟨hx0, hx1⟩ ⟨hy0, hy1⟩ hz
      have HT6 := Lib.hid ((HT4.out.drewN 1).chg hc6 (.inr (by omega)))
      have HT7 := Lib.hid (HT6.out.set1 yv)
      have hset : Chg tb (tb + 1) w6 (w6.setCell ⟨tb, 1, none⟩ (.int .i64 yv)) := Chg.of_setG _
      have HS7 := Lib.hid (hs6.chg hset (by omega))
      have HC6 := Lib.hid ((HC4.out.drewN 1).trans hc6)
      have HC7 : Hid (Chg gs0 (gs0 + 1) wr (w6.setCell ⟨tb, 1, none⟩ (.int .i64 yv))) := HC6.out.setNewS _ (show wr.heap.size ≤ tb by omega)
      have hz7 : (w6.setCell ⟨tb, 1, none⟩ (.int .i64 yv)).heap.size = w6.heap.size := by simp
      have hz6 : w5.heap.size ≤ w6.heap.size := hc6.size
      clear hc6 hs6 hset HT4 HT6 HC4 HC6 HS4 k0 k1 kf hwS hmd hnn hmw hyv t0 t1 HG hwA hwB hp0 hp9
      go_wp2_with (fail)
      generalize w6.setCell ⟨tb, 1, none⟩ (.int .i64 yv) = w7 at *
      refine (pick_any gs0 _ 3 w7 HS7.out (by omega) (by omega) (by omega)).mono ?_
      rintro e w8 ⟨z, rfl, hzz0, hzz1, hc8, hs8⟩
      have HT8 := Lib.hid (HT7.out.chg hc8 (.inr (by omega)))
      have t0 := HT8.out.c0
      have t1 := HT8.out.c1
      have t2 := HT8.out.c2
      have tf := HT8.out.fr
      have HT9 := Lib.hid (HT8.out.set2 z)
      have hset : Chg tb (tb + 1) w8 (w8.setCell ⟨tb, 2, none⟩ (.int .i64 z)) := Chg.of_setG _
      have HS9 := Lib.hid (hs8.chg hset (by omega))
      have HC9 : Hid (Chg gs0 (gs0 + 1) wr (w8.setCell ⟨tb, 2, none⟩ (.int .i64 z))) := (HC7.out.trans hc8).setNewS _ (show wr.heap.size ≤ tb by omega)
      clear hset HT7 HT8 HC7 HS7
      have hz8 : w7.heap.size ≤ w8.heap.size := hc8.size
      clear hc8 hs8
      have hzS : (w8.setCell ⟨tb, 2, none⟩ (.int .i64 z)).heap.size = w8.heap.size := by simp
      have HO9 := Lib.hid (own_chg HO.out HC9.out (own_in HO.out) (.inr (by omega)))
      have HB9 := Lib.hid (HB.out.trans HC9.out)
      have hz9 := HC9.out.size
      have HN3 : Hid (∀ j q, [Value.int .i64 x, .int .i64 yv, .int .i64 z][j]? = some q → ((w8.setCell ⟨tb, 2, none⟩ (.int .i64 z)).alloc (.cells #[.int .i64 x, .int .i64 yv, .int .i64 z] 55)).cell? ((⟨w8.heap.size, 0, none⟩ : Addr).add j) = some q) := by
        have := newG (w8.setCell ⟨tb, 2, none⟩ (.int .i64 z)) (.int .i64 x) (.int .i64 yv) (.int .i64 z) 55
        rw [hzS] at this
        exact this
      have HTr : Hid (tripCells (gs ++ [(x, yv, z)]) = tripCells gs ++ [.int .i64 x, .int .i64 yv, .int .i64 z]) := tripSnocG _ _ _ _
      have HOk := Lib.hid (all_snocG HAll.out (HG2.out z ⟨hzz0, hzz1⟩))
      clear HC9 HO HB HT9
      go_wp2_with (at_builtin; go_must (refine wpList_append_lies _ rfl _ _ 25 rfl w.heap.size 55 i0 _ 3 24 Try.underlying25 hii hv0 hv1 hv2 rfl (by omega) (.slice (some ⟨g, 0, none⟩) m cc) m (tripCells gs) rfl (HO9.out.alloc _) ⟨w8.heap.size, 0, none⟩ 1 1 [.int .i64 x, .int .i64 yv, .int .i64 z] rfl rfl HN3.out (oneG rfl rfl rfl) (by omega) (by unfold maxLen; omega) (by omega) (by simp; omega) (w8.heap.size + 1) (by simp) ?_); intro gg cap w10 hown1 hg1 hat hlt10; go_must (have hgA := (HO9.out.alloc (.cells #[.int .i64 x, .int .i64 yv, .int .i64 z] 55))); go_must (have HCn : Hid (Chg gs0 (gs0 + 1) w w10) := (HB9.out.trans (Chg.of_below ((Below.refl _ _).alloc (Nat.le_refl _) _) (Nat.le_refl _))).grownC hg1 hgA); go_must (have HSn := Lib.hid ((HS9.out.on ((Below.refl _ _).alloc (Nat.le_refl _) _)).chg (Chg.of_grown (n := m) (c := cc) (own_in hgA) hg1) hgl)); go_must (have HOn : Hid (w10.ownsRow w.heap.size 55 3 (.slice (some ⟨gg, 0, none⟩) (m + 1) cap) (m + 1) (tripCells (gs ++ [(x, yv, z)]))) := (by show w10.ownsRow _ _ _ _ _ _; rw [HTr.out]; exact hown1)); clear hown1 hg1 hat hgA t0 t1 t2 tf HN3)
      go_roundw
      case rel => exact ⟨i - 1, m + 1, gg, cap, gs ++ [(x, yv, z)], by omega, by first | rfl | go_num, by first | rfl | go_num, HSn.out.more (by omega), HOn.out, HCn.out, HOk.out⟩
      case measure => simp [intOf]; omega
    · obtain rfl : i = 0 := by omega
      go_wp2
      go_ret
      exact ⟨g, m, cc, gs, rfl, by omega, HB.out, HO.out, HAll.out⟩

theorem b10Games_any (p : Nat) (a : Option Addr) (n c : Nat) (bs : List Int) (w : World) (h : Bytes w a n c bs) (ok : okB bs) (hp : 2 ≤ p) (hp2 : p ≤ 16) :
    Calls Try.prog 6 #[.slice a n c, .int .i64 p] w (DrawnG w.heap.size p w) := by
  have C0 := Lib.hid (l00From_any a n c bs w h ok)
  clear h ok
  go_enter Try.func6, Try.ntmps6
  go_wp2_with (fail)
  refine C0.out.mono ?_
  rintro e w1 ⟨rfl, hb1, hs1⟩
  have hgl := hs1.lt
  have HB1 := Lib.hid hb1
  have C1 := Lib.hid (l07DrawOk_any w.heap.size p w1 hs1 hp hp2)
  clear hb1 hs1 C0
  go_wp2_with (fail)
  refine C1.out.mono ?_
  rintro e w2 ⟨g, k, cc, gs, rfl, hk, hc2, ho2, hall⟩
  have HO2 := Lib.hid (ownsRow_low ho2 (by omega : w.heap.size + 1 ≤ w1.heap.size))
  have HB2 := Lib.hid (below_chg HB1.out (by omega) (Nat.le_refl _) hc2)
  have HA := Lib.hid hall
  clear ho2 hc2 hall C1
  go_wp2
  go_ret
  exact ⟨g, k, cc, gs, rfl, hk, HB2.out, HO2.out, HA.out⟩

end Go.Proofs.Ytcflgmjjomiejaa
