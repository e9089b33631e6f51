/- Words of the law on tournaments: lists alike, gaps. -/
import Derived.Test.YthakjkhceeocfaaTouM
import Derived.Test.YthakjkhceeocfaaF32
import Derived.Test.YthakjkhceeocfaaChgC
import Derived.Deep.RegionHeld3
import Derived.Test.YthakjkhceeocfaaL7Games
import Derived.Test.YthakjkhceeocfaaSrc
import Derived.Test.YthakjkhceeocfaaChg
import Derived.Deep.AppendLies
import Derived.Test.YthakjkhceeocfaaSwissA
import Derived.Test.YthakjkhceeocfaaScoresOf
import Derived.Test.YthakjkhceeocfaaMetOf
import Derived.Test.YthakjkhceeocfaaBuchA
import Derived.Test.YthakjkhceeocfaaKnockA
namespace Go.Proofs.Ythakjkhceeocfaa
open Go.RowKit
set_option linter.unusedVariables false
set_option linter.unusedSimpArgs false

theorem float32bits_run (x : Nat) (W : World) : (callFunc 64 #[.float .f32 x]).run Try.prog W = .ok (.value (.int .u32 x)) W := by
  rw [run_callFunc_extern Try.func64 (by kernel_rfl) (by kernel_rfl) (by kernel_rfl) (e := Extern.MathFloatBits.float32bits) (by kernel_rfl)]
  rfl
theorem vl_self {f : Ieee.Format} {x v : Nat} (h : Vl f x v) : f.order x x = some .eq := by
  rw [vl_order h h, if_neg (Nat.lt_irrefl _), if_pos rfl]

theorem l01Bits_vl {x v : Nat} (h : Vl Ieee.single x v) (w : World) : Calls Try.prog 59 #[.float .f32 x] w (RetS w (.int .i64 (wrap64 x))) := by
  have hcf := float32bits_run
  have hfm : FloatKind.f32.format = Ieee.single := rfl
  have hs := vl_self h
  clear h
  go_enter Try.func59, Try.ntmps59
  go_wp2
  go_ret
  exact ⟨rfl, rfl⟩

theorem l01Same_vl {x v : Nat} (h : Vl Ieee.single x v) (w : World) : Calls Try.prog 51 #[.float .f32 x, .float .f32 x] w (RetS w (.bool true)) := by
  have C := Lib.hid (fun W => l01Bits_vl h W)
  clear h
  generalize wrap64 (x : Int) = z at *
  go_enter Try.func51, Try.ntmps51
  go_wp2_with (fail)
  refine (C.out _).mono ?_
  rintro e w1 ⟨rfl, rfl⟩
  go_wp2_with (fail)
  refine (C.out _).mono ?_
  rintro e w1 ⟨rfl, rfl⟩
  go_wp2
  go_ret
  exact ⟨ret_bool (by simp), rfl⟩

theorem sameNumber_vl {x v : Nat} (h : Vl Ieee.single x v) (w : World) : Calls Try.prog 29 #[.float .f32 x, .float .f32 x] w (RetS w (.bool true)) := by
  have C := Lib.hid (fun W => l01Same_vl h W)
  clear h
  go_enter Try.func29, Try.ntmps29
  go_wp2_with (fail)
  refine (C.out _).mono ?_
  rintro e w1 ⟨rfl, rfl⟩
  go_wp2
  go_ret
  exact ⟨rfl, rfl⟩

/-- lists of the same numbers are told alike -/
theorem b10List_same (a : Option Addr) (n c : Nat) (xs : List Nat) (a' : Option Addr) (n' c' : Nat) (w : World) (h : Floats w a n c xs) (h' : Floats w a' n' c' xs) (hv : ∀ i, i < n → ∃ v, Vl Ieee.single (xs.getD i 0) v) :
    Calls Try.prog 10 #[.slice a n c, .slice a' n' c'] w (RetQ w (.bool true)) := by
  obtain ⟨hc, hb, hcell⟩ := h.at 0
  obtain ⟨hc', hb', hcell'⟩ := h'.at 0
  obtain rfl : n = n' := by rw [← h.len, ← h'.len]
  clear h h'
  have HV := Lib.hid hv
  clear hv
  go_enter Try.func10, Try.ntmps10
  go_wp2
  go_loopw [13] (fun i wr => ∃ k : Nat, k ≤ n ∧ i = .int .i64 k ∧ Quiet w wr) (fun i _ => n - (intOf i).toNat)
  case atStart => exact ⟨0, by omega, rfl, Quiet.refl _⟩
  case round =>
    obtain ⟨k, hk, rfl, hq⟩ := hrel
    have HW := Lib.hid hq
    clear hq
    by_cases hlt : k < n
    · obtain ⟨b, off, rfl, hlb, hx⟩ := hcell k hlt
      obtain ⟨b', off', rfl, hlb', hy⟩ := hcell' k hlt
      have hxk := cell_on (HW.out.below _) (hx k hlt)
      have hyk := cell_on (HW.out.below _) (hy k hlt)
      obtain ⟨v, hv⟩ := HV.out k hlt
      clear hcell hcell' hx hy HV
      generalize xs.getD k 0 = x at *
      have C := Lib.hid (fun W => sameNumber_vl hv W)
      clear hv
      go_wp2
      go_quiet (first | (go_at_call 29; exact qS (C.out _)))
      go_wp2
      go_roundw
      case rel => exact ⟨k + 1, by omega, by go_num, HW.out.trans ⟨_, rfl⟩⟩
      case measure => simp [intOf]; omega
    · obtain rfl : k = n := by omega
      clear hcell hcell' HV
      go_wp2
      go_ret
      exact ⟨rfl, HW.out⟩

/-- lists of the same integers are told alike -/
theorem b10Ints_same (a : Option Addr) (n c : Nat) (xs : List Int) (a' : Option Addr) (n' c' : Nat) (w : World) (h : Ints w a n c xs) (h' : Ints w a' n' c' xs) :
    Calls Try.prog 11 #[.slice a n c, .slice a' n' c'] w (RetQ w (.bool true)) := by
  obtain ⟨hc, hb, hcell⟩ := h.at
  obtain ⟨hc', hb', hcell'⟩ := h'.at
  obtain rfl : n = n' := by rw [← h.len, ← h'.len]
  clear h h'
  go_enter Try.func11, Try.ntmps11
  go_wp2
  go_loopw [13] (fun i wr => ∃ k : Nat, k ≤ n ∧ i = .int .i64 k ∧ Quiet w wr) (fun i _ => n - (intOf i).toNat)
  case atStart => exact ⟨0, by omega, rfl, Quiet.refl _⟩
  case round =>
    obtain ⟨k, hk, rfl, hq⟩ := hrel
    have HW := Lib.hid hq
    clear hq
    by_cases hlt : k < n
    · obtain ⟨b, off, rfl, hlb, hx⟩ := hcell k hlt
      obtain ⟨b', off', rfl, hlb', hy⟩ := hcell' k hlt
      have hxk := cell_on (HW.out.below _) (hx k hlt)
      have hyk := cell_on (HW.out.below _) (hy k hlt)
      clear hcell hcell' hx hy
      generalize xs.getD k 0 = x at *
      go_wp2
      go_quiet (fail)
      go_wp2
      go_roundw
      case rel => exact ⟨k + 1, by omega, by go_num, HW.out.trans ⟨_, rfl⟩⟩
      case measure => simp [intOf]; omega
    · obtain rfl : k = n := by omega
      clear hcell hcell'
      go_wp2
      go_ret
      exact ⟨rfl, HW.out⟩

/-- the gap of two numbers of 64 bits -/
theorem b10Gap_dd {K n m x y : Nat} (hx : Dd K n x) (hy : Dd K m y) (hn : n < 2 ^ 53) (hm : m < 2 ^ 53) (hK : K ≤ 1000) (w : World) :
    Calls Try.prog 12 #[.float .f64 x, .float .f64 y] w fun e w' => ∃ r, e = .returned (.float .f64 r) ∧ Dd K ((n - m) + (m - n)) r ∧ w = w' := by
  have hfm : FloatKind.f64.format = Ieee.double := rfl
  have hlt := hx.lt hy
  by_cases h : n < m
  · rw [decide_eq_true h] at hlt
    obtain ⟨r, h1, h2⟩ := Dd.sub hy hx (by omega) hm hK
    have HR : Hid (Dd K ((n - m) + (m - n)) r) := by
      show Dd _ _ _
      rw [show n - m + (m - n) = m - n by omega]
      exact h2
    have hop : ∀ t W, (binOp .sub t (.float .f64 y) (.float .f64 x)).run Try.prog W = .ok (.float .f64 r) W := fun t W => run_float_arith W .sub t .f64 _ _ _ h1
    clear hx hy h1 h2
    go_enter Try.func12, Try.ntmps12
    go_wp2_with (simp only [hop])
    go_ret
    exact ⟨r, rfl, HR.out, rfl⟩
  · rw [decide_eq_false h] at hlt
    obtain ⟨r, h1, h2⟩ := Dd.sub hx hy (by omega) hn hK
    have HR : Hid (Dd K ((n - m) + (m - n)) r) := by
      show Dd _ _ _
      rw [show n - m + (m - n) = n - m by omega]
      exact h2
    have hop : ∀ t W, (binOp .sub t (.float .f64 x) (.float .f64 y)).run Try.prog W = .ok (.float .f64 r) W := fun t W => run_float_arith W .sub t .f64 _ _ _ h1
    clear hx hy h1 h2
    go_enter Try.func12, Try.ntmps12
    go_wp2_with (simp only [hop])
    go_ret
    exact ⟨r, rfl, HR.out, rfl⟩

theorem newG (W : World) (u v x : Value) (T : TypeId) : ∀ j y, [u, v, x][j]? = some y → (W.alloc (.cells #[u, v, x] T)).cell? ((⟨W.heap.size, 0, none⟩ : Addr).add j) = some y := by
  intro j y hj
  match j, hj with
  | 0, h => simp at h; subst h; go_simp
  | 1, h => simp at h; subst h; go_simp
  | 2, h => simp at h; subst h; go_simp
theorem oneG {u v x : Value} (h1 : u.oneCell' = true) (h2 : v.oneCell' = true) (h3 : x.oneCell' = true) : ∀ y ∈ [u, v, x], y.oneCell' = true := by
  intro y hy
  simp at hy
  rcases hy with rfl | rfl | rfl <;> assumption
theorem tripSnocG (gs : List (Int × Int × Int)) (x y z : Int) : tripCells (gs ++ [(x, y, z)]) = tripCells gs ++ [.int .i64 x, .int .i64 y, .int .i64 z] := by simp [tripCells]

/-- the three cells of a game, none of which is frozen -/
structure GmC (W : World) (tb : Nat) (F S N : Int) : Prop where
  c0 : W.cell? ⟨tb, 0, none⟩ = some (.int .i64 F)
  c1 : W.cell? ⟨tb, 1, none⟩ = some (.int .i64 S)
  c2 : W.cell? ⟨tb, 2, none⟩ = some (.int .i64 N)
  fr : ∀ j, W.frozen? ⟨tb, j, none⟩ = false
theorem GmC.set1 {W : World} {tb : Nat} {F S N : Int} (h : GmC W tb F S N) (v : Int) : GmC (W.setCell ⟨tb, 1, none⟩ (.int .i64 v)) tb F v N := by
  obtain ⟨h0, h1, h2, h3⟩ := h
  exact ⟨by rw [World.cell?_setCell_other _ _ _ _ (by simp)]; exact h0, World.cell?_setCell_same _ _ _ h1, by rw [World.cell?_setCell_other _ _ _ _ (by simp)]; exact h2, fun j => by rw [World.frozen?_setCell]; exact h3 j⟩
theorem GmC.set2 {W : World} {tb : Nat} {F S N : Int} (h : GmC W tb F S N) (v : Int) : GmC (W.setCell ⟨tb, 2, none⟩ (.int .i64 v)) tb F S v := by
  obtain ⟨h0, h1, h2, h3⟩ := h
  exact ⟨by rw [World.cell?_setCell_other _ _ _ _ (by simp)]; exact h0, by rw [World.cell?_setCell_other _ _ _ _ (by simp)]; exact h1, World.cell?_setCell_same _ _ _ h2, fun j => by rw [World.frozen?_setCell]; exact h3 j⟩
theorem GmC.drewN {W : World} {tb : Nat} {F S N : Int} (h : GmC W tb F S N) (q : Nat) : GmC (W.drewN q) tb F S N := ⟨h.c0, h.c1, h.c2, h.fr⟩
theorem GmC.new (W : World) (F S N : Int) : GmC (W.alloc (.cells #[.int .i64 F, .int .i64 S, .int .i64 N] 59)) W.heap.size F S N := ⟨by go_simp, by go_simp, by go_simp, fun j => by go_simp⟩
theorem GmC.chg {W W' : World} {tb lo hi : Nat} {F S N : Int} (h : GmC W tb F S N) (hc : Chg lo hi W W') (hd : tb < lo ∨ hi ≤ tb) : GmC W' tb F S N :=
  ⟨hc.cell h.c0 hd, hc.cell h.c1 hd, hc.cell h.c2 hd, fun j => (World.frozen?_of_block (hc.block tb (cell_lt h.c0) hd)).trans (h.fr j)⟩
theorem Chg.of_setG {w : World} {b j : Nat} (v : Value) : Chg b (b + 1) w (w.setCell ⟨b, j, none⟩ v) := (Chg.refl b (b + 1) w).set (p := ⟨b, j, none⟩) v (Nat.le_refl _) (Nat.lt_succ_self _)
theorem okGame_draw {p : Nat} {x y z : Int} (hp : 2 ≤ p) (hx : 0 ≤ x ∧ x < p) (hy : 0 ≤ y ∧ y < p - 1) (hz : 0 ≤ z ∧ z < 3) : okGame p (x, (x + 1 + y) % (p : Int), z) = true := by
  have h1 := Int.emod_nonneg (x + 1 + y) (show (p : Int) ≠ 0 by omega)
  have h2 := Int.emod_lt_of_pos (x + 1 + y) (show (0 : Int) < p by omega)
  have h3 : x ≠ (x + 1 + y) % (p : Int) := by
    by_cases h : x + 1 + y < p
    · rw [Int.emod_eq_of_lt (by omega) h]; omega
    · have e : (x + 1 + y) % (p : Int) = x + 1 + y - p := by
        rw [← Int.sub_emod_right (x + 1 + y) (p : Int), Int.emod_eq_of_lt (by omega) (by omega)]
      rw [e]; omega
  unfold okGame inB
  dsimp only
  rw [decide_eq_true hx.1, decide_eq_true (by omega : x ≤ (p : Int) - 1), decide_eq_true h1, decide_eq_true (by omega : (x + 1 + y) % (p : Int) ≤ (p : Int) - 1), decide_eq_true hz.1, decide_eq_true (by omega : z ≤ 2)]
  have e2 : (x == (x + 1 + y) % (p : Int)) = false := by simpa using h3
  rw [e2]
  rfl
theorem all_snocG {p : Int} {gs : List (Int × Int × Int)} {y : Int × Int × Int} (h : ∀ g ∈ gs, okGame p g = true) (h2 : okGame p y = true) : ∀ g ∈ gs ++ [y], okGame p g = true := fun g hg => by
  rcases List.mem_append.1 hg with hg | hg
  · exact h g hg
  · rw [List.mem_singleton.1 hg]; exact h2

/-- An append to what has come behind the beginning. -/
theorem Chg.grownC {lo hi : Nat} {a w w' : World} {v : Value} {e : TypeId} {s n : Nat} {xs : List Value} (h : Chg lo hi a w) (g : w.grownBy w' v.ownBlock) (ho : w.ownsRow a.heap.size e s v n xs) : Chg lo hi a w' :=
  ⟨g.os.trans h.os, g.tape.trans h.tape, g.output.trans h.output, Nat.le_trans h.size g.size, fun k hk hr => (g.block k (Nat.lt_of_lt_of_le hk h.size) (fun e => by have := (ho.lt k e.symm).1; omega)).trans (h.block k hk hr)⟩
/-- what a draw of games gives: an own row of few games -/
def DrawnG (B p : Nat) (w : World) (e : Ending) (w' : World) : Prop := ∃ g k cc gs, e = .returned (.slice (some ⟨g, 0, none⟩) k cc) ∧ k ≤ 8 ∧ Below B w w' ∧ w'.ownsRow (B + 1) 59 3 (.slice (some ⟨g, 0, none⟩) k cc) k (tripCells gs) ∧ ∀ g ∈ gs, okGame p g = true

set_option maxHeartbeats 3200000 in
set_option maxRecDepth 100000 in
theorem l07DrawOk_any (gs0 p : Nat) (w : World) (hs : Src gs0 0 w) (hp : 2 ≤ p) (hp2 : p ≤ 16) :
    Calls Try.prog 31 #[.pointer (some ⟨gs0, 0, none⟩), .int .i64 p] w fun e w' => ∃ g k cc gs, e = .returned (.slice (some ⟨g, 0, none⟩) k cc) ∧ k ≤ 8 ∧ Chg gs0 (gs0 + 1) w w' ∧ w'.ownsRow w.heap.size 59 3 (.slice (some ⟨g, 0, none⟩) k cc) k (tripCells gs) ∧ ∀ g ∈ gs, okGame p g = true := by
  have HS := Lib.hid hs
  have hgl := hs.lt
  have HO0 : Hid ((w.alloc (.cells #[] 59)).ownsRow w.heap.size 59 3 (.slice (some ⟨w.heap.size, 0, none⟩) 0 0) 0 (tripCells [])) := World.ownsRow_made (e := 59) (size := 3) (base := w.heap.size) w #[] 0 (Nat.le_refl _) (Nat.zero_le _) (by simp [tripCells])
  have hbA : Below w.heap.size w (w.alloc (.cells #[] 59)) := (Below.refl _ _).alloc (Nat.le_refl _) _
  have HS1 : Hid (Src gs0 0 (w.alloc (.cells #[] 59))) := hs.on hbA
  have HB1 : Hid (Chg gs0 (gs0 + 1) w (w.alloc (.cells #[] 59))) := Chg.of_below hbA (Nat.le_refl _)
  have hz1 : (w.alloc (.cells #[] 59)).heap.size = w.heap.size + 1 := by simp
  clear hs HS hbA
  obtain ⟨i0, hii, hv0, hv1, hv2⟩ := info_parts infoGame
  go_enter Try.func31, Try.ntmps31
  go_wp2_with (fail)
  generalize w.alloc (.cells #[] 59) = w2 at *
  refine (pick_any gs0 0 9 w2 HS1.out (by omega) (by omega) (by omega)).mono ?_
  rintro e w3 ⟨N, rfl, hN0, hN1, hc3, hs3⟩
  obtain ⟨N, rfl⟩ : ∃ q : Nat, N = q := ⟨N.toNat, by omega⟩
  have HS3 := Lib.hid (hs3.more (show 0 + 1 ≤ 100 - 10 * N by omega))
  have HO3 := Lib.hid (own_chg HO0.out hc3 (own_in HO0.out) (.inr (by omega)))
  have HB3 := Lib.hid (HB1.out.trans hc3)
  clear hc3 hs3 HB1 HS1 HO0
  go_wp2
  go_loopw [5, 6] (fun vo vn wr => ∃ (i m g cc : Nat) (gs : List (Int × Int × Int)), i + m = N ∧ vn = .int .i64 i ∧ vo = .slice (some ⟨g, 0, none⟩) m cc ∧ Src gs0 (100 - 10 * i) wr ∧ wr.ownsRow w.heap.size 59 3 (.slice (some ⟨g, 0, none⟩) m cc) m (tripCells gs) ∧ Chg gs0 (gs0 + 1) w wr ∧ Hid (∀ g ∈ gs, okGame p g = true)) (fun _ vn _ => (intOf vn).toNat)
  case atStart => exact ⟨N, 0, w.heap.size, 0, [], by omega, rfl, rfl, HS3.out, HO3.out, HB3.out, fun x hx => (by cases hx)⟩
  case round =>
    obtain ⟨i, m, g, cc, gs, him, rfl, rfl, hs, ho, hb, HAll⟩ := hrel
    have HS := Lib.hid hs
    have HO := Lib.hid ho
    have HB := Lib.hid hb
    have hsz := hb.size
    clear hs ho hb HS3 HO3 HB3
    by_cases hi0 : 0 < i
    · have hw1 : IntKind.i64.wrap ((i : Int) - 1) = ((i - 1 : Nat) : Int) := by rw [IntWalk.i64_in _ (by omega)]; omega
      go_wp2_with (fail)
      refine (pick_any gs0 _ p wr HS.out (by omega) (by omega) (by omega)).mono ?_
      rintro e w4 ⟨x, rfl, hx0, hx1, hc4, hs4⟩
      have hz4 := hc4.size
      have HT4 := Lib.hid (GmC.new w4 x 0 0)
      have hbT : Below w4.heap.size w4 (w4.alloc (.cells #[.int .i64 x, .int .i64 0, .int .i64 0] 59)) := (Below.refl _ _).alloc (Nat.le_refl _) _
      have HS4 := Lib.hid (hs4.on hbT)
      have HC4 : Hid (Chg gs0 (gs0 + 1) wr (w4.alloc (.cells #[.int .i64 x, .int .i64 0, .int .i64 0] 59))) := hc4.trans (Chg.of_below hbT (Nat.le_refl _))
      have hzT : (w4.alloc (.cells #[.int .i64 x, .int .i64 0, .int .i64 0] 59)).heap.size = w4.heap.size + 1 := by simp
      clear hc4 hs4 hbT HS
      go_wp2_with (fail)
      generalize w4.alloc (.cells #[.int .i64 x, .int .i64 0, .int .i64 0] 59) = w5 at *
      generalize w4.heap.size = tb at *
      have t0 := HT4.out.c0
      have t1 := HT4.out.c1
      have hwA : IntKind.i64.wrap (x + 1) = x + 1 := IntWalk.i64_in _ (by omega)
      have hwB : IntKind.i64.wrap ((p : Int) - 1) = (p : Int) - 1 := IntWalk.i64_in _ (by omega)
      have hp0 : ¬ ((p : Int) = 0) := by omega
      have hp9 : ¬ (p = 0) := by omega
      go_region_held3 (fun W => W.cell? ⟨tb, 0, none⟩ = some (.int .i64 x)) (first | exact t0 | exact k0 | exact (World.cell?_setCell_other _ _ _ _ (by simp)).trans k0 | go_keep)
        (first | (go_at_call 52; refine (pick_any gs0 (100 - 10 * i + 1) ((p : Int) - 1) _ (HS4.out.on (Quiet.b ⟨_, rfl⟩)) (by omega) (by omega) (by omega)).mono ?_; rintro e w6 ⟨y, rfl, hy0, hy1, hc6, hs6⟩; have k0 := hc6.cell t0 (.inr (show gs0 + 1 ≤ tb by omega)); have k1 := hc6.cell t1 (.inr (show gs0 + 1 ≤ tb by omega)); have kf : w6.frozen? ⟨tb, 1, none⟩ = false := ((HT4.out.drewN 1).chg hc6 (.inr (by omega))).fr 1; have hwS : IntKind.i64.wrap (x + 1 + y) = x + 1 + y := IntWalk.i64_in _ (by omega); have hmd : (x + 1 + y).tmod (p : Int) = (x + 1 + y) % (p : Int) := Int.tmod_eq_emod_of_nonneg (by omega); have hnn : 0 ≤ x + 1 + y := (by omega); have hmw : IntKind.i64.wrap ((x + 1 + y) % (p : Int)) = (x + 1 + y) % (p : Int) := IntWalk.i64_in _ (by have := Int.emod_nonneg (x + 1 + y) (show (p : Int) ≠ 0 by omega); have := Int.emod_lt_of_pos (x + 1 + y) (show (0 : Int) < p by omega); omega)))
      generalize hyv : (x + 1 + y) % (p : Int) = yv at *
      have HG := Lib.hid (okGame_draw hp ⟨hx0, hx1⟩ ⟨hy0, hy1⟩ (z := 0) (by omega))
      have HG2 : Hid (∀ z : Int, 0 ≤ z ∧ z < 3 → okGame p (x, yv, z) = true) := fun z hz => by
        rw [← hyv]
        exact okGame_draw hp ⟨hx0, hx1⟩ ⟨hy0, hy1⟩ hz
      have HT6 := Lib.hid ((HT4.out.drewN 1).chg hc6 (.inr (by omega)))
      have HT7 := Lib.hid (HT6.out.set1 yv)
      have hset : Chg tb (tb + 1) w6 (w6.setCell ⟨tb, 1, none⟩ (.int .i64 yv)) := Chg.of_setG _
      have HS7 := Lib.hid (hs6.chg hset (by omega))
      have HC6 := Lib.hid ((HC4.out.drewN 1).trans hc6)
      have HC7 : Hid (Chg gs0 (gs0 + 1) wr (w6.setCell ⟨tb, 1, none⟩ (.int .i64 yv))) := HC6.out.setNewS _ (show wr.heap.size ≤ tb by omega)
      have hz7 : (w6.setCell ⟨tb, 1, none⟩ (.int .i64 yv)).heap.size = w6.heap.size := by simp
      have hz6 : w5.heap.size ≤ w6.heap.size := hc6.size
      clear hc6 hs6 hset HT4 HT6 HC4 HC6 HS4 k0 k1 kf hwS hmd hnn hmw hyv t0 t1 HG hwA hwB hp0 hp9
      go_wp2_with (fail)
      generalize w6.setCell ⟨tb, 1, none⟩ (.int .i64 yv) = w7 at *
      refine (pick_any gs0 _ 3 w7 HS7.out (by omega) (by omega) (by omega)).mono ?_
      rintro e w8 ⟨z, rfl, hzz0, hzz1, hc8, hs8⟩
      have HT8 := Lib.hid (HT7.out.chg hc8 (.inr (by omega)))
      have t0 := HT8.out.c0
      have t1 := HT8.out.c1
      have t2 := HT8.out.c2
      have tf := HT8.out.fr
      have HT9 := Lib.hid (HT8.out.set2 z)
      have hset : Chg tb (tb + 1) w8 (w8.setCell ⟨tb, 2, none⟩ (.int .i64 z)) := Chg.of_setG _
      have HS9 := Lib.hid (hs8.chg hset (by omega))
      have HC9 : Hid (Chg gs0 (gs0 + 1) wr (w8.setCell ⟨tb, 2, none⟩ (.int .i64 z))) := (HC7.out.trans hc8).setNewS _ (show wr.heap.size ≤ tb by omega)
      clear hset HT7 HT8 HC7 HS7
      have hz8 : w7.heap.size ≤ w8.heap.size := hc8.size
      clear hc8 hs8
      have hzS : (w8.setCell ⟨tb, 2, none⟩ (.int .i64 z)).heap.size = w8.heap.size := by simp
      have HO9 := Lib.hid (own_chg HO.out HC9.out (own_in HO.out) (.inr (by omega)))
      have HB9 := Lib.hid (HB.out.trans HC9.out)
      have hz9 := HC9.out.size
      have HN3 : Hid (∀ j q, [Value.int .i64 x, .int .i64 yv, .int .i64 z][j]? = some q → ((w8.setCell ⟨tb, 2, none⟩ (.int .i64 z)).alloc (.cells #[.int .i64 x, .int .i64 yv, .int .i64 z] 59)).cell? ((⟨w8.heap.size, 0, none⟩ : Addr).add j) = some q) := by
        have := newG (w8.setCell ⟨tb, 2, none⟩ (.int .i64 z)) (.int .i64 x) (.int .i64 yv) (.int .i64 z) 59
        rw [hzS] at this
        exact this
      have HTr : Hid (tripCells (gs ++ [(x, yv, z)]) = tripCells gs ++ [.int .i64 x, .int .i64 yv, .int .i64 z]) := tripSnocG _ _ _ _
      have HOk := Lib.hid (all_snocG HAll.out (HG2.out z ⟨hzz0, hzz1⟩))
      clear HC9 HO HB HT9
      go_wp2_with (at_builtin; go_must (refine wpList_append_lies _ rfl _ _ 37 rfl w.heap.size 59 i0 _ 3 24 Try.underlying37 hii hv0 hv1 hv2 rfl (by omega) (.slice (some ⟨g, 0, none⟩) m cc) m (tripCells gs) rfl (HO9.out.alloc _) ⟨w8.heap.size, 0, none⟩ 1 1 [.int .i64 x, .int .i64 yv, .int .i64 z] rfl rfl HN3.out (oneG rfl rfl rfl) (by omega) (by unfold maxLen; omega) (by omega) (by simp; omega) (w8.heap.size + 1) (by simp) ?_); intro gg cap w10 hown1 hg1 hat hlt10; go_must (have hgA := (HO9.out.alloc (.cells #[.int .i64 x, .int .i64 yv, .int .i64 z] 59))); go_must (have HCn : Hid (Chg gs0 (gs0 + 1) w w10) := (HB9.out.trans (Chg.of_below ((Below.refl _ _).alloc (Nat.le_refl _) _) (Nat.le_refl _))).grownC hg1 hgA); go_must (have HSn := Lib.hid ((HS9.out.on ((Below.refl _ _).alloc (Nat.le_refl _) _)).chg (Chg.of_grown (n := m) (c := cc) (own_in hgA) hg1) hgl)); go_must (have HOn : Hid (w10.ownsRow w.heap.size 59 3 (.slice (some ⟨gg, 0, none⟩) (m + 1) cap) (m + 1) (tripCells (gs ++ [(x, yv, z)]))) := (by show w10.ownsRow _ _ _ _ _ _; rw [HTr.out]; exact hown1)); clear hown1 hg1 hat hgA t0 t1 t2 tf HN3)
      go_roundw
      case rel => exact ⟨i - 1, m + 1, gg, cap, gs ++ [(x, yv, z)], by omega, by first | rfl | go_num, by first | rfl | go_num, HSn.out.more (by omega), HOn.out, HCn.out, HOk.out⟩
      case measure => simp [intOf]; omega
    · obtain rfl : i = 0 := by omega
      go_wp2
      go_ret
      exact ⟨g, m, cc, gs, rfl, by omega, HB.out, HO.out, HAll.out⟩

theorem b10Games_any (p : Nat) (a : Option Addr) (n c : Nat) (bs : List Int) (w : World) (h : Bytes w a n c bs) (ok : okB bs) (hp : 2 ≤ p) (hp2 : p ≤ 16) :
    Calls Try.prog 13 #[.slice a n c, .int .i64 p] w (DrawnG w.heap.size p w) := by
  have C0 := Lib.hid (l00From_any a n c bs w h ok)
  clear h ok
  go_enter Try.func13, Try.ntmps13
  go_wp2_with (fail)
  refine C0.out.mono ?_
  rintro e w1 ⟨rfl, hb1, hs1⟩
  have hgl := hs1.lt
  have HB1 := Lib.hid hb1
  have C1 := Lib.hid (l07DrawOk_any w.heap.size p w1 hs1 hp hp2)
  clear hb1 hs1 C0
  go_wp2_with (fail)
  refine C1.out.mono ?_
  rintro e w2 ⟨g, k, cc, gs, rfl, hk, hc2, ho2, hall⟩
  have HO2 := Lib.hid (ownsRow_low ho2 (by omega : w.heap.size + 1 ≤ w1.heap.size))
  have HB2 := Lib.hid (below_chg HB1.out (by omega) (Nat.le_refl _) hc2)
  have HA := Lib.hid hall
  clear ho2 hc2 hall C1
  go_wp2
  go_ret
  exact ⟨g, k, cc, gs, rfl, hk, HB2.out, HO2.out, HA.out⟩

theorem okGames_of {p : Nat} {gs : List (Int × Int × Int)} (h2 : 2 ≤ p) (h16 : p ≤ 16) (hl : gs.length ≤ 128) (hg : ∀ g ∈ gs, okGame p g = true) : okGames p gs = true := by
  simp only [okGames, Bool.and_eq_true, inB_iff, decide_eq_true_eq, List.all_eq_true]
  exact ⟨⟨⟨by omega, by omega⟩, hl⟩, hg⟩
theorem scoresRes_ok {p : Nat} {gs : List (Int × Int × Int)} (h : okGames p gs = true) : scoresRes p gs = (tally scorePs p gs, true) := by
  unfold scoresRes
  rw [if_pos h, Int.toNat_natCast]
theorem metRes_ok {p : Nat} {gs : List (Int × Int × Int)} (h : okGames p gs = true) : metRes p gs = (tally (metPs p) (p * p) gs, true) := by
  unfold metRes
  rw [if_pos h, Int.toNat_natCast]
theorem buchRes_ok {p : Nat} {gs : List (Int × Int × Int)} (h : okGames p gs = true) : buchRes p gs = (tally (buchPs (tally scorePs p gs)) p gs, true) := by
  unfold buchRes
  rw [if_pos h, Int.toNat_natCast]
theorem buch_upb (p : Nat) (S : List Int) (gs : List (Int × Int × Int)) (hS : Upb 512 S) (hn : gs.length ≤ 128) : Upb 131072 (tally (buchPs S) p gs) := by
  have key : ∀ k, k ≤ gs.length → Upb (1024 * k) (tally (buchPs S) p (gs.take k)) := by
    intro k
    induction k with
    | zero => intro _; simpa [tally] using Upb.zero p
    | succ k ih =>
      intro hk
      rw [tally_succ (buchPs S) p gs k (by omega)]
      exact (((ih (by omega)).add _ _ 512 (hS _).1 (hS _).2).add _ _ 512 (hS _).1 (hS _).2).wide (by omega)
  have := key gs.length (Nat.le_refl _)
  rw [List.take_length] at this
  exact this.wide (by omega)
theorem upb_mem {b : Int} {xs : List Int} (h : Upb b xs) : ∀ x ∈ xs, 0 ≤ x ∧ x ≤ b := fun x hx => by
  obtain ⟨i, hi, rfl⟩ := List.getElem_of_mem hx
  have := h i
  rw [List.getD_eq_getElem?_getD, List.getElem?_eq_getElem hi] at this
  exact this
theorem tieRes_tour {sc ot : List Int} (h2 : 2 ≤ sc.length) (h16 : sc.length ≤ 16) (hs : Upb 512 sc) (hl : ot.length = sc.length) (ho : Upb 131072 ot) : tieRes sc ot = (tieList sc ot, true) := by
  unfold tieRes
  rw [if_pos]
  refine ⟨?_, hl, ?_⟩
  · simp only [okScores, Bool.and_eq_true, decide_eq_true_eq, List.all_eq_true, inB_iff]
    exact ⟨⟨h2, h16⟩, fun x hx => by have := upb_mem hs x hx; omega⟩
  · simp only [List.all_eq_true, inB_iff]
    exact fun x hx => by have := upb_mem ho x hx; omega

theorem pairwise_next {α : Type} {R : α → α → Prop} {L : List α} (h : L.Pairwise R) (d : α) {i : Nat} (hi : i + 1 < L.length) : R (L.getD i d) (L.getD (i + 1) d) := by
  have := List.pairwise_iff_getElem.1 h i (i + 1) (by omega) hi (by omega)
  simpa [hi, show i < L.length by omega] using this
/-- orders never ascend -/
theorem tie_next (sc ot : List Int) {i : Nat} (hi : i + 1 < sc.length) :
    (0 ≤ (tieList sc ot).getD i 0 ∧ (tieList sc ot).getD i 0 < sc.length) ∧
    ¬ (sc.getD ((tieList sc ot).getD i 0).toNat 0 < sc.getD ((tieList sc ot).getD (i + 1) 0).toNat 0) ∧
    ¬ (sc.getD ((tieList sc ot).getD i 0).toNat 0 = sc.getD ((tieList sc ot).getD (i + 1) 0).toNat 0 ∧ ot.getD ((tieList sc ot).getD i 0).toNat 0 < ot.getD ((tieList sc ot).getD (i + 1) 0).toNat 0) := by
  have hl := tieList_len sc ot
  have h1 := pairwise_next (tieList_sorted sc ot) 0 (i := i) (by omega)
  have h2 := (tieList_mem sc ot _).1 (getD_mem (d := 0) (k := i) (by omega : i < (tieList sc ot).length))
  rw [tieLe_iff, better_iff, better_not] at h1
  exact ⟨h2, by omega, by omega⟩
theorem tie_rng (sc ot : List Int) {i : Nat} (hi : i < sc.length) : 0 ≤ (tieList sc ot).getD i 0 ∧ (tieList sc ot).getD i 0 < sc.length := by
  have hl := tieList_len sc ot
  exact (tieList_mem sc ot _).1 (getD_mem (d := 0) (k := i) (by omega : i < (tieList sc ot).length))

/-- pairs that have not met, of which the first has no lower score -/
structure Prs (sc met : List Int) (n : Nat) (L : List Int) : Prop where
  even : L.length % 2 = 0
  rng : ∀ i, i < L.length → 0 ≤ L.getD i 0 ∧ L.getD i 0 < n
  free : ∀ i, 2 * i + 1 < L.length → met.getD (L.getD (2 * i) 0 * n + L.getD (2 * i + 1) 0).toNat 0 = 0
  desc : ∀ i, 2 * i + 1 < L.length → sc.getD (L.getD (2 * i + 1) 0).toNat 0 ≤ sc.getD (L.getD (2 * i) 0).toNat 0
theorem Prs.free2 {sc met : List Int} {n : Nat} {L : List Int} (h : Prs sc met n L) {i : Nat} (hi : i % 2 = 0) (hl : i + 1 < L.length) : met.getD (L.getD i 0 * n + L.getD (i + 1) 0).toNat 0 = 0 := by
  have := h.free (i / 2) (by omega)
  rw [show 2 * (i / 2) = i by omega] at this
  exact this
theorem Prs.desc2 {sc met : List Int} {n : Nat} {L : List Int} (h : Prs sc met n L) {i : Nat} (hi : i % 2 = 0) (hl : i + 1 < L.length) : sc.getD (L.getD (i + 1) 0).toNat 0 ≤ sc.getD (L.getD i 0).toNat 0 := by
  have := h.desc (i / 2) (by omega)
  rw [show 2 * (i / 2) = i by omega] at this
  exact this
theorem getD_app1 {L : List Int} {a b : Int} {i : Nat} (h : i < L.length) : (L ++ [a, b]).getD i 0 = L.getD i 0 := by rw [List.getD_eq_getElem?_getD, List.getElem?_append_left h, List.getD_eq_getElem?_getD]
theorem getD_app2 {L : List Int} {a b : Int} : (L ++ [a, b]).getD L.length 0 = a := by simp
theorem getD_app3 {L : List Int} {a b : Int} : (L ++ [a, b]).getD (L.length + 1) 0 = b := by simp
theorem Prs.snoc {sc met : List Int} {n : Nat} {L : List Int} {a b : Int} (h : Prs sc met n L) (ha : 0 ≤ a ∧ a < n) (hb : 0 ≤ b ∧ b < n) (hf : met.getD (a * n + b).toNat 0 = 0) (hd : sc.getD b.toNat 0 ≤ sc.getD a.toNat 0) : Prs sc met n (L ++ [a, b]) := by
  obtain ⟨h1, h2, h3, h4⟩ := h
  refine ⟨by simp; omega, fun i hi => ?_, fun i hi => ?_, fun i hi => ?_⟩
  · simp only [List.length_append, List.length_cons, List.length_nil] at hi
    by_cases e1 : i < L.length
    · rw [getD_app1 e1]; exact h2 i e1
    · by_cases e2 : i = L.length
      · subst e2; rw [getD_app2]; exact ha
      · obtain rfl : i = L.length + 1 := by omega
        rw [getD_app3]; exact hb
  · simp only [List.length_append, List.length_cons, List.length_nil] at hi
    by_cases e1 : 2 * i + 1 < L.length
    · rw [getD_app1 e1, getD_app1 (by omega)]; exact h3 i e1
    · have e2 : 2 * i = L.length := by omega
      rw [e2, getD_app2, getD_app3]
      exact hf
  · simp only [List.length_append, List.length_cons, List.length_nil] at hi
    by_cases e1 : 2 * i + 1 < L.length
    · rw [getD_app1 e1, getD_app1 (by omega)]; exact h4 i e1
    · have e2 : 2 * i = L.length := by omega
      rw [e2, getD_app2, getD_app3]
      exact hd
theorem swF_prs (sc met : List Int) (n : Nat) (hsc : sc.length = n) : ∀ (f : Nat) (S out : List Int), Left sc n S → S.length % 2 = 0 → S.length ≤ f → Prs sc met n out → (swF met n f S out).2 = true →
    Prs sc met n (swF met n f S out).1 ∧ (swF met n f S out).1.length = S.length + out.length := by
  intro f
  induction f with
  | zero =>
    intro S out hS he hf ho ht
    have : S = [] := List.length_eq_zero_iff.1 (by omega)
    subst this
    exact ⟨ho, by simp [swF]⟩
  | succ f ih =>
    intro S out hS he hf ho ht
    cases S with
    | nil => exact ⟨by simpa [swF] using ho, by simp [swF]⟩
    | cons a rest =>
      rw [swF_cons] at ht ⊢
      by_cases hneg : firstIdx (freeOf met n a) rest < 0
      · rw [if_pos hneg] at ht; cases ht
      · rw [if_neg hneg] at ht ⊢
        rcases firstIdx_filter (freeOf met n a) (0 : Int) rest with ⟨_, e⟩ | ⟨i, r, e1, e2, e3⟩
        · omega
        · have hfree : freeOf met n a (rest.getD i 0) = true := by
            have : rest.getD i 0 ∈ rest.filter (freeOf met n a) := by rw [e3]; exact List.mem_cons_self
            exact (List.mem_filter.1 this).2
          have hm : rest.getD i 0 ∈ rest := getD_mem (d := 0) e2
          have hle := (List.pairwise_cons.1 hS.srt).1 _ hm
          rw [e1, Int.toNat_natCast] at ht ⊢
          simp only [List.length_cons] at he hf
          have hlen : (rest.eraseIdx i).length = rest.length - 1 := List.length_eraseIdx_of_lt e2
          have hd : sc.getD (rest.getD i 0).toNat 0 ≤ sc.getD a.toNat 0 := by
            rw [tieLe_iff, better_zeros, better_zeros, decide_eq_true_eq, decide_eq_false_iff_not] at hle
            omega
          have h5 := ih (rest.eraseIdx i) (out ++ [a, rest.getD i 0]) (hS.tail.erase i) (by omega) (by omega) (ho.snoc (hS.rng a List.mem_cons_self) (hS.rng _ (List.mem_cons_of_mem _ hm)) (by simpa [freeOf] using hfree) hd) ht
          refine ⟨h5.1, ?_⟩
          rw [h5.2, hlen]
          simp only [List.length_append, List.length_cons, List.length_nil]
          omega
theorem swRes_prs {sc met : List Int} (h : (swRes sc met).2 = true) : Prs sc met sc.length (swRes sc met).1 ∧ (swRes sc met).1.length = sc.length := by
  unfold swRes at h ⊢
  by_cases hc : okScores sc = true ∧ sc.length % 2 = 0 ∧ met.length = sc.length * sc.length ∧ metOks met sc.length = true
  · rw [if_pos hc] at h ⊢
    have h5 := swF_prs sc met sc.length rfl sc.length (tieList sc (zeros sc.length)) [] (Left.all sc _ rfl) (by rw [tieList_len]; exact hc.2.1) (by rw [tieList_len]; exact Nat.le_refl _) ⟨rfl, fun i hi => by simp at hi, fun i hi => by simp at hi, fun i hi => by simp at hi⟩ h
    rw [tieList_len] at h5
    exact h5
  · rw [if_neg hc] at h; cases h
theorem knockRes_ok {ws : List Bool} {n : Nat} (hn : n = 2 ∨ n = 4 ∨ n = 8) (h : ws.length + 1 = n) : (knockRes ws n).2 = true ∧ (knockRes ws n).1.length + 1 = n := by
  unfold knockRes
  rw [if_pos ⟨by omega, by omega⟩]
  refine ⟨rfl, ?_⟩
  have h1 := knockF_len 1 ws 0 (upto n) []
  have h2 := knockF_len 2 ws 0 (upto n) []
  have h3 := knockF_len 3 ws 0 (upto n) []
  simp only [List.length_nil, Int.toNat_natCast] at *
  rcases hn with rfl | rfl | rfl
  · exact h1
  · exact h2
  · exact h3

/-- b sixteenths -/
def w16 (b : Nat) : Nat := (Ieee.single.div (floatOfInt .f32 (b : Int)) 1098907648).getD 0
def dyB (b x : Nat) : Bool := match Ieee.single.read x with
  | .number s m i => !s && decide (-149 ≤ i) && decide (m * 2 ^ (i + 149).toNat = b * 2 ^ 145)
  | _ => false
theorem w16_facts : ∀ b : Nat, b < 17 → floatBits .quo .f32 (floatOfInt .f32 (b : Int)) 1098907648 = some (w16 b) ∧ floatBits .sub .f32 1065353216 (w16 b) = some (w16 (16 - b)) ∧ dyB b (w16 b) = true := by
  decide +kernel
theorem w16_dy {b : Nat} (h : b < 17) : Dy 4 b (w16 b) := by
  have h1 := (w16_facts b h).2.2
  unfold dyB at h1
  rcases hr : Ieee.single.read (w16 b) with ⟨s, m, i⟩ | s | ⟨s, t⟩
  · rw [hr] at h1
    simp only [Bool.and_eq_true, Bool.not_eq_true', decide_eq_true_eq] at h1
    obtain ⟨⟨rfl, h2⟩, h3⟩ := h1
    exact ⟨m, i, hr, h2, h3⟩
  · rw [hr] at h1; cases h1
  · rw [hr] at h1; cases h1

theorem place_inj {n a b c d : Nat} (hb : b < n) (hd : d < n) (h : a * n + b = c * n + d) : a = c ∧ b = d := by
  have e1 : (a * n + b) / n = a := by rw [Nat.mul_comm, Nat.mul_add_div (by omega), Nat.div_eq_of_lt hb, Nat.add_zero]
  have e2 : (c * n + d) / n = c := by rw [Nat.mul_comm, Nat.mul_add_div (by omega), Nat.div_eq_of_lt hd, Nat.add_zero]
  have e3 : a = c := by rw [← e1, ← e2, h]
  subst e3
  exact ⟨rfl, by omega⟩

/-- filled: all rows below i, and of row i the first k -/
structure Fill (n i k : Nat) (W : List Nat) (M : Nat → Nat → Nat) : Prop where
  len : W.length = n * n
  dy : ∀ a b, a < n → b < n → Dy 4 (M a b) (W.getD (a * n + b) 0)
  le : ∀ a b, a < n → b < n → M a b ≤ 16
  two : ∀ a b, a < n → b < a → (a < i ∨ (a = i ∧ b < k)) → M a b + M b a = 16
theorem Fill.start (n : Nat) : Fill n 0 0 (List.replicate (n * n) 0) (fun _ _ => 0) := by
  refine ⟨by simp, fun a b ha hb => ?_, fun _ _ _ _ => by omega, fun a b _ _ h => by omega⟩
  have : (List.replicate (n * n) 0).getD (a * n + b) 0 = 0 := by
    rw [List.getD_eq_getElem?_getD, List.getElem?_replicate]
    split <;> rfl
  rw [this]
  exact Dy.zero 4
theorem Fill.row {n i : Nat} {W : List Nat} {M : Nat → Nat → Nat} (h : Fill n i i W M) : Fill n (i + 1) 0 W M :=
  ⟨h.len, h.dy, h.le, fun a b ha hb hc => h.two a b ha hb (by omega)⟩
theorem Fill.done {n : Nat} {W : List Nat} {M : Nat → Nat → Nat} (h : Fill n n 0 W M) : Sixt n M W := by
  refine ⟨h.len, h.dy, h.le, fun a b ha hb hab => ?_⟩
  by_cases e : b < a
  · exact h.two a b ha e (.inl ha)
  · have := h.two b a hb (by omega) (.inl hb)
    omega
theorem getD_set2 (W : List Nat) (p q u v j : Nat) (hp : p < W.length) (hq : q < W.length) : ((W.set p u).set q v).getD j 0 = if j = q then v else if j = p then u else W.getD j 0 := by
  by_cases e : j = q
  · subst e
    rw [if_pos rfl]
    simp [hq]
  · rw [if_neg e]
    have e' : ¬ q = j := fun h => e h.symm
    by_cases e2 : j = p
    · subst e2
      rw [if_pos rfl]
      simp [hp, e']
    · rw [if_neg e2]
      have e3 : ¬ p = j := fun h => e2 h.symm
      simp [e', e3]
theorem Fill.put {n i k b : Nat} {W : List Nat} {M : Nat → Nat → Nat} (h : Fill n i k W M) (hi : i < n) (hk : k < i) (hb : b < 17) :
    Fill n i (k + 1) ((W.set (i * n + k) (w16 b)).set (k * n + i) (w16 (16 - b))) (fun a c => if a = k ∧ c = i then 16 - b else if a = i ∧ c = k then b else M a c) := by
  have hl := h.len
  have hp : i * n + k < W.length := by
    rw [hl]
    calc i * n + k < i * n + n := by omega
      _ = (i + 1) * n := by rw [Nat.add_mul, Nat.one_mul]
      _ ≤ n * n := Nat.mul_le_mul_right _ hi
  have hq : k * n + i < W.length := by
    rw [hl]
    calc k * n + i < k * n + n := by omega
      _ = (k + 1) * n := by rw [Nat.add_mul, Nat.one_mul]
      _ ≤ n * n := Nat.mul_le_mul_right _ (by omega)
  refine ⟨by rw [List.length_set, List.length_set, hl], fun a c ha hc => ?_, fun a c ha hc => ?_, fun a c ha hc hd => ?_⟩
  · rw [getD_set2 _ _ _ _ _ _ hp hq]
    by_cases e1 : a = k ∧ c = i
    · obtain ⟨rfl, rfl⟩ := e1
      rw [if_pos rfl, if_pos ⟨rfl, rfl⟩]
      exact w16_dy (by omega)
    · rw [if_neg e1, if_neg (fun h => e1 (place_inj hc hi h))]
      by_cases e2 : a = i ∧ c = k
      · obtain ⟨rfl, rfl⟩ := e2
        rw [if_pos rfl, if_pos ⟨rfl, rfl⟩]
        exact w16_dy hb
      · rw [if_neg e2, if_neg (fun h => e2 (place_inj hc (by omega) h))]
        exact h.dy a c ha hc
  · have := h.le a c ha hc
    split
    · omega
    · split <;> omega
  · by_cases e2 : a = i ∧ c = k
    · obtain ⟨rfl, rfl⟩ := e2
      rw [if_neg (by omega), if_pos ⟨rfl, rfl⟩, if_pos ⟨rfl, rfl⟩]
      omega
    · rw [if_neg (by omega), if_neg e2, if_neg (by omega), if_neg (by omega)]
      exact h.two a c ha hc (by omega)

def isLongB (n n' : Nat) : Bool := decide (1048576 < n) || decide (1048576 < n')
theorem ret_b {a b : Bool} (h : a = b) : Ending.returned (.bool a) = Ending.returned (.bool b) := by rw [h]
theorem b10Long_any (a : Option Addr) (n c : Nat) (a' : Option Addr) (n' c' : Nat) (w : World) (h : n ≤ 9223372036854775807) (h' : n' ≤ 9223372036854775807) : Calls Try.prog 4 #[.slice a n c, .slice a' n' c'] w (RetS w (.bool (isLongB n n'))) := by
  by_cases h1 : 1048576 < n
  · have H : Hid (isLongB n n' = true) := by show _ = _; unfold isLongB; rw [decide_eq_true h1]; rfl
    go_enter Try.func4, Try.ntmps4
    go_wp2
    go_ret
    exact ⟨ret_b H.out.symm, rfl⟩
  · by_cases h2 : 1048576 < n'
    · have H : Hid (isLongB n n' = true) := by show _ = _; unfold isLongB; rw [decide_eq_true h2, Bool.or_true]
      go_enter Try.func4, Try.ntmps4
      go_wp2
      go_ret
      exact ⟨ret_b (by rw [H.out]; simp; omega), rfl⟩
    · have H : Hid (isLongB n n' = false) := by show _ = _; unfold isLongB; rw [decide_eq_false h1, decide_eq_false h2]; rfl
      go_enter Try.func4, Try.ntmps4
      go_wp2
      go_ret
      exact ⟨ret_b (by rw [H.out]; simp; omega), rfl⟩

set_option maxHeartbeats 1600000 in
theorem b10At_any (a : Option Addr) (n c : Nat) (bs : List Int) (k m : Int) (w : World) (h : Bytes w a n c bs) (ok : okB bs) (hk : 0 ≤ k) (hk' : k ≤ 1000) (hm : 1 ≤ m) (hm' : m ≤ 1000) :
    Calls Try.prog 5 #[.slice a n c, .int .i64 k, .int .i64 m] w fun e w' => ∃ x : Int, e = .returned (.int .i64 x) ∧ 0 ≤ x ∧ x < m ∧ w = w' := by
  obtain ⟨hc, hb, hat⟩ := h.at 0
  have HAt := Lib.hid hat
  have HOk := Lib.hid ok
  clear h ok hat
  by_cases h1 : m ≤ 1
  · go_enter Try.func5, Try.ntmps5
    go_wp2
    go_ret
    exact ⟨0, rfl, by omega, by omega, rfl⟩
  · obtain ⟨k, rfl⟩ : ∃ q : Nat, k = q := ⟨k.toNat, by omega⟩
    by_cases h2 : n ≤ k
    · have h3 : ¬ (k : Int) < (n : Int) := by omega
      have hw1 : IntKind.i64.wrap ((k : Int) * 37) = (k : Int) * 37 := IntWalk.i64_in _ (by omega)
      have hw2 : IntKind.i64.wrap ((k : Int) * 37 + 11) = (k : Int) * 37 + 11 := IntWalk.i64_in _ (by omega)
      have hr := rem_bd (x := (k : Int) * 37 + 11) (n := m) (by omega) (by omega)
      go_enter Try.func5, Try.ntmps5
      go_wp2
      go_ret
      exact ⟨_, rfl, hr.1, hr.2, rfl⟩
    · obtain ⟨b, off, rfl, hlb, hx⟩ := HAt.out k (by omega)
      have x0 := hx k (by omega)
      have hok := HOk.out k
      generalize bs.getD k 0 = x at *
      have h3 : (k : Int) < (n : Int) := by omega
      clear hx
      go_enter Try.func5, Try.ntmps5
      go_wp2
      go_ret
      exact ⟨x % m, rfl, (rem_bd (by omega) (by omega)).1, (rem_bd (by omega) (by omega)).2, rfl⟩

end Go.Proofs.Ythakjkhceeocfaa
