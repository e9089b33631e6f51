/- HasTour, impl. -/
import Derived.Test.YtnagmeeoeilbcaaTourB
import Derived.Test.YtnagmeeoeilbcaaLongE
namespace Go.Proofs.Ytnagmeeoeilbcaa
open Go.RowKit Go.Shelf
set_option linter.unusedVariables false

def tourRes (ts : List (Int × Int)) (ring : Bool) : Bool × Bool := if okTiles ts = true then (tourS ts ring, true) else (false, false)
theorem ret_bb2 {a b : Bool} {r : Bool × Bool} (h : r = (a, b)) : Ending.returned (.tuple #[.bool a, .bool b]) = .returned (.tuple #[.bool r.1, .bool r.2]) := by rw [h]
def stepH (ts : List (Int × Int)) (ring : Bool) (k : Nat) (s : Bool) (l : List Int × Nat) : Bool := s || hasL ts ring k l
theorem stepH_all (ts : List (Int × Int)) (ring : Bool) (k : Nat) : ∀ (L : List (List Int × Nat)) (s : Bool), L.foldl (stepH ts ring k) s = (s || L.any (hasL ts ring k)) := by
  intro L
  induction L with
  | nil => intro s; simp
  | cons l L ih => intro s; rw [List.foldl_cons, ih, List.any_cons, stepH, Bool.or_assoc]
theorem tourTo_succ (ts : List (Int × Int)) (ring : Bool) (k : Nat) : tourTo ts ring (k + 1) = (tourTo ts ring k || (preL ts (ts.length + 1) [] (2 ^ k)).any (hasL ts ring k)) := by
  simp [tourTo, List.range_succ]

structure InvH (a : Option Addr) (n c : Nat) (ring : Bool) (k q2 q3 q7 b : Nat) (s : Bool) (W : World) : Prop where
  c2 : W.cell? ⟨q2, 0, none⟩ = some (.slice a n c)
  c3 : W.cell? ⟨q3, 0, none⟩ = some (.bool ring)
  c7 : W.cell? ⟨q7, 0, none⟩ = some (.int .i64 k)
  cb : W.cell? ⟨b, 0, none⟩ = some (.bool s)
  fr : W.frozen? ⟨b, 0, none⟩ = false
  lt : b < W.heap.size
  n2 : q2 ≠ b
  n3 : q3 ≠ b
  n7 : q7 ≠ b
theorem InvH.below {a : Option Addr} {n c : Nat} {ring : Bool} {k q2 q3 q7 b : Nat} {s : Bool} {W W' : World} (h : InvH a n c ring k q2 q3 q7 b s W) (hb : Below W.heap.size W W') : InvH a n c ring k q2 q3 q7 b s W' :=
  ⟨cell_on hb h.c2, cell_on hb h.c3, cell_on hb h.c7, cell_on hb h.cb, frozen_on hb h.lt h.fr, Nat.lt_of_lt_of_le h.lt hb.size, h.n2, h.n3, h.n7⟩
theorem InvH.put {a : Option Addr} {n c : Nat} {ring : Bool} {k q2 q3 q7 b : Nat} {s : Bool} {W : World} (h : InvH a n c ring k q2 q3 q7 b s W) : InvH a n c ring k q2 q3 q7 b true (W.setCell ⟨b, 0, none⟩ (.bool true)) :=
  ⟨by rw [World.cell?_of_block (Below.heap_setCell W ⟨b, 0, none⟩ _ q2 h.n2)]; exact h.c2, by rw [World.cell?_of_block (Below.heap_setCell W ⟨b, 0, none⟩ _ q3 h.n3)]; exact h.c3, by rw [World.cell?_of_block (Below.heap_setCell W ⟨b, 0, none⟩ _ q7 h.n7)]; exact h.c7, World.cell?_setCell_same _ _ _ h.cb, by rw [World.frozen?_setCell]; exact h.fr, by simpa using h.lt, h.n2, h.n3, h.n7⟩

theorem HasTour1_any (ts : List (Int × Int)) (a : Option Addr) (c : Nat) (ring : Bool) (k q2 q3 q7 b B0 : Nat) (hk : k < 7) (hn8 : ts.length ≤ 8) (la : Option Addr) (m lc : Nat) (L : List Int) (E : Nat) (s : Bool) (W : World) (hown : W.ownsRow B0 2 1 (.slice la m lc) m (intCells L)) (hm : m ≤ 1000) (hE : E < 128) (hI : InvH a ts.length c ring k q2 q3 q7 b s W) :
    Calls Try.prog 32 #[.slice la m lc, .int .i64 E, .pointer (some ⟨q2, 0, none⟩), .pointer (some ⟨q3, 0, none⟩), .pointer (some ⟨q7, 0, none⟩), .pointer (some ⟨b, 0, none⟩)] W fun e W' => e = .returned (.tuple #[]) ∧ Chg b (b + 1) W W' ∧ InvH a ts.length c ring k q2 q3 q7 b (stepH ts ring k s (L, E)) W' := by
  have hl1 : L.length = m := by have := hown.1; rw [intCells_len] at this; omega
  have HSt : Hid (stepH ts ring k s (L, E) = (s || (decide (L.length = ts.length) && (!ring || E.testBit k)))) := rfl
  have HI := Lib.hid hI
  have HL1 := Lib.hid hl1
  obtain ⟨x2, x3, x7, xb, fb, _, _, _, _⟩ := hI
  have hcap : m ≤ lc ∧ lc ≤ 9223372036854775807 := by have := Rd.own hown; exact ⟨this.2.1, this.2.2.1⟩
  clear hown hl1
  generalize hn : ts.length = n at *
  have f0 : ∀ j : Nat, W.frozen? ⟨b, 0, none⟩ = false := fun _ => fb
  by_cases hmn : m = n
  · have e1 : ((m : Int) == (n : Int)) = true := by simp [hmn]
    have HMN := Lib.hid hmn
    clear hmn
    cases ring with
    | false =>
      have HS : Hid (stepH ts false k s (L, E) = true) := by show _ = _; rw [HSt.out, HL1.out]; simp [HMN.out]
      go_enter Try.func32, Try.ntmps32
      go_wp2
      go_end0
      exact ⟨rfl, (Chg.refl b (b + 1) W).set _ (Nat.le_refl _) (by dsimp only; omega), by rw [HS.out]; exact HI.out.put⟩
    | true =>
      rcases Bool.eq_false_or_eq_true (E.testBit k) with hb | hb
      · have e2 := bits_shr E k hE hk _ hb
        have HS : Hid (stepH ts true k s (L, E) = true) := by show _ = _; rw [HSt.out, HL1.out]; simp [HMN.out, hb]
        clear hb
        go_enter Try.func32, Try.ntmps32
        go_wp2
        go_end0
        exact ⟨rfl, (Chg.refl b (b + 1) W).set _ (Nat.le_refl _) (by dsimp only; omega), by rw [HS.out]; exact HI.out.put⟩
      · have e2 := bits_shr E k hE hk _ hb
        have HS : Hid (stepH ts true k s (L, E) = s) := by show _ = _; rw [HSt.out, HL1.out]; simp [HMN.out, hb]
        clear hb
        go_enter Try.func32, Try.ntmps32
        go_wp2
        go_end0
        exact ⟨rfl, Chg.refl _ _ _, by rw [HS.out]; exact HI.out⟩
  · have e1 : ((m : Int) == (n : Int)) = false := by simp only [beq_eq_false_iff_ne]; omega
    have HS : Hid (stepH ts ring k s (L, E) = s) := by show _ = _; rw [HSt.out, HL1.out]; simp [hmn]
    clear hmn
    go_enter Try.func32, Try.ntmps32
    go_wp2
    go_end0
    exact ⟨rfl, Chg.refl _ _ _, by rw [HS.out]; exact HI.out⟩

set_option maxHeartbeats 1600000 in
set_option maxRecDepth 100000 in
theorem implHasTour_any (a : Option Addr) (n c : Nat) (ts : List (Int × Int)) (ring : Bool) (w : World) (h : Duos w a n c ts) :
    Calls Try.prog 14 #[.slice a n c, .bool ring] w (Ret w (.tuple #[.bool (tourRes ts ring).1, .bool (tourRes ts ring).2])) := by
  have C1 : Hid (∀ W, Below w.heap.size w W → Calls Try.prog 15 #[.slice a n c] W (Ret W (.bool (okTiles ts)))) := fun W hW => AreTiles_any a n c ts W (h.mono hW)
  have hl := h.len
  obtain ⟨hc, hb, _⟩ := h.at
  rcases Bool.eq_false_or_eq_true (okTiles ts) with e | e
  · have HR : Hid (tourRes ts ring = (tourTo ts ring 7, true)) := by show _ = _; unfold tourRes; rw [if_pos e, tour_same ts ring e]
    obtain ⟨h1, h8, hts⟩ := (okTiles_iff ts).1 e
    rw [e] at C1
    have HAv : Hid (∀ b, w.heap.size ≤ b → Av b a) := fun b hb x hx => by
      have := Rd.in_heap h (by omega) x hx
      omega
    have CS : Hid (∀ (k : Nat) (W : World) (s : Bool) (q2 q3 q7 b : Nat), k < 7 → Below w.heap.size w W → InvH a n c ring k q2 q3 q7 b s W → w.heap.size ≤ b → Calls Try.prog 30 #[.slice a n c, .slice none 0 0, .int .i64 (2 ^ k : Nat), .func (.func 32) #[] #[.pointer (some ⟨q2, 0, none⟩), .pointer (some ⟨q3, 0, none⟩), .pointer (some ⟨q7, 0, none⟩), .pointer (some ⟨b, 0, none⟩)]] W fun e w' => e = .returned (.tuple #[]) ∧ Chg b (b + 1) W w' ∧ InvH a n c ring k q2 q3 q7 b (s || (preL ts (ts.length + 1) [] (2 ^ k)).any (hasL ts ring k)) w') := by
      intro k W s q2 q3 q7 b hk hW hI hwb
      have hp : 2 ^ k < 128 := Nat.pow_lt_pow_right (a := 2) (by omega) (show k < 7 by exact hk)
      have := linesFrom_any (stepH ts ring k) (fun s W => InvH a n c ring k q2 q3 q7 b s W) 32 #[.pointer (some ⟨q2, 0, none⟩), .pointer (some ⟨q3, 0, none⟩), .pointer (some ⟨q7, 0, none⟩), .pointer (some ⟨b, 0, none⟩)] b b ts hts h8 (enters_of Try.func32 (by kernel_rfl) rfl) (fun s W W' hI hb => hI.below hb) (fun la m lc L E s W hown hla hm hE hI => by
        rw [← hl] at hI ⊢
        exact HasTour1_any ts a c ring k q2 q3 q7 b b hk h8 la m lc L E s W hown hm hE hI) ts.length a c none 0 0 [] (2 ^ k) s W (by rw [hl]; exact h.mono hW) (HAv.out b hwb) (World.ownsRow_nil _ _ _ _) (fun x hx => by cases hx) hI (Nat.le_of_lt hI.lt) hI.lt (by rw [cnt_nil]; exact Nat.le_refl _) (by omega) hp
      rw [stepH_all] at this
      rw [hl] at this ⊢
      exact this
    clear h e hl h1 h8 hts HAv
    go_enter Try.func14, Try.ntmps14
    go_wp2_with (fail)
    have HB0 : Hid (Below w.heap.size w ((w.alloc (.cells #[.slice a n c] 34)).alloc (.cells #[.bool ring] 4))) := ((Below.refl _ _).alloc (Nat.le_refl _) _).alloc (by simp) _
    have y2 : ((w.alloc (.cells #[.slice a n c] 34)).alloc (.cells #[.bool ring] 4)).cell? ⟨w.heap.size, 0, none⟩ = some (.slice a n c) := by go_simp
    have y3 : ((w.alloc (.cells #[.slice a n c] 34)).alloc (.cells #[.bool ring] 4)).cell? ⟨w.heap.size + 1, 0, none⟩ = some (.bool ring) := by rw [World.cell?_alloc_at _ _ _ _ (by simp)]; rfl
    have hs0 : ((w.alloc (.cells #[.slice a n c] 34)).alloc (.cells #[.bool ring] 4)).heap.size = w.heap.size + 2 := by simp
    generalize (w.alloc (.cells #[.slice a n c] 34)).alloc (.cells #[.bool ring] 4) = W0 at *
    refine (C1.out W0 HB0.out).mono ?_
    rintro e w1 ⟨rfl, hb1⟩
    have x2 := cell_on hb1 y2
    have x3 := cell_on hb1 y3
    have hs1 := hb1.size
    have HB1 : Hid (Below w.heap.size w w1) := HB0.out.trans (hb1.mono (by omega))
    clear hb1 y2 y3 C1
    go_wp2_with (fail)
    go_loopw [7, 11] (fun v7 vi wr => ∃ k : Nat, k ≤ 7 ∧ vi = .int .i64 k ∧ Below w.heap.size w wr ∧ wr.cell? ⟨w.heap.size, 0, none⟩ = some (.slice a n c) ∧ wr.cell? ⟨w.heap.size + 1, 0, none⟩ = some (.bool ring) ∧ wr.cell? ⟨w1.heap.size, 0, none⟩ = some (.bool (tourTo ts ring k)) ∧ wr.frozen? ⟨w1.heap.size, 0, none⟩ = false ∧ w1.heap.size < wr.heap.size) (fun _ vi _ => 7 - (intOf vi).toNat)
    case atStart =>
      have hAl1 : Below w1.heap.size w1 (w1.alloc (.cells #[.bool false] 4)) := (Below.refl _ _).alloc (Nat.le_refl _) _
      exact ⟨0, by omega, rfl, HB1.out.alloc (by omega) _, cell_on hAl1 x2, cell_on hAl1 x3, by rw [World.cell?_alloc_at _ _ _ _ (by simp)]; rfl, by rw [World.frozen?_alloc_at _ _ _ _ (by simp)], by simp⟩
    case round =>
      obtain ⟨k, hk, rfl, hbel, x2, x3, xb, fb, hlt1⟩ := hrel
      have HB := Lib.hid hbel
      have hsr := hbel.size
      clear hbel
      by_cases hlt : k < 7
      · have hAl : Below wr.heap.size wr (wr.alloc (.cells #[.int .i64 k] 3)) := (Below.refl _ _).alloc (Nat.le_refl _) _
        have HV : Hid (Below w.heap.size w (wr.alloc (.cells #[.int .i64 k] 3))) := HB.out.alloc hsr _
        have y2 : (wr.alloc (.cells #[.int .i64 k] 3)).cell? ⟨w.heap.size, 0, none⟩ = some (.slice a n c) := cell_on hAl x2
        have y3 : (wr.alloc (.cells #[.int .i64 k] 3)).cell? ⟨w.heap.size + 1, 0, none⟩ = some (.bool ring) := cell_on hAl x3
        have yb : (wr.alloc (.cells #[.int .i64 k] 3)).cell? ⟨w1.heap.size, 0, none⟩ = some (.bool (tourTo ts ring k)) := cell_on hAl xb
        have yf : (wr.alloc (.cells #[.int .i64 k] 3)).frozen? ⟨w1.heap.size, 0, none⟩ = false := frozen_on hAl hlt1 fb
        have y7 : (wr.alloc (.cells #[.int .i64 k] 3)).cell? ⟨wr.heap.size, 0, none⟩ = some (.int .i64 k) := by rw [World.cell?_alloc_at _ _ _ _ (by simp)]; rfl
        have hsv : (wr.alloc (.cells #[.int .i64 k] 3)).heap.size = wr.heap.size + 1 := by simp
        go_wp2_with (fail)
        have hq7 : wr.heap.size ≠ w1.heap.size := by omega
        have hwp := wrap_pow k hlt
        have hks : (0 : Int) ≤ (k : Int) := by omega
        clear x2 x3 xb fb hAl
        generalize wr.alloc (.cells #[.int .i64 k] 3) = V at *
        have hq7b : wr.heap.size < V.heap.size := by omega
        generalize wr.heap.size = q7 at *
        go_still_tail 4, (by kernel_rfl)
        change wpList _ _ _ _ _ V.drew
        have CS1 := (CS.out k V.drew (tourTo ts ring k) w.heap.size (w.heap.size + 1) q7 w1.heap.size hlt HV.out.drew ⟨y2, y3, y7, yb, yf, by show w1.heap.size < V.heap.size; omega, by omega, by omega, by omega⟩ (by omega))
        rw [← hwp] at CS1
        have HSu := Lib.hid (tourTo_succ ts ring k)
        have HD : Hid (Below w.heap.size w V.drew) := HV.out.drew
        have hsd : w.heap.size ≤ V.drew.heap.size := by show w.heap.size ≤ V.heap.size; omega
        have CS1 := Lib.hid CS1
        clear CS y2 y3 y7 yb yf hsv hwp
        generalize tourTo ts ring k = S at *
        go_wp2_with (fail)
        refine CS1.out.mono ?_
        rintro e w2 ⟨rfl, hc2, hI2⟩
        have HB2 := Lib.hid (below_chg HD.out hsd (by omega) hc2)
        rw [← HSu.out] at hI2
        have HI2 := Lib.hid hI2
        clear hc2 hI2 CS1
        go_wp2
        go_roundw
        case rel => exact ⟨k + 1, by omega, by go_num, HB2.out, HI2.out.c2, HI2.out.c3, HI2.out.cb, HI2.out.fr, HI2.out.lt⟩
        case measure => simp [intOf]; omega
      · obtain rfl : k = 7 := by omega
        go_wp2
        go_ret2
        exact ⟨ret_bb2 HR.out, HB.out⟩
  · have HR : Hid (tourRes ts ring = (false, false)) := by show _ = _; unfold tourRes; rw [if_neg (by rw [e]; exact Bool.false_ne_true)]
    rw [e] at C1
    clear h e hl
    go_enter Try.func14, Try.ntmps14
    have HB0 : Hid (Below w.heap.size w ((w.alloc (.cells #[.slice a n c] 34)).alloc (.cells #[.bool ring] 4))) := ((Below.refl _ _).alloc (Nat.le_refl _) _).alloc (by simp) _
    go_wp2_with (fail)
    refine (C1.out _ HB0.out).mono ?_
    rintro e w1 ⟨rfl, hb1⟩
    have HB1 : Hid (Below w.heap.size w w1) := HB0.out.trans (hb1.mono (by simp; omega))
    clear hb1 C1 HB0
    go_wp2
    go_ret2
    exact ⟨ret_bb2 HR.out, HB1.out⟩

end Go.Proofs.Ytnagmeeoeilbcaa
