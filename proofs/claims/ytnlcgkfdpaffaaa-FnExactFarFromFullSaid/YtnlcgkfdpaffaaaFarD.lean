/- FarFromFull, spec: l06Near. -/
import Derived.Test.YtnlcgkfdpaffaaaFarC
import Derived.Deep.Cut
import Derived.Deep.CutRange
namespace Go.Proofs.Ytnlcgkfdpaffaaa
open Go.RowKit
set_option linter.unusedVariables false

theorem l00Max_any (x y : Int) (w : World) : Calls Try.prog 86 #[.int .i64 x, .int .i64 y] w (RetS w (.int .i64 (max x y))) := by
  by_cases h : y < x
  · have H : Hid (max x y = x) := by show _ = _; omega
    go_enter Try.func86, Try.ntmps86
    go_wp2
    go_ret
    exact ⟨ret_int H.out.symm, rfl⟩
  · have H : Hid (max x y = y) := by show _ = _; omega
    go_enter Try.func86, Try.ntmps86
    go_wp2
    go_ret
    exact ⟨ret_int (by rw [H.out] <;> omega), rfl⟩
theorem l00Min_any (x y : Int) (w : World) : Calls Try.prog 85 #[.int .i64 x, .int .i64 y] w (RetS w (.int .i64 (min x y))) := by
  by_cases h : x < y
  · have H : Hid (min x y = x) := by show _ = _; omega
    go_enter Try.func85, Try.ntmps85
    go_wp2
    go_ret
    exact ⟨ret_int H.out.symm, rfl⟩
  · have H : Hid (min x y = y) := by show _ = _; omega
    go_enter Try.func85, Try.ntmps85
    go_wp2
    go_ret
    exact ⟨ret_int (by rw [H.out] <;> omega), rfl⟩
def valTo (cs u : List Int) (k : Nat) : Int := ((List.range k).map fun j => min (cs.getD j 0) (u.getD j 0)).sum
theorem valTo_succ (cs u : List Int) (k : Nat) : valTo cs u (k + 1) = valTo cs u k + min (cs.getD k 0) (u.getD k 0) := by
  unfold valTo
  rw [List.range_succ, List.map_append, List.sum_append]
  simp
theorem valTo_full (cs u : List Int) : valTo cs u 9 = valF cs u := by
  unfold valF sum9
  rw [valTo_succ, valTo_succ, valTo_succ, valTo_succ, valTo_succ, valTo_succ, valTo_succ, valTo_succ, valTo_succ]
  simp [valTo]
theorem valTo_bd {cs u : List Int} (hc : ∀ j, 0 ≤ cs.getD j 0 ∧ cs.getD j 0 ≤ 4) (hu : ∀ j, 0 ≤ u.getD j 0) : ∀ k, 0 ≤ valTo cs u k ∧ valTo cs u k ≤ 4 * k := by
  intro k
  induction k with
  | zero => simp [valTo]
  | succ k ih => rw [valTo_succ]; have := hc k; have := hu k; omega
theorem valF_bd {cs u : List Int} (hc : ∀ j, 0 ≤ cs.getD j 0 ∧ cs.getD j 0 ≤ 4) (hu : ∀ j, 0 ≤ u.getD j 0) : 0 ≤ valF cs u ∧ valF cs u ≤ 36 := by
  rw [← valTo_full]
  have := valTo_bd hc hu 9
  omega

set_option maxRecDepth 100000 in
theorem near_sum (cs : List Int) (hcs : ∀ j, 0 ≤ cs.getD j 0 ∧ cs.getD j 0 ≤ 4) (a : Option Addr) (c : Nat) (a' : Option Addr) (c' : Nat) (u : List Int) (i : Nat) (w : World) (h : Ints w a 9 c cs) (h' : Ints w a' 9 c' u) (hu : ∀ j, 0 ≤ u.getD j 0 ∧ u.getD j 0 ≤ 4) :
    Calls Try.prog 69 #[.slice a 9 c, .slice a' 9 c', .int .i64 i, .int .i64 0, .bool true] w (RetQ w (.int .i64 (valF cs u))) := by
  obtain ⟨hc, hbc, hcell⟩ := h.at
  obtain ⟨hc', hbc', hcell'⟩ := h'.at
  obtain ⟨bk, off, rfl, _, hx⟩ := hcell 0 (by omega)
  obtain ⟨bk', off', rfl, _, hy⟩ := hcell' 0 (by omega)
  have HX := Lib.hid hx
  have HY := Lib.hid hy
  have HCs := Lib.hid hcs
  have HU := Lib.hid hu
  have HF := Lib.hid (valTo_full cs u)
  clear h h' hcell hcell' hx hy hcs hu
  go_enter Try.func69, Try.ntmps69
  go_wp2
  go_loopw [11, 12] (fun vs vi wr => ∃ k : Nat, k ≤ 9 ∧ vi = .int .i64 k ∧ vs = .int .i64 (valTo cs u k) ∧ Quiet w wr) (fun _ vi _ => 9 - (intOf vi).toNat)
  case atStart => exact ⟨0, by omega, rfl, rfl, Quiet.refl _⟩
  case round =>
    obtain ⟨k, hk, rfl, rfl, hq⟩ := hrel
    have HQ := Lib.hid hq
    clear hq
    by_cases hlt : k < 9
    · have x0 := cell_on HQ.out.b (HX.out k hlt)
      have y0 := cell_on HQ.out.b (HY.out k hlt)
      have hc0 := HCs.out k
      have hu0 := HU.out k
      have hl0 := valTo_bd HCs.out (fun j => (HU.out j).1) k
      have HSu := Lib.hid (valTo_succ cs u k)
      generalize valTo cs u k = S at *
      generalize u.getD k 0 = x at *
      generalize cs.getD k 0 = y at *
      have hmn : 0 ≤ min y x ∧ min y x ≤ 4 := by omega
      have CM := Lib.hid (fun W => l00Min_any y x W)
      generalize min y x = mn at *
      go_wp2
      go_quiet (first | (go_at_call 85; exact qS (CM.out _)))
      go_wp2
      go_roundw
      case rel => exact ⟨k + 1, by omega, by go_num, by rw [HSu.out], HQ.out.trans ⟨_, rfl⟩⟩
      case measure => simp [intOf]; omega
    · obtain rfl : k = 9 := by omega
      go_wp2
      go_ret
      exact ⟨ret_int HF.out, HQ.out⟩

def NearOk (cs : List Int) (f : Nat) : Prop := ∀ (a : Option Addr) (c : Nat) (a' : Option Addr) (c' : Nat) (u : List Int) (i g : Nat) (p : Bool) (w : World), Ints w a 9 c cs → Ints w a' 9 c' u → (∀ j, 0 ≤ u.getD j 0 ∧ u.getD j 0 ≤ 4) → i ≤ 9 → g ≤ 4 → (9 - i) + g + (if p = true then 0 else 1) ≤ f →
    Calls Try.prog 69 #[.slice a 9 c, .slice a' 9 c', .int .i64 i, .int .i64 g, .bool p] w (Ret w (.int .i64 (nearF cs f u i g p)))
theorem addC_le4 {u : List Int} {c : Nat} (hu : ∀ j, 0 ≤ u.getD j 0 ∧ u.getD j 0 ≤ 4) (h : le4 (addC u c)) : ∀ j, 0 ≤ (addC u c).getD j 0 ∧ (addC u c).getD j 0 ≤ 4 := by
  intro j
  by_cases hj : j < 9
  · have := h j hj
    rw [addC_get _ _ _ hj] at this ⊢
    have := hu j
    have := con_nonneg c j
    omega
  · have e : (addC u c).getD j 0 = 0 := by
      rw [List.getD_eq_getElem?_getD, List.getElem?_eq_none (by rw [addC_len]; omega)]
      rfl
    omega
theorem addP_le4 {u : List Int} {k : Nat} (hu : ∀ j, 0 ≤ u.getD j 0 ∧ u.getD j 0 ≤ 4) (h : u.getD k 0 + 2 ≤ 4) : ∀ j, 0 ≤ (addP u k).getD j 0 ∧ (addP u k).getD j 0 ≤ 4 := by
  intro j
  by_cases hj : j < 9
  · rw [addP_get _ _ _ hj]
    have := hu j
    by_cases e : j = k
    · subst e; rw [if_pos rfl]; omega
    · rw [if_neg e]; omega
  · have e : (addP u k).getD j 0 = 0 := by
      rw [List.getD_eq_getElem?_getD, List.getElem?_eq_none (by rw [addP_len]; omega)]
      rfl
    omega
theorem set_pair {u : List Int} (hu : u.length = 9) {c : Nat} (hc : c < 9) : u.set c (u.getD c 0 + 2) = addP u c := by
  refine ext9 (by simpa using hu) (addP_len _ _) fun j hj => ?_
  rw [addP_get _ _ _ hj, getD_set]
  by_cases e : c = j
  · subst e; rw [if_pos ⟨rfl, by omega⟩, if_pos rfl]
  · rw [if_neg (fun q => e q.1), if_neg (fun q => e q.symm)]; omega
theorem set_row {u : List Int} (hu : u.length = 9) {i : Nat} (hi : i + 2 < 9) : ((u.set i (u.getD i 0 + 1)).set (i + 1) (u.getD (i + 1) 0 + 1)).set (i + 2) (u.getD (i + 2) 0 + 1) = addC u (9 + i) := by
  have e1 := rowTo_set (u := u) (i := i) (t := 0) (by omega)
  have e2 := rowTo_set (u := u) (i := i) (t := 1) (by omega)
  have e3 := rowTo_set (u := u) (i := i) (t := 2) (by omega)
  rw [rowTo_zero hu, Nat.add_zero] at e1
  rw [e1, e2, e3, rowTo_full]
theorem nearF_bd {cs : List Int} (hc : ∀ j, 0 ≤ cs.getD j 0 ∧ cs.getD j 0 ≤ 4) (f : Nat) (u : List Int) (i g : Nat) (p : Bool) (hu : ∀ j, 0 ≤ u.getD j 0 ∧ u.getD j 0 ≤ 4) (hl : u.length = 9) (hi : i ≤ 9) : -1 ≤ nearF cs f u i g p ∧ nearF cs f u i g p ≤ 36 := by
  rcases near_hit cs f u i g p (fun j _ => (hu j).2) hl hi with e | ⟨x, hx, e⟩
  · omega
  · have hv : valF cs x ≤ 36 := by
      have : valF cs x ≤ sum9 (fun _ => (4 : Int)) := sum9_le fun j hj => by have := hc j; omega
      simpa [sum9] using this
    obtain ⟨l, k, _, _, _, _, _, h6⟩ := hx
    have hv0 : 0 ≤ valF cs x := val_nonneg (fun j => (hc j).1) fun j hj => by
      rw [h6 j hj]
      have := hu j
      have := conL_nonneg l j
      have a3 : (0 : Int) ≤ (if p = true then 0 else if j = k then 2 else 0) := by split; exact Int.le_refl _; split <;> omega
      omega
    omega

set_option maxHeartbeats 1600000 in
set_option maxRecDepth 100000 in
theorem l06Near_any (cs : List Int) (hcs : ∀ j, 0 ≤ cs.getD j 0 ∧ cs.getD j 0 ≤ 4) : ∀ f, NearOk cs f := by
  obtain ⟨i0, hi, hz0, hz1, hz2⟩ := info_parts infoI64
  intro f
  induction f with
  | zero =>
    intro a c a' c' u i g p w h h' hu hi9 hg hm
    have hp : p = true := by cases p; simp at hm; rfl
    subst hp
    have hg0 : g = 0 := by simp at hm; omega
    subst hg0
    have e : nearF cs 0 u i 0 true = valF cs u := by simp [nearF]
    rw [e]
    exact (near_sum cs hcs a c a' c' u i w h h' hu).mono fun e w' hr => hr.r
  | succ f ih =>
    intro a c a' c' u i g p w h h' hu hi9 hg hm
    by_cases hd : g = 0 ∧ p = true
    · obtain ⟨hg0, hp⟩ := hd
      subst hg0 hp
      have e : nearF cs (f + 1) u i 0 true = valF cs u := by simp [nearF]
      rw [e]
      exact (near_sum cs hcs a c a' c' u i w h h' hu).mono fun e w' hr => hr.r
    obtain ⟨hc, hbc, _⟩ := h.at
    obtain ⟨hc', hbc', hcell'⟩ := h'.at
    have hul := h'.len
    by_cases hi9' : i = 9
    · subst hi9'
      have e : nearF cs (f + 1) u 9 g p = -1 := by unfold nearF; rw [if_neg hd, if_pos rfl]
      rw [e]
      clear h h' hcell' hul e
      by_cases hg0 : g = 0
      · subst hg0
        have hp : p = false := by cases p; rfl; exact absurd ⟨rfl, rfl⟩ hd
        subst hp
        go_enter Try.func69, Try.ntmps69
        go_wp2
        go_ret
        exact ⟨rfl, Below.refl _ _⟩
      · have hg1 : ((g : Int) == 0) = false := by simp only [beq_eq_false_iff_ne]; omega
        go_enter Try.func69, Try.ntmps69
        go_wp2
        go_ret
        exact ⟨rfl, Below.refl _ _⟩
    obtain ⟨bk', off', rfl, _, hy⟩ := hcell' 0 (by omega)
    have hi8 : i < 9 := by omega
    have HIH := Lib.hid ih
    have HI1 := Lib.hid (fun W (hW : Below w.heap.size w W) => (h.mono hW : Ints W a 9 c cs))
    have HI2 := Lib.hid (fun W (hW : Below w.heap.size w W) => (h'.mono hW : Ints W (some ⟨bk', off', none⟩) 9 c' u))
    have HCs := Lib.hid hcs
    have HU := Lib.hid hu
    have HLu : Hid ((intCells u).length = 9 * 1) := h'.1
    have HY := Lib.hid hy
    -- values
    obtain ⟨X0v, hX0⟩ : ∃ v, v = nearF cs f u (i + 1) g p := ⟨_, rfl⟩
    obtain ⟨X1v, hX1⟩ : ∃ v, v = nearF cs f (addC u i) i (g - 1) p := ⟨_, rfl⟩
    obtain ⟨X2v, hX2⟩ : ∃ v, v = nearF cs f (addC u (9 + i)) i (g - 1) p := ⟨_, rfl⟩
    obtain ⟨X3v, hX3⟩ : ∃ v, v = nearF cs f (addP u i) i g true := ⟨_, rfl⟩
    obtain ⟨B1, hB1⟩ : ∃ B : Bool, B = decide (0 < g ∧ u.getD i 0 + 3 ≤ 4) := ⟨_, rfl⟩
    obtain ⟨B2, hB2⟩ : ∃ B : Bool, B = decide (0 < g ∧ i + 2 < 9 ∧ u.getD i 0 < 4 ∧ u.getD (i + 1) 0 < 4 ∧ u.getD (i + 2) 0 < 4) := ⟨_, rfl⟩
    obtain ⟨B3, hB3⟩ : ∃ B : Bool, B = decide (p = false ∧ u.getD i 0 + 2 ≤ 4) := ⟨_, rfl⟩
    obtain ⟨b1, hb1⟩ : ∃ v, v = if B1 = true then max X0v X1v else X0v := ⟨_, rfl⟩
    obtain ⟨b2, hb2⟩ : ∃ v, v = if B2 = true then max b1 X2v else b1 := ⟨_, rfl⟩
    obtain ⟨b3, hb3⟩ : ∃ v, v = if B3 = true then max b2 X3v else b2 := ⟨_, rfl⟩
    have hres : nearF cs (f + 1) u i g p = b3 := by
      have e : nearF cs (f + 1) u i g p = (if g = 0 ∧ p = true then valF cs u else if i = 9 then -1 else
        let b0 := nearF cs f u (i + 1) g p
        let b1 := if 0 < g ∧ u.getD i 0 + 3 ≤ 4 then max b0 (nearF cs f (addC u i) i (g - 1) p) else b0
        let b2 := if 0 < g ∧ i + 2 < 9 ∧ u.getD i 0 < 4 ∧ u.getD (i + 1) 0 < 4 ∧ u.getD (i + 2) 0 < 4 then max b1 (nearF cs f (addC u (9 + i)) i (g - 1) p) else b1
        if p = false ∧ u.getD i 0 + 2 ≤ 4 then max b2 (nearF cs f (addP u i) i g true) else b2) := rfl
      rw [e, if_neg hd, if_neg hi9', hb3, hb2, hb1, hB1, hB2, hB3, hX0, hX1, hX2, hX3]
      simp only [decide_eq_true_eq]
    rw [hres]
    have HN1 : Hid (B1 = false → b1 = X0v) := fun e => by rw [hb1, if_neg (by rw [e]; exact Bool.false_ne_true)]
    have HN2 : Hid (B2 = false → b2 = b1) := fun e => by rw [hb2, if_neg (by rw [e]; exact Bool.false_ne_true)]
    have HN3 : Hid (B3 = false → b3 = b2) := fun e => by rw [hb3, if_neg (by rw [e]; exact Bool.false_ne_true)]
    have HY1 : Hid (B1 = true → ((∀ j, 0 ≤ (addC u i).getD j 0 ∧ (addC u i).getD j 0 ≤ 4) ∧ (9 - i) + (g - 1) + (if p = true then 0 else 1) ≤ f) ∧ u.set i (u.getD i 0 + 3) = addC u i ∧ b1 = max X0v X1v) := fun e => by
      rw [hB1, decide_eq_true_eq] at e
      exact ⟨⟨addC_le4 hu (le4_addC (fun j _ => (hu j).2) fun j hj q => by obtain ⟨rfl, q2⟩ := con_three_ne hi8 q; rw [q2]; exact e.2), by omega⟩, set_three hul hi8, by rw [hb1, if_pos (by rw [hB1, decide_eq_true_eq]; exact e)]⟩
    have HY2 : Hid (B2 = true → ((∀ j, 0 ≤ (addC u (9 + i)).getD j 0 ∧ (addC u (9 + i)).getD j 0 ≤ 4) ∧ (9 - i) + (g - 1) + (if p = true then 0 else 1) ≤ f) ∧ ((u.set i (u.getD i 0 + 1)).set (i + 1) (u.getD (i + 1) 0 + 1)).set (i + 2) (u.getD (i + 2) 0 + 1) = addC u (9 + i) ∧ b2 = max b1 X2v) := fun e => by
      rw [hB2, decide_eq_true_eq] at e
      obtain ⟨e0, e1, e2, e3, e4⟩ := e
      exact ⟨⟨addC_le4 hu (le4_addC (fun j _ => (hu j).2) fun j hj q => by
        obtain ⟨q1, q2⟩ := con_row_ne q
        rw [q2]
        rcases q1 with q1 | q1 | q1 <;> subst q1 <;> omega), by omega⟩, set_row hul e1, by rw [hb2, if_pos (by rw [hB2, decide_eq_true_eq]; exact ⟨e0, e1, e2, e3, e4⟩)]⟩
    have HY3 : Hid (B3 = true → ((∀ j, 0 ≤ (addP u i).getD j 0 ∧ (addP u i).getD j 0 ≤ 4) ∧ (9 - i) + g + (if true = true then 0 else 1) ≤ f) ∧ u.set i (u.getD i 0 + 2) = addP u i ∧ b3 = max b2 X3v) := fun e => by
      rw [hB3, decide_eq_true_eq] at e
      exact ⟨⟨addP_le4 hu e.2, by rw [e.1] at hm; simp at hm ⊢; omega⟩, set_pair hul hi8, by rw [hb3, if_pos (by rw [hB3, decide_eq_true_eq]; exact e)]⟩
    have HR2 : Hid (B2 = true → i + 2 < 9) := fun e => by rw [hB2, decide_eq_true_eq] at e; exact e.2.1
    have HG1 : Hid (B1 = true → 0 < g) := fun e => by rw [hB1, decide_eq_true_eq] at e; exact e.1
    have HG2 : Hid (B2 = true → 0 < g) := fun e => by rw [hB2, decide_eq_true_eq] at e; exact e.1
    have hm0 : (9 - (i + 1)) + g + (if p = true then 0 else 1) ≤ f := by omega
    have C0 : Hid (∀ W, Below w.heap.size w W → Calls Try.prog 69 #[.slice a 9 c, .slice (some ⟨bk', off', none⟩) 9 c', .int .i64 ((i : Int) + 1), .int .i64 g, .bool p] W (Ret W (.int .i64 X0v))) := fun W hW => by
      have := ih a c (some ⟨bk', off', none⟩) c' u (i + 1) g p W (h.mono hW) (h'.mono hW) hu (by omega) hg hm0
      rw [← hX0] at this
      exact this
    have hbd0 := nearF_bd hcs f u (i + 1) g p hu hul (by omega)
    rw [← hX0] at hbd0
    have HB1 := Lib.hid hB1
    have HB2 := Lib.hid hB2
    have HB3 := Lib.hid hB3
    have HX1 := Lib.hid hX1
    have HX2 := Lib.hid hX2
    have HX3 := Lib.hid hX3
    have hgp : ((g : Int) == 0) = false ∨ p = false := by
      by_cases q : g = 0
      · right; cases p; rfl; exact absurd ⟨q, rfl⟩ hd
      · left; simp only [beq_eq_false_iff_ne]; omega
    have hi9i : ((i : Int) == 9) = false := by simp only [beq_eq_false_iff_ne]; omega
    clear h h' hcell' hy hul ih hcs hu hres hb1 hb2 hb3 hB1 hB2 hB3 hX0 hX1 hX2 hX3 hm hm0 hd
    go_enter Try.func69, Try.ntmps69
    go_upto_region 1 with fail
    go_cut [21] from 17 (fun v wc => v = .bool false ∧ Below w.heap.size w wc)
    case first =>
      rcases hgp with q | q
      · go_wp2
        go_meet
        case rel => exact ⟨rfl, Below.refl _ _⟩
      · subst q
        by_cases q2 : g = 0
        · subst q2
          go_wp2
          go_meet
          case rel => exact ⟨rfl, Below.refl _ _⟩
        · have q3 : ((g : Int) == 0) = false := by simp only [beq_eq_false_iff_ne]; omega
          go_wp2
          go_meet
          case rel => exact ⟨rfl, Below.refl _ _⟩
    case rest =>
      obtain ⟨rfl, hbel⟩ := hcut
      have HW := Lib.hid hbel
      have C0' := Lib.hid (C0.out wc HW.out)
      clear hbel C0
      go_wp2_with (fail)
      refine C0'.out.mono ?_
      rintro e w1 ⟨rfl, hb1⟩
      have HW1 := Lib.hid (HW.out.trans (hb1.mono HW.out.size))
      clear hb1 C0' HW
      have HW := HW1
      clear HW1
      go_upto_region 11 with fail
      go_cut [60] from 17 (fun v wc => v = .bool B1 ∧ Below w.heap.size w wc)
      case first =>
        as_aux_lemma =>
          have x0 := cell_on HW.out (HY.out i hi8)
          have u0 := HU.out i
          generalize u.getD i 0 = x at *
          by_cases q : 0 < g
          · by_cases q2 : x + 3 ≤ 4
            · have d1 : decide (x + 3 ≤ 4) = true := decide_eq_true q2
              obtain rfl : B1 = true := by rw [HB1.out]; simp; omega
              go_wp2
              go_meet
              case rel => exact ⟨rfl, HW.out⟩
            · have d1 : decide (x + 3 ≤ 4) = false := decide_eq_false q2
              obtain rfl : B1 = false := by rw [HB1.out]; simp; omega
              go_wp2
              go_meet
              case rel => exact ⟨rfl, HW.out⟩
          · obtain rfl : g = 0 := by omega
            obtain rfl : B1 = false := by rw [HB1.out]; simp
            go_wp2
            go_meet
            case rel => exact ⟨rfl, HW.out⟩
      case rest =>
       as_aux_lemma =>
        clear HW
        obtain ⟨rfl, hbel⟩ := hcut
        have HW := Lib.hid hbel
        clear hbel
        go_upto_if 60 with fail
        go_cut [13] from 17 (fun v wc2 => v = .int .i64 b1 ∧ Below w.heap.size w wc2)
        case first =>
          as_aux_lemma =>
            cases B1
            · have HN := Lib.hid (HN1.out rfl)
              go_wp2
              go_meet
              case rel => exact ⟨by rw [HN.out], HW.out⟩
            · obtain ⟨hpr, hlist, hnb⟩ := HY1.out rfl
              have hnw := (HI2.out wc HW.out).news
              have hg0 := HG1.out rfl
              go_upto_region 13 with (first
                | (at_builtin
                   refine wpList_append_own _ rfl _ _ 24 rfl wc.heap.size 2 i0 (.int .i64 0) 1 8 Try.underlying24 hi hz0 hz1 hz2 rfl (by decide) _ _ _ rfl (World.ownsRow_made wc #[] 0 (Nat.le_refl _) (Nat.zero_le _) (by simp)) ⟨bk', off', none⟩ 9 c' (intCells u) rfl HLu.out (fun j z hz => cell_on ((Below.refl _ _).alloc (Nat.le_refl _) _) (hnw j z hz)) (intCells_one u) (by unfold maxLen; omega) (by omega) (by simp) ?_
                   intro vn wn hownn hgn _
                   have Mn : (wc.alloc (.cells #[] 2)).ownsRow wc.heap.size 2 1 (.slice (some ⟨wc.heap.size, 0, none⟩) 0 0) 0 [] := World.ownsRow_made wc #[] 0 (Nat.le_refl _) (Nat.zero_le _) (by simp)
                   have HBn := Lib.hid (below_grown ((Below.refl wc.heap.size wc).alloc (Nat.le_refl _) _) (by simp) hgn Mn)
                   simp only [Nat.zero_add, List.nil_append] at hownn
                   obtain ⟨na, nc, rfl⟩ := own_form hownn
                   obtain ⟨gb, rfl⟩ := own_some hownn (by omega)
                   clear hgn Mn))
              have hgb := own_block hownn
              have hws := HW.out.size
              have hnc : 9 ≤ nc ∧ nc ≤ 9223372036854775807 := by have := Rd.own hownn; exact ⟨this.2.1, this.2.2.1⟩
              have x0 := own_get hownn i (by omega)
              have hu0 := HU.out i
              have f0 : ∀ j, wn.frozen? ⟨gb, j, none⟩ = false := fun j => hownn.frozenAt j
              have q0 := own_put hownn i (u.getD i 0 + 3)
              have HBW : Hid (Below w.heap.size w wn) := HW.out.trans (HBn.out.mono hws)
              have HBS : Hid (Below w.heap.size w (wn.setCell ⟨gb, i, none⟩ (.int .i64 (u.getD i 0 + 3)))) := (HBW.out.setCell (by dsimp only; omega) _)
              rw [hlist] at q0
              have CR := HIH.out a c (some ⟨gb, 0, none⟩) nc _ i (g - 1) p _ (HI1.out _ HBS.out) (Rd.own q0) hpr.1 (by omega) (by omega) hpr.2
              rw [← HX1.out, show (((g - 1 : Nat)) : Int) = (g : Int) - 1 by omega] at CR
              have CR := Lib.hid CR
              clear q0 hownn hlist hpr HBn hnw
              generalize u.getD i 0 = v0 at *
              go_wp2_with (fail)
              refine CR.out.mono ?_
              rintro e wd ⟨rfl, hbd⟩
              have HBD : Hid (Below w.heap.size w wd) := HBS.out.trans (hbd.mono HBS.out.size)
              have HNb := Lib.hid hnb
              clear hbd CR hnb
              go_wp2_with (fail)
              refine (l00Max_any _ _ _).mono ?_
              rintro e we ⟨rfl, rfl⟩
              go_wp2
              go_meet
              case rel => exact ⟨by rw [HNb.out], HBD.out⟩
        case rest =>
         as_aux_lemma =>
          clear HW
          obtain ⟨rfl, hbel⟩ := hcut
          have HW := Lib.hid hbel
          clear hbel HN1 HY1
          go_upto_region 15 with fail
          go_cut [110] from 17 (fun v wc => v = .bool B2 ∧ Below w.heap.size w wc)
          case first =>
            as_aux_lemma =>
              have x0 := cell_on HW.out (HY.out i hi8)
              have u0 := HU.out i
              by_cases q : 0 < g
              · by_cases q2 : i + 2 < 9
                · have x1 := cell_on HW.out (HY.out (i + 1) (by omega))
                  have x2 := cell_on HW.out (HY.out (i + 2) (by omega))
                  have u1 := HU.out (i + 1)
                  have u2 := HU.out (i + 2)
                  have x1' := x1
                  have x2' := x2
                  simp only [← Nat.add_assoc] at x1' x2'
                  generalize u.getD i 0 = x at *
                  generalize u.getD (i + 1) 0 = y at *
                  generalize u.getD (i + 2) 0 = z at *
                  by_cases q3 : x < 4
                  · have d1 : decide (x < 4) = true := decide_eq_true q3
                    by_cases q4 : y < 4
                    · have d2 : decide (y < 4) = true := decide_eq_true q4
                      by_cases q5 : z < 4
                      · have d3 : decide (z < 4) = true := decide_eq_true q5
                        obtain rfl : B2 = true := by rw [HB2.out]; simp; omega
                        go_wp2
                        go_meet
                        case rel => exact ⟨rfl, HW.out⟩
                      · have d3 : decide (z < 4) = false := decide_eq_false q5
                        obtain rfl : B2 = false := by rw [HB2.out]; simp; omega
                        go_wp2
                        go_meet
                        case rel => exact ⟨rfl, HW.out⟩
                    · have d2 : decide (y < 4) = false := decide_eq_false q4
                      obtain rfl : B2 = false := by rw [HB2.out]; simp; omega
                      go_wp2
                      go_meet
                      case rel => exact ⟨rfl, HW.out⟩
                  · have d1 : decide (x < 4) = false := decide_eq_false q3
                    obtain rfl : B2 = false := by rw [HB2.out]; simp; omega
                    go_wp2
                    go_meet
                    case rel => exact ⟨rfl, HW.out⟩
                · 
                  obtain rfl : B2 = false := by rw [HB2.out]; simp; omega
                  go_wp2
                  go_meet
                  case rel => exact ⟨rfl, HW.out⟩
              · obtain rfl : g = 0 := by omega
                obtain rfl : B2 = false := by rw [HB2.out]; simp
                go_wp2
                go_meet
                case rel => exact ⟨rfl, HW.out⟩
          case rest =>
           as_aux_lemma =>
            clear HW
            obtain ⟨rfl, hbel⟩ := hcut
            have HW := Lib.hid hbel
            clear hbel
            go_upto_if 110 with fail
            go_cut [13] from 17 (fun v wc2 => v = .int .i64 b2 ∧ Below w.heap.size w wc2)
            case first =>
              as_aux_lemma =>
                cases B2
                · have HN := Lib.hid (HN2.out rfl)
                  go_wp2
                  go_meet
                  case rel => exact ⟨by rw [HN.out], HW.out⟩
                · obtain ⟨hpr, hlist, hnb⟩ := HY2.out rfl
                  have hnw := (HI2.out wc HW.out).news
                  have hg0 := HG2.out rfl
                  have hi7 := HR2.out rfl
                  go_upto_region 17 with (first
                    | (at_builtin
                       refine wpList_append_own _ rfl _ _ 24 rfl wc.heap.size 2 i0 (.int .i64 0) 1 8 Try.underlying24 hi hz0 hz1 hz2 rfl (by decide) _ _ _ rfl (World.ownsRow_made wc #[] 0 (Nat.le_refl _) (Nat.zero_le _) (by simp)) ⟨bk', off', none⟩ 9 c' (intCells u) rfl HLu.out (fun j z hz => cell_on ((Below.refl _ _).alloc (Nat.le_refl _) _) (hnw j z hz)) (intCells_one u) (by unfold maxLen; omega) (by omega) (by simp) ?_
                       intro vn wn hownn hgn _
                       have Mn : (wc.alloc (.cells #[] 2)).ownsRow wc.heap.size 2 1 (.slice (some ⟨wc.heap.size, 0, none⟩) 0 0) 0 [] := World.ownsRow_made wc #[] 0 (Nat.le_refl _) (Nat.zero_le _) (by simp)
                       have HBn := Lib.hid (below_grown ((Below.refl wc.heap.size wc).alloc (Nat.le_refl _) _) (by simp) hgn Mn)
                       simp only [Nat.zero_add, List.nil_append] at hownn
                       obtain ⟨na, nc, rfl⟩ := own_form hownn
                       obtain ⟨gb, rfl⟩ := own_some hownn (by omega)
                       clear hgn Mn))
                  have hgb := own_block hownn
                  have hws := HW.out.size
                  have hnc : 9 ≤ nc ∧ nc ≤ 9223372036854775807 := by have := Rd.own hownn; exact ⟨this.2.1, this.2.2.1⟩
                  have x0 := own_get hownn i (by omega)
                  have hu0 := HU.out i
                  have x1 := own_get hownn (i + 1) (by omega)
                  have hu1 := HU.out (i + 1)
                  have x2 := own_get hownn (i + 2) (by omega)
                  have hu2 := HU.out (i + 2)
                  have f0 : ∀ j, wn.frozen? ⟨gb, j, none⟩ = false := fun j => hownn.frozenAt j
                  have q0 := own_put hownn i (u.getD i 0 + 1)
                  have q1 := own_put q0 (i + 1) (u.getD (i + 1) 0 + 1)
                  have q2 := own_put q1 (i + 2) (u.getD (i + 2) 0 + 1)
                  have HBW : Hid (Below w.heap.size w wn) := HW.out.trans (HBn.out.mono hws)
                  have HBS : Hid (Below w.heap.size w (((wn.setCell ⟨gb, i, none⟩ (.int .i64 (u.getD i 0 + 1))).setCell ⟨gb, i + 1, none⟩ (.int .i64 (u.getD (i + 1) 0 + 1))).setCell ⟨gb, i + 2, none⟩ (.int .i64 (u.getD (i + 2) 0 + 1)))) := (((HBW.out.setCell (by dsimp only; omega) _).setCell (by dsimp only; omega) _).setCell (by dsimp only; omega) _)
                  rw [hlist] at q2
                  have CR := HIH.out a c (some ⟨gb, 0, none⟩) nc _ i (g - 1) p _ (HI1.out _ HBS.out) (Rd.own q2) hpr.1 (by omega) (by omega) hpr.2
                  rw [← HX2.out, show (((g - 1 : Nat)) : Int) = (g : Int) - 1 by omega] at CR
                  have CR := Lib.hid CR
                  clear q0 q1 q2 hownn hlist hpr HBn hnw
                  generalize u.getD i 0 = v0 at *
                  generalize u.getD (i + 1) 0 = v1 at *
                  generalize u.getD (i + 2) 0 = v2 at *
                  go_wp2_with (fail)
                  refine CR.out.mono ?_
                  rintro e wd ⟨rfl, hbd⟩
                  have HBD : Hid (Below w.heap.size w wd) := HBS.out.trans (hbd.mono HBS.out.size)
                  have HNb := Lib.hid hnb
                  clear hbd CR hnb
                  go_wp2_with (fail)
                  refine (l00Max_any _ _ _).mono ?_
                  rintro e we ⟨rfl, rfl⟩
                  go_wp2
                  go_meet
                  case rel => exact ⟨by rw [HNb.out], HBD.out⟩
            case rest =>
             as_aux_lemma =>
              clear HW
              obtain ⟨rfl, hbel⟩ := hcut
              have HW := Lib.hid hbel
              clear hbel HN2 HY2
              go_upto_region 21 with fail
              go_cut [152] from 17 (fun v wc => v = .bool B3 ∧ Below w.heap.size w wc)
              case first =>
                as_aux_lemma =>
                  have x0 := cell_on HW.out (HY.out i hi8)
                  have u0 := HU.out i
                  generalize u.getD i 0 = x at *
                  cases p
                  · by_cases q2 : x + 2 ≤ 4
                    · have d1 : decide (x + 2 ≤ 4) = true := decide_eq_true q2
                      obtain rfl : B3 = true := by rw [HB3.out]; simp; omega
                      go_wp2
                      go_meet
                      case rel => exact ⟨rfl, HW.out⟩
                    · have d1 : decide (x + 2 ≤ 4) = false := decide_eq_false q2
                      obtain rfl : B3 = false := by rw [HB3.out]; simp; omega
                      go_wp2
                      go_meet
                      case rel => exact ⟨rfl, HW.out⟩
                  · 
                    obtain rfl : B3 = false := by rw [HB3.out]; simp
                    go_wp2
                    go_meet
                    case rel => exact ⟨rfl, HW.out⟩
              case rest =>
               as_aux_lemma =>
                clear HW
                obtain ⟨rfl, hbel⟩ := hcut
                have HW := Lib.hid hbel
                clear hbel
                go_upto_if 152 with fail
                go_cut [13] from 17 (fun v wc2 => v = .int .i64 b3 ∧ Below w.heap.size w wc2)
                case first =>
                  as_aux_lemma =>
                    cases B3
                    · have HN := Lib.hid (HN3.out rfl)
                      go_wp2
                      go_meet
                      case rel => exact ⟨by rw [HN.out], HW.out⟩
                    · obtain ⟨hpr, hlist, hnb⟩ := HY3.out rfl
                      have hnw := (HI2.out wc HW.out).news
                      go_upto_region 23 with (first
                        | (at_builtin
                           refine wpList_append_own _ rfl _ _ 24 rfl wc.heap.size 2 i0 (.int .i64 0) 1 8 Try.underlying24 hi hz0 hz1 hz2 rfl (by decide) _ _ _ rfl (World.ownsRow_made wc #[] 0 (Nat.le_refl _) (Nat.zero_le _) (by simp)) ⟨bk', off', none⟩ 9 c' (intCells u) rfl HLu.out (fun j z hz => cell_on ((Below.refl _ _).alloc (Nat.le_refl _) _) (hnw j z hz)) (intCells_one u) (by unfold maxLen; omega) (by omega) (by simp) ?_
                           intro vn wn hownn hgn _
                           have Mn : (wc.alloc (.cells #[] 2)).ownsRow wc.heap.size 2 1 (.slice (some ⟨wc.heap.size, 0, none⟩) 0 0) 0 [] := World.ownsRow_made wc #[] 0 (Nat.le_refl _) (Nat.zero_le _) (by simp)
                           have HBn := Lib.hid (below_grown ((Below.refl wc.heap.size wc).alloc (Nat.le_refl _) _) (by simp) hgn Mn)
                           simp only [Nat.zero_add, List.nil_append] at hownn
                           obtain ⟨na, nc, rfl⟩ := own_form hownn
                           obtain ⟨gb, rfl⟩ := own_some hownn (by omega)
                           clear hgn Mn))
                      have hgb := own_block hownn
                      have hws := HW.out.size
                      have hnc : 9 ≤ nc ∧ nc ≤ 9223372036854775807 := by have := Rd.own hownn; exact ⟨this.2.1, this.2.2.1⟩
                      have x0 := own_get hownn i (by omega)
                      have hu0 := HU.out i
                      have f0 : ∀ j, wn.frozen? ⟨gb, j, none⟩ = false := fun j => hownn.frozenAt j
                      have q0 := own_put hownn i (u.getD i 0 + 2)
                      have HBW : Hid (Below w.heap.size w wn) := HW.out.trans (HBn.out.mono hws)
                      have HBS : Hid (Below w.heap.size w (wn.setCell ⟨gb, i, none⟩ (.int .i64 (u.getD i 0 + 2)))) := (HBW.out.setCell (by dsimp only; omega) _)
                      rw [hlist] at q0
                      have CR := HIH.out a c (some ⟨gb, 0, none⟩) nc _ i g true _ (HI1.out _ HBS.out) (Rd.own q0) hpr.1 (by omega) (by omega) hpr.2
                      rw [← HX3.out] at CR
                      have CR := Lib.hid CR
                      clear q0 hownn hlist hpr HBn hnw
                      generalize u.getD i 0 = v0 at *
                      go_wp2_with (fail)
                      refine CR.out.mono ?_
                      rintro e wd ⟨rfl, hbd⟩
                      have HBD : Hid (Below w.heap.size w wd) := HBS.out.trans (hbd.mono HBS.out.size)
                      have HNb := Lib.hid hnb
                      clear hbd CR hnb
                      go_wp2_with (fail)
                      refine (l00Max_any _ _ _).mono ?_
                      rintro e we ⟨rfl, rfl⟩
                      go_wp2
                      go_meet
                      case rel => exact ⟨by rw [HNb.out], HBD.out⟩
                case rest =>
                 as_aux_lemma =>
                  clear HW
                  obtain ⟨rfl, hbel⟩ := hcut
                  have HW := Lib.hid hbel
                  clear hbel HN3 HY3
                  go_wp2
                  go_ret
                  exact ⟨rfl, HW.out⟩

end Go.Proofs.Ytnlcgkfdpaffaaa
