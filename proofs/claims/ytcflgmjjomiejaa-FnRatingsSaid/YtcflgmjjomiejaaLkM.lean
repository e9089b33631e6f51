/- Likelihoods: the reference's LikeOfGames. -/
import Derived.Test.YtcflgmjjomiejaaLkA
import Derived.Test.YtcflgmjjomiejaaBasic
import Derived.Deep.RegionHeld
namespace Go.Proofs.Ytcflgmjjomiejaa
open Go.RowKit
set_option linter.unusedVariables false
set_option linter.unusedSimpArgs false

/-- one game's part, where its players are positive -/
theorem oneO_eq {S : List Nat} {i j : Nat} {r : Int} (ha : posB (S.getD i 0) = true) (hb : posB (S.getD j 0) = true) (h0 : 0 ≤ r) (h2 : r ≤ 2) :
    ∃ s x y hv ov, floatBits .add .f32 (S.getD i 0) (S.getD j 0) = some s ∧ floatBits .quo .f32 (S.getD i 0) s = some x ∧ floatBits .quo .f32 (S.getD j 0) s = some y ∧ LogB x (logN x) ∧ LogB y (logN y) ∧ floatBits .mul .f32 fHalf (fI r) = some hv ∧ floatBits .sub .f32 fOne hv = some ov ∧ oneO S ((i : Int), (j : Int), r) = opO .add (opO .mul (some hv) (some (logN x))) (opO .mul (some ov) (some (logN y))) := by
  obtain ⟨s, x, y, e1, e2, e3, hx, hy⟩ := shares ha hb
  obtain ⟨hv, ov, e4, e5⟩ := halfs h0 h2
  refine ⟨s, x, y, hv, ov, e1, e2, e3, logN_ok hx, logN_ok hy, e4, e5, ?_⟩
  unfold oneO
  show opO .add (opO .mul (floatBits .mul .f32 fHalf (fI r)) ((opO .quo (some (S.getD i 0)) (floatBits .add .f32 (S.getD i 0) (S.getD j 0))).map logN)) (opO .mul (opO .sub (some fOne) (floatBits .mul .f32 fHalf (fI r))) ((opO .quo (some (S.getD j 0)) (floatBits .add .f32 (S.getD i 0) (S.getD j 0))).map logN)) = _
  rw [e1, e4]
  show opO .add (opO .mul (some hv) ((floatBits .quo .f32 (S.getD i 0) s).map logN)) (opO .mul (floatBits .sub .f32 fOne hv) ((floatBits .quo .f32 (S.getD j 0) s).map logN)) = _
  rw [e2, e3, e5]
  rfl
theorem fin_if {r : Option Nat} {b : Nat} (h : Is r b) : (if finO r = true then (r.getD 0, true) else (0, false)) = ((if finB b = true then b else 0), finB b) := by
  rw [finB_is h]
  by_cases e : finO r = true
  · rw [if_pos e, if_pos e]
    obtain ⟨x, rfl⟩ := fin_some e
    rw [e]
    have h' : b = x := h
    rw [h']
    rfl
  · rw [if_neg e, if_neg e]
    have e' : finO r = false := by simpa using e
    rw [e']

set_option maxHeartbeats 1600000 in
set_option maxRecDepth 100000 in
theorem specLikeOfGames_any (a0 : Option Addr) (n0 c0 : Nat) (S : List Nat) (a : Option Addr) (n c : Nat) (gs : List (Int × Int × Int)) (w : World) (h0 : Floats w a0 n0 c0 S) (h : Trips w a n c gs) :
    Calls Try.prog 21 #[.slice a0 n0 c0, .slice a n c] w (Ret w (.tuple #[.float .f32 (likRes S gs).1, .bool (likRes S gs).2])) := by
  have CG := Lib.hid (l07Games_any (n0 : Int) a n c gs w h)
  have hl := Lib.hid h.len
  have hl0 := Lib.hid h0.len
  obtain ⟨hc0, hb0, hcell0⟩ := h0.at 0
  obtain ⟨hc, hb, hcell⟩ := h.at
  have HRes : Hid (likRes S gs = if (okGames (n0 : Int) gs && S.all posB) = true then
    if finO (likO S gs n) = true then ((likO S gs n).getD 0, true) else (0, false) else (0, false)) := by show _ = _; rw [← hl.out, ← hl0.out]; rfl
  have HGA := Lib.hid (fun e => okGames_all (p := (n0 : Int)) (gs := gs) e)
  have HC0 := Lib.hid hcell0
  have HC := Lib.hid hcell
  have HPall : Hid (S.all posB = true → ∀ i, i < n0 → posB (S.getD i 0) = true) := fun e i hi => by
    have hi' : i < S.length := by rw [hl0.out]; exact hi
    have e2 : S.getD i 0 = S[i] := by simp [hi']
    rw [e2]
    exact List.all_eq_true.1 e _ (List.getElem_mem hi')
  generalize likRes S gs = R at *
  clear h h0 hcell0 hcell
  rcases Bool.eq_false_or_eq_true (okGames (n0 : Int) gs) with eg | eg
  case inr =>
    have hR := Lib.hid (HRes.out.trans (if_neg (by rw [eg]; simp)))
    rw [eg] at CG
    clear HRes HGA
    go_enter Try.func21, Try.ntmps21
    go_wp2_with (fail)
    refine CG.out.mono ?_
    rintro e w1 ⟨rfl, hb1⟩
    have HB1 := Lib.hid hb1
    clear hb1
    go_wp2
    go_ret2
    exact ⟨by rw [hR.out]; rfl, HB1.out.below _⟩
  obtain ⟨⟨hp2, hp16⟩, hg128, hgo⟩ := HGA.out eg
  have HGo := Lib.hid hgo
  rw [eg] at CG
  rw [eg, Bool.true_and] at HRes
  have hn : n ≤ 128 := by rw [← hl.out]; exact hg128
  clear HGA hgo hg128 eg
  go_enter Try.func21, Try.ntmps21
  go_wp2_with (fail)
  refine CG.out.mono ?_
  rintro e w1 ⟨rfl, hb1⟩
  have HB1 := Lib.hid (show Below w.heap.size w w1 from hb1.below _)
  clear hb1 CG
  go_wp2
  go_loopw [20] (fun i wr => ∃ k : Nat, k ≤ n0 ∧ i = .int .i64 k ∧ Hid (∀ j, j < k → posB (S.getD j 0) = true) ∧ Below w.heap.size w wr) (fun i _ => n0 - (intOf i).toNat)
  case atStart => exact ⟨0, by omega, rfl, fun j hj => absurd hj (Nat.not_lt_zero _), HB1.out⟩
  case round =>
    obtain ⟨k, hk, rfl, HA, hbel⟩ := hrel
    have HB := Lib.hid hbel
    have hsz := hbel.size
    by_cases hlt : k < n0
    · obtain ⟨b, off, rfl, hlb, hx⟩ := HC0.out k hlt
      have z0 := cell_on hbel (hx k hlt)
      have HS : Hid (posB (S.getD k 0) = true → ∀ j, j < k + 1 → posB (S.getD j 0) = true) := fun e j hj => by
        by_cases q : j = k
        · subst q; exact e
        · exact HA.out j (by omega)
      have HN : Hid (posB (S.getD k 0) = false → R = (0, false)) := fun e => HRes.out.trans (if_neg (by intro q; rw [HPall.out q k hlt] at e; exact absurd e (by simp)))
      have C := Lib.hid (fun W => l02Above_any (S.getD k 0) W)
      clear hx hbel HB1
      generalize S.getD k 0 = x at *
      rcases Bool.eq_false_or_eq_true (posB x) with e | e
      · rw [e] at C
        go_wp2_with (fail)
        refine (C.out _).mono ?_
        rintro e2 w2 ⟨rfl, hb2⟩
        have HB2 := Lib.hid (HB.out.trans (hb2.mono hsz))
        clear hb2
        go_wp2
        go_roundw
        case rel => exact ⟨k + 1, by omega, by go_num, HS.out e, HB2.out⟩
        case measure => simp [intOf]; omega
      · rw [e] at C
        have hno := Lib.hid (HN.out e)
        go_wp2_with (fail)
        refine (C.out _).mono ?_
        rintro e2 w2 ⟨rfl, hb2⟩
        have HB2 := Lib.hid (HB.out.trans (hb2.mono hsz))
        clear hb2
        go_wp2
        go_ret2
        exact ⟨by rw [hno.out]; rfl, HB2.out⟩
    · obtain rfl : n0 = k := by omega
      have hyes : S.all posB = true := by
        rw [List.all_eq_true]
        intro x hx
        obtain ⟨j, hj, rfl⟩ := List.getElem_of_mem hx
        have := HA.out j (by rw [← hl0.out]; exact hj)
        have e2 : S.getD j 0 = S[j] := by simp [hj]
        rw [e2] at this
        exact this
      have hR := Lib.hid (HRes.out.trans (if_pos hyes))
      obtain ⟨wS, hwS⟩ : ∃ x : World, x = wr := ⟨_, rfl⟩
      subst hwS
      clear hbel HB1 HRes hyes HPall
      go_wp2
      go_loopw [7, 32] (fun v i wr => ∃ (k b : Nat), k ≤ n ∧ i = .int .i64 k ∧ v = .float .f32 b ∧ Hid (Is (likO S gs k) b) ∧ Below w.heap.size w wr) (fun _ i _ => n - (intOf i).toNat)
      case atStart => exact ⟨0, 0, by omega, rfl, rfl, rfl, HB.out⟩
      case round =>
        obtain ⟨k, bs, hk2, rfl, rfl, HIs, hbel⟩ := hrel
        obtain ⟨w4, hw4⟩ : ∃ x : World, x = wr := ⟨_, rfl⟩
        subst hw4
        have HB4 := Lib.hid hbel
        have hsz4 := hbel.size
        by_cases hlt2 : k < n
        · obtain ⟨b, off, rfl, hlb, hx⟩ := HC.out k hlt2
          obtain ⟨q0, q1, q2⟩ := hx k hlt2
          obtain ⟨i, j, e1, e2, hip, hjp, hij, hr0, hr2⟩ := okGame_nat (HGo.out _ (getD_mem (d := (0, 0, 0)) (k := k) (by rw [hl.out]; exact hlt2)))
          obtain ⟨bS, oS, rfl, hlS, hxS⟩ := HC0.out i (by omega)
          have HSt : Hid (likO S gs (k + 1) = opO .add (likO S gs k) (oneO S (gs.getD k (0, 0, 0)))) := rfl
          generalize gs.getD k (0, 0, 0) = g at *
          obtain ⟨g0, g1, r⟩ := g
          simp only at e1 e2 q0 q1 q2 hr0 hr2
          subst e1 e2
          obtain ⟨s, x, y, hv, ov, f1, f2, f3, L1, L2, f4, f5, f6⟩ := oneO_eq (S := S) (i := i) (j := j) (r := r) (HA.out i (by omega)) (HA.out j (by omega)) hr0 hr2
          rw [f6] at HSt
          have z0 := cell_on hbel q0
          have z1 := cell_on hbel q1
          have z2 := cell_on hbel q2
          have zi := cell_on hbel (hxS i (by omega))
          have zj := cell_on hbel (hxS j (by omega))
          have C1 := Lib.hid L1.2
          have C2 := Lib.hid L2.2
          clear f6 L1 L2 hx hxS q0 q1 q2 hbel HC0 HC HA HGo
          generalize logN x = lx at *
          generalize logN y = ly at *
          generalize S.getD i 0 = si at *
          generalize S.getD j 0 = sj at *
          have hopA : ∀ t W, (binOp .add t (.float .f32 si) (.float .f32 sj)).run Try.prog W = .ok (.float .f32 s) W := fun t W => run_float_arith W .add t .f32 _ _ _ f1
          have hopX : ∀ t W, (binOp .quo t (.float .f32 si) (.float .f32 s)).run Try.prog W = .ok (.float .f32 x) W := fun t W => run_float_arith W .quo t .f32 _ _ _ f2
          have hopY : ∀ t W, (binOp .quo t (.float .f32 sj) (.float .f32 s)).run Try.prog W = .ok (.float .f32 y) W := fun t W => run_float_arith W .quo t .f32 _ _ _ f3
          have hopH : ∀ t W, (binOp .mul t (.float .f32 1056964608) (.float .f32 (floatOfInt .f32 r))).run Try.prog W = .ok (.float .f32 hv) W := fun t W => run_float_arith W .mul t .f32 _ _ _ f4
          have hopO : ∀ t W, (binOp .sub t (.float .f32 1065353216) (.float .f32 hv)).run Try.prog W = .ok (.float .f32 ov) W := fun t W => run_float_arith W .sub t .f32 _ _ _ f5
          have hcd : ∀ (W : World) (q : Nat) (ad : Addr), (W.drewN q).cell? ad = W.cell? ad := fun _ _ _ => rfl
          clear f1 f2 f3 f4 f5
          go_wp2
          go_region_held (fun W => W.cell? ⟨b, off + k * 3, none⟩ = some (.int .i64 i) ∧ W.cell? ⟨b, off + k * 3 + 1, none⟩ = some (.int .i64 j) ∧ W.cell? ⟨bS, oS + i, none⟩ = some (.float .f32 si) ∧ W.cell? ⟨bS, oS + j, none⟩ = some (.float .f32 sj)) (first | exact ⟨z0, z1, zi, zj⟩ | go_keep) (fail)
          all_goals
            have hopM : ∀ t a b W, (binOp .mul t (.float .f32 a) (.float .f32 b)).run Try.prog W = .ok (.float .f32 (fo .mul a b W)) (W.drewN (fd .mul a b)) := fun t a b W => run_fop (by unfold isArith; simp) t a b W
            have hopS : ∀ t a b W, (binOp .add t (.float .f32 a) (.float .f32 b)).run Try.prog W = .ok (.float .f32 (fo .add a b W)) (W.drewN (fd .add a b)) := fun t a b W => run_fop (by unfold isArith; simp) t a b W
            go_wp2_with (first | (simp only [hopH, hopO, hopX, hopY]) | (simp only [hopM, hopS]))
            refine (C1.out _).mono ?_
            rintro e5 w5 ⟨rfl, rfl⟩
            go_wp2_with (first | (simp only [hopH, hopO, hopX, hopY]) | (simp only [hopM, hopS]))
            refine (C2.out _).mono ?_
            rintro e6 w6 ⟨rfl, rfl⟩
            go_wp2_with (first | (simp only [hopH, hopO, hopX, hopY]) | (simp only [hopM, hopS]))
            go_roundw
            case rel => exact ⟨k + 1, _, by omega, by go_num, rfl, by show Is _ _; rw [HSt.out]; exact fo_is HIs.out (fo_is (fo_is (r := some hv) (q := some lx) rfl rfl _) (fo_is (r := some ov) (q := some ly) rfl rfl _) _) _, HB4.out.trans ((Quiet.below ⟨_, rfl⟩ _))⟩
            case measure => simp [intOf]; omega
        · obtain rfl : n = k := by omega
          have C := Lib.hid (fun W => l02Number_any bs W)
          have HF := Lib.hid (hR.out.trans (fin_if HIs.out))
          clear hR hbel
          generalize finB bs = v at *
          cases v
          all_goals
            go_wp2_with (fail)
            refine (C.out _).mono ?_
            rintro e9 w9 ⟨rfl, hb9⟩
            have HB9 := Lib.hid (HB4.out.trans (hb9.mono hsz4))
            clear hb9
            go_wp2
            go_ret2
            exact ⟨by rw [HF.out]; rfl, HB9.out⟩

set_option maxHeartbeats 1600000 in
set_option maxRecDepth 100000 in
theorem implLikeOfGames_any (a0 : Option Addr) (n0 c0 : Nat) (S : List Nat) (a : Option Addr) (n c : Nat) (gs : List (Int × Int × Int)) (w : World) (h0 : Floats w a0 n0 c0 S) (h : Trips w a n c gs) :
    Calls Try.prog 20 #[.slice a0 n0 c0, .slice a n c] w (Ret w (.tuple #[.float .f32 (likRes S gs).1, .bool (likRes S gs).2])) := by
  have CG := Lib.hid (implAreGames_any (n0 : Int) a n c gs w h)
  have CP := Lib.hid (fun W (hW : Below w.heap.size w W) => arePositive_any a0 n0 c0 S W (Row.mono h0 hW))
  have hl := Lib.hid h.len
  have hl0 := Lib.hid h0.len
  obtain ⟨hc0, hb0, hcell0⟩ := h0.at 0
  obtain ⟨hc, hb, hcell⟩ := h.at
  have HRes : Hid (likRes S gs = if (okGames (n0 : Int) gs && S.all posB) = true then
    if finO (likO S gs n) = true then ((likO S gs n).getD 0, true) else (0, false) else (0, false)) := by show _ = _; rw [← hl.out, ← hl0.out]; rfl
  have HGA := Lib.hid (fun e => okGames_all (p := (n0 : Int)) (gs := gs) e)
  have HC0 := Lib.hid hcell0
  have HC := Lib.hid hcell
  have HPall : Hid (S.all posB = true → ∀ i, i < n0 → posB (S.getD i 0) = true) := fun e i hi => by
    have hi' : i < S.length := by rw [hl0.out]; exact hi
    have e2 : S.getD i 0 = S[i] := by simp [hi']
    rw [e2]
    exact List.all_eq_true.1 e _ (List.getElem_mem hi')
  generalize likRes S gs = R at *
  clear h h0 hcell0 hcell
  rcases Bool.eq_false_or_eq_true (okGames (n0 : Int) gs) with eg | eg
  case inr =>
    have hR := Lib.hid (HRes.out.trans (if_neg (by rw [eg]; simp)))
    rw [eg] at CG
    clear HRes HGA
    go_enter Try.func20, Try.ntmps20
    go_wp2_with (fail)
    refine CG.out.mono ?_
    rintro e w1 ⟨rfl, hb1⟩
    have HB1 := Lib.hid hb1
    clear hb1
    go_wp2
    go_ret2
    exact ⟨by rw [hR.out]; rfl, HB1.out⟩
  obtain ⟨⟨hp2, hp16⟩, hg128, hgo⟩ := HGA.out eg
  have HGo := Lib.hid hgo
  rw [eg] at CG
  rw [eg, Bool.true_and] at HRes
  have hn : n ≤ 128 := by rw [← hl.out]; exact hg128
  clear HGA hgo hg128 eg
  rcases Bool.eq_false_or_eq_true (S.all posB) with ep | ep
  case inr =>
    have hR := Lib.hid (HRes.out.trans (if_neg (by rw [ep]; simp)))
    rw [ep] at CP
    clear HRes HPall
    go_enter Try.func20, Try.ntmps20
    go_wp2_with (fail)
    refine CG.out.mono ?_
    rintro e w1 ⟨rfl, hb1⟩
    have HB1 := Lib.hid hb1
    clear hb1
    go_wp2_with (fail)
    refine (CP.out _ HB1.out).mono ?_
    rintro e w2 ⟨rfl, hb2⟩
    have HB2 := Lib.hid (HB1.out.trans (hb2.mono HB1.out.size))
    clear hb2
    go_wp2
    go_ret2
    exact ⟨by rw [hR.out]; rfl, HB2.out⟩
  have hR := Lib.hid (HRes.out.trans (if_pos ep))
  have HA := Lib.hid (HPall.out ep)
  rw [ep] at CP
  clear HRes HPall ep
  go_enter Try.func20, Try.ntmps20
  go_wp2_with (fail)
  refine CG.out.mono ?_
  rintro e w1 ⟨rfl, hb1⟩
  have HB1 := Lib.hid hb1
  clear hb1
  go_wp2_with (fail)
  refine (CP.out _ HB1.out).mono ?_
  rintro e w2 ⟨rfl, hb2⟩
  have HB := Lib.hid (HB1.out.trans (hb2.mono HB1.out.size))
  clear hb2 CG CP HB1
  go_wp2
  go_loopw [6, 24] (fun v i wr => ∃ (k b : Nat), k ≤ n ∧ i = .int .i64 k ∧ v = .float .f32 b ∧ Hid (Is (likO S gs k) b) ∧ Below w.heap.size w wr) (fun _ i _ => n - (intOf i).toNat)
  case atStart => exact ⟨0, 0, by omega, rfl, rfl, rfl, HB.out⟩
  case round =>
    obtain ⟨k, bs, hk2, rfl, rfl, HIs, hbel⟩ := hrel
    obtain ⟨w4, hw4⟩ : ∃ x : World, x = wr := ⟨_, rfl⟩
    subst hw4
    have HB4 := Lib.hid hbel
    have hsz4 := hbel.size
    by_cases hlt2 : k < n
    · obtain ⟨b, off, rfl, hlb, hx⟩ := HC.out k hlt2
      obtain ⟨q0, q1, q2⟩ := hx k hlt2
      obtain ⟨i, j, e1, e2, hip, hjp, hij, hr0, hr2⟩ := okGame_nat (HGo.out _ (getD_mem (d := (0, 0, 0)) (k := k) (by rw [hl.out]; exact hlt2)))
      obtain ⟨bS, oS, rfl, hlS, hxS⟩ := HC0.out i (by omega)
      have HSt : Hid (likO S gs (k + 1) = opO .add (likO S gs k) (oneO S (gs.getD k (0, 0, 0)))) := rfl
      generalize gs.getD k (0, 0, 0) = g at *
      obtain ⟨g0, g1, r⟩ := g
      simp only at e1 e2 q0 q1 q2 hr0 hr2
      subst e1 e2
      obtain ⟨s, x, y, hv, ov, f1, f2, f3, L1, L2, f4, f5, f6⟩ := oneO_eq (S := S) (i := i) (j := j) (r := r) (HA.out i (by omega)) (HA.out j (by omega)) hr0 hr2
      rw [f6] at HSt
      have z0 := cell_on hbel q0
      have z1 := cell_on hbel q1
      have z2 := cell_on hbel q2
      have HZi := Lib.hid (hxS i (by omega))
      have HZj := Lib.hid (hxS j (by omega))
      have C1 := Lib.hid L1.1
      have C2 := Lib.hid L2.1
      clear f6 L1 L2 hx hxS q0 q1 q2 hbel HC0 HC HA HGo
      generalize logN x = lx at *
      generalize logN y = ly at *
      generalize S.getD i 0 = si at *
      generalize S.getD j 0 = sj at *
      have hopA : ∀ t W, (binOp .add t (.float .f32 si) (.float .f32 sj)).run Try.prog W = .ok (.float .f32 s) W := fun t W => run_float_arith W .add t .f32 _ _ _ f1
      have hopX : ∀ t W, (binOp .quo t (.float .f32 si) (.float .f32 s)).run Try.prog W = .ok (.float .f32 x) W := fun t W => run_float_arith W .quo t .f32 _ _ _ f2
      have hopY : ∀ t W, (binOp .quo t (.float .f32 sj) (.float .f32 s)).run Try.prog W = .ok (.float .f32 y) W := fun t W => run_float_arith W .quo t .f32 _ _ _ f3
      have hopH : ∀ t W, (binOp .mul t (.float .f32 1056964608) (.float .f32 (floatOfInt .f32 r))).run Try.prog W = .ok (.float .f32 hv) W := fun t W => run_float_arith W .mul t .f32 _ _ _ f4
      have hopO : ∀ t W, (binOp .sub t (.float .f32 1065353216) (.float .f32 hv)).run Try.prog W = .ok (.float .f32 ov) W := fun t W => run_float_arith W .sub t .f32 _ _ _ f5
      clear f1 f2 f3 f4 f5
      go_wp2_with (fail)
      have HB0 : Hid (Below w.heap.size w (w4.alloc (.cells #[.int .i64 i, .int .i64 j, .int .i64 r] 55))) := HB4.out.alloc hsz4 _
      have p0 : (w4.alloc (.cells #[.int .i64 i, .int .i64 j, .int .i64 r] 55)).cell? ⟨w4.heap.size, 0, none⟩ = some (.int .i64 i) := by go_simp
      have p1 : (w4.alloc (.cells #[.int .i64 i, .int .i64 j, .int .i64 r] 55)).cell? ⟨w4.heap.size, 1, none⟩ = some (.int .i64 j) := by go_simp
      have p2 : (w4.alloc (.cells #[.int .i64 i, .int .i64 j, .int .i64 r] 55)).cell? ⟨w4.heap.size, 2, none⟩ = some (.int .i64 r) := by go_simp
      clear z0 z1 z2
      generalize w4.alloc (.cells #[.int .i64 i, .int .i64 j, .int .i64 r] 55) = V at *
      have zi := cell_on HB0.out HZi.out
      have zj := cell_on HB0.out HZj.out
      have HBD := Lib.hid HB0.out.drew
      have hszD := HBD.out.size
      go_region_held (fun W => W.cell? ⟨w4.heap.size, 0, none⟩ = some (.int .i64 i) ∧ W.cell? ⟨w4.heap.size, 1, none⟩ = some (.int .i64 j) ∧ W.cell? ⟨bS, oS + i, none⟩ = some (.float .f32 si) ∧ W.cell? ⟨bS, oS + j, none⟩ = some (.float .f32 sj)) (first | exact ⟨p0, p1, zi, zj⟩ | go_keep) (fail)
      all_goals
        have hopM : ∀ t a b W, (binOp .mul t (.float .f32 a) (.float .f32 b)).run Try.prog W = .ok (.float .f32 (fo .mul a b W)) (W.drewN (fd .mul a b)) := fun t a b W => run_fop (by unfold isArith; simp) t a b W
        have hopS : ∀ t a b W, (binOp .add t (.float .f32 a) (.float .f32 b)).run Try.prog W = .ok (.float .f32 (fo .add a b W)) (W.drewN (fd .add a b)) := fun t a b W => run_fop (by unfold isArith; simp) t a b W
        go_wp2_with (first | (simp only [hopA, hopH, hopO, hopX, hopY]) | (simp only [hopM, hopS]))
        refine (C1.out _).mono ?_
        rintro e5 w5 ⟨rfl, hb5⟩
        have HB5 := Lib.hid (HBD.out.trans (hb5.mono hszD))
        have hsz5 := HB5.out.size
        clear hb5
        go_wp2_with (first | (simp only [hopA, hopH, hopO, hopX, hopY]) | (simp only [hopM, hopS]))
        refine (C2.out _).mono ?_
        rintro e6 w6 ⟨rfl, hb6⟩
        have HB6 := Lib.hid ((HB5.out.trans (Quiet.below ⟨_, rfl⟩ _)).trans (hb6.mono (by exact hsz5)))
        clear hb6
        go_wp2_with (first | (simp only [hopH, hopO, hopX, hopY]) | (simp only [hopM, hopS]))
        go_roundw
        case rel => exact ⟨k + 1, _, by omega, by go_num, rfl, by show Is _ _; rw [HSt.out]; exact fo_is HIs.out (fo_is (fo_is (r := some hv) (q := some lx) rfl rfl _) (fo_is (r := some ov) (q := some ly) rfl rfl _) _) _, HB6.out.trans ((Quiet.below ⟨_, rfl⟩ _))⟩
        case measure => simp [intOf]; omega
    · obtain rfl : n = k := by omega
      have C := Lib.hid (fun W => checked_any bs W)
      have HF := Lib.hid (hR.out.trans (fin_if HIs.out))
      clear hR hbel
      generalize finB bs = v at *
      cases v
      all_goals
        go_wp2_with (fail)
        refine (C.out _).mono ?_
        rintro e9 w9 ⟨rfl, hb9⟩
        have HB9 := Lib.hid (HB4.out.trans (hb9.mono hsz4))
        clear hb9
        go_wp2
        go_ret2
        exact ⟨by rw [HF.out]; rfl, HB9.out⟩

end Go.Proofs.Ytcflgmjjomiejaa
