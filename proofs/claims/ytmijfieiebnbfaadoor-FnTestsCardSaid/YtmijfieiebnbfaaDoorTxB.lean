/- Texts of tests: l07Text, TestText of both. -/
import Derived.Test.YtmijfieiebnbfaaDoorTxA
import Derived.Lib.Join
import Derived.Deep.AppendLies
namespace Go.Proofs.YtmijfieiebnbfaaDoor
open Go.RowKit
set_option linter.unusedVariables false
set_option linter.unusedSimpArgs false

theorem sgn_ext (y : Nat) (h : y < 3) : (⟨#[61, 60, 62]⟩ : ByteArray).extract y (y + 1) = ofL (sgnL (y : Int)) := by
  match y, h with
  | 0, _ => rfl
  | 1, _ => rfl
  | 2, _ => rfl
theorem numL_dec (z : Nat) : decB z = ofL (numL (z : Int)) := rfl
theorem test_nat {g : Int × Int × Int} (h : okTest3 g = true) : ∃ x y z : Nat, g = ((x : Int), (y : Int), (z : Int)) ∧ x < 3 ∧ y < 3 ∧ z < 52 := by
  obtain ⟨h1, h2, h3, h4⟩ := okTest3_cases h
  refine ⟨g.1.toNat, g.2.1.toNat, g.2.2.toNat, ?_, by omega, by omega, by omega⟩
  obtain ⟨a, b, c⟩ := g
  dsimp only at *
  rw [Int.toNat_of_nonneg (by omega), Int.toNat_of_nonneg (by omega), Int.toNat_of_nonneg (by omega)]
theorem txtTo_join (gs : List (Int × Int × Int)) : ∀ k, k ≤ gs.length → txtTo gs k = Lib.join ((gs.take k).map tstL) [38] := by
  intro k
  induction k with
  | zero => intro _; simp [txtTo, Lib.join_nil]
  | succ k ih =>
    intro hk
    unfold txtTo
    rw [ih (by omega)]
    cases gs with
    | nil => simp at hk
    | cons g r =>
      cases k with
      | zero => simp [Lib.join_nil, Lib.join_one]
      | succ k =>
        have hk' : k < r.length := by simp at hk; omega
        have e := Lib.joinTail_take_succ [38] (r.map tstL) k (tstL (r.getD k (0, 0, 0))) (by simp [hk'])
        rw [if_pos (by omega)]
        simp only [List.take_succ_cons, List.map_cons, Lib.join_cons, List.getD_cons_succ]
        rw [List.map_take, List.map_take, e]
        simp
def txtR (gs : List (Int × Int × Int)) : ByteArray × Bool := if okTests gs then (ofL (txtL gs), true) else (⟨#[]⟩, false)

set_option maxHeartbeats 6400000 in
set_option maxRecDepth 100000 in
theorem l07Text_any (a : Option Addr) (n c : Nat) (gs : List (Int × Int × Int)) (w : World) (h : Trips w a n c gs) (hv : ∀ g ∈ gs, okTest3 g = true) (hn : n ≤ 6) :
    Calls Tryd.prog 23 #[.slice a n c] w (Ret w (.string (ofL (txtTo gs n)))) := by
  obtain ⟨hc, hb, hcell⟩ := h.at
  have hl := h.len
  have HAt := Lib.hid hcell
  have HV := Lib.hid hv
  have hzl := txtTo_len gs (fun g hg => by obtain ⟨_, _, h3, h4⟩ := okTest3_cases (hv g hg); omega)
  have HZ := Lib.hid hzl
  have CF := Lib.hid l07Field_any
  have CN := Lib.hid l07Number_any
  clear h hcell hv hzl
  go_enter Tryd.func23, Tryd.ntmps23
  go_wp2
  go_loopw [3, 7] (fun vo vi wr => ∃ k : Nat, k ≤ n ∧ vi = .int .i64 k ∧ vo = .string (ofL (txtTo gs k)) ∧ Below w.heap.size w wr) (fun _ vi _ => n - (intOf vi).toNat)
  case atStart => exact ⟨0, by omega, rfl, rfl, Below.refl _ _⟩
  case round =>
    obtain ⟨k, hk, rfl, rfl, hbr⟩ := hrel
    have HB := Lib.hid hbr
    have hszr := hbr.size
    by_cases hlt : k < n
    · obtain ⟨b, off, rfl, hlb, hx⟩ := HAt.out k hlt
      obtain ⟨y0, y1, y2⟩ := hx k hlt
      obtain ⟨X, Y, Z, hg, hX, hY, hZ⟩ := test_nat (HV.out _ (getD_mem (d := (0, 0, 0)) (show k < gs.length by omega)))
      have HT : Hid (txtTo gs (k + 1) = (if 0 < k then txtTo gs k ++ [38] else txtTo gs k) ++ ((fldL X ++ sgnL Y) ++ numL Z)) := by show _ = _; rw [txtTo, hg]; rfl
      rw [hg] at y0 y1 y2
      have z0 := cell_on hbr y0
      have z1 := cell_on hbr y1
      have z2 := cell_on hbr y2
      have hzk := HZ.out k (by omega)
      have hsl := sgn_ext Y hY
      have C1 := Lib.hid (fun W => CF.out (X : Int) W)
      have C2 := Lib.hid (fun W => CN.out Z W (by omega))
      have hnz : (numL (Z : Int)).length ≤ 2 := numL_len _ (by omega)
      rw [numL_dec] at C2
      have s1 : (ofL (fldL (X : Int))).size = 4 := by rw [ofL_sz, fldL_len]
      have s2 : (ofL (sgnL (Y : Int))).size = 1 := by rw [ofL_sz, sgnL_len]
      have s3 : (ofL (numL (Z : Int))).size ≤ 2 := by rw [ofL_sz]; exact hnz
      have HA : Hid ((ofL (fldL (X : Int)) ++ ofL (sgnL (Y : Int))) ++ ofL (numL (Z : Int)) = ofL ((fldL (X : Int) ++ sgnL (Y : Int)) ++ numL (Z : Int))) := by show _ = _; rw [ofL_app, ofL_app]
      generalize hpre : (if 0 < k then txtTo gs k ++ [38] else txtTo gs k) = pre at *
      have hprel : (ofL pre).size ≤ 100 := by
        rw [ofL_sz, ← hpre]
        split
        · rw [List.length_append]; simp; omega
        · omega
      have HR : Hid (ofL pre ++ (ofL (fldL (X : Int)) ++ ofL (sgnL (Y : Int)) ++ ofL (numL (Z : Int))) = ofL (txtTo gs (k + 1))) := by show _ = _; rw [HA.out, ofL_app, HT.out]
      have hamp : (0 < k → ofL (txtTo gs k) ++ ⟨#[38]⟩ = ofL pre) ∧ (k = 0 → ofL (txtTo gs k) = ofL pre) := by
        refine ⟨fun q => ?_, fun q => ?_⟩
        · rw [← hpre, if_pos q, ← ofL_app]; rfl
        · rw [← hpre, if_neg (by omega)]
      have hsk : (ofL (txtTo gs k)).size ≤ 100 := by rw [ofL_sz]; omega
      generalize ofL (fldL (X : Int)) = F at *
      generalize ofL (sgnL (Y : Int)) = G at *
      generalize ofL (numL (Z : Int)) = N at *
      generalize ofL pre = O at *
      generalize ofL (txtTo gs k) = O0 at *
      have hz0 : ¬ 9223372036854775807 < O0.size + (⟨#[38]⟩ : ByteArray).size := by show ¬ _ < _ + 1; omega
      have hz1 : ¬ 9223372036854775807 < F.size + G.size := by omega
      have hz2 : ¬ 9223372036854775807 < F.size + G.size + N.size := by omega
      have hz3 : ¬ 9223372036854775807 < O.size + (F.size + G.size + N.size) := by omega
      have hwy : IntKind.i64.wrap ((Y : Int) + 1) = (Y : Int) + 1 := IntWalk.i64_in _ (by omega)
      have hy1 : (Y : Int) + 1 ≤ 3 := by omega
      have hy0 : (0 : Int) ≤ (Y : Int) := by omega
      have hy4 : (Y : Int) ≤ (Y : Int) + 1 := by omega
      have hy6 : ((Y : Int) + 1).toNat = Y + 1 := by omega
      have hy2 : Y + 1 ≤ 3 := by omega
      have hy3 : Y ≤ Y + 1 := by omega
      have hy5 : (⟨#[61, 60, 62]⟩ : ByteArray).size = 3 := rfl
      have HAmp := Lib.hid hamp
      clear hpre hx y0 y1 y2 hbr hg s1 s2 s3 hamp hprel hsk hzk hnz HA HT
      by_cases hk0 : 0 < k
      · have ha := HAmp.out.1 hk0
        clear HAmp
        go_wp2
        go_region_held3 (fun W => W.cell? ⟨b, off + k * 3, none⟩ = some (.int .i64 (X : Int)) ∧ W.cell? ⟨b, off + k * 3 + 1, none⟩ = some (.int .i64 (Y : Int)) ∧ W.cell? ⟨b, off + k * 3 + 2, none⟩ = some (.int .i64 (Z : Int))) (first | exact ⟨z0, z1, z2⟩ | go_keep)
          (first
            | (go_at_call 30; refine (C1.out _).mono ?_; rintro e w2 ⟨rfl, rfl⟩)
            | (go_at_call 42; refine (C2.out _).mono ?_; rintro e w3 ⟨rfl, hb3⟩; have z0 := cell_on hb3 z0; have z1 := cell_on hb3 z1; have z2 := cell_on hb3 z2))
        have HBn := Lib.hid (HB.out.trans (((Below.refl _ _).drew.trans hb3).mono hszr))
        clear hb3 z0 z1 z2
        go_wp2
        go_roundw
        case rel => exact ⟨k + 1, by omega, by first | rfl | go_num, by rw [← HR.out], HBn.out⟩
        case measure => simp [intOf]; omega
      · obtain rfl : k = 0 := by omega
        have ha := HAmp.out.2 rfl
        clear HAmp
        rw [Nat.zero_mul, Nat.add_zero] at z0 z1 z2
        subst ha
        go_wp2
        go_region_held3 (fun W => W.cell? ⟨b, off, none⟩ = some (.int .i64 (X : Int)) ∧ W.cell? ⟨b, off + 1, none⟩ = some (.int .i64 (Y : Int)) ∧ W.cell? ⟨b, off + 2, none⟩ = some (.int .i64 (Z : Int))) (first | exact ⟨z0, z1, z2⟩ | go_keep)
          (first
            | (go_at_call 30; refine (C1.out _).mono ?_; rintro e w2 ⟨rfl, rfl⟩)
            | (go_at_call 42; refine (C2.out _).mono ?_; rintro e w3 ⟨rfl, hb3⟩; have z0 := cell_on hb3 z0; have z1 := cell_on hb3 z1; have z2 := cell_on hb3 z2))
        have HBn := Lib.hid (HB.out.trans (((Below.refl _ _).drew.trans hb3).mono hszr))
        clear hb3 z0 z1 z2
        go_wp2
        go_roundw
        case rel => exact ⟨1, by omega, by first | rfl | go_num, by rw [← HR.out], HBn.out⟩
        case measure => simp [intOf]; omega
    · obtain rfl : k = n := by omega
      clear hbr
      go_wp2
      go_ret
      exact ⟨rfl, HB.out⟩

end Go.Proofs.YtmijfieiebnbfaaDoor
