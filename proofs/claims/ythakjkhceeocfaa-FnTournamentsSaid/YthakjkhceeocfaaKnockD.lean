/- KnockRounds, impl. -/
import Derived.Test.YthakjkhceeocfaaKnockC
import Derived.Test.YthakjkhceeocfaaIndex
import Derived.Test.YthakjkhceeocfaaNewDeck
namespace Go.Proofs.Ythakjkhceeocfaa
open Go.RowKit
set_option linter.unusedVariables false

def Wn (b bo n c off : Nat) (v : Value) : Prop := ∃ (wa : Option Addr) (m cw : Nat), v = .slice wa m cw ∧ m + off = n ∧ cw + off = c ∧ (off < n → wa = some ⟨b, bo + off, none⟩)
def OwnV (w : World) (B : Nat) (E : TypeId) (n : Nat) (v : Value) (cs : List Value) : Prop := ∃ a c, v = .slice a n c ∧ w.ownsRow B E 1 (.slice a n c) n cs

set_option maxHeartbeats 4000000 in
set_option maxRecDepth 100000 in
theorem implKnock2_any (a : Option Addr) (c : Nat) (ws : List Bool) (w : World) (h : Row Value.bool w a 1 c ws) :
    Calls Try.prog 8 #[.slice a 1 c, .int .i64 2] w (RetI 2 w (knockRes ws 2)) := by
  obtain ⟨hc, hb, hcell⟩ := h.at false
  obtain ⟨b, bo, rfl, hlb, hx⟩ := hcell 0 (by omega)
  have HR : Hid (knockRes ws 2 = (knockF 1 ws 0 (upto 2) [], true)) := by
    have hl := h.len
    show knockRes ws 2 = _
    simp [knockRes, hl]
  obtain ⟨i0, hi, hz0, hz1, hz2⟩ := info_parts infoI64
  clear h hcell
  generalize hT : knockF 1 ws 0 (upto 2) [] = T at *
  have HT := Lib.hid hT
  clear hT
  go_enter Try.func8, Try.ntmps8
  go_wp2_with (fail)
  refine (containsI64_any _ _ _ [2, 4, 8, 16] 2 true rfl _ (Rd.own (World.ownsRow_lit (base := 0) (size := 1) w #[.int .i64 2, .int .i64 4, .int .i64 8, .int .i64 16] 4 (Nat.zero_le _) (by unfold maxLen; omega) rfl))).mono ?_
  rintro e w1 ⟨rfl, rfl⟩
  go_wp2_with (fail)
  refine (newDeck_any 2 _ (by omega)).mono ?_
  rintro e wd ⟨la, lc, rfl, hb2, ho⟩
  have HB0 : Hid (Below w.heap.size w wd) := ((Below.refl w.heap.size w).alloc (Nat.le_refl _) _).trans (hb2.mono (by simp))
  have HBs0 := Lib.hid HB0.out.size
  have HL0 := Lib.hid (ownsRow_low ho (show w.heap.size ≤ _ by simp))
  clear hb2 ho
  go_wp2_with (fail)
  go_loopw [0, 6, 7, 8, 9] (fun wn lf ot nx i wo => ∃ (t : Nat) (L O : List Int) (off : Nat), L.length = 2 ^ t ∧ O.length = off ∧ off + 2 ^ t = 2 ∧ Wn b bo 1 c off wn ∧ knockF t ws off L O = T ∧ Below w.heap.size w wo ∧ OwnV wo w.heap.size 2 (2 ^ t) lf (intCells L) ∧ OwnV wo w.heap.size 2 off ot (intCells O)) (fun _ lf _ _ _ _ => lenOf lf)
  case atStart => exact ⟨1, upto 2, [], 0, upto_len _, rfl, rfl, ⟨_, _, _, rfl, rfl, rfl, fun _ => rfl⟩, HT.out, HB0.out.alloc HBs0.out _, ⟨_, _, rfl, HL0.out.alloc _⟩, ⟨_, _, rfl, World.ownsRow_made wd #[] 0 HBs0.out (by unfold maxLen; omega) rfl⟩⟩
  case round =>
    obtain ⟨t, L, O, off, eL, eO, eS, ⟨wa, m, cw, rfl, hm, hcw0, hwa⟩, eK, hbo, ⟨la, lc, rfl, hol⟩, ⟨oa, oc, rfl, hoo⟩⟩ := hrel
    have HB := Lib.hid hbo
    have HBs := Lib.hid hbo.size
    have HL1 := Lib.hid hol
    have HO := Lib.hid hoo
    have HOl := Lib.hid eO
    clear hbo hol hoo eO
    cases t with
    | zero =>
      have HK : Hid (O = T) := eK
      clear eK hx hwa
      simp only [Nat.pow_zero] at *
      go_wp2
      go_ret2
      have e := HK.out
      subst e
      exact RetI.ok HR.out HB.out HO.out
    | succ t =>
      have HK : Hid (knockF t ws (off + 2 ^ t) (nextOf ws off L (2 ^ t)) (O ++ nextOf ws off L (2 ^ t)) = T) := eK
      have hpos := pow2_pos t
      have e2 : 2 ^ (t + 1) = 2 * 2 ^ t := by rw [Nat.pow_succ, Nat.mul_comm]
      generalize 2 ^ (t + 1) = q at *
      generalize hh : 2 ^ t = h at *
      subst e2
      rename World => wo
      have HS := Lib.hid eS
      have HL := HL1
      have HH := Lib.hid hh
      clear eK hh HL1
      have h12 : (1 : Int) < 2 * (h : Int) := by omega
      go_wp2_with (fail)
      go_loopw [0, 8, 9] (fun wn nx i wr => ∃ j : Nat, j ≤ h ∧ i = .int .i64 ((2 * j : Nat) : Int) ∧ Below wo.heap.size wo wr ∧ Wn b bo 1 c (off + j) wn ∧ OwnV wr wo.heap.size 2 j nx (intCells (nextOf ws off L j))) (fun _ _ i _ => 2 * h - (intOf i).toNat)
      case atStart => exact ⟨0, by omega, rfl, (Below.refl _ _).alloc (Nat.le_refl _) _, ⟨_, _, _, rfl, hm, hcw0, hwa⟩, _, _, rfl, World.ownsRow_made wo #[] 0 (Nat.le_refl _) (by unfold maxLen; omega) rfl⟩
      case round =>
        clear hm hcw0 hwa
        obtain ⟨j, hj, rfl, hbi, ⟨wa, m, cw, rfl, hm, hcw0, hwa⟩, na, nc, rfl, hon⟩ := hrel
        have HBi := Lib.hid hbi
        have hsi := hbi.size
        by_cases hlt : j < h
        · obtain rfl := hwa (by omega)
          clear hwa
          have hw0 := cell_on (HB.out.trans (hbi.mono HBs.out)) (hx (off + j) (by omega))
          have HLo := Lib.hid (ownsRow_below HL.out hbi)
          obtain ⟨gl, rfl⟩ := own_some1 HLo.out (by omega)
          have l0 := own_get HLo.out (2 * j) (by omega)
          have l1 := own_get HLo.out (2 * j + 1) (by omega)
          have HP : Hid (nextOf ws off L (j + 1) = nextOf ws off L j ++ [if ws.getD (off + j) false = true then L.getD (2 * j) 0 else L.getD (2 * j + 1) 0]) := nextOf_succ ws off L j
          clear hbi hx
          generalize L.getD (2 * j) 0 = y0 at *
          generalize L.getD (2 * j + 1) 0 = y1 at *
          generalize ws.getD (off + j) false = bw at *
          cases bw
          · go_wp2_with (first | (at_builtin; go_must (refine wpList_append_own _ rfl _ _ 24 rfl wo.heap.size 2 i0 (.int .i64 0) 1 8 Try.underlying24 hi hz0 hz1 hz2 rfl (by decide) _ _ _ rfl (hon.alloc _) ⟨wr.heap.size, 0, none⟩ 1 1 [.int .i64 y1] rfl rfl (new1 _ _ _) (one1 rfl) (by unfold maxLen; omega) (by omega) (by simp; omega) ?_); intro v' w5 hown1 hg1 _))
            have HB5 := Lib.hid (below_app HBi.out hsi hg1 hon)
            obtain ⟨a', c', rfl⟩ := own_form hown1
            have HO5 : Hid (w5.ownsRow wo.heap.size 2 1 (.slice a' (j + 1) c') (j + 1) (intCells (nextOf ws off L (j + 1)))) := by show w5.ownsRow _ _ _ _ _ _; rw [HP.out, intCells_snoc]; exact hown1
            clear hown1 hg1 hon
            by_cases hcw : cw = 1
            · subst hcw
              go_wp2
              go_roundw
              case rel =>
                first
                  | exact ⟨j + 1, by omega, by first | go_num | omega, HB5.out, ⟨_, m - 1, 0, rfl, by omega, by omega, fun e => by omega⟩, a', c', rfl, HO5.out⟩
                  | (repeat apply Exists.intro
                     refine And.intro ?r ?e
                     case e => (repeat (first | exact rfl | refine And.intro rfl ?_))
                     case r => exact ⟨j + 1, by omega, by first | go_num | omega, HB5.out, ⟨_, m - 1, 0, rfl, by omega, by omega, fun e => by omega⟩, a', c', rfl, HO5.out⟩)
              case measure => simp [intOf]; omega
            · have hcw2 : (cw == 1) = false := by simp [hcw]
              go_wp2
              go_roundw
              case rel =>
                first
                  | exact ⟨j + 1, by omega, by first | go_num | omega, HB5.out, ⟨_, m - 1, cw - 1, rfl, by omega, by omega, fun e => rfl⟩, a', c', rfl, HO5.out⟩
                  | (repeat apply Exists.intro
                     refine And.intro ?r ?e
                     case e => (repeat (first | exact rfl | refine And.intro rfl ?_))
                     case r => exact ⟨j + 1, by omega, by first | go_num | omega, HB5.out, ⟨_, m - 1, cw - 1, rfl, by omega, by omega, fun e => rfl⟩, a', c', rfl, HO5.out⟩)
              case measure => simp [intOf]; omega
          · go_wp2_with (first | (at_builtin; go_must (refine wpList_append_own _ rfl _ _ 24 rfl wo.heap.size 2 i0 (.int .i64 0) 1 8 Try.underlying24 hi hz0 hz1 hz2 rfl (by decide) _ _ _ rfl (hon.alloc _) ⟨wr.heap.size, 0, none⟩ 1 1 [.int .i64 y0] rfl rfl (new1 _ _ _) (one1 rfl) (by unfold maxLen; omega) (by omega) (by simp; omega) ?_); intro v' w5 hown1 hg1 _))
            have HB5 := Lib.hid (below_app HBi.out hsi hg1 hon)
            obtain ⟨a', c', rfl⟩ := own_form hown1
            have HO5 : Hid (w5.ownsRow wo.heap.size 2 1 (.slice a' (j + 1) c') (j + 1) (intCells (nextOf ws off L (j + 1)))) := by show w5.ownsRow _ _ _ _ _ _; rw [HP.out, intCells_snoc]; exact hown1
            clear hown1 hg1 hon
            by_cases hcw : cw = 1
            · subst hcw
              go_wp2
              go_roundw
              case rel =>
                first
                  | exact ⟨j + 1, by omega, by first | go_num | omega, HB5.out, ⟨_, m - 1, 0, rfl, by omega, by omega, fun e => by omega⟩, a', c', rfl, HO5.out⟩
                  | (repeat apply Exists.intro
                     refine And.intro ?r ?e
                     case e => (repeat (first | exact rfl | refine And.intro rfl ?_))
                     case r => exact ⟨j + 1, by omega, by first | go_num | omega, HB5.out, ⟨_, m - 1, 0, rfl, by omega, by omega, fun e => by omega⟩, a', c', rfl, HO5.out⟩)
              case measure => simp [intOf]; omega
            · have hcw2 : (cw == 1) = false := by simp [hcw]
              go_wp2
              go_roundw
              case rel =>
                first
                  | exact ⟨j + 1, by omega, by first | go_num | omega, HB5.out, ⟨_, m - 1, cw - 1, rfl, by omega, by omega, fun e => rfl⟩, a', c', rfl, HO5.out⟩
                  | (repeat apply Exists.intro
                     refine And.intro ?r ?e
                     case e => (repeat (first | exact rfl | refine And.intro rfl ?_))
                     case r => exact ⟨j + 1, by omega, by first | go_num | omega, HB5.out, ⟨_, m - 1, cw - 1, rfl, by omega, by omega, fun e => rfl⟩, a', c', rfl, HO5.out⟩)
              case measure => simp [intOf]; omega
        · obtain rfl : j = h := by omega
          have hOo := ownsRow_below HO.out hbi
          obtain ⟨gn, rfl⟩ := own_some1 hon (by omega)
          have hgn := (own_block hon).1
          have hNc := fun k u => World.ownsRow.cells hon (g := gn) rfl k u
          have HON := Lib.hid hon
          have hIO := own_in HO.out
          have HBr : Hid (Below w.heap.size w wr) := HB.out.trans (hbi.mono HBs.out)
          have hW : ∃ (x : Option Addr), x = wa := ⟨_, rfl⟩
          clear hbi hx hW
          go_wp2_with (first | (at_builtin; go_must (refine wpList_append_own _ rfl _ _ 24 rfl w.heap.size 2 i0 (.int .i64 0) 1 8 Try.underlying24 hi hz0 hz1 hz2 rfl (by decide) _ _ _ rfl hOo ⟨gn, 0, none⟩ j nc (intCells (nextOf ws off L j)) rfl (by rw [intCells_len, nextOf_len, Nat.mul_one]) hNc (intCells_one2 _) (by unfold maxLen; omega) (by omega) (Nat.le_trans HBs.out hsi) ?_); intro v' w5 hown1 hg1 _))
          have HON5 := Lib.hid (ownsRow_low (HON.out.kept hg1 (.inr (ne_own hIO hgn))) HBs.out)
          have HB5 := Lib.hid (below_grown HBr.out (Nat.le_trans HBs.out hsi) hg1 hOo)
          obtain ⟨a', c', rfl⟩ := own_form hown1
          have HO5 : Hid (w5.ownsRow w.heap.size 2 1 (.slice a' (off + j) c') (off + j) (intCells (O ++ nextOf ws off L j))) := by
            show w5.ownsRow _ _ _ _ _ _
            rw [show intCells (O ++ nextOf ws off L j) = intCells O ++ intCells (nextOf ws off L j) from List.map_append]
            exact hown1
          clear hown1 hg1 hOo HON HO
          go_wp2
          go_roundw
          case rel =>
            have e := HH.out
            clear HH
            subst e
            exact ⟨t, nextOf ws off L (2 ^ t), O ++ nextOf ws off L (2 ^ t), off + 2 ^ t, nextOf_len _ _ _ _, by rw [List.length_append, nextOf_len, HOl.out], by have := HS.out; omega, ⟨_, _, _, rfl, hm, hcw0, hwa⟩, HK.out, HB5.out, ⟨_, _, rfl, HON5.out⟩, ⟨_, _, rfl, HO5.out⟩⟩
          case measure => simp [lenOf]; omega

set_option maxHeartbeats 4000000 in
set_option maxRecDepth 100000 in
theorem implKnock4_any (a : Option Addr) (c : Nat) (ws : List Bool) (w : World) (h : Row Value.bool w a 3 c ws) :
    Calls Try.prog 8 #[.slice a 3 c, .int .i64 4] w (RetI 2 w (knockRes ws 4)) := by
  obtain ⟨hc, hb, hcell⟩ := h.at false
  obtain ⟨b, bo, rfl, hlb, hx⟩ := hcell 0 (by omega)
  have HR : Hid (knockRes ws 4 = (knockF 2 ws 0 (upto 4) [], true)) := by
    have hl := h.len
    show knockRes ws 4 = _
    simp [knockRes, hl]
  obtain ⟨i0, hi, hz0, hz1, hz2⟩ := info_parts infoI64
  clear h hcell
  generalize hT : knockF 2 ws 0 (upto 4) [] = T at *
  have HT := Lib.hid hT
  clear hT
  go_enter Try.func8, Try.ntmps8
  go_wp2_with (fail)
  refine (containsI64_any _ _ _ [2, 4, 8, 16] 4 true rfl _ (Rd.own (World.ownsRow_lit (base := 0) (size := 1) w #[.int .i64 2, .int .i64 4, .int .i64 8, .int .i64 16] 4 (Nat.zero_le _) (by unfold maxLen; omega) rfl))).mono ?_
  rintro e w1 ⟨rfl, rfl⟩
  go_wp2_with (fail)
  refine (newDeck_any 4 _ (by omega)).mono ?_
  rintro e wd ⟨la, lc, rfl, hb2, ho⟩
  have HB0 : Hid (Below w.heap.size w wd) := ((Below.refl w.heap.size w).alloc (Nat.le_refl _) _).trans (hb2.mono (by simp))
  have HBs0 := Lib.hid HB0.out.size
  have HL0 := Lib.hid (ownsRow_low ho (show w.heap.size ≤ _ by simp))
  clear hb2 ho
  go_wp2_with (fail)
  go_loopw [0, 6, 7, 8, 9] (fun wn lf ot nx i wo => ∃ (t : Nat) (L O : List Int) (off : Nat), L.length = 2 ^ t ∧ O.length = off ∧ off + 2 ^ t = 4 ∧ Wn b bo 3 c off wn ∧ knockF t ws off L O = T ∧ Below w.heap.size w wo ∧ OwnV wo w.heap.size 2 (2 ^ t) lf (intCells L) ∧ OwnV wo w.heap.size 2 off ot (intCells O)) (fun _ lf _ _ _ _ => lenOf lf)
  case atStart => exact ⟨2, upto 4, [], 0, upto_len _, rfl, rfl, ⟨_, _, _, rfl, rfl, rfl, fun _ => rfl⟩, HT.out, HB0.out.alloc HBs0.out _, ⟨_, _, rfl, HL0.out.alloc _⟩, ⟨_, _, rfl, World.ownsRow_made wd #[] 0 HBs0.out (by unfold maxLen; omega) rfl⟩⟩
  case round =>
    obtain ⟨t, L, O, off, eL, eO, eS, ⟨wa, m, cw, rfl, hm, hcw0, hwa⟩, eK, hbo, ⟨la, lc, rfl, hol⟩, ⟨oa, oc, rfl, hoo⟩⟩ := hrel
    have HB := Lib.hid hbo
    have HBs := Lib.hid hbo.size
    have HL1 := Lib.hid hol
    have HO := Lib.hid hoo
    have HOl := Lib.hid eO
    clear hbo hol hoo eO
    cases t with
    | zero =>
      have HK : Hid (O = T) := eK
      clear eK hx hwa
      simp only [Nat.pow_zero] at *
      go_wp2
      go_ret2
      have e := HK.out
      subst e
      exact RetI.ok HR.out HB.out HO.out
    | succ t =>
      have HK : Hid (knockF t ws (off + 2 ^ t) (nextOf ws off L (2 ^ t)) (O ++ nextOf ws off L (2 ^ t)) = T) := eK
      have hpos := pow2_pos t
      have e2 : 2 ^ (t + 1) = 2 * 2 ^ t := by rw [Nat.pow_succ, Nat.mul_comm]
      generalize 2 ^ (t + 1) = q at *
      generalize hh : 2 ^ t = h at *
      subst e2
      rename World => wo
      have HS := Lib.hid eS
      have HL := HL1
      have HH := Lib.hid hh
      clear eK hh HL1
      have h12 : (1 : Int) < 2 * (h : Int) := by omega
      go_wp2_with (fail)
      go_loopw [0, 8, 9] (fun wn nx i wr => ∃ j : Nat, j ≤ h ∧ i = .int .i64 ((2 * j : Nat) : Int) ∧ Below wo.heap.size wo wr ∧ Wn b bo 3 c (off + j) wn ∧ OwnV wr wo.heap.size 2 j nx (intCells (nextOf ws off L j))) (fun _ _ i _ => 2 * h - (intOf i).toNat)
      case atStart => exact ⟨0, by omega, rfl, (Below.refl _ _).alloc (Nat.le_refl _) _, ⟨_, _, _, rfl, hm, hcw0, hwa⟩, _, _, rfl, World.ownsRow_made wo #[] 0 (Nat.le_refl _) (by unfold maxLen; omega) rfl⟩
      case round =>
        clear hm hcw0 hwa
        obtain ⟨j, hj, rfl, hbi, ⟨wa, m, cw, rfl, hm, hcw0, hwa⟩, na, nc, rfl, hon⟩ := hrel
        have HBi := Lib.hid hbi
        have hsi := hbi.size
        by_cases hlt : j < h
        · obtain rfl := hwa (by omega)
          clear hwa
          have hw0 := cell_on (HB.out.trans (hbi.mono HBs.out)) (hx (off + j) (by omega))
          have HLo := Lib.hid (ownsRow_below HL.out hbi)
          obtain ⟨gl, rfl⟩ := own_some1 HLo.out (by omega)
          have l0 := own_get HLo.out (2 * j) (by omega)
          have l1 := own_get HLo.out (2 * j + 1) (by omega)
          have HP : Hid (nextOf ws off L (j + 1) = nextOf ws off L j ++ [if ws.getD (off + j) false = true then L.getD (2 * j) 0 else L.getD (2 * j + 1) 0]) := nextOf_succ ws off L j
          clear hbi hx
          generalize L.getD (2 * j) 0 = y0 at *
          generalize L.getD (2 * j + 1) 0 = y1 at *
          generalize ws.getD (off + j) false = bw at *
          cases bw
          · go_wp2_with (first | (at_builtin; go_must (refine wpList_append_own _ rfl _ _ 24 rfl wo.heap.size 2 i0 (.int .i64 0) 1 8 Try.underlying24 hi hz0 hz1 hz2 rfl (by decide) _ _ _ rfl (hon.alloc _) ⟨wr.heap.size, 0, none⟩ 1 1 [.int .i64 y1] rfl rfl (new1 _ _ _) (one1 rfl) (by unfold maxLen; omega) (by omega) (by simp; omega) ?_); intro v' w5 hown1 hg1 _))
            have HB5 := Lib.hid (below_app HBi.out hsi hg1 hon)
            obtain ⟨a', c', rfl⟩ := own_form hown1
            have HO5 : Hid (w5.ownsRow wo.heap.size 2 1 (.slice a' (j + 1) c') (j + 1) (intCells (nextOf ws off L (j + 1)))) := by show w5.ownsRow _ _ _ _ _ _; rw [HP.out, intCells_snoc]; exact hown1
            clear hown1 hg1 hon
            by_cases hcw : cw = 1
            · subst hcw
              go_wp2
              go_roundw
              case rel =>
                first
                  | exact ⟨j + 1, by omega, by first | go_num | omega, HB5.out, ⟨_, m - 1, 0, rfl, by omega, by omega, fun e => by omega⟩, a', c', rfl, HO5.out⟩
                  | (repeat apply Exists.intro
                     refine And.intro ?r ?e
                     case e => (repeat (first | exact rfl | refine And.intro rfl ?_))
                     case r => exact ⟨j + 1, by omega, by first | go_num | omega, HB5.out, ⟨_, m - 1, 0, rfl, by omega, by omega, fun e => by omega⟩, a', c', rfl, HO5.out⟩)
              case measure => simp [intOf]; omega
            · have hcw2 : (cw == 1) = false := by simp [hcw]
              go_wp2
              go_roundw
              case rel =>
                first
                  | exact ⟨j + 1, by omega, by first | go_num | omega, HB5.out, ⟨_, m - 1, cw - 1, rfl, by omega, by omega, fun e => rfl⟩, a', c', rfl, HO5.out⟩
                  | (repeat apply Exists.intro
                     refine And.intro ?r ?e
                     case e => (repeat (first | exact rfl | refine And.intro rfl ?_))
                     case r => exact ⟨j + 1, by omega, by first | go_num | omega, HB5.out, ⟨_, m - 1, cw - 1, rfl, by omega, by omega, fun e => rfl⟩, a', c', rfl, HO5.out⟩)
              case measure => simp [intOf]; omega
          · go_wp2_with (first | (at_builtin; go_must (refine wpList_append_own _ rfl _ _ 24 rfl wo.heap.size 2 i0 (.int .i64 0) 1 8 Try.underlying24 hi hz0 hz1 hz2 rfl (by decide) _ _ _ rfl (hon.alloc _) ⟨wr.heap.size, 0, none⟩ 1 1 [.int .i64 y0] rfl rfl (new1 _ _ _) (one1 rfl) (by unfold maxLen; omega) (by omega) (by simp; omega) ?_); intro v' w5 hown1 hg1 _))
            have HB5 := Lib.hid (below_app HBi.out hsi hg1 hon)
            obtain ⟨a', c', rfl⟩ := own_form hown1
            have HO5 : Hid (w5.ownsRow wo.heap.size 2 1 (.slice a' (j + 1) c') (j + 1) (intCells (nextOf ws off L (j + 1)))) := by show w5.ownsRow _ _ _ _ _ _; rw [HP.out, intCells_snoc]; exact hown1
            clear hown1 hg1 hon
            by_cases hcw : cw = 1
            · subst hcw
              go_wp2
              go_roundw
              case rel =>
                first
                  | exact ⟨j + 1, by omega, by first | go_num | omega, HB5.out, ⟨_, m - 1, 0, rfl, by omega, by omega, fun e => by omega⟩, a', c', rfl, HO5.out⟩
                  | (repeat apply Exists.intro
                     refine And.intro ?r ?e
                     case e => (repeat (first | exact rfl | refine And.intro rfl ?_))
                     case r => exact ⟨j + 1, by omega, by first | go_num | omega, HB5.out, ⟨_, m - 1, 0, rfl, by omega, by omega, fun e => by omega⟩, a', c', rfl, HO5.out⟩)
              case measure => simp [intOf]; omega
            · have hcw2 : (cw == 1) = false := by simp [hcw]
              go_wp2
              go_roundw
              case rel =>
                first
                  | exact ⟨j + 1, by omega, by first | go_num | omega, HB5.out, ⟨_, m - 1, cw - 1, rfl, by omega, by omega, fun e => rfl⟩, a', c', rfl, HO5.out⟩
                  | (repeat apply Exists.intro
                     refine And.intro ?r ?e
                     case e => (repeat (first | exact rfl | refine And.intro rfl ?_))
                     case r => exact ⟨j + 1, by omega, by first | go_num | omega, HB5.out, ⟨_, m - 1, cw - 1, rfl, by omega, by omega, fun e => rfl⟩, a', c', rfl, HO5.out⟩)
              case measure => simp [intOf]; omega
        · obtain rfl : j = h := by omega
          have hOo := ownsRow_below HO.out hbi
          obtain ⟨gn, rfl⟩ := own_some1 hon (by omega)
          have hgn := (own_block hon).1
          have hNc := fun k u => World.ownsRow.cells hon (g := gn) rfl k u
          have HON := Lib.hid hon
          have hIO := own_in HO.out
          have HBr : Hid (Below w.heap.size w wr) := HB.out.trans (hbi.mono HBs.out)
          have hW : ∃ (x : Option Addr), x = wa := ⟨_, rfl⟩
          clear hbi hx hW
          go_wp2_with (first | (at_builtin; go_must (refine wpList_append_own _ rfl _ _ 24 rfl w.heap.size 2 i0 (.int .i64 0) 1 8 Try.underlying24 hi hz0 hz1 hz2 rfl (by decide) _ _ _ rfl hOo ⟨gn, 0, none⟩ j nc (intCells (nextOf ws off L j)) rfl (by rw [intCells_len, nextOf_len, Nat.mul_one]) hNc (intCells_one2 _) (by unfold maxLen; omega) (by omega) (Nat.le_trans HBs.out hsi) ?_); intro v' w5 hown1 hg1 _))
          have HON5 := Lib.hid (ownsRow_low (HON.out.kept hg1 (.inr (ne_own hIO hgn))) HBs.out)
          have HB5 := Lib.hid (below_grown HBr.out (Nat.le_trans HBs.out hsi) hg1 hOo)
          obtain ⟨a', c', rfl⟩ := own_form hown1
          have HO5 : Hid (w5.ownsRow w.heap.size 2 1 (.slice a' (off + j) c') (off + j) (intCells (O ++ nextOf ws off L j))) := by
            show w5.ownsRow _ _ _ _ _ _
            rw [show intCells (O ++ nextOf ws off L j) = intCells O ++ intCells (nextOf ws off L j) from List.map_append]
            exact hown1
          clear hown1 hg1 hOo HON HO
          go_wp2
          go_roundw
          case rel =>
            have e := HH.out
            clear HH
            subst e
            exact ⟨t, nextOf ws off L (2 ^ t), O ++ nextOf ws off L (2 ^ t), off + 2 ^ t, nextOf_len _ _ _ _, by rw [List.length_append, nextOf_len, HOl.out], by have := HS.out; omega, ⟨_, _, _, rfl, hm, hcw0, hwa⟩, HK.out, HB5.out, ⟨_, _, rfl, HON5.out⟩, ⟨_, _, rfl, HO5.out⟩⟩
          case measure => simp [lenOf]; omega

set_option maxHeartbeats 4000000 in
set_option maxRecDepth 100000 in
theorem implKnock8_any (a : Option Addr) (c : Nat) (ws : List Bool) (w : World) (h : Row Value.bool w a 7 c ws) :
    Calls Try.prog 8 #[.slice a 7 c, .int .i64 8] w (RetI 2 w (knockRes ws 8)) := by
  obtain ⟨hc, hb, hcell⟩ := h.at false
  obtain ⟨b, bo, rfl, hlb, hx⟩ := hcell 0 (by omega)
  have HR : Hid (knockRes ws 8 = (knockF 3 ws 0 (upto 8) [], true)) := by
    have hl := h.len
    show knockRes ws 8 = _
    simp [knockRes, hl]
  obtain ⟨i0, hi, hz0, hz1, hz2⟩ := info_parts infoI64
  clear h hcell
  generalize hT : knockF 3 ws 0 (upto 8) [] = T at *
  have HT := Lib.hid hT
  clear hT
  go_enter Try.func8, Try.ntmps8
  go_wp2_with (fail)
  refine (containsI64_any _ _ _ [2, 4, 8, 16] 8 true rfl _ (Rd.own (World.ownsRow_lit (base := 0) (size := 1) w #[.int .i64 2, .int .i64 4, .int .i64 8, .int .i64 16] 4 (Nat.zero_le _) (by unfold maxLen; omega) rfl))).mono ?_
  rintro e w1 ⟨rfl, rfl⟩
  go_wp2_with (fail)
  refine (newDeck_any 8 _ (by omega)).mono ?_
  rintro e wd ⟨la, lc, rfl, hb2, ho⟩
  have HB0 : Hid (Below w.heap.size w wd) := ((Below.refl w.heap.size w).alloc (Nat.le_refl _) _).trans (hb2.mono (by simp))
  have HBs0 := Lib.hid HB0.out.size
  have HL0 := Lib.hid (ownsRow_low ho (show w.heap.size ≤ _ by simp))
  clear hb2 ho
  go_wp2_with (fail)
  go_loopw [0, 6, 7, 8, 9] (fun wn lf ot nx i wo => ∃ (t : Nat) (L O : List Int) (off : Nat), L.length = 2 ^ t ∧ O.length = off ∧ off + 2 ^ t = 8 ∧ Wn b bo 7 c off wn ∧ knockF t ws off L O = T ∧ Below w.heap.size w wo ∧ OwnV wo w.heap.size 2 (2 ^ t) lf (intCells L) ∧ OwnV wo w.heap.size 2 off ot (intCells O)) (fun _ lf _ _ _ _ => lenOf lf)
  case atStart => exact ⟨3, upto 8, [], 0, upto_len _, rfl, rfl, ⟨_, _, _, rfl, rfl, rfl, fun _ => rfl⟩, HT.out, HB0.out.alloc HBs0.out _, ⟨_, _, rfl, HL0.out.alloc _⟩, ⟨_, _, rfl, World.ownsRow_made wd #[] 0 HBs0.out (by unfold maxLen; omega) rfl⟩⟩
  case round =>
    obtain ⟨t, L, O, off, eL, eO, eS, ⟨wa, m, cw, rfl, hm, hcw0, hwa⟩, eK, hbo, ⟨la, lc, rfl, hol⟩, ⟨oa, oc, rfl, hoo⟩⟩ := hrel
    have HB := Lib.hid hbo
    have HBs := Lib.hid hbo.size
    have HL1 := Lib.hid hol
    have HO := Lib.hid hoo
    have HOl := Lib.hid eO
    clear hbo hol hoo eO
    cases t with
    | zero =>
      have HK : Hid (O = T) := eK
      clear eK hx hwa
      simp only [Nat.pow_zero] at *
      go_wp2
      go_ret2
      have e := HK.out
      subst e
      exact RetI.ok HR.out HB.out HO.out
    | succ t =>
      have HK : Hid (knockF t ws (off + 2 ^ t) (nextOf ws off L (2 ^ t)) (O ++ nextOf ws off L (2 ^ t)) = T) := eK
      have hpos := pow2_pos t
      have e2 : 2 ^ (t + 1) = 2 * 2 ^ t := by rw [Nat.pow_succ, Nat.mul_comm]
      generalize 2 ^ (t + 1) = q at *
      generalize hh : 2 ^ t = h at *
      subst e2
      rename World => wo
      have HS := Lib.hid eS
      have HL := HL1
      have HH := Lib.hid hh
      clear eK hh HL1
      have h12 : (1 : Int) < 2 * (h : Int) := by omega
      go_wp2_with (fail)
      go_loopw [0, 8, 9] (fun wn nx i wr => ∃ j : Nat, j ≤ h ∧ i = .int .i64 ((2 * j : Nat) : Int) ∧ Below wo.heap.size wo wr ∧ Wn b bo 7 c (off + j) wn ∧ OwnV wr wo.heap.size 2 j nx (intCells (nextOf ws off L j))) (fun _ _ i _ => 2 * h - (intOf i).toNat)
      case atStart => exact ⟨0, by omega, rfl, (Below.refl _ _).alloc (Nat.le_refl _) _, ⟨_, _, _, rfl, hm, hcw0, hwa⟩, _, _, rfl, World.ownsRow_made wo #[] 0 (Nat.le_refl _) (by unfold maxLen; omega) rfl⟩
      case round =>
        clear hm hcw0 hwa
        obtain ⟨j, hj, rfl, hbi, ⟨wa, m, cw, rfl, hm, hcw0, hwa⟩, na, nc, rfl, hon⟩ := hrel
        have HBi := Lib.hid hbi
        have hsi := hbi.size
        by_cases hlt : j < h
        · obtain rfl := hwa (by omega)
          clear hwa
          have hw0 := cell_on (HB.out.trans (hbi.mono HBs.out)) (hx (off + j) (by omega))
          have HLo := Lib.hid (ownsRow_below HL.out hbi)
          obtain ⟨gl, rfl⟩ := own_some1 HLo.out (by omega)
          have l0 := own_get HLo.out (2 * j) (by omega)
          have l1 := own_get HLo.out (2 * j + 1) (by omega)
          have HP : Hid (nextOf ws off L (j + 1) = nextOf ws off L j ++ [if ws.getD (off + j) false = true then L.getD (2 * j) 0 else L.getD (2 * j + 1) 0]) := nextOf_succ ws off L j
          clear hbi hx
          generalize L.getD (2 * j) 0 = y0 at *
          generalize L.getD (2 * j + 1) 0 = y1 at *
          generalize ws.getD (off + j) false = bw at *
          cases bw
          · go_wp2_with (first | (at_builtin; go_must (refine wpList_append_own _ rfl _ _ 24 rfl wo.heap.size 2 i0 (.int .i64 0) 1 8 Try.underlying24 hi hz0 hz1 hz2 rfl (by decide) _ _ _ rfl (hon.alloc _) ⟨wr.heap.size, 0, none⟩ 1 1 [.int .i64 y1] rfl rfl (new1 _ _ _) (one1 rfl) (by unfold maxLen; omega) (by omega) (by simp; omega) ?_); intro v' w5 hown1 hg1 _))
            have HB5 := Lib.hid (below_app HBi.out hsi hg1 hon)
            obtain ⟨a', c', rfl⟩ := own_form hown1
            have HO5 : Hid (w5.ownsRow wo.heap.size 2 1 (.slice a' (j + 1) c') (j + 1) (intCells (nextOf ws off L (j + 1)))) := by show w5.ownsRow _ _ _ _ _ _; rw [HP.out, intCells_snoc]; exact hown1
            clear hown1 hg1 hon
            by_cases hcw : cw = 1
            · subst hcw
              go_wp2
              go_roundw
              case rel =>
                first
                  | exact ⟨j + 1, by omega, by first | go_num | omega, HB5.out, ⟨_, m - 1, 0, rfl, by omega, by omega, fun e => by omega⟩, a', c', rfl, HO5.out⟩
                  | (repeat apply Exists.intro
                     refine And.intro ?r ?e
                     case e => (repeat (first | exact rfl | refine And.intro rfl ?_))
                     case r => exact ⟨j + 1, by omega, by first | go_num | omega, HB5.out, ⟨_, m - 1, 0, rfl, by omega, by omega, fun e => by omega⟩, a', c', rfl, HO5.out⟩)
              case measure => simp [intOf]; omega
            · have hcw2 : (cw == 1) = false := by simp [hcw]
              go_wp2
              go_roundw
              case rel =>
                first
                  | exact ⟨j + 1, by omega, by first | go_num | omega, HB5.out, ⟨_, m - 1, cw - 1, rfl, by omega, by omega, fun e => rfl⟩, a', c', rfl, HO5.out⟩
                  | (repeat apply Exists.intro
                     refine And.intro ?r ?e
                     case e => (repeat (first | exact rfl | refine And.intro rfl ?_))
                     case r => exact ⟨j + 1, by omega, by first | go_num | omega, HB5.out, ⟨_, m - 1, cw - 1, rfl, by omega, by omega, fun e => rfl⟩, a', c', rfl, HO5.out⟩)
              case measure => simp [intOf]; omega
          · go_wp2_with (first | (at_builtin; go_must (refine wpList_append_own _ rfl _ _ 24 rfl wo.heap.size 2 i0 (.int .i64 0) 1 8 Try.underlying24 hi hz0 hz1 hz2 rfl (by decide) _ _ _ rfl (hon.alloc _) ⟨wr.heap.size, 0, none⟩ 1 1 [.int .i64 y0] rfl rfl (new1 _ _ _) (one1 rfl) (by unfold maxLen; omega) (by omega) (by simp; omega) ?_); intro v' w5 hown1 hg1 _))
            have HB5 := Lib.hid (below_app HBi.out hsi hg1 hon)
            obtain ⟨a', c', rfl⟩ := own_form hown1
            have HO5 : Hid (w5.ownsRow wo.heap.size 2 1 (.slice a' (j + 1) c') (j + 1) (intCells (nextOf ws off L (j + 1)))) := by show w5.ownsRow _ _ _ _ _ _; rw [HP.out, intCells_snoc]; exact hown1
            clear hown1 hg1 hon
            by_cases hcw : cw = 1
            · subst hcw
              go_wp2
              go_roundw
              case rel =>
                first
                  | exact ⟨j + 1, by omega, by first | go_num | omega, HB5.out, ⟨_, m - 1, 0, rfl, by omega, by omega, fun e => by omega⟩, a', c', rfl, HO5.out⟩
                  | (repeat apply Exists.intro
                     refine And.intro ?r ?e
                     case e => (repeat (first | exact rfl | refine And.intro rfl ?_))
                     case r => exact ⟨j + 1, by omega, by first | go_num | omega, HB5.out, ⟨_, m - 1, 0, rfl, by omega, by omega, fun e => by omega⟩, a', c', rfl, HO5.out⟩)
              case measure => simp [intOf]; omega
            · have hcw2 : (cw == 1) = false := by simp [hcw]
              go_wp2
              go_roundw
              case rel =>
                first
                  | exact ⟨j + 1, by omega, by first | go_num | omega, HB5.out, ⟨_, m - 1, cw - 1, rfl, by omega, by omega, fun e => rfl⟩, a', c', rfl, HO5.out⟩
                  | (repeat apply Exists.intro
                     refine And.intro ?r ?e
                     case e => (repeat (first | exact rfl | refine And.intro rfl ?_))
                     case r => exact ⟨j + 1, by omega, by first | go_num | omega, HB5.out, ⟨_, m - 1, cw - 1, rfl, by omega, by omega, fun e => rfl⟩, a', c', rfl, HO5.out⟩)
              case measure => simp [intOf]; omega
        · obtain rfl : j = h := by omega
          have hOo := ownsRow_below HO.out hbi
          obtain ⟨gn, rfl⟩ := own_some1 hon (by omega)
          have hgn := (own_block hon).1
          have hNc := fun k u => World.ownsRow.cells hon (g := gn) rfl k u
          have HON := Lib.hid hon
          have hIO := own_in HO.out
          have HBr : Hid (Below w.heap.size w wr) := HB.out.trans (hbi.mono HBs.out)
          have hW : ∃ (x : Option Addr), x = wa := ⟨_, rfl⟩
          clear hbi hx hW
          go_wp2_with (first | (at_builtin; go_must (refine wpList_append_own _ rfl _ _ 24 rfl w.heap.size 2 i0 (.int .i64 0) 1 8 Try.underlying24 hi hz0 hz1 hz2 rfl (by decide) _ _ _ rfl hOo ⟨gn, 0, none⟩ j nc (intCells (nextOf ws off L j)) rfl (by rw [intCells_len, nextOf_len, Nat.mul_one]) hNc (intCells_one2 _) (by unfold maxLen; omega) (by omega) (Nat.le_trans HBs.out hsi) ?_); intro v' w5 hown1 hg1 _))
          have HON5 := Lib.hid (ownsRow_low (HON.out.kept hg1 (.inr (ne_own hIO hgn))) HBs.out)
          have HB5 := Lib.hid (below_grown HBr.out (Nat.le_trans HBs.out hsi) hg1 hOo)
          obtain ⟨a', c', rfl⟩ := own_form hown1
          have HO5 : Hid (w5.ownsRow w.heap.size 2 1 (.slice a' (off + j) c') (off + j) (intCells (O ++ nextOf ws off L j))) := by
            show w5.ownsRow _ _ _ _ _ _
            rw [show intCells (O ++ nextOf ws off L j) = intCells O ++ intCells (nextOf ws off L j) from List.map_append]
            exact hown1
          clear hown1 hg1 hOo HON HO
          go_wp2
          go_roundw
          case rel =>
            have e := HH.out
            clear HH
            subst e
            exact ⟨t, nextOf ws off L (2 ^ t), O ++ nextOf ws off L (2 ^ t), off + 2 ^ t, nextOf_len _ _ _ _, by rw [List.length_append, nextOf_len, HOl.out], by have := HS.out; omega, ⟨_, _, _, rfl, hm, hcw0, hwa⟩, HK.out, HB5.out, ⟨_, _, rfl, HON5.out⟩, ⟨_, _, rfl, HO5.out⟩⟩
          case measure => simp [lenOf]; omega

set_option maxHeartbeats 4000000 in
set_option maxRecDepth 100000 in
theorem implKnock16_any (a : Option Addr) (c : Nat) (ws : List Bool) (w : World) (h : Row Value.bool w a 15 c ws) :
    Calls Try.prog 8 #[.slice a 15 c, .int .i64 16] w (RetI 2 w (knockRes ws 16)) := by
  obtain ⟨hc, hb, hcell⟩ := h.at false
  obtain ⟨b, bo, rfl, hlb, hx⟩ := hcell 0 (by omega)
  have HR : Hid (knockRes ws 16 = (knockF 4 ws 0 (upto 16) [], true)) := by
    have hl := h.len
    show knockRes ws 16 = _
    simp [knockRes, hl]
  obtain ⟨i0, hi, hz0, hz1, hz2⟩ := info_parts infoI64
  clear h hcell
  generalize hT : knockF 4 ws 0 (upto 16) [] = T at *
  have HT := Lib.hid hT
  clear hT
  go_enter Try.func8, Try.ntmps8
  go_wp2_with (fail)
  refine (containsI64_any _ _ _ [2, 4, 8, 16] 16 true rfl _ (Rd.own (World.ownsRow_lit (base := 0) (size := 1) w #[.int .i64 2, .int .i64 4, .int .i64 8, .int .i64 16] 4 (Nat.zero_le _) (by unfold maxLen; omega) rfl))).mono ?_
  rintro e w1 ⟨rfl, rfl⟩
  go_wp2_with (fail)
  refine (newDeck_any 16 _ (by omega)).mono ?_
  rintro e wd ⟨la, lc, rfl, hb2, ho⟩
  have HB0 : Hid (Below w.heap.size w wd) := ((Below.refl w.heap.size w).alloc (Nat.le_refl _) _).trans (hb2.mono (by simp))
  have HBs0 := Lib.hid HB0.out.size
  have HL0 := Lib.hid (ownsRow_low ho (show w.heap.size ≤ _ by simp))
  clear hb2 ho
  go_wp2_with (fail)
  go_loopw [0, 6, 7, 8, 9] (fun wn lf ot nx i wo => ∃ (t : Nat) (L O : List Int) (off : Nat), L.length = 2 ^ t ∧ O.length = off ∧ off + 2 ^ t = 16 ∧ Wn b bo 15 c off wn ∧ knockF t ws off L O = T ∧ Below w.heap.size w wo ∧ OwnV wo w.heap.size 2 (2 ^ t) lf (intCells L) ∧ OwnV wo w.heap.size 2 off ot (intCells O)) (fun _ lf _ _ _ _ => lenOf lf)
  case atStart => exact ⟨4, upto 16, [], 0, upto_len _, rfl, rfl, ⟨_, _, _, rfl, rfl, rfl, fun _ => rfl⟩, HT.out, HB0.out.alloc HBs0.out _, ⟨_, _, rfl, HL0.out.alloc _⟩, ⟨_, _, rfl, World.ownsRow_made wd #[] 0 HBs0.out (by unfold maxLen; omega) rfl⟩⟩
  case round =>
    obtain ⟨t, L, O, off, eL, eO, eS, ⟨wa, m, cw, rfl, hm, hcw0, hwa⟩, eK, hbo, ⟨la, lc, rfl, hol⟩, ⟨oa, oc, rfl, hoo⟩⟩ := hrel
    have HB := Lib.hid hbo
    have HBs := Lib.hid hbo.size
    have HL1 := Lib.hid hol
    have HO := Lib.hid hoo
    have HOl := Lib.hid eO
    clear hbo hol hoo eO
    cases t with
    | zero =>
      have HK : Hid (O = T) := eK
      clear eK hx hwa
      simp only [Nat.pow_zero] at *
      go_wp2
      go_ret2
      have e := HK.out
      subst e
      exact RetI.ok HR.out HB.out HO.out
    | succ t =>
      have HK : Hid (knockF t ws (off + 2 ^ t) (nextOf ws off L (2 ^ t)) (O ++ nextOf ws off L (2 ^ t)) = T) := eK
      have hpos := pow2_pos t
      have e2 : 2 ^ (t + 1) = 2 * 2 ^ t := by rw [Nat.pow_succ, Nat.mul_comm]
      generalize 2 ^ (t + 1) = q at *
      generalize hh : 2 ^ t = h at *
      subst e2
      rename World => wo
      have HS := Lib.hid eS
      have HL := HL1
      have HH := Lib.hid hh
      clear eK hh HL1
      have h12 : (1 : Int) < 2 * (h : Int) := by omega
      go_wp2_with (fail)
      go_loopw [0, 8, 9] (fun wn nx i wr => ∃ j : Nat, j ≤ h ∧ i = .int .i64 ((2 * j : Nat) : Int) ∧ Below wo.heap.size wo wr ∧ Wn b bo 15 c (off + j) wn ∧ OwnV wr wo.heap.size 2 j nx (intCells (nextOf ws off L j))) (fun _ _ i _ => 2 * h - (intOf i).toNat)
      case atStart => exact ⟨0, by omega, rfl, (Below.refl _ _).alloc (Nat.le_refl _) _, ⟨_, _, _, rfl, hm, hcw0, hwa⟩, _, _, rfl, World.ownsRow_made wo #[] 0 (Nat.le_refl _) (by unfold maxLen; omega) rfl⟩
      case round =>
        clear hm hcw0 hwa
        obtain ⟨j, hj, rfl, hbi, ⟨wa, m, cw, rfl, hm, hcw0, hwa⟩, na, nc, rfl, hon⟩ := hrel
        have HBi := Lib.hid hbi
        have hsi := hbi.size
        by_cases hlt : j < h
        · obtain rfl := hwa (by omega)
          clear hwa
          have hw0 := cell_on (HB.out.trans (hbi.mono HBs.out)) (hx (off + j) (by omega))
          have HLo := Lib.hid (ownsRow_below HL.out hbi)
          obtain ⟨gl, rfl⟩ := own_some1 HLo.out (by omega)
          have l0 := own_get HLo.out (2 * j) (by omega)
          have l1 := own_get HLo.out (2 * j + 1) (by omega)
          have HP : Hid (nextOf ws off L (j + 1) = nextOf ws off L j ++ [if ws.getD (off + j) false = true then L.getD (2 * j) 0 else L.getD (2 * j + 1) 0]) := nextOf_succ ws off L j
          clear hbi hx
          generalize L.getD (2 * j) 0 = y0 at *
          generalize L.getD (2 * j + 1) 0 = y1 at *
          generalize ws.getD (off + j) false = bw at *
          cases bw
          · go_wp2_with (first | (at_builtin; go_must (refine wpList_append_own _ rfl _ _ 24 rfl wo.heap.size 2 i0 (.int .i64 0) 1 8 Try.underlying24 hi hz0 hz1 hz2 rfl (by decide) _ _ _ rfl (hon.alloc _) ⟨wr.heap.size, 0, none⟩ 1 1 [.int .i64 y1] rfl rfl (new1 _ _ _) (one1 rfl) (by unfold maxLen; omega) (by omega) (by simp; omega) ?_); intro v' w5 hown1 hg1 _))
            have HB5 := Lib.hid (below_app HBi.out hsi hg1 hon)
            obtain ⟨a', c', rfl⟩ := own_form hown1
            have HO5 : Hid (w5.ownsRow wo.heap.size 2 1 (.slice a' (j + 1) c') (j + 1) (intCells (nextOf ws off L (j + 1)))) := by show w5.ownsRow _ _ _ _ _ _; rw [HP.out, intCells_snoc]; exact hown1
            clear hown1 hg1 hon
            by_cases hcw : cw = 1
            · subst hcw
              go_wp2
              go_roundw
              case rel =>
                first
                  | exact ⟨j + 1, by omega, by first | go_num | omega, HB5.out, ⟨_, m - 1, 0, rfl, by omega, by omega, fun e => by omega⟩, a', c', rfl, HO5.out⟩
                  | (repeat apply Exists.intro
                     refine And.intro ?r ?e
                     case e => (repeat (first | exact rfl | refine And.intro rfl ?_))
                     case r => exact ⟨j + 1, by omega, by first | go_num | omega, HB5.out, ⟨_, m - 1, 0, rfl, by omega, by omega, fun e => by omega⟩, a', c', rfl, HO5.out⟩)
              case measure => simp [intOf]; omega
            · have hcw2 : (cw == 1) = false := by simp [hcw]
              go_wp2
              go_roundw
              case rel =>
                first
                  | exact ⟨j + 1, by omega, by first | go_num | omega, HB5.out, ⟨_, m - 1, cw - 1, rfl, by omega, by omega, fun e => rfl⟩, a', c', rfl, HO5.out⟩
                  | (repeat apply Exists.intro
                     refine And.intro ?r ?e
                     case e => (repeat (first | exact rfl | refine And.intro rfl ?_))
                     case r => exact ⟨j + 1, by omega, by first | go_num | omega, HB5.out, ⟨_, m - 1, cw - 1, rfl, by omega, by omega, fun e => rfl⟩, a', c', rfl, HO5.out⟩)
              case measure => simp [intOf]; omega
          · go_wp2_with (first | (at_builtin; go_must (refine wpList_append_own _ rfl _ _ 24 rfl wo.heap.size 2 i0 (.int .i64 0) 1 8 Try.underlying24 hi hz0 hz1 hz2 rfl (by decide) _ _ _ rfl (hon.alloc _) ⟨wr.heap.size, 0, none⟩ 1 1 [.int .i64 y0] rfl rfl (new1 _ _ _) (one1 rfl) (by unfold maxLen; omega) (by omega) (by simp; omega) ?_); intro v' w5 hown1 hg1 _))
            have HB5 := Lib.hid (below_app HBi.out hsi hg1 hon)
            obtain ⟨a', c', rfl⟩ := own_form hown1
            have HO5 : Hid (w5.ownsRow wo.heap.size 2 1 (.slice a' (j + 1) c') (j + 1) (intCells (nextOf ws off L (j + 1)))) := by show w5.ownsRow _ _ _ _ _ _; rw [HP.out, intCells_snoc]; exact hown1
            clear hown1 hg1 hon
            by_cases hcw : cw = 1
            · subst hcw
              go_wp2
              go_roundw
              case rel =>
                first
                  | exact ⟨j + 1, by omega, by first | go_num | omega, HB5.out, ⟨_, m - 1, 0, rfl, by omega, by omega, fun e => by omega⟩, a', c', rfl, HO5.out⟩
                  | (repeat apply Exists.intro
                     refine And.intro ?r ?e
                     case e => (repeat (first | exact rfl | refine And.intro rfl ?_))
                     case r => exact ⟨j + 1, by omega, by first | go_num | omega, HB5.out, ⟨_, m - 1, 0, rfl, by omega, by omega, fun e => by omega⟩, a', c', rfl, HO5.out⟩)
              case measure => simp [intOf]; omega
            · have hcw2 : (cw == 1) = false := by simp [hcw]
              go_wp2
              go_roundw
              case rel =>
                first
                  | exact ⟨j + 1, by omega, by first | go_num | omega, HB5.out, ⟨_, m - 1, cw - 1, rfl, by omega, by omega, fun e => rfl⟩, a', c', rfl, HO5.out⟩
                  | (repeat apply Exists.intro
                     refine And.intro ?r ?e
                     case e => (repeat (first | exact rfl | refine And.intro rfl ?_))
                     case r => exact ⟨j + 1, by omega, by first | go_num | omega, HB5.out, ⟨_, m - 1, cw - 1, rfl, by omega, by omega, fun e => rfl⟩, a', c', rfl, HO5.out⟩)
              case measure => simp [intOf]; omega
        · obtain rfl : j = h := by omega
          have hOo := ownsRow_below HO.out hbi
          obtain ⟨gn, rfl⟩ := own_some1 hon (by omega)
          have hgn := (own_block hon).1
          have hNc := fun k u => World.ownsRow.cells hon (g := gn) rfl k u
          have HON := Lib.hid hon
          have hIO := own_in HO.out
          have HBr : Hid (Below w.heap.size w wr) := HB.out.trans (hbi.mono HBs.out)
          have hW : ∃ (x : Option Addr), x = wa := ⟨_, rfl⟩
          clear hbi hx hW
          go_wp2_with (first | (at_builtin; go_must (refine wpList_append_own _ rfl _ _ 24 rfl w.heap.size 2 i0 (.int .i64 0) 1 8 Try.underlying24 hi hz0 hz1 hz2 rfl (by decide) _ _ _ rfl hOo ⟨gn, 0, none⟩ j nc (intCells (nextOf ws off L j)) rfl (by rw [intCells_len, nextOf_len, Nat.mul_one]) hNc (intCells_one2 _) (by unfold maxLen; omega) (by omega) (Nat.le_trans HBs.out hsi) ?_); intro v' w5 hown1 hg1 _))
          have HON5 := Lib.hid (ownsRow_low (HON.out.kept hg1 (.inr (ne_own hIO hgn))) HBs.out)
          have HB5 := Lib.hid (below_grown HBr.out (Nat.le_trans HBs.out hsi) hg1 hOo)
          obtain ⟨a', c', rfl⟩ := own_form hown1
          have HO5 : Hid (w5.ownsRow w.heap.size 2 1 (.slice a' (off + j) c') (off + j) (intCells (O ++ nextOf ws off L j))) := by
            show w5.ownsRow _ _ _ _ _ _
            rw [show intCells (O ++ nextOf ws off L j) = intCells O ++ intCells (nextOf ws off L j) from List.map_append]
            exact hown1
          clear hown1 hg1 hOo HON HO
          go_wp2
          go_roundw
          case rel =>
            have e := HH.out
            clear HH
            subst e
            exact ⟨t, nextOf ws off L (2 ^ t), O ++ nextOf ws off L (2 ^ t), off + 2 ^ t, nextOf_len _ _ _ _, by rw [List.length_append, nextOf_len, HOl.out], by have := HS.out; omega, ⟨_, _, _, rfl, hm, hcw0, hwa⟩, HK.out, HB5.out, ⟨_, _, rfl, HON5.out⟩, ⟨_, _, rfl, HO5.out⟩⟩
          case measure => simp [lenOf]; omega

end Go.Proofs.Ythakjkhceeocfaa
