/- KnockRounds, spec. -/
import Derived.Test.YthakjkhceeocfaaKnockA
import Derived.Test.YthakjkhceeocfaaBool
import Derived.Test.YthakjkhceeocfaaI64
import Derived.Test.YthakjkhceeocfaaTally
import Derived.Test.YthakjkhceeocfaaChg
namespace Go.Proofs.Ythakjkhceeocfaa
open Go.RowKit
set_option linter.unusedVariables false

theorem intCells_one2 (xs : List Int) : ∀ u ∈ intCells xs, u.oneCell' = true := by
  intro u hu
  simp only [intCells, List.mem_map] at hu
  obtain ⟨x, _, rfl⟩ := hu
  rfl
/-- The cells of a slice that reads, as an append asks for them. -/

theorem own_some1 {w : World} {B n c : Nat} {E : TypeId} {sz : Nat} {a : Option Addr} {cs : List Value} (h : w.ownsRow B E sz (.slice a n c) n cs) (hn : 0 < n) : ∃ g, a = some ⟨g, 0, none⟩ := by
  rcases h.2 with ⟨h1, h2⟩ | ⟨g, cap, cur, h1, _⟩
  · omega
  · simp only [Value.slice.injEq] at h1; exact ⟨g, h1.1⟩

theorem ne_own {lo hi gn n c on oc : Nat} {oa : Option Addr} (hI : In lo hi oa) (hg : hi ≤ gn) : (Value.slice (some ⟨gn, 0, none⟩) n c).ownBlock ≠ (Value.slice oa on oc).ownBlock := by
  cases oa with
  | none => simp [Value.ownBlock]
  | some x => have := hI x rfl; simp only [Value.ownBlock]; intro e; have := Option.some_inj.1 e; omega

set_option maxHeartbeats 4000000 in
set_option maxRecDepth 100000 in
theorem specKnock2_any (a : Option Addr) (c : Nat) (ws : List Bool) (w : World) (h : Row Value.bool w a 1 c ws) :
    Calls Try.prog 9 #[.slice a 1 c, .int .i64 2] w (RetI 2 w (knockRes ws 2)) := by
  obtain ⟨hc, hb, hcell⟩ := h.at false
  have HR : Hid (knockRes ws 2 = (knockF 1 ws 0 (upto 2) [], true)) := by
    have hl := h.len
    show knockRes ws 2 = _
    simp [knockRes, hl]
  obtain ⟨i0, hi, hz0, hz1, hz2⟩ := info_parts infoI64
  clear h
  generalize hT : knockF 1 ws 0 (upto 2) [] = T at *
  have HT := Lib.hid hT
  clear hT
  go_enter Try.func9, Try.ntmps9
  go_wp2
  go_loopw [6, 7] (fun v i wr => ∃ k : Nat, k ≤ 2 ∧ i = .int .i64 k ∧ Below w.heap.size w wr ∧ ∃ a c, v = .slice a k c ∧ wr.ownsRow w.heap.size 2 1 (.slice a k c) k (intCells (upto k))) (fun _ i _ => 2 - (intOf i).toNat)
  case atStart => exact ⟨0, by omega, rfl, (Below.refl _ _).alloc (Nat.le_refl _) _, _, _, rfl, World.ownsRow_made w #[] 0 (Nat.le_refl _) (by unfold maxLen; omega) rfl⟩
  case round =>
    obtain ⟨k, hk, rfl, hbel, la, lc, rfl, hown⟩ := hrel
    have hs := hbel.size
    by_cases hlt : k < 2
    · go_wp2_with (first | (at_builtin; go_must (refine wpList_append_own _ rfl _ _ 24 rfl w.heap.size 2 i0 (.int .i64 0) 1 8 Try.underlying24 hi hz0 hz1 hz2 rfl (by decide) _ _ _ rfl (hown.alloc _) ⟨wr.heap.size, 0, none⟩ 1 1 [.int .i64 k] rfl rfl (new1 _ _ _) (one1 rfl) (by unfold maxLen; omega) (by omega) (by simp; omega) ?_); intro v' w1 hown1 hg1 _))
      have HB := below_app hbel hs hg1 hown
      obtain ⟨a', c', rfl⟩ := own_form hown1
      have HO : w1.ownsRow w.heap.size 2 1 (.slice a' (k + 1) c') (k + 1) (intCells (upto (k + 1))) := by rw [upto_succ, intCells_snoc]; exact hown1
      clear hown1 hg1 hown hbel
      go_wp2
      go_roundw
      case rel => exact ⟨k + 1, by omega, by go_num, HB, a', c', rfl, HO⟩
      case measure => simp [intOf]; omega
    · obtain rfl : k = 2 := by omega
      have HBs0 := Lib.hid hs
      have HB0 := Lib.hid hbel
      have HL0 := Lib.hid hown
      clear hs hbel hown
      go_wp2_with (fail)
      go_loopw [6, 8, 9, 10, 11] (fun lf ot gm nx i wo => ∃ (t : Nat) (L O : List Int) (off : Nat), L.length = 2 ^ t ∧ O.length = off ∧ off + 2 ^ t = 2 ∧ gm = .int .i64 (off : Int) ∧ knockF t ws off L O = T ∧ Below w.heap.size w wo ∧ (∃ la lc, lf = .slice la (2 ^ t) lc ∧ wo.ownsRow w.heap.size 2 1 (.slice la (2 ^ t) lc) (2 ^ t) (intCells L)) ∧ (∃ oa oc, ot = .slice oa off oc ∧ wo.ownsRow w.heap.size 2 1 (.slice oa off oc) off (intCells O))) (fun lf _ _ _ _ _ => lenOf lf)
      case atStart => exact ⟨1, upto 2, [], 0, upto_len _, rfl, rfl, rfl, HT.out, HB0.out.alloc HBs0.out _, ⟨_, _, rfl, HL0.out.alloc _⟩, ⟨_, _, rfl, World.ownsRow_made wr #[] 0 HBs0.out (by unfold maxLen; omega) rfl⟩⟩
      case round =>
        obtain ⟨t, L, O, off, eL, eO, eS, rfl, eK, hbo, ⟨la, lc, rfl, hol⟩, ⟨oa, oc, rfl, hoo⟩⟩ := hrel
        have HB := Lib.hid hbo
        have HBs := Lib.hid hbo.size
        have HL1 := Lib.hid hol
        have HO := Lib.hid hoo
        have HOl := Lib.hid eO
        clear hbo hol hoo eO
        cases t with
        | zero =>
          have HK : Hid (O = T) := eK
          clear eK hcell
          simp only [Nat.pow_zero] at *
          go_wp2
          go_ret2
          have e := HK.out
          subst e
          exact RetI.ok HR.out HB.out HO.out
        | succ t =>
          have HK : Hid (knockF t ws (off + 2 ^ t) (nextOf ws off L (2 ^ t)) (O ++ nextOf ws off L (2 ^ t)) = T) := eK
          have hpos := pow2_pos t
          have e2 : 2 ^ (t + 1) = 2 * 2 ^ t := by rw [Nat.pow_succ, Nat.mul_comm]
          generalize 2 ^ (t + 1) = q at *
          generalize hh : 2 ^ t = h at *
          subst e2
          rename World => wo
          have HS := Lib.hid eS
          have HL := HL1
          have HH := Lib.hid hh
          clear eK hh HL1
          have h12 : (1 : Int) < 2 * (h : Int) := by omega
          go_wp2_with (fail)
          go_loopw [9, 10, 11] (fun gm nx i wr => ∃ j : Nat, j ≤ h ∧ gm = .int .i64 ((off + j : Nat) : Int) ∧ i = .int .i64 ((2 * j : Nat) : Int) ∧ Below wo.heap.size wo wr ∧ ∃ na nc, nx = .slice na j nc ∧ wr.ownsRow wo.heap.size 2 1 (.slice na j nc) j (intCells (nextOf ws off L j))) (fun _ _ i _ => 2 * h - (intOf i).toNat)
          case atStart => exact ⟨0, by omega, rfl, rfl, (Below.refl _ _).alloc (Nat.le_refl _) _, _, _, rfl, World.ownsRow_made wo #[] 0 (Nat.le_refl _) (by unfold maxLen; omega) rfl⟩
          case round =>
            obtain ⟨j, hj, rfl, rfl, hbi, na, nc, rfl, hon⟩ := hrel
            have HBi := Lib.hid hbi
            have hsi := hbi.size
            by_cases hlt : j < h
            · obtain ⟨b, wf, rfl, hlb, hx⟩ := hcell (off + j) (by omega)
              have hw0 := cell_on (HB.out.trans (hbi.mono HBs.out)) (hx (off + j) (by omega))
              have HLo := Lib.hid (ownsRow_below HL.out hbi)
              obtain ⟨gl, rfl⟩ := own_some1 HLo.out (by omega)
              have l0 := own_get HLo.out (2 * j) (by omega)
              have l1 := own_get HLo.out (2 * j + 1) (by omega)
              have HP : Hid (nextOf ws off L (j + 1) = nextOf ws off L j ++ [if ws.getD (off + j) false = true then L.getD (2 * j) 0 else L.getD (2 * j + 1) 0]) := nextOf_succ ws off L j
              clear hbi hcell hx
              generalize L.getD (2 * j) 0 = y0 at *
              generalize L.getD (2 * j + 1) 0 = y1 at *
              generalize ws.getD (off + j) false = bw at *
              cases bw
              · go_wp2_with (first | (at_builtin; go_must (refine wpList_append_own _ rfl _ _ 24 rfl wo.heap.size 2 i0 (.int .i64 0) 1 8 Try.underlying24 hi hz0 hz1 hz2 rfl (by decide) _ _ _ rfl (hon.alloc _) ⟨wr.heap.size, 0, none⟩ 1 1 [.int .i64 y1] rfl rfl (new1 _ _ _) (one1 rfl) (by unfold maxLen; omega) (by omega) (by simp; omega) ?_); intro v' w5 hown1 hg1 _))
                have HB5 := below_app HBi.out hsi hg1 hon
                obtain ⟨a', c', rfl⟩ := own_form hown1
                have HO5 : w5.ownsRow wo.heap.size 2 1 (.slice a' (j + 1) c') (j + 1) (intCells (nextOf ws off L (j + 1))) := by rw [HP.out, intCells_snoc]; exact hown1
                clear hown1 hg1 hon
                go_wp2
                go_roundw
                case rel =>
                  repeat apply Exists.intro
                  refine And.intro ?r ?e
                  case e => (repeat (first | exact rfl | refine And.intro rfl ?_))
                  case r => exact ⟨j + 1, by omega, by go_num, by go_num, HB5, a', c', rfl, HO5⟩
                case measure => simp [intOf]; omega
              · go_wp2_with (first | (at_builtin; go_must (refine wpList_append_own _ rfl _ _ 24 rfl wo.heap.size 2 i0 (.int .i64 0) 1 8 Try.underlying24 hi hz0 hz1 hz2 rfl (by decide) _ _ _ rfl (hon.alloc _) ⟨wr.heap.size, 0, none⟩ 1 1 [.int .i64 y0] rfl rfl (new1 _ _ _) (one1 rfl) (by unfold maxLen; omega) (by omega) (by simp; omega) ?_); intro v' w5 hown1 hg1 _))
                have HB5 := below_app HBi.out hsi hg1 hon
                obtain ⟨a', c', rfl⟩ := own_form hown1
                have HO5 : w5.ownsRow wo.heap.size 2 1 (.slice a' (j + 1) c') (j + 1) (intCells (nextOf ws off L (j + 1))) := by rw [HP.out, intCells_snoc]; exact hown1
                clear hown1 hg1 hon
                go_wp2
                go_roundw
                case rel =>
                  repeat apply Exists.intro
                  refine And.intro ?r ?e
                  case e => (repeat (first | exact rfl | refine And.intro rfl ?_))
                  case r => exact ⟨j + 1, by omega, by go_num, by go_num, HB5, a', c', rfl, HO5⟩
                case measure => simp [intOf]; omega
            · obtain rfl : j = h := by omega
              have hOo := ownsRow_below HO.out hbi
              obtain ⟨gn, rfl⟩ := own_some1 hon (by omega)
              have hgn := (own_block hon).1
              have hNc := fun k u => World.ownsRow.cells hon (g := gn) rfl k u
              have HON := Lib.hid hon
              have hIO := own_in HO.out
              have HBr : Hid (Below w.heap.size w wr) := HB.out.trans (hbi.mono HBs.out)
              clear hbi hcell
              go_wp2_with (first | (at_builtin; go_must (refine wpList_append_own _ rfl _ _ 24 rfl w.heap.size 2 i0 (.int .i64 0) 1 8 Try.underlying24 hi hz0 hz1 hz2 rfl (by decide) _ _ _ rfl hOo ⟨gn, 0, none⟩ j nc (intCells (nextOf ws off L j)) rfl (by rw [intCells_len, nextOf_len, Nat.mul_one]) hNc (intCells_one2 _) (by unfold maxLen; omega) (by omega) (Nat.le_trans HBs.out hsi) ?_); intro v' w5 hown1 hg1 _))
              have HON5 := Lib.hid (ownsRow_low (HON.out.kept hg1 (.inr (ne_own hIO hgn))) HBs.out)
              have HB5 := Lib.hid (below_grown HBr.out (Nat.le_trans HBs.out hsi) hg1 hOo)
              obtain ⟨a', c', rfl⟩ := own_form hown1
              have HO5 : Hid (w5.ownsRow w.heap.size 2 1 (.slice a' (off + j) c') (off + j) (intCells (O ++ nextOf ws off L j))) := by
                show w5.ownsRow _ _ _ _ _ _
                rw [show intCells (O ++ nextOf ws off L j) = intCells O ++ intCells (nextOf ws off L j) from List.map_append]
                exact hown1
              clear hown1 hg1 hOo HON HO
              go_wp2
              go_roundw
              case rel =>
                repeat apply Exists.intro
                refine And.intro ?r ?e
                case e => (repeat (first | exact rfl | refine And.intro rfl ?_))
                case r =>
                  have e := HH.out
                  clear HH
                  subst e
                  exact ⟨t, nextOf ws off L (2 ^ t), O ++ nextOf ws off L (2 ^ t), off + 2 ^ t, nextOf_len _ _ _ _, by rw [List.length_append, nextOf_len, HOl.out], by have := HS.out; omega, rfl, HK.out, HB5.out, ⟨_, _, rfl, HON5.out⟩, ⟨_, _, rfl, HO5.out⟩⟩
              case measure => simp [lenOf]; omega

set_option maxHeartbeats 4000000 in
set_option maxRecDepth 100000 in
theorem specKnock4_any (a : Option Addr) (c : Nat) (ws : List Bool) (w : World) (h : Row Value.bool w a 3 c ws) :
    Calls Try.prog 9 #[.slice a 3 c, .int .i64 4] w (RetI 2 w (knockRes ws 4)) := by
  obtain ⟨hc, hb, hcell⟩ := h.at false
  have HR : Hid (knockRes ws 4 = (knockF 2 ws 0 (upto 4) [], true)) := by
    have hl := h.len
    show knockRes ws 4 = _
    simp [knockRes, hl]
  obtain ⟨i0, hi, hz0, hz1, hz2⟩ := info_parts infoI64
  clear h
  generalize hT : knockF 2 ws 0 (upto 4) [] = T at *
  have HT := Lib.hid hT
  clear hT
  go_enter Try.func9, Try.ntmps9
  go_wp2
  go_loopw [6, 7] (fun v i wr => ∃ k : Nat, k ≤ 4 ∧ i = .int .i64 k ∧ Below w.heap.size w wr ∧ ∃ a c, v = .slice a k c ∧ wr.ownsRow w.heap.size 2 1 (.slice a k c) k (intCells (upto k))) (fun _ i _ => 4 - (intOf i).toNat)
  case atStart => exact ⟨0, by omega, rfl, (Below.refl _ _).alloc (Nat.le_refl _) _, _, _, rfl, World.ownsRow_made w #[] 0 (Nat.le_refl _) (by unfold maxLen; omega) rfl⟩
  case round =>
    obtain ⟨k, hk, rfl, hbel, la, lc, rfl, hown⟩ := hrel
    have hs := hbel.size
    by_cases hlt : k < 4
    · go_wp2_with (first | (at_builtin; go_must (refine wpList_append_own _ rfl _ _ 24 rfl w.heap.size 2 i0 (.int .i64 0) 1 8 Try.underlying24 hi hz0 hz1 hz2 rfl (by decide) _ _ _ rfl (hown.alloc _) ⟨wr.heap.size, 0, none⟩ 1 1 [.int .i64 k] rfl rfl (new1 _ _ _) (one1 rfl) (by unfold maxLen; omega) (by omega) (by simp; omega) ?_); intro v' w1 hown1 hg1 _))
      have HB := below_app hbel hs hg1 hown
      obtain ⟨a', c', rfl⟩ := own_form hown1
      have HO : w1.ownsRow w.heap.size 2 1 (.slice a' (k + 1) c') (k + 1) (intCells (upto (k + 1))) := by rw [upto_succ, intCells_snoc]; exact hown1
      clear hown1 hg1 hown hbel
      go_wp2
      go_roundw
      case rel => exact ⟨k + 1, by omega, by go_num, HB, a', c', rfl, HO⟩
      case measure => simp [intOf]; omega
    · obtain rfl : k = 4 := by omega
      have HBs0 := Lib.hid hs
      have HB0 := Lib.hid hbel
      have HL0 := Lib.hid hown
      clear hs hbel hown
      go_wp2_with (fail)
      go_loopw [6, 8, 9, 10, 11] (fun lf ot gm nx i wo => ∃ (t : Nat) (L O : List Int) (off : Nat), L.length = 2 ^ t ∧ O.length = off ∧ off + 2 ^ t = 4 ∧ gm = .int .i64 (off : Int) ∧ knockF t ws off L O = T ∧ Below w.heap.size w wo ∧ (∃ la lc, lf = .slice la (2 ^ t) lc ∧ wo.ownsRow w.heap.size 2 1 (.slice la (2 ^ t) lc) (2 ^ t) (intCells L)) ∧ (∃ oa oc, ot = .slice oa off oc ∧ wo.ownsRow w.heap.size 2 1 (.slice oa off oc) off (intCells O))) (fun lf _ _ _ _ _ => lenOf lf)
      case atStart => exact ⟨2, upto 4, [], 0, upto_len _, rfl, rfl, rfl, HT.out, HB0.out.alloc HBs0.out _, ⟨_, _, rfl, HL0.out.alloc _⟩, ⟨_, _, rfl, World.ownsRow_made wr #[] 0 HBs0.out (by unfold maxLen; omega) rfl⟩⟩
      case round =>
        obtain ⟨t, L, O, off, eL, eO, eS, rfl, eK, hbo, ⟨la, lc, rfl, hol⟩, ⟨oa, oc, rfl, hoo⟩⟩ := hrel
        have HB := Lib.hid hbo
        have HBs := Lib.hid hbo.size
        have HL1 := Lib.hid hol
        have HO := Lib.hid hoo
        have HOl := Lib.hid eO
        clear hbo hol hoo eO
        cases t with
        | zero =>
          have HK : Hid (O = T) := eK
          clear eK hcell
          simp only [Nat.pow_zero] at *
          go_wp2
          go_ret2
          have e := HK.out
          subst e
          exact RetI.ok HR.out HB.out HO.out
        | succ t =>
          have HK : Hid (knockF t ws (off + 2 ^ t) (nextOf ws off L (2 ^ t)) (O ++ nextOf ws off L (2 ^ t)) = T) := eK
          have hpos := pow2_pos t
          have e2 : 2 ^ (t + 1) = 2 * 2 ^ t := by rw [Nat.pow_succ, Nat.mul_comm]
          generalize 2 ^ (t + 1) = q at *
          generalize hh : 2 ^ t = h at *
          subst e2
          rename World => wo
          have HS := Lib.hid eS
          have HL := HL1
          have HH := Lib.hid hh
          clear eK hh HL1
          have h12 : (1 : Int) < 2 * (h : Int) := by omega
          go_wp2_with (fail)
          go_loopw [9, 10, 11] (fun gm nx i wr => ∃ j : Nat, j ≤ h ∧ gm = .int .i64 ((off + j : Nat) : Int) ∧ i = .int .i64 ((2 * j : Nat) : Int) ∧ Below wo.heap.size wo wr ∧ ∃ na nc, nx = .slice na j nc ∧ wr.ownsRow wo.heap.size 2 1 (.slice na j nc) j (intCells (nextOf ws off L j))) (fun _ _ i _ => 2 * h - (intOf i).toNat)
          case atStart => exact ⟨0, by omega, rfl, rfl, (Below.refl _ _).alloc (Nat.le_refl _) _, _, _, rfl, World.ownsRow_made wo #[] 0 (Nat.le_refl _) (by unfold maxLen; omega) rfl⟩
          case round =>
            obtain ⟨j, hj, rfl, rfl, hbi, na, nc, rfl, hon⟩ := hrel
            have HBi := Lib.hid hbi
            have hsi := hbi.size
            by_cases hlt : j < h
            · obtain ⟨b, wf, rfl, hlb, hx⟩ := hcell (off + j) (by omega)
              have hw0 := cell_on (HB.out.trans (hbi.mono HBs.out)) (hx (off + j) (by omega))
              have HLo := Lib.hid (ownsRow_below HL.out hbi)
              obtain ⟨gl, rfl⟩ := own_some1 HLo.out (by omega)
              have l0 := own_get HLo.out (2 * j) (by omega)
              have l1 := own_get HLo.out (2 * j + 1) (by omega)
              have HP : Hid (nextOf ws off L (j + 1) = nextOf ws off L j ++ [if ws.getD (off + j) false = true then L.getD (2 * j) 0 else L.getD (2 * j + 1) 0]) := nextOf_succ ws off L j
              clear hbi hcell hx
              generalize L.getD (2 * j) 0 = y0 at *
              generalize L.getD (2 * j + 1) 0 = y1 at *
              generalize ws.getD (off + j) false = bw at *
              cases bw
              · go_wp2_with (first | (at_builtin; go_must (refine wpList_append_own _ rfl _ _ 24 rfl wo.heap.size 2 i0 (.int .i64 0) 1 8 Try.underlying24 hi hz0 hz1 hz2 rfl (by decide) _ _ _ rfl (hon.alloc _) ⟨wr.heap.size, 0, none⟩ 1 1 [.int .i64 y1] rfl rfl (new1 _ _ _) (one1 rfl) (by unfold maxLen; omega) (by omega) (by simp; omega) ?_); intro v' w5 hown1 hg1 _))
                have HB5 := below_app HBi.out hsi hg1 hon
                obtain ⟨a', c', rfl⟩ := own_form hown1
                have HO5 : w5.ownsRow wo.heap.size 2 1 (.slice a' (j + 1) c') (j + 1) (intCells (nextOf ws off L (j + 1))) := by rw [HP.out, intCells_snoc]; exact hown1
                clear hown1 hg1 hon
                go_wp2
                go_roundw
                case rel =>
                  repeat apply Exists.intro
                  refine And.intro ?r ?e
                  case e => (repeat (first | exact rfl | refine And.intro rfl ?_))
                  case r => exact ⟨j + 1, by omega, by go_num, by go_num, HB5, a', c', rfl, HO5⟩
                case measure => simp [intOf]; omega
              · go_wp2_with (first | (at_builtin; go_must (refine wpList_append_own _ rfl _ _ 24 rfl wo.heap.size 2 i0 (.int .i64 0) 1 8 Try.underlying24 hi hz0 hz1 hz2 rfl (by decide) _ _ _ rfl (hon.alloc _) ⟨wr.heap.size, 0, none⟩ 1 1 [.int .i64 y0] rfl rfl (new1 _ _ _) (one1 rfl) (by unfold maxLen; omega) (by omega) (by simp; omega) ?_); intro v' w5 hown1 hg1 _))
                have HB5 := below_app HBi.out hsi hg1 hon
                obtain ⟨a', c', rfl⟩ := own_form hown1
                have HO5 : w5.ownsRow wo.heap.size 2 1 (.slice a' (j + 1) c') (j + 1) (intCells (nextOf ws off L (j + 1))) := by rw [HP.out, intCells_snoc]; exact hown1
                clear hown1 hg1 hon
                go_wp2
                go_roundw
                case rel =>
                  repeat apply Exists.intro
                  refine And.intro ?r ?e
                  case e => (repeat (first | exact rfl | refine And.intro rfl ?_))
                  case r => exact ⟨j + 1, by omega, by go_num, by go_num, HB5, a', c', rfl, HO5⟩
                case measure => simp [intOf]; omega
            · obtain rfl : j = h := by omega
              have hOo := ownsRow_below HO.out hbi
              obtain ⟨gn, rfl⟩ := own_some1 hon (by omega)
              have hgn := (own_block hon).1
              have hNc := fun k u => World.ownsRow.cells hon (g := gn) rfl k u
              have HON := Lib.hid hon
              have hIO := own_in HO.out
              have HBr : Hid (Below w.heap.size w wr) := HB.out.trans (hbi.mono HBs.out)
              clear hbi hcell
              go_wp2_with (first | (at_builtin; go_must (refine wpList_append_own _ rfl _ _ 24 rfl w.heap.size 2 i0 (.int .i64 0) 1 8 Try.underlying24 hi hz0 hz1 hz2 rfl (by decide) _ _ _ rfl hOo ⟨gn, 0, none⟩ j nc (intCells (nextOf ws off L j)) rfl (by rw [intCells_len, nextOf_len, Nat.mul_one]) hNc (intCells_one2 _) (by unfold maxLen; omega) (by omega) (Nat.le_trans HBs.out hsi) ?_); intro v' w5 hown1 hg1 _))
              have HON5 := Lib.hid (ownsRow_low (HON.out.kept hg1 (.inr (ne_own hIO hgn))) HBs.out)
              have HB5 := Lib.hid (below_grown HBr.out (Nat.le_trans HBs.out hsi) hg1 hOo)
              obtain ⟨a', c', rfl⟩ := own_form hown1
              have HO5 : Hid (w5.ownsRow w.heap.size 2 1 (.slice a' (off + j) c') (off + j) (intCells (O ++ nextOf ws off L j))) := by
                show w5.ownsRow _ _ _ _ _ _
                rw [show intCells (O ++ nextOf ws off L j) = intCells O ++ intCells (nextOf ws off L j) from List.map_append]
                exact hown1
              clear hown1 hg1 hOo HON HO
              go_wp2
              go_roundw
              case rel =>
                repeat apply Exists.intro
                refine And.intro ?r ?e
                case e => (repeat (first | exact rfl | refine And.intro rfl ?_))
                case r =>
                  have e := HH.out
                  clear HH
                  subst e
                  exact ⟨t, nextOf ws off L (2 ^ t), O ++ nextOf ws off L (2 ^ t), off + 2 ^ t, nextOf_len _ _ _ _, by rw [List.length_append, nextOf_len, HOl.out], by have := HS.out; omega, rfl, HK.out, HB5.out, ⟨_, _, rfl, HON5.out⟩, ⟨_, _, rfl, HO5.out⟩⟩
              case measure => simp [lenOf]; omega

set_option maxHeartbeats 4000000 in
set_option maxRecDepth 100000 in
theorem specKnock8_any (a : Option Addr) (c : Nat) (ws : List Bool) (w : World) (h : Row Value.bool w a 7 c ws) :
    Calls Try.prog 9 #[.slice a 7 c, .int .i64 8] w (RetI 2 w (knockRes ws 8)) := by
  obtain ⟨hc, hb, hcell⟩ := h.at false
  have HR : Hid (knockRes ws 8 = (knockF 3 ws 0 (upto 8) [], true)) := by
    have hl := h.len
    show knockRes ws 8 = _
    simp [knockRes, hl]
  obtain ⟨i0, hi, hz0, hz1, hz2⟩ := info_parts infoI64
  clear h
  generalize hT : knockF 3 ws 0 (upto 8) [] = T at *
  have HT := Lib.hid hT
  clear hT
  go_enter Try.func9, Try.ntmps9
  go_wp2
  go_loopw [6, 7] (fun v i wr => ∃ k : Nat, k ≤ 8 ∧ i = .int .i64 k ∧ Below w.heap.size w wr ∧ ∃ a c, v = .slice a k c ∧ wr.ownsRow w.heap.size 2 1 (.slice a k c) k (intCells (upto k))) (fun _ i _ => 8 - (intOf i).toNat)
  case atStart => exact ⟨0, by omega, rfl, (Below.refl _ _).alloc (Nat.le_refl _) _, _, _, rfl, World.ownsRow_made w #[] 0 (Nat.le_refl _) (by unfold maxLen; omega) rfl⟩
  case round =>
    obtain ⟨k, hk, rfl, hbel, la, lc, rfl, hown⟩ := hrel
    have hs := hbel.size
    by_cases hlt : k < 8
    · go_wp2_with (first | (at_builtin; go_must (refine wpList_append_own _ rfl _ _ 24 rfl w.heap.size 2 i0 (.int .i64 0) 1 8 Try.underlying24 hi hz0 hz1 hz2 rfl (by decide) _ _ _ rfl (hown.alloc _) ⟨wr.heap.size, 0, none⟩ 1 1 [.int .i64 k] rfl rfl (new1 _ _ _) (one1 rfl) (by unfold maxLen; omega) (by omega) (by simp; omega) ?_); intro v' w1 hown1 hg1 _))
      have HB := below_app hbel hs hg1 hown
      obtain ⟨a', c', rfl⟩ := own_form hown1
      have HO : w1.ownsRow w.heap.size 2 1 (.slice a' (k + 1) c') (k + 1) (intCells (upto (k + 1))) := by rw [upto_succ, intCells_snoc]; exact hown1
      clear hown1 hg1 hown hbel
      go_wp2
      go_roundw
      case rel => exact ⟨k + 1, by omega, by go_num, HB, a', c', rfl, HO⟩
      case measure => simp [intOf]; omega
    · obtain rfl : k = 8 := by omega
      have HBs0 := Lib.hid hs
      have HB0 := Lib.hid hbel
      have HL0 := Lib.hid hown
      clear hs hbel hown
      go_wp2_with (fail)
      go_loopw [6, 8, 9, 10, 11] (fun lf ot gm nx i wo => ∃ (t : Nat) (L O : List Int) (off : Nat), L.length = 2 ^ t ∧ O.length = off ∧ off + 2 ^ t = 8 ∧ gm = .int .i64 (off : Int) ∧ knockF t ws off L O = T ∧ Below w.heap.size w wo ∧ (∃ la lc, lf = .slice la (2 ^ t) lc ∧ wo.ownsRow w.heap.size 2 1 (.slice la (2 ^ t) lc) (2 ^ t) (intCells L)) ∧ (∃ oa oc, ot = .slice oa off oc ∧ wo.ownsRow w.heap.size 2 1 (.slice oa off oc) off (intCells O))) (fun lf _ _ _ _ _ => lenOf lf)
      case atStart => exact ⟨3, upto 8, [], 0, upto_len _, rfl, rfl, rfl, HT.out, HB0.out.alloc HBs0.out _, ⟨_, _, rfl, HL0.out.alloc _⟩, ⟨_, _, rfl, World.ownsRow_made wr #[] 0 HBs0.out (by unfold maxLen; omega) rfl⟩⟩
      case round =>
        obtain ⟨t, L, O, off, eL, eO, eS, rfl, eK, hbo, ⟨la, lc, rfl, hol⟩, ⟨oa, oc, rfl, hoo⟩⟩ := hrel
        have HB := Lib.hid hbo
        have HBs := Lib.hid hbo.size
        have HL1 := Lib.hid hol
        have HO := Lib.hid hoo
        have HOl := Lib.hid eO
        clear hbo hol hoo eO
        cases t with
        | zero =>
          have HK : Hid (O = T) := eK
          clear eK hcell
          simp only [Nat.pow_zero] at *
          go_wp2
          go_ret2
          have e := HK.out
          subst e
          exact RetI.ok HR.out HB.out HO.out
        | succ t =>
          have HK : Hid (knockF t ws (off + 2 ^ t) (nextOf ws off L (2 ^ t)) (O ++ nextOf ws off L (2 ^ t)) = T) := eK
          have hpos := pow2_pos t
          have e2 : 2 ^ (t + 1) = 2 * 2 ^ t := by rw [Nat.pow_succ, Nat.mul_comm]
          generalize 2 ^ (t + 1) = q at *
          generalize hh : 2 ^ t = h at *
          subst e2
          rename World => wo
          have HS := Lib.hid eS
          have HL := HL1
          have HH := Lib.hid hh
          clear eK hh HL1
          have h12 : (1 : Int) < 2 * (h : Int) := by omega
          go_wp2_with (fail)
          go_loopw [9, 10, 11] (fun gm nx i wr => ∃ j : Nat, j ≤ h ∧ gm = .int .i64 ((off + j : Nat) : Int) ∧ i = .int .i64 ((2 * j : Nat) : Int) ∧ Below wo.heap.size wo wr ∧ ∃ na nc, nx = .slice na j nc ∧ wr.ownsRow wo.heap.size 2 1 (.slice na j nc) j (intCells (nextOf ws off L j))) (fun _ _ i _ => 2 * h - (intOf i).toNat)
          case atStart => exact ⟨0, by omega, rfl, rfl, (Below.refl _ _).alloc (Nat.le_refl _) _, _, _, rfl, World.ownsRow_made wo #[] 0 (Nat.le_refl _) (by unfold maxLen; omega) rfl⟩
          case round =>
            obtain ⟨j, hj, rfl, rfl, hbi, na, nc, rfl, hon⟩ := hrel
            have HBi := Lib.hid hbi
            have hsi := hbi.size
            by_cases hlt : j < h
            · obtain ⟨b, wf, rfl, hlb, hx⟩ := hcell (off + j) (by omega)
              have hw0 := cell_on (HB.out.trans (hbi.mono HBs.out)) (hx (off + j) (by omega))
              have HLo := Lib.hid (ownsRow_below HL.out hbi)
              obtain ⟨gl, rfl⟩ := own_some1 HLo.out (by omega)
              have l0 := own_get HLo.out (2 * j) (by omega)
              have l1 := own_get HLo.out (2 * j + 1) (by omega)
              have HP : Hid (nextOf ws off L (j + 1) = nextOf ws off L j ++ [if ws.getD (off + j) false = true then L.getD (2 * j) 0 else L.getD (2 * j + 1) 0]) := nextOf_succ ws off L j
              clear hbi hcell hx
              generalize L.getD (2 * j) 0 = y0 at *
              generalize L.getD (2 * j + 1) 0 = y1 at *
              generalize ws.getD (off + j) false = bw at *
              cases bw
              · go_wp2_with (first | (at_builtin; go_must (refine wpList_append_own _ rfl _ _ 24 rfl wo.heap.size 2 i0 (.int .i64 0) 1 8 Try.underlying24 hi hz0 hz1 hz2 rfl (by decide) _ _ _ rfl (hon.alloc _) ⟨wr.heap.size, 0, none⟩ 1 1 [.int .i64 y1] rfl rfl (new1 _ _ _) (one1 rfl) (by unfold maxLen; omega) (by omega) (by simp; omega) ?_); intro v' w5 hown1 hg1 _))
                have HB5 := below_app HBi.out hsi hg1 hon
                obtain ⟨a', c', rfl⟩ := own_form hown1
                have HO5 : w5.ownsRow wo.heap.size 2 1 (.slice a' (j + 1) c') (j + 1) (intCells (nextOf ws off L (j + 1))) := by rw [HP.out, intCells_snoc]; exact hown1
                clear hown1 hg1 hon
                go_wp2
                go_roundw
                case rel =>
                  repeat apply Exists.intro
                  refine And.intro ?r ?e
                  case e => (repeat (first | exact rfl | refine And.intro rfl ?_))
                  case r => exact ⟨j + 1, by omega, by go_num, by go_num, HB5, a', c', rfl, HO5⟩
                case measure => simp [intOf]; omega
              · go_wp2_with (first | (at_builtin; go_must (refine wpList_append_own _ rfl _ _ 24 rfl wo.heap.size 2 i0 (.int .i64 0) 1 8 Try.underlying24 hi hz0 hz1 hz2 rfl (by decide) _ _ _ rfl (hon.alloc _) ⟨wr.heap.size, 0, none⟩ 1 1 [.int .i64 y0] rfl rfl (new1 _ _ _) (one1 rfl) (by unfold maxLen; omega) (by omega) (by simp; omega) ?_); intro v' w5 hown1 hg1 _))
                have HB5 := below_app HBi.out hsi hg1 hon
                obtain ⟨a', c', rfl⟩ := own_form hown1
                have HO5 : w5.ownsRow wo.heap.size 2 1 (.slice a' (j + 1) c') (j + 1) (intCells (nextOf ws off L (j + 1))) := by rw [HP.out, intCells_snoc]; exact hown1
                clear hown1 hg1 hon
                go_wp2
                go_roundw
                case rel =>
                  repeat apply Exists.intro
                  refine And.intro ?r ?e
                  case e => (repeat (first | exact rfl | refine And.intro rfl ?_))
                  case r => exact ⟨j + 1, by omega, by go_num, by go_num, HB5, a', c', rfl, HO5⟩
                case measure => simp [intOf]; omega
            · obtain rfl : j = h := by omega
              have hOo := ownsRow_below HO.out hbi
              obtain ⟨gn, rfl⟩ := own_some1 hon (by omega)
              have hgn := (own_block hon).1
              have hNc := fun k u => World.ownsRow.cells hon (g := gn) rfl k u
              have HON := Lib.hid hon
              have hIO := own_in HO.out
              have HBr : Hid (Below w.heap.size w wr) := HB.out.trans (hbi.mono HBs.out)
              clear hbi hcell
              go_wp2_with (first | (at_builtin; go_must (refine wpList_append_own _ rfl _ _ 24 rfl w.heap.size 2 i0 (.int .i64 0) 1 8 Try.underlying24 hi hz0 hz1 hz2 rfl (by decide) _ _ _ rfl hOo ⟨gn, 0, none⟩ j nc (intCells (nextOf ws off L j)) rfl (by rw [intCells_len, nextOf_len, Nat.mul_one]) hNc (intCells_one2 _) (by unfold maxLen; omega) (by omega) (Nat.le_trans HBs.out hsi) ?_); intro v' w5 hown1 hg1 _))
              have HON5 := Lib.hid (ownsRow_low (HON.out.kept hg1 (.inr (ne_own hIO hgn))) HBs.out)
              have HB5 := Lib.hid (below_grown HBr.out (Nat.le_trans HBs.out hsi) hg1 hOo)
              obtain ⟨a', c', rfl⟩ := own_form hown1
              have HO5 : Hid (w5.ownsRow w.heap.size 2 1 (.slice a' (off + j) c') (off + j) (intCells (O ++ nextOf ws off L j))) := by
                show w5.ownsRow _ _ _ _ _ _
                rw [show intCells (O ++ nextOf ws off L j) = intCells O ++ intCells (nextOf ws off L j) from List.map_append]
                exact hown1
              clear hown1 hg1 hOo HON HO
              go_wp2
              go_roundw
              case rel =>
                repeat apply Exists.intro
                refine And.intro ?r ?e
                case e => (repeat (first | exact rfl | refine And.intro rfl ?_))
                case r =>
                  have e := HH.out
                  clear HH
                  subst e
                  exact ⟨t, nextOf ws off L (2 ^ t), O ++ nextOf ws off L (2 ^ t), off + 2 ^ t, nextOf_len _ _ _ _, by rw [List.length_append, nextOf_len, HOl.out], by have := HS.out; omega, rfl, HK.out, HB5.out, ⟨_, _, rfl, HON5.out⟩, ⟨_, _, rfl, HO5.out⟩⟩
              case measure => simp [lenOf]; omega

set_option maxHeartbeats 4000000 in
set_option maxRecDepth 100000 in
theorem specKnock16_any (a : Option Addr) (c : Nat) (ws : List Bool) (w : World) (h : Row Value.bool w a 15 c ws) :
    Calls Try.prog 9 #[.slice a 15 c, .int .i64 16] w (RetI 2 w (knockRes ws 16)) := by
  obtain ⟨hc, hb, hcell⟩ := h.at false
  have HR : Hid (knockRes ws 16 = (knockF 4 ws 0 (upto 16) [], true)) := by
    have hl := h.len
    show knockRes ws 16 = _
    simp [knockRes, hl]
  obtain ⟨i0, hi, hz0, hz1, hz2⟩ := info_parts infoI64
  clear h
  generalize hT : knockF 4 ws 0 (upto 16) [] = T at *
  have HT := Lib.hid hT
  clear hT
  go_enter Try.func9, Try.ntmps9
  go_wp2
  go_loopw [6, 7] (fun v i wr => ∃ k : Nat, k ≤ 16 ∧ i = .int .i64 k ∧ Below w.heap.size w wr ∧ ∃ a c, v = .slice a k c ∧ wr.ownsRow w.heap.size 2 1 (.slice a k c) k (intCells (upto k))) (fun _ i _ => 16 - (intOf i).toNat)
  case atStart => exact ⟨0, by omega, rfl, (Below.refl _ _).alloc (Nat.le_refl _) _, _, _, rfl, World.ownsRow_made w #[] 0 (Nat.le_refl _) (by unfold maxLen; omega) rfl⟩
  case round =>
    obtain ⟨k, hk, rfl, hbel, la, lc, rfl, hown⟩ := hrel
    have hs := hbel.size
    by_cases hlt : k < 16
    · go_wp2_with (first | (at_builtin; go_must (refine wpList_append_own _ rfl _ _ 24 rfl w.heap.size 2 i0 (.int .i64 0) 1 8 Try.underlying24 hi hz0 hz1 hz2 rfl (by decide) _ _ _ rfl (hown.alloc _) ⟨wr.heap.size, 0, none⟩ 1 1 [.int .i64 k] rfl rfl (new1 _ _ _) (one1 rfl) (by unfold maxLen; omega) (by omega) (by simp; omega) ?_); intro v' w1 hown1 hg1 _))
      have HB := below_app hbel hs hg1 hown
      obtain ⟨a', c', rfl⟩ := own_form hown1
      have HO : w1.ownsRow w.heap.size 2 1 (.slice a' (k + 1) c') (k + 1) (intCells (upto (k + 1))) := by rw [upto_succ, intCells_snoc]; exact hown1
      clear hown1 hg1 hown hbel
      go_wp2
      go_roundw
      case rel => exact ⟨k + 1, by omega, by go_num, HB, a', c', rfl, HO⟩
      case measure => simp [intOf]; omega
    · obtain rfl : k = 16 := by omega
      have HBs0 := Lib.hid hs
      have HB0 := Lib.hid hbel
      have HL0 := Lib.hid hown
      clear hs hbel hown
      go_wp2_with (fail)
      go_loopw [6, 8, 9, 10, 11] (fun lf ot gm nx i wo => ∃ (t : Nat) (L O : List Int) (off : Nat), L.length = 2 ^ t ∧ O.length = off ∧ off + 2 ^ t = 16 ∧ gm = .int .i64 (off : Int) ∧ knockF t ws off L O = T ∧ Below w.heap.size w wo ∧ (∃ la lc, lf = .slice la (2 ^ t) lc ∧ wo.ownsRow w.heap.size 2 1 (.slice la (2 ^ t) lc) (2 ^ t) (intCells L)) ∧ (∃ oa oc, ot = .slice oa off oc ∧ wo.ownsRow w.heap.size 2 1 (.slice oa off oc) off (intCells O))) (fun lf _ _ _ _ _ => lenOf lf)
      case atStart => exact ⟨4, upto 16, [], 0, upto_len _, rfl, rfl, rfl, HT.out, HB0.out.alloc HBs0.out _, ⟨_, _, rfl, HL0.out.alloc _⟩, ⟨_, _, rfl, World.ownsRow_made wr #[] 0 HBs0.out (by unfold maxLen; omega) rfl⟩⟩
      case round =>
        obtain ⟨t, L, O, off, eL, eO, eS, rfl, eK, hbo, ⟨la, lc, rfl, hol⟩, ⟨oa, oc, rfl, hoo⟩⟩ := hrel
        have HB := Lib.hid hbo
        have HBs := Lib.hid hbo.size
        have HL1 := Lib.hid hol
        have HO := Lib.hid hoo
        have HOl := Lib.hid eO
        clear hbo hol hoo eO
        cases t with
        | zero =>
          have HK : Hid (O = T) := eK
          clear eK hcell
          simp only [Nat.pow_zero] at *
          go_wp2
          go_ret2
          have e := HK.out
          subst e
          exact RetI.ok HR.out HB.out HO.out
        | succ t =>
          have HK : Hid (knockF t ws (off + 2 ^ t) (nextOf ws off L (2 ^ t)) (O ++ nextOf ws off L (2 ^ t)) = T) := eK
          have hpos := pow2_pos t
          have e2 : 2 ^ (t + 1) = 2 * 2 ^ t := by rw [Nat.pow_succ, Nat.mul_comm]
          generalize 2 ^ (t + 1) = q at *
          generalize hh : 2 ^ t = h at *
          subst e2
          rename World => wo
          have HS := Lib.hid eS
          have HL := HL1
          have HH := Lib.hid hh
          clear eK hh HL1
          have h12 : (1 : Int) < 2 * (h : Int) := by omega
          go_wp2_with (fail)
          go_loopw [9, 10, 11] (fun gm nx i wr => ∃ j : Nat, j ≤ h ∧ gm = .int .i64 ((off + j : Nat) : Int) ∧ i = .int .i64 ((2 * j : Nat) : Int) ∧ Below wo.heap.size wo wr ∧ ∃ na nc, nx = .slice na j nc ∧ wr.ownsRow wo.heap.size 2 1 (.slice na j nc) j (intCells (nextOf ws off L j))) (fun _ _ i _ => 2 * h - (intOf i).toNat)
          case atStart => exact ⟨0, by omega, rfl, rfl, (Below.refl _ _).alloc (Nat.le_refl _) _, _, _, rfl, World.ownsRow_made wo #[] 0 (Nat.le_refl _) (by unfold maxLen; omega) rfl⟩
          case round =>
            obtain ⟨j, hj, rfl, rfl, hbi, na, nc, rfl, hon⟩ := hrel
            have HBi := Lib.hid hbi
            have hsi := hbi.size
            by_cases hlt : j < h
            · obtain ⟨b, wf, rfl, hlb, hx⟩ := hcell (off + j) (by omega)
              have hw0 := cell_on (HB.out.trans (hbi.mono HBs.out)) (hx (off + j) (by omega))
              have HLo := Lib.hid (ownsRow_below HL.out hbi)
              obtain ⟨gl, rfl⟩ := own_some1 HLo.out (by omega)
              have l0 := own_get HLo.out (2 * j) (by omega)
              have l1 := own_get HLo.out (2 * j + 1) (by omega)
              have HP : Hid (nextOf ws off L (j + 1) = nextOf ws off L j ++ [if ws.getD (off + j) false = true then L.getD (2 * j) 0 else L.getD (2 * j + 1) 0]) := nextOf_succ ws off L j
              clear hbi hcell hx
              generalize L.getD (2 * j) 0 = y0 at *
              generalize L.getD (2 * j + 1) 0 = y1 at *
              generalize ws.getD (off + j) false = bw at *
              cases bw
              · go_wp2_with (first | (at_builtin; go_must (refine wpList_append_own _ rfl _ _ 24 rfl wo.heap.size 2 i0 (.int .i64 0) 1 8 Try.underlying24 hi hz0 hz1 hz2 rfl (by decide) _ _ _ rfl (hon.alloc _) ⟨wr.heap.size, 0, none⟩ 1 1 [.int .i64 y1] rfl rfl (new1 _ _ _) (one1 rfl) (by unfold maxLen; omega) (by omega) (by simp; omega) ?_); intro v' w5 hown1 hg1 _))
                have HB5 := below_app HBi.out hsi hg1 hon
                obtain ⟨a', c', rfl⟩ := own_form hown1
                have HO5 : w5.ownsRow wo.heap.size 2 1 (.slice a' (j + 1) c') (j + 1) (intCells (nextOf ws off L (j + 1))) := by rw [HP.out, intCells_snoc]; exact hown1
                clear hown1 hg1 hon
                go_wp2
                go_roundw
                case rel =>
                  repeat apply Exists.intro
                  refine And.intro ?r ?e
                  case e => (repeat (first | exact rfl | refine And.intro rfl ?_))
                  case r => exact ⟨j + 1, by omega, by go_num, by go_num, HB5, a', c', rfl, HO5⟩
                case measure => simp [intOf]; omega
              · go_wp2_with (first | (at_builtin; go_must (refine wpList_append_own _ rfl _ _ 24 rfl wo.heap.size 2 i0 (.int .i64 0) 1 8 Try.underlying24 hi hz0 hz1 hz2 rfl (by decide) _ _ _ rfl (hon.alloc _) ⟨wr.heap.size, 0, none⟩ 1 1 [.int .i64 y0] rfl rfl (new1 _ _ _) (one1 rfl) (by unfold maxLen; omega) (by omega) (by simp; omega) ?_); intro v' w5 hown1 hg1 _))
                have HB5 := below_app HBi.out hsi hg1 hon
                obtain ⟨a', c', rfl⟩ := own_form hown1
                have HO5 : w5.ownsRow wo.heap.size 2 1 (.slice a' (j + 1) c') (j + 1) (intCells (nextOf ws off L (j + 1))) := by rw [HP.out, intCells_snoc]; exact hown1
                clear hown1 hg1 hon
                go_wp2
                go_roundw
                case rel =>
                  repeat apply Exists.intro
                  refine And.intro ?r ?e
                  case e => (repeat (first | exact rfl | refine And.intro rfl ?_))
                  case r => exact ⟨j + 1, by omega, by go_num, by go_num, HB5, a', c', rfl, HO5⟩
                case measure => simp [intOf]; omega
            · obtain rfl : j = h := by omega
              have hOo := ownsRow_below HO.out hbi
              obtain ⟨gn, rfl⟩ := own_some1 hon (by omega)
              have hgn := (own_block hon).1
              have hNc := fun k u => World.ownsRow.cells hon (g := gn) rfl k u
              have HON := Lib.hid hon
              have hIO := own_in HO.out
              have HBr : Hid (Below w.heap.size w wr) := HB.out.trans (hbi.mono HBs.out)
              clear hbi hcell
              go_wp2_with (first | (at_builtin; go_must (refine wpList_append_own _ rfl _ _ 24 rfl w.heap.size 2 i0 (.int .i64 0) 1 8 Try.underlying24 hi hz0 hz1 hz2 rfl (by decide) _ _ _ rfl hOo ⟨gn, 0, none⟩ j nc (intCells (nextOf ws off L j)) rfl (by rw [intCells_len, nextOf_len, Nat.mul_one]) hNc (intCells_one2 _) (by unfold maxLen; omega) (by omega) (Nat.le_trans HBs.out hsi) ?_); intro v' w5 hown1 hg1 _))
              have HON5 := Lib.hid (ownsRow_low (HON.out.kept hg1 (.inr (ne_own hIO hgn))) HBs.out)
              have HB5 := Lib.hid (below_grown HBr.out (Nat.le_trans HBs.out hsi) hg1 hOo)
              obtain ⟨a', c', rfl⟩ := own_form hown1
              have HO5 : Hid (w5.ownsRow w.heap.size 2 1 (.slice a' (off + j) c') (off + j) (intCells (O ++ nextOf ws off L j))) := by
                show w5.ownsRow _ _ _ _ _ _
                rw [show intCells (O ++ nextOf ws off L j) = intCells O ++ intCells (nextOf ws off L j) from List.map_append]
                exact hown1
              clear hown1 hg1 hOo HON HO
              go_wp2
              go_roundw
              case rel =>
                repeat apply Exists.intro
                refine And.intro ?r ?e
                case e => (repeat (first | exact rfl | refine And.intro rfl ?_))
                case r =>
                  have e := HH.out
                  clear HH
                  subst e
                  exact ⟨t, nextOf ws off L (2 ^ t), O ++ nextOf ws off L (2 ^ t), off + 2 ^ t, nextOf_len _ _ _ _, by rw [List.length_append, nextOf_len, HOl.out], by have := HS.out; omega, rfl, HK.out, HB5.out, ⟨_, _, rfl, HON5.out⟩, ⟨_, _, rfl, HO5.out⟩⟩
              case measure => simp [lenOf]; omega

end Go.Proofs.Ythakjkhceeocfaa
