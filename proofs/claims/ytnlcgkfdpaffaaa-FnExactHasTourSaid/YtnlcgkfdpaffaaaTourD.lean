/- HasTour, spec. -/
import Derived.Test.YtnlcgkfdpaffaaaTourC
import Derived.Test.YtnlcgkfdpaffaaaNewDeck
import Derived.Deep.Cut
import Derived.Deep.CutRange
namespace Go.Proofs.Ytnlcgkfdpaffaaa
open Go.RowKit Go.Shelf
set_option linter.unusedVariables false

theorem deg_le (A B : Nat → Nat) (v : Nat) : ∀ k, deg A B (List.range k) v ≤ 2 * k := by
  intro k
  induction k with
  | zero => exact Nat.le_refl _
  | succ k ih =>
    rw [deg_succ]
    have h1 : one (A k) v ≤ 1 := by unfold one; split <;> omega
    have h2 : one (B k) v ≤ 1 := by unfold one; split <;> omega
    omega
theorem dgTo_bd (ts : List (Int × Int)) (hr : ∀ i, i < ts.length → tA ts i < 7 ∧ tB ts i < 7) (h8 : ts.length ≤ 8) (k : Nat) (hk : k ≤ ts.length) (v : Nat) : 0 ≤ (dgTo ts k).getD v 0 ∧ (dgTo ts k).getD v 0 ≤ 16 := by
  rw [dgTo_get ts v k fun i hi => hr i (by omega)]
  have := deg_le (tA ts) (tB ts) v k
  omega
theorem oddTo_succ (dl : List Int) (k : Nat) : oddTo dl (k + 1) = oddTo dl k + dl.getD k 0 % 2 := by simp [oddTo, List.range_succ]
theorem oddTo_bd (dl : List Int) : ∀ k, 0 ≤ oddTo dl k ∧ oddTo dl k ≤ k := by
  intro k
  induction k with
  | zero => simp [oddTo]
  | succ k ih => rw [oddTo_succ]; omega
theorem relTo_zero {pl : List Int} (h : pl.length = 7) (f t : Int) : relTo pl f t 0 = pl := by
  apply List.ext_getElem
  · rw [relTo_len, h]
  · intro i h1 h2
    simp [relTo, List.getD_eq_getElem?_getD, h2]
theorem relTo_at (pl : List Int) (f t : Int) (j : Nat) (h : j < 7) : (relTo pl f t j).getD j 0 = pl.getD j 0 := by
  rw [relTo_get _ _ _ _ _ h, if_neg (by omega)]
theorem relTo_put {pl : List Int} (f t : Int) (j : Nat) (h : j < 7) (e : pl.getD j 0 = f) : (relTo pl f t j).set j t = relTo pl f t (j + 1) := by
  apply List.ext_getElem
  · rw [List.length_set, relTo_len, relTo_len]
  · intro i h1 h2
    rw [List.getElem_set]
    simp only [relTo, List.getElem_map, List.getElem_range]
    by_cases q : j = i
    · subst q; rw [if_pos rfl, if_pos ⟨by omega, e⟩]
    · rw [if_neg q]
      by_cases q2 : i < j ∧ pl.getD i 0 = f
      · rw [if_pos q2, if_pos ⟨by omega, q2.2⟩]
      · rw [if_neg q2, if_neg (by rintro ⟨a, b⟩; exact q2 ⟨by omega, b⟩)]
theorem relTo_keep {pl : List Int} (f t : Int) (j : Nat) (e : pl.getD j 0 ≠ f) : relTo pl f t (j + 1) = relTo pl f t j := by
  unfold relTo
  refine List.map_congr_left fun i _ => ?_
  by_cases q2 : i < j ∧ pl.getD i 0 = f
  · rw [if_pos q2, if_pos ⟨by omega, q2.2⟩]
  · rw [if_neg q2, if_neg (by
      rintro ⟨a, b⟩
      by_cases q : i = j
      · subst q; exact e b
      · exact q2 ⟨by omega, b⟩)]
theorem plTo_len (ts : List (Int × Int)) (k : Nat) : (plTo ts k).length = 7 := by
  cases k with
  | zero => simp [plTo]
  | succ k => exact relTo_len _ _ _ _

structure Tw (w : World) (d p pc : Nat) (dl pl : List Int) (wr : World) : Prop where
  b : Below w.heap.size w wr
  od : wr.ownsRow w.heap.size 2 1 (.slice (some ⟨d, 0, none⟩) 7 7) 7 (intCells dl)
  op : wr.ownsRow w.heap.size 2 1 (.slice (some ⟨p, 0, none⟩) 7 pc) 7 (intCells pl)
  ne : d ≠ p
theorem Tw.putD {w wr : World} {d p pc : Nat} {dl pl : List Int} (h : Tw w d p pc dl pl wr) (i : Nat) (v : Int) (hv : v = dl.getD i 0 + 1) : Tw w d p pc (addAt dl i 1) pl (wr.setCell ⟨d, i, none⟩ (.int .i64 v)) :=
  ⟨h.b.setCell (own_block h.od).1 _, own_addAt h.od i v 1 hv, ownsRow_setCell_other h.op (fun x hx => by obtain rfl := Option.some.inj hx; exact Ne.symm h.ne) _, h.ne⟩
theorem Tw.putP {w wr : World} {d p pc : Nat} {dl pl : List Int} (h : Tw w d p pc dl pl wr) (i : Nat) (v : Int) : Tw w d p pc dl (pl.set i v) (wr.setCell ⟨p, i, none⟩ (.int .i64 v)) :=
  ⟨h.b.setCell (own_block h.op).1 _, ownsRow_setCell_other h.od (fun x hx => by obtain rfl := Option.some.inj hx; exact h.ne) _, own_put h.op i v, h.ne⟩

set_option maxHeartbeats 1600000 in
set_option maxRecDepth 100000 in
theorem specHasTour_any (a : Option Addr) (n c : Nat) (ts : List (Int × Int)) (ring : Bool) (w : World) (h : Duos w a n c ts) :
    Calls Try.prog 30 #[.slice a n c, .bool ring] w (Ret w (.tuple #[.bool (tourRes ts ring).1, .bool (tourRes ts ring).2])) := by
  have C1 := l06Line_any a n c ts w h
  have hl := h.len
  obtain ⟨hc, hb, hcell⟩ := h.at
  rcases Bool.eq_false_or_eq_true (okTiles ts) with e | e
  · obtain ⟨i0, hi, hz0, hz1, hz2⟩ := info_parts infoI64
    obtain ⟨h1, h8, hts⟩ := (okTiles_iff ts).1 e
    have HR : Hid (tourRes ts ring = (tourS ts ring, true)) := by show _ = _; unfold tourRes; rw [if_pos e]
    have hr : ∀ i, i < ts.length → tA ts i < 7 ∧ tB ts i < 7 := fun i hi => by have := tA_lt hts hi; exact ⟨this.1, this.2.1⟩
    have HBd := Lib.hid (dgTo_bd ts hr h8)
    have HAB := Lib.hid (fun i (hi : i < ts.length) => tA_lt hts hi)
    have HCell := Lib.hid hcell
    rw [e] at C1
    have CL := Lib.hid C1
    clear h e hts hr hcell C1
    rw [hl] at h1 h8 HBd HAB
    have Hl := Lib.hid hl
    clear hl
    go_enter Try.func30, Try.ntmps30
    go_wp2_with (fail)
    refine CL.out.mono ?_
    rintro e w1 ⟨rfl, hq⟩
    have HB1 : Hid (Below w.heap.size w w1) := hq.b
    have hs1 := HB1.out.size
    clear hq CL
    go_wp2_with (first | (at_make; go_must (refine wpList_make_full _ rfl _ _ 24 rfl w.heap.size 2 i0 _ 1 Try.underlying24 hi hz0 hz1 _ _ _ _ 7 rfl rfl rfl rfl (by rw [hz2]; omega) (by unfold maxLen; omega) (by simpa using hs1) ?_; intro w2 hown2 hg2)))
    have HB2 := Lib.hid (below_made HB1.out hs1 hg2)
    have CN := l02New_any 7 w2 (by omega)
    have hz : w2.ownsRow w.heap.size 2 1 (.slice (some ⟨w1.heap.size, 0, none⟩) 7 7) 7 (intCells (dgTo ts 0)) := by
      have := hown2
      rw [made_const _ (.int .i64 0) (by decide) (by intro i hi; match i, hi with | 0, _ => rfl), Nat.mul_one] at this
      show w2.ownsRow _ _ _ _ _ (intCells (List.replicate 7 0))
      rw [intCells_zero]
      exact this
    have hd2 := (own_block hz).2
    clear hown2 hg2
    generalize w1.heap.size = d at *
    refine CN.mono ?_
    rintro e w3 ⟨pa, pc, rfl, hb3, ho3⟩
    obtain ⟨p, rfl⟩ := own_some ho3 (by omega)
    have hp3 := (own_block ho3).1
    have hpc : 7 ≤ pc ∧ pc ≤ 9223372036854775807 := by have := Rd.own ho3; exact ⟨this.2.1, this.2.2.1⟩
    have HT3 : Hid (Tw w d p pc (dgTo ts 0) (plTo ts 0) w3) := ⟨HB2.out.trans (hb3.mono HB2.out.size), ownsRow_below hz hb3, ownsRow_low ho3 HB2.out.size, by omega⟩
    clear hz hb3 ho3 hp3 hd2 HB2 HB1 CN
    go_wp2_with (fail)
    go_loopw [8, 9, 10, 11] (fun vi vf vt vj wr => ∃ k : Nat, k ≤ n ∧ vi = .int .i64 k ∧ Tw w d p pc (dgTo ts k) (plTo ts k) wr) (fun vi _ _ _ _ => n - (intOf vi).toNat)
    case atStart => exact ⟨0, by omega, rfl, HT3.out⟩
    case round =>
      obtain ⟨k, hk, rfl, hT⟩ := hrel
      have HT := Lib.hid hT
      clear hT
      by_cases hlt : k < n
      · obtain ⟨b, off, rfl, hlb, hx⟩ := HCell.out k hlt
        obtain ⟨x0, x1⟩ := hx k hlt
        obtain ⟨hA7, hB7, eA, eB⟩ := HAB.out k hlt
        rw [eA] at x0
        rw [eB] at x1
        have HX0 := Lib.hid x0
        have HX1 := Lib.hid x1
        have HDs : Hid (dgTo ts (k + 1) = addAt (addAt (dgTo ts k) (tA ts k) 1) (tB ts k) 1) := rfl
        have HPs : Hid (plTo ts (k + 1) = relTo (plTo ts k) ((plTo ts k).getD (tA ts k) 0) ((plTo ts k).getD (tB ts k) 0) 7) := rfl
        have HPl := Lib.hid (plTo_len ts k)
        have hbA := HBd.out k hk (tA ts k)
        have hbB := HBd.out k hk (tB ts k)
        have hbB' : 0 ≤ (addAt (dgTo ts k) (tA ts k) 1).getD (tB ts k) 0 ∧ (addAt (dgTo ts k) (tA ts k) 1).getD (tB ts k) 0 ≤ 17 := by
          by_cases q : tA ts k = tB ts k
          · rw [addAt_get _ _ _ (by rw [dgTo_len]; exact hA7), q]
            have : one (tB ts k) (tB ts k) = 1 := if_pos rfl
            omega
          · rw [addAt_getD_ne _ _ _ _ q]; omega
        clear hx eA eB x0 x1 hbB
        generalize tA ts k = A at *
        generalize tB ts k = B at *
        generalize dgTo ts k = D at *
        generalize plTo ts k = P at *
        have x0 := cell_on HT.out.b HX0.out
        have d0 := own_get HT.out.od A hA7
        have fd : ∀ j, wr.frozen? ⟨d, j, none⟩ = false := fun j => HT.out.od.frozenAt j
        have HT1 := Lib.hid (HT.out.putD A _ rfl)
        generalize D.getD A 0 = z at *
        go_upto_region 9 with fail
        generalize wr.setCell ⟨d, A, none⟩ (.int .i64 (z + 1)) = V1 at *
        clear x0 d0 fd
        have x1 := cell_on HT1.out.b HX1.out
        have d1 := own_get HT1.out.od B hB7
        have fd : ∀ j, V1.frozen? ⟨d, j, none⟩ = false := fun j => HT1.out.od.frozenAt j
        have HT2 := Lib.hid (HT1.out.putD B _ rfl)
        rw [← HDs.out] at HT2
        clear HDs HT HT1
        generalize (addAt D A 1).getD B 0 = y at *
        go_upto_region 10 with fail
        generalize V1.setCell ⟨d, B, none⟩ (.int .i64 (y + 1)) = V2 at *
        generalize hD2 : dgTo ts (k + 1) = D2 at *
        have HD2 := Lib.hid hD2
        clear hD2
        clear x1 d1 fd
        have x0 := cell_on HT2.out.b HX0.out
        have x1 := cell_on HT2.out.b HX1.out
        have p0 := own_get HT2.out.op A hA7
        have p1 := own_get HT2.out.op B hB7
        have HRz := Lib.hid (relTo_zero HPl.out (P.getD A 0) (P.getD B 0))
        generalize P.getD A 0 = f at *
        generalize P.getD B 0 = t at *
        go_wp2_with (fail)
        clear x0 x1 p0 p1
        go_loopw [11] (fun vj wr => ∃ j : Nat, j ≤ 7 ∧ vj = .int .i64 j ∧ Tw w d p pc D2 (relTo P f t j) wr) (fun vj _ => 7 - (intOf vj).toNat)
        case atStart => exact ⟨0, by omega, rfl, by rw [HRz.out]; exact HT2.out⟩
        case round =>
          obtain ⟨j, hj, rfl, hT⟩ := hrel
          have HT := Lib.hid hT
          clear hT
          by_cases hj7 : j < 7
          · have p0 := own_get HT.out.op j hj7
            rw [relTo_at P f t j hj7] at p0
            have fp : ∀ j, wr.frozen? ⟨p, j, none⟩ = false := fun j => HT.out.op.frozenAt j
            by_cases hpf : P.getD j 0 = f
            · have HN : Hid (Tw w d p pc D2 (relTo P f t (j + 1)) (wr.setCell ⟨p, j, none⟩ (.int .i64 t))) := by
                have := HT.out.putP j t
                rw [relTo_put f t j hj7 hpf] at this
                exact this
              have e1 : (P.getD j 0 == f) = true := beq_iff_eq.2 hpf
              generalize P.getD j 0 = x at *
              clear hpf HT
              go_wp2_with fail
              go_roundw
              case rel => exact ⟨j + 1, by omega, by go_num, HN.out⟩
              case measure => simp [intOf]; omega
            · have HN : Hid (Tw w d p pc D2 (relTo P f t (j + 1)) wr) := by
                show Tw _ _ _ _ _ _ _
                rw [relTo_keep f t j hpf]
                exact HT.out
              have e1 : (P.getD j 0 == f) = false := beq_eq_false_iff_ne.2 hpf
              generalize P.getD j 0 = x at *
              clear hpf HT
              go_wp2_with fail
              go_roundw
              case rel => exact ⟨j + 1, by omega, by go_num, HN.out⟩
              case measure => simp [intOf]; omega
          · obtain rfl : j = 7 := by omega
            go_wp2_with fail
            go_roundw
            case rel => exact ⟨k + 1, by omega, by go_num, by rw [HPs.out, HD2.out]; exact HT.out⟩
            case measure => simp [intOf]; omega
      · obtain rfl : k = n := by omega
        have HS : Hid (tourS ts ring = (!((List.range 7).any (apart (dgTo ts k) (plTo ts k) ((plTo ts k).getD (tA ts 0) 0))) && (decide (oddTo (dgTo ts k) 7 = 0) || (decide (oddTo (dgTo ts k) 7 = 2) && !ring)))) := by show _ = _; rw [← Hl.out]; rfl
        obtain ⟨b, off, rfl, hlb, hx⟩ := HCell.out 0 (by omega)
        obtain ⟨x0, _⟩ := hx 0 (by omega)
        obtain ⟨hA7, _, eA, _⟩ := HAB.out 0 (by omega)
        rw [eA] at x0
        have x0 := Lib.hid (cell_on HT.out.b x0)
        have HBk := Lib.hid (HBd.out k (Nat.le_refl _))
        clear hx eA HAB HBd HCell hlt
        generalize tA ts 0 = A at *
        generalize dgTo ts k = D at *
        generalize plTo ts k = P at *
        have p1 := Lib.hid (own_get HT.out.op A hA7)
        have HHp := Lib.hid HT.out.op
        have HHd := Lib.hid HT.out.od
        have HBe := Lib.hid HT.out.b
        clear HT
        generalize P.getD A 0 = q0 at *
        go_wp2_with fail
        obtain ⟨wo, rfl⟩ : ∃ wo : World, wo = wr := ⟨_, rfl⟩
        go_loopw [12, 13] (fun vo vj w5 => ∃ j : Nat, j ≤ 7 ∧ vj = .int .i64 j ∧ vo = .int .i64 (oddTo D j) ∧ (∀ i, i < j → apart D P q0 i = false) ∧ Quiet wo w5) (fun _ vj _ => 7 - (intOf vj).toNat)
        case atStart => exact ⟨0, by omega, rfl, rfl, fun i hi => by omega, Quiet.refl _⟩
        case round =>
          obtain ⟨j, hj, rfl, rfl, hno, hq⟩ := hrel
          have HNo := Lib.hid hno
          have HQ := Lib.hid hq
          have hob := oddTo_bd D j
          clear hno hq
          by_cases hj7 : j < 7
          · have hdb := HBk.out j
            have HSu := Lib.hid (oddTo_succ D j)
            have HAp : Hid (apart D P q0 j = (decide (0 < D.getD j 0) && decide (P.getD j 0 ≠ q0))) := rfl
            have z0 := cell_on (HQ.out.below _) (own_get HHd.out j hj7)
            have z1 := cell_on (HQ.out.below _) (own_get HHp.out j hj7)
            have z2 := cell_on (HQ.out.below _) p1.out
            have z3 := cell_on (HQ.out.below _) x0.out
            generalize oddTo D j = o at *
            generalize D.getD j 0 = x at *
            generalize P.getD j 0 = y at *
            have z4 : wr.cell? ⟨b, off, none⟩ = some (.int .i64 A) := by simpa using z3
            clear z3
            have HNs' : Hid (apart D P q0 j = false → ∀ i, i < j + 1 → apart D P q0 i = false) := fun e i hi => by
              by_cases q : i = j
              · rw [q]; exact e
              · exact HNo.out i (by omega)
            by_cases hx0 : x = 0
            · have HNs := Lib.hid (HNs'.out (by rw [HAp.out, hx0]; simp))
              subst hx0
              clear HNs' HAp
              go_wp2_with fail
              go_quiet (fail)
              go_wp2_with fail
              go_roundw
              case rel => exact ⟨j + 1, by omega, by go_num, by rw [HSu.out]; try rw [Int.zero_emod, Int.add_zero], HNs.out, HQ.out.trans ⟨_, rfl⟩⟩
              case measure => simp [intOf]; omega
            · by_cases hyq : y = q0
              · have HNs := Lib.hid (HNs'.out (by rw [HAp.out, hyq]; simp))
                have e1 : decide (0 < x) = true := decide_eq_true (by omega)
                subst hyq
                clear HNs' HAp
                go_wp2_with fail
                go_quiet (fail)
                go_wp2_with fail
                go_roundw
                case rel => exact ⟨j + 1, by omega, by go_num, by rw [HSu.out], HNs.out, HQ.out.trans ⟨_, rfl⟩⟩
                case measure => simp [intOf]; omega
              · have e2 : (y != q0) = true := by simp [hyq]
                have hx1 : 0 < x := by omega
                have e1 : decide (0 < x) = true := decide_eq_true hx1
                have HF : Hid (tourS ts ring = false) := by
                  show _ = _
                  rw [HS.out]
                  have : (List.range 7).any (apart D P q0) = true := List.any_eq_true.2 ⟨j, List.mem_range.2 hj7, by rw [HAp.out]; simp [hyq]; omega⟩
                  rw [this]; rfl
                clear HNs' HAp
                go_wp2_with fail
                go_quiet (fail)
                go_wp2_with fail
                go_ret2
                exact ⟨ret_bb2 (by rw [HR.out, HF.out]), HBe.out.trans ((HQ.out.trans ⟨_, rfl⟩).below _)⟩
          · obtain rfl : j = 7 := by omega
            have HF : Hid (tourS ts ring = (decide (oddTo D 7 = 0) || (decide (oddTo D 7 = 2) && !ring))) := by
              show _ = _
              rw [HS.out]
              have : (List.range 7).any (apart D P q0) = false := List.any_eq_false.2 fun i hi q => by rw [HNo.out i (List.mem_range.1 hi)] at q; cases q
              rw [this]; rfl
            generalize oddTo D 7 = o at *
            by_cases ho0 : o = 0
            · subst ho0
              go_wp2_with fail
              go_ret2
              exact ⟨ret_bb2 (by rw [HR.out, HF.out]; rfl), HBe.out.trans (HQ.out.below _)⟩
            · have e0 : (o == 0) = false := beq_eq_false_iff_ne.2 ho0
              by_cases ho2 : o = 2
              · subst ho2
                cases ring with
                | false =>
                  go_wp2_with fail
                  go_ret2
                  exact ⟨ret_bb2 (by rw [HR.out, HF.out]; rfl), HBe.out.trans (HQ.out.below _)⟩
                | true =>
                  go_wp2_with fail
                  go_ret2
                  exact ⟨ret_bb2 (by rw [HR.out, HF.out]; rfl), HBe.out.trans (HQ.out.below _)⟩
              · have e2 : (o == 2) = false := beq_eq_false_iff_ne.2 ho2
                go_wp2_with fail
                go_ret2
                exact ⟨ret_bb2 (by rw [HR.out, HF.out]; simp [ho0, ho2]), HBe.out.trans (HQ.out.below _)⟩
  · have HR : Hid (tourRes ts ring = (false, false)) := by show _ = _; unfold tourRes; rw [if_neg (by rw [e]; exact Bool.false_ne_true)]
    rw [e] at C1
    have C1 := Lib.hid C1
    clear h e hl hcell
    go_enter Try.func30, Try.ntmps30
    go_wp2_with (fail)
    refine C1.out.mono ?_
    rintro e w1 ⟨rfl, hq⟩
    have HB1 : Hid (Below w.heap.size w w1) := hq.b
    clear hq
    go_wp2
    go_ret2
    exact ⟨ret_bb2 HR.out, HB1.out⟩

end Go.Proofs.Ytnlcgkfdpaffaaa
