/- FarFromFull, impl: farFrom. -/
import Derived.Test.YtnagmeeoeilbcaaFarB
import Derived.Test.YtnagmeeoeilbcaaTilesF
namespace Go.Proofs.Ytnagmeeoeilbcaa
open Go.RowKit
set_option linter.unusedVariables false

def lackTo (cs u : List Int) (k : Nat) : Int := ((List.range k).map fun j => max 0 (u.getD j 0 - cs.getD j 0)).sum
theorem lackTo_succ (cs u : List Int) (k : Nat) : lackTo cs u (k + 1) = lackTo cs u k + max 0 (u.getD k 0 - cs.getD k 0) := by
  unfold lackTo
  rw [List.range_succ, List.map_append, List.sum_append]
  simp
theorem lackTo_full (cs u : List Int) : lackTo cs u 9 = lackF cs u := by
  unfold lackF sum9
  rw [lackTo_succ, lackTo_succ, lackTo_succ, lackTo_succ, lackTo_succ, lackTo_succ, lackTo_succ, lackTo_succ, lackTo_succ]
  simp [lackTo]
theorem lackTo_bd {cs u : List Int} (hc : ∀ j, 0 ≤ cs.getD j 0) (hu : ∀ j, u.getD j 0 ≤ 20) : ∀ k, 0 ≤ lackTo cs u k ∧ lackTo cs u k ≤ 20 * k := by
  intro k
  induction k with
  | zero => simp [lackTo]
  | succ k ih => rw [lackTo_succ]; have := hc k; have := hu k; omega
def minTo (cs : List Int) (g : Nat) (u : List Int) (b k : Nat) : Int := (List.range k).foldl (fun m c => if c < b then m else min m (farF cs g (addC u c) c)) 100
theorem minTo_succ (cs : List Int) (g : Nat) (u : List Int) (b k : Nat) (h : b ≤ k) : minTo cs g u b (k + 1) = min (minTo cs g u b k) (farF cs g (addC u k) k) := by
  unfold minTo
  rw [List.range_succ, List.foldl_append]
  simp only [List.foldl_cons, List.foldl_nil]
  rw [if_neg (by omega)]
theorem minTo_low (cs : List Int) (g : Nat) (u : List Int) (b : Nat) : ∀ k, k ≤ b → minTo cs g u b k = 100 := by
  intro k
  induction k with
  | zero => intro _; rfl
  | succ k ih =>
    intro h
    unfold minTo
    rw [List.range_succ, List.foldl_append]
    simp only [List.foldl_cons, List.foldl_nil]
    rw [if_pos (by omega)]
    exact ih (by omega)
theorem minTo_full (cs : List Int) (g : Nat) (u : List Int) (b : Nat) : minTo cs g u b 16 = farF cs (g + 1) u b := rfl
theorem lackF_bd {cs u : List Int} (hc : ∀ j, 0 ≤ cs.getD j 0) (hu : ∀ j, u.getD j 0 ≤ 20) : 0 ≤ lackF cs u ∧ lackF cs u ≤ 180 := by
  rw [← lackTo_full]
  have := lackTo_bd hc hu 9
  omega
theorem addC_bd {u : List Int} {c g : Nat} (h : ∀ j, 0 ≤ u.getD j 0 ∧ u.getD j 0 + 3 * ((g : Int) + 1) ≤ 20) : ∀ j, 0 ≤ (addC u c).getD j 0 ∧ (addC u c).getD j 0 + 3 * (g : Int) ≤ 20 := by
  intro j
  by_cases hj : j < 9
  · rw [addC_get _ _ _ hj]
    have := h j
    have h0 := con_nonneg c j
    have h3 : con c j ≤ 3 := by unfold con; repeat (first | split | omega)
    omega
  · have e : (addC u c).getD j 0 = 0 := by
      rw [List.getD_eq_getElem?_getD, List.getElem?_eq_none (by rw [addC_len]; omega)]
      rfl
    have := h 0
    omega
theorem farF_bd {cs : List Int} (hc : ∀ j, 0 ≤ cs.getD j 0) : ∀ (g : Nat) (u : List Int) (b : Nat), (∀ j, 0 ≤ u.getD j 0 ∧ u.getD j 0 + 3 * (g : Int) ≤ 20) → 0 ≤ farF cs g u b ∧ farF cs g u b ≤ 180 := by
  intro g
  induction g with
  | zero =>
    intro u b hu
    unfold farF
    split
    · exact lackF_bd hc fun j => by have := hu j; omega
    · omega
  | succ g ih =>
    intro u b hu
    obtain ⟨h1, _, h3⟩ := foldl_min_le (fun c => farF cs g (addC u c) c) b (List.range 16) 100
    have e : farF cs (g + 1) u b = (List.range 16).foldl (fun m c => if c < b then m else min m (farF cs g (addC u c) c)) 100 := rfl
    rw [e]
    rcases h3 with q | ⟨c, _, _, q⟩
    · omega
    · rw [q]
      exact ih (addC u c) c (addC_bd (by intro j; have := hu j; omega))
theorem minTo_bd {cs : List Int} (hc : ∀ j, 0 ≤ cs.getD j 0) (g : Nat) (u : List Int) (b : Nat) (hu : ∀ j, 0 ≤ u.getD j 0 ∧ u.getD j 0 + 3 * ((g : Int) + 1) ≤ 20) (k : Nat) : 0 ≤ minTo cs g u b k ∧ minTo cs g u b k ≤ 100 := by
  obtain ⟨h1, _, h3⟩ := foldl_min_le (fun c => farF cs g (addC u c) c) b (List.range k) 100
  refine ⟨?_, h1⟩
  show 0 ≤ (List.range k).foldl (fun m c => if c < b then m else min m (farF cs g (addC u c) c)) 100
  rcases h3 with q | ⟨c, _, _, q⟩
  · omega
  · rw [q]; exact (farF_bd hc g (addC u c) c (addC_bd hu)).1
theorem set_three {u : List Int} (hu : u.length = 9) {c : Nat} (hc : c < 9) : u.set c (u.getD c 0 + 3) = addC u c := by
  refine ext9 (by simpa using hu) (addC_len _ _) fun j hj => ?_
  rw [addC_get _ _ _ hj, getD_set]
  by_cases e : c = j
  · subst e; rw [if_pos ⟨rfl, by omega⟩, con_three hc]
  · rw [if_neg (fun q => e q.1)]
    have : con c j = 0 := by unfold con; rw [if_pos hc, if_neg (by omega)]
    omega
def rowTo (u : List Int) (i t : Nat) : List Int := (List.range 9).map fun j => u.getD j 0 + (if i ≤ j ∧ j < i + t then 1 else 0)
theorem rowTo_len (u : List Int) (i t : Nat) : (rowTo u i t).length = 9 := by simp [rowTo]
theorem rowTo_get (u : List Int) (i t j : Nat) (h : j < 9) : (rowTo u i t).getD j 0 = u.getD j 0 + (if i ≤ j ∧ j < i + t then 1 else 0) := by simp [rowTo, h]
theorem rowTo_zero {u : List Int} (hu : u.length = 9) (i : Nat) : rowTo u i 0 = u := ext9 (rowTo_len _ _ _) hu fun j hj => by rw [rowTo_get _ _ _ _ hj, if_neg (by omega)]; omega
theorem rowTo_set {u : List Int} {i t : Nat} (h : i + t < 9) : (rowTo u i t).set (i + t) (u.getD (i + t) 0 + 1) = rowTo u i (t + 1) := by
  refine ext9 (by rw [List.length_set, rowTo_len]) (rowTo_len _ _ _) fun j hj => ?_
  rw [getD_set, rowTo_len, rowTo_get _ _ _ _ hj, rowTo_get _ _ _ _ hj]
  by_cases e : i + t = j
  · subst e; rw [if_pos ⟨rfl, h⟩, if_pos (by omega)]
  · rw [if_neg (fun q => e q.1)]
    by_cases q : i ≤ j ∧ j < i + t
    · rw [if_pos q, if_pos (by omega)]
    · rw [if_neg q, if_neg (by omega)]
theorem rowTo_full (u : List Int) (i : Nat) : rowTo u i 3 = addC u (9 + i) := ext9 (rowTo_len _ _ _) (addC_len _ _) fun j hj => by
  rw [rowTo_get _ _ _ _ hj, addC_get _ _ _ hj]
  by_cases q : i ≤ j ∧ j < i + 3
  · have e : con (9 + i) j = 1 := by unfold con; rw [if_neg (show ¬ 9 + i < 9 by omega), if_pos (by omega)]
    rw [if_pos q, e]
  · have e : con (9 + i) j = 0 := by unfold con; rw [if_neg (show ¬ 9 + i < 9 by omega), if_neg (by omega)]
    rw [if_neg q, e]

def FarOk (cs : List Int) (g : Nat) : Prop := ∀ (a : Option Addr) (c : Nat) (a' : Option Addr) (c' : Nat) (u : List Int) (b : Nat) (w : World), Ints w a 9 c cs → Ints w a' 9 c' u → (∀ j, 0 ≤ u.getD j 0 ∧ u.getD j 0 + 3 * (g : Int) ≤ 20) → b ≤ 16 →
    Calls Try.prog 26 #[.slice a 9 c, .slice a' 9 c', .int .i64 g, .int .i64 b] w (Ret w (.int .i64 (farF cs g u b)))

set_option maxHeartbeats 1600000 in
set_option maxRecDepth 100000 in
theorem farFrom_any (cs : List Int) (hcs : ∀ j, 0 ≤ cs.getD j 0 ∧ cs.getD j 0 ≤ 4) : ∀ g, g ≤ 4 → FarOk cs g := by
  obtain ⟨i0, hi, hz0, hz1, hz2⟩ := info_parts infoI64
  intro g
  induction g with
  | zero =>
    intro hg a c a' c' u b w h h' hu hb
    obtain ⟨hc, hbc, hcell⟩ := h.at
    obtain ⟨hc', hbc', hcell'⟩ := h'.at
    obtain ⟨bk, off, rfl, _, hx⟩ := hcell 0 (by omega)
    obtain ⟨bk', off', rfl, _, hy⟩ := hcell' 0 (by omega)
    have HX := Lib.hid hx
    have HY := Lib.hid hy
    have HCs := Lib.hid hcs
    have HU := Lib.hid hu
    have HF : Hid (farF cs 0 u b = if (List.range 9).all (fun j => decide (u.getD j 0 ≤ 4)) then lackF cs u else 100) := rfl
    clear h h' hcell hcell' hx hy hcs hu
    generalize farF cs 0 u b = FF at *
    go_enter Try.func26, Try.ntmps26
    go_wp2
    go_loop [9, 20] (fun vf vi => ∃ k : Nat, k ≤ 9 ∧ vi = .int .i64 k ∧ vf = .int .i64 (lackTo cs u k) ∧ ∀ j, j < k → u.getD j 0 ≤ 4) (fun _ vi => 9 - (intOf vi).toNat)
    case atStart => exact ⟨0, by omega, rfl, rfl, fun j hj => by omega⟩
    case round =>
      obtain ⟨k, hk, rfl, rfl, hto⟩ := hrel
      have HT := Lib.hid hto
      clear hto
      by_cases hlt : k < 9
      · have x0 := HX.out k hlt
        have y0 := HY.out k hlt
        have hc0 := HCs.out k
        have hu0 := HU.out k
        have hl0 := lackTo_bd (fun j => (HCs.out j).1) (fun j => by have := HU.out j; omega) k (u := u)
        have HSu := Lib.hid (lackTo_succ cs u k)
        have HNo : Hid (¬ u.getD k 0 ≤ 4 → FF = 100) := fun q => by rw [HF.out, if_neg (fun r => q ((all4 u).1 r k hlt))]
        have HYe : Hid (u.getD k 0 ≤ 4 → ∀ j, j < k + 1 → u.getD j 0 ≤ 4) := fun q j hj => by
          by_cases e : j = k
          · subst e; exact q
          · exact HT.out j (by omega)
        generalize lackTo cs u k = S at *
        generalize u.getD k 0 = x at *
        generalize cs.getD k 0 = y at *
        by_cases hx4 : x ≤ 4
        · have HG := Lib.hid (HYe.out hx4)
          have HMx : Hid (max 0 (x - y) = if y < x then x - y else 0) := by show _ = _; split <;> omega
          clear HNo HYe
          go_wp2
          go_round
          case rel => exact ⟨k + 1, by omega, by go_num, by rw [HSu.out, HMx.out], HG.out⟩
          case measure => simp [intOf]; omega
        · have HG := Lib.hid (HNo.out hx4)
          clear HNo HYe
          go_wp2
          go_ret
          exact ⟨ret_int HG.out.symm, Below.refl _ _⟩
      · obtain rfl : k = 9 := by omega
        have HG : Hid (FF = lackTo cs u 9) := by
          show _ = _
          rw [HF.out, if_pos ((all4 u).2 HT.out), lackTo_full]
        go_wp2
        go_ret
        exact ⟨ret_int HG.out.symm, Below.refl _ _⟩
  | succ g ih =>
    intro hg a c a' c' u b w h h' hu hb
    have HIH := Lib.hid (ih (by omega))
    have H1 := Lib.hid h
    have H2 := Lib.hid h'
    have HCs := Lib.hid hcs
    have HU := Lib.hid hu
    have HUl := Lib.hid h'.len
    have HF := Lib.hid (minTo_full cs g u b)
    have HLo := Lib.hid (minTo_low cs g u b b (Nat.le_refl _))
    obtain ⟨hc, hbc, _⟩ := h.at
    obtain ⟨hc', hbc', _⟩ := h'.at
    have hg0 : (((g : Int) + 1) == 0) = false := by simp only [beq_eq_false_iff_ne]; omega
    clear h h' ih hcs hu
    go_enter Try.func26, Try.ntmps26
    go_wp2
    go_loopw [12, 13] (fun vm vc wr => ∃ k : Nat, b ≤ k ∧ k ≤ 16 ∧ vc = .int .i64 k ∧ vm = .int .i64 (minTo cs g u b k) ∧ Below w.heap.size w wr) (fun _ vc _ => 16 - (intOf vc).toNat)
    case atStart => exact ⟨b, by omega, by omega, rfl, by rw [HLo.out], Below.refl _ _⟩
    case round =>
      obtain ⟨k, hbk, hk, rfl, rfl, hbel⟩ := hrel
      have HB := Lib.hid hbel
      have hbs := hbel.size
      clear hbel
      by_cases hlt : k < 16
      · have CC := Lib.hid (cloneI64_any a' 9 c' u wr (H2.out.mono HB.out) (by omega))
        have HSu := Lib.hid (minTo_succ cs g u b k hbk)
        have hmb := minTo_bd (fun j => (HCs.out j).1) g u b (by intro j; have := HU.out j; omega) k
        have HBd := Lib.hid (addC_bd (u := u) (c := k) (g := g) (by intro j; have := HU.out j; omega))
        have hfb := farF_bd (fun j => (HCs.out j).1) g (addC u k) k HBd.out
        generalize minTo cs g u b k = m at *
        go_wp2_with (fail)
        refine CC.out.mono ?_
        rintro e w2 ⟨na, nc, rfl, hb2, ho2⟩
        obtain ⟨gb, rfl⟩ := own_some ho2 (by omega)
        have HB2 := Lib.hid (HB.out.trans (hb2.mono hbs))
        have HO2 := Lib.hid ho2
        have hgb := own_block ho2
        have hnc : 9 ≤ nc ∧ nc ≤ 9223372036854775807 := by have := Rd.own ho2; exact ⟨this.2.1, this.2.2.1⟩
        clear hb2 ho2 CC
        by_cases h9 : k < 9
        · have x0 := own_get HO2.out k h9
          have hu0 := HU.out k
          have f0 : ∀ j, w2.frozen? ⟨gb, j, none⟩ = false := fun j => HO2.out.frozenAt j
          have HSt := Lib.hid (set_three HUl.out h9)
          generalize u.getD k 0 = x at *
          have HO3 := Lib.hid (own_put HO2.out k (x + 3))
          have HB3 : Hid (Below w.heap.size w (w2.setCell ⟨gb, k, none⟩ (.int .i64 (x + 3)))) := HB2.out.setCell (by dsimp only; omega) _
          have CR := Lib.hid (HIH.out a c (some ⟨gb, 0, none⟩) nc (addC u k) k (w2.setCell ⟨gb, k, none⟩ (.int .i64 (x + 3))) (H1.out.mono HB3.out) (by have := Rd.own HO3.out; rw [HSt.out] at this; exact this) HBd.out (by omega))
          clear HO2 HO3 HSt
          generalize farF cs g (addC u k) k = V at *
          go_wp2_with (fail)
          refine CR.out.mono ?_
          rintro e w4 ⟨rfl, hb4⟩
          have HB4 : Hid (Below w.heap.size w w4) := HB3.out.trans (hb4.mono HB3.out.size)
          clear hb4 CR
          by_cases hvm : V < m
          · have HMn : Hid (min m V = V) := by show _ = _; omega
            go_wp2
            go_roundw
            case rel =>
              first
                | exact ⟨k + 1, by omega, by omega, by go_num, by rw [HSu.out, HMn.out], HB4.out⟩
                | (repeat apply Exists.intro
                   refine And.intro ?r ?e
                   case e => (repeat (first | exact rfl | refine And.intro rfl ?_))
                   case r => exact ⟨k + 1, by omega, by omega, by go_num, by rw [HSu.out, HMn.out], HB4.out⟩)
            case measure => simp [intOf]; omega
          · have HMn : Hid (min m V = m) := by show _ = _; omega
            go_wp2
            go_roundw
            case rel =>
              first
                | exact ⟨k + 1, by omega, by omega, by go_num, by rw [HSu.out, HMn.out], HB4.out⟩
                | (repeat apply Exists.intro
                   refine And.intro ?r ?e
                   case e => (repeat (first | exact rfl | refine And.intro rfl ?_))
                   case r => exact ⟨k + 1, by omega, by omega, by go_num, by rw [HSu.out, HMn.out], HB4.out⟩)
            case measure => simp [intOf]; omega
        · obtain ⟨q, hq⟩ : ∃ q, k = 9 + q := ⟨k - 9, by omega⟩
          have hq7 : q < 7 := by omega
          have HU9 := Lib.hid (rowTo_zero HUl.out q)
          have hk9 : ¬ ((k : Int) < 9) := by omega
          have hq1 : k ≤ 9 + q := by omega
          have hq2 : 9 + q ≤ k := by omega
          have HQ := Lib.hid hq
          clear hq
          go_wp2
          obtain ⟨wo, rfl⟩ : ∃ wo : World, wo = wr := ⟨_, rfl⟩
          go_loopw [15] (fun vk w3 => ∃ t : Nat, t ≤ 3 ∧ vk = .int .i64 ((q + t : Nat) : Int) ∧ Below w.heap.size w w3 ∧ w3.ownsRow wo.heap.size 2 1 (.slice (some ⟨gb, 0, none⟩) 9 nc) 9 (intCells (rowTo u q t))) (fun vk _ => q + 3 - (intOf vk).toNat)
          case atStart => exact ⟨0, by omega, by go_num, HB2.out, by rw [HU9.out]; exact HO2.out⟩
          case round =>
            rename_i w3
            obtain ⟨t, ht, rfl, hbel3, hown3⟩ := hrel
            have HB3 := Lib.hid hbel3
            have HO3 := Lib.hid hown3
            clear hbel3 hown3
            by_cases ht3 : t < 3
            · have hqt : q + t < 9 := by omega
              have x0 := own_get HO3.out (q + t) hqt
              rw [rowTo_get _ _ _ _ hqt, if_neg (by omega)] at x0
              have hu0 := HU.out (q + t)
              have f0 : ∀ j, wr.frozen? ⟨gb, j, none⟩ = false := fun j => HO3.out.frozenAt j
              have HSt := Lib.hid (rowTo_set (u := u) (i := q) (t := t) hqt)
              have HO4 := Lib.hid (own_put HO3.out (q + t) (u.getD (q + t) 0 + 1))
              rw [HSt.out] at HO4
              rw [Int.add_zero] at x0
              generalize u.getD (q + t) 0 = x at *
              clear HO3 HSt
              go_wp2
              go_roundw
              case rel => exact ⟨t + 1, by omega, by go_num, HB3.out.setCell (by dsimp only; omega) _, HO4.out⟩
              case measure => simp [intOf]; omega
            · obtain rfl : t = 3 := by omega
              have HO4 : Hid (wr.ownsRow wo.heap.size 2 1 (.slice (some ⟨gb, 0, none⟩) 9 nc) 9 (intCells (addC u k))) := by
                show wr.ownsRow _ _ _ _ _ _
                have := HO3.out
                rw [rowTo_full, ← HQ.out] at this
                exact this
              have CR := Lib.hid (HIH.out a c (some ⟨gb, 0, none⟩) nc (addC u k) k wr (H1.out.mono HB3.out) (Rd.own HO4.out) HBd.out (by omega))
              clear HO3 HO4
              generalize farF cs g (addC u k) k = V at *
              go_wp2_with (fail)
              refine CR.out.mono ?_
              rintro e w4 ⟨rfl, hb4⟩
              have HB4 : Hid (Below w.heap.size w w4) := HB3.out.trans (hb4.mono HB3.out.size)
              clear hb4 CR
              by_cases hvm : V < m
              · have HMn : Hid (min m V = V) := by show _ = _; omega
                go_wp2
                go_roundw
                case rel =>
                  first
                    | exact ⟨k + 1, by omega, by omega, by go_num, by rw [HSu.out, HMn.out], HB4.out⟩
                    | (repeat apply Exists.intro
                       refine And.intro ?r ?e
                       case e => (repeat (first | exact rfl | refine And.intro rfl ?_))
                       case r => exact ⟨k + 1, by omega, by omega, by go_num, by rw [HSu.out, HMn.out], HB4.out⟩)
                case measure => simp [intOf]; omega
              · have HMn : Hid (min m V = m) := by show _ = _; omega
                go_wp2
                go_roundw
                case rel =>
                  first
                    | exact ⟨k + 1, by omega, by omega, by go_num, by rw [HSu.out, HMn.out], HB4.out⟩
                    | (repeat apply Exists.intro
                       refine And.intro ?r ?e
                       case e => (repeat (first | exact rfl | refine And.intro rfl ?_))
                       case r => exact ⟨k + 1, by omega, by omega, by go_num, by rw [HSu.out, HMn.out], HB4.out⟩)
                case measure => simp [intOf]; omega
      · obtain rfl : k = 16 := by omega
        have HG : Hid (farF cs (g + 1) u b = minTo cs g u b 16) := HF.out.symm
        go_wp2
        go_ret
        exact ⟨ret_int HG.out.symm, HB.out⟩

end Go.Proofs.Ytnagmeeoeilbcaa
