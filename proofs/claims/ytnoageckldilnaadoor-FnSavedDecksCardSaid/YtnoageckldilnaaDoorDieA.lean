/- Slices of dice: how they read, and the laws' own words on them. -/
import Derived.Test.YtnoageckldilnaaDoorIntSS
import Derived.StillTailTactics
namespace Go.Proofs.YtnoageckldilnaaDoor
open Go.RowKit
set_option linter.unusedVariables false

theorem infoDie : (Tryd.prog.info? 82).map (fun i => (i.zero, i.size, i.bytes)) = some (some (.agg #[.slice none 0 0]), 1, 24) := by kernel_rfl

/-- Rows of one's own, those that p names, in blocks from lo on, below hi; no two in one block. -/
structure OwnD (p : Nat → Prop) (lo hi : Nat) (w : World) (v : Value) (n : Nat) (ss : List Spot) (xss : List (List Int)) : Prop where
  out : w.ownsRow lo 82 1 v n (spotCells ss)
  ouh : ∀ g, v.ownBlock = some g → g < hi
  own : ∀ i, p i → w.ownsRow lo 2 1 (spotV (ss.getD i spot0)) (xss.getD i []).length (intCells (xss.getD i []))
  inn : ∀ i, p i → ∀ g, OB ss i = some g → g < hi
  apart : ∀ i j, i ≠ j → p i → p j → OB ss i = none ∨ OB ss i ≠ OB ss j
  apo : ∀ i, p i → OB ss i = none ∨ OB ss i ≠ v.ownBlock
section
variable {p q : Nat → Prop} {lo hi : Nat} {w w' : World} {v : Value} {n : Nat} {ss : List Spot} {xss : List (List Int)}
theorem OwnD.sl (h : OwnD p lo hi w v n ss xss) : ss.length = n := by have := h.out.1; rw [spotCells_len] at this; omega
theorem OwnD.sub (h : OwnD p lo hi w v n ss xss) (hq : ∀ i, q i → p i) : OwnD q lo hi w v n ss xss :=
  ⟨h.out, h.ouh, fun i hi => h.own i (hq i hi), fun i hi => h.inn i (hq i hi), fun i j e a b => h.apart i j e (hq i a) (hq j b), fun i hi => h.apo i (hq i hi)⟩
theorem OwnD.wide {hi' : Nat} (h : OwnD p lo hi w v n ss xss) (hh : hi ≤ hi') : OwnD p lo hi' w v n ss xss :=
  ⟨h.out, fun g e => Nat.lt_of_lt_of_le (h.ouh g e) hh, h.own, fun i hi g e => Nat.lt_of_lt_of_le (h.inn i hi g e) hh, h.apart, h.apo⟩
theorem OwnD.keep (h : OwnD p lo hi w v n ss xss) (hk : ∀ g, lo ≤ g → g < hi → g < w.heap.size → w'.heap[g]? = w.heap[g]?) : OwnD p lo hi w' v n ss xss :=
  ⟨own_keep h.out fun g e => by have := h.out.lt g e; exact hk g this.1 (h.ouh g e) this.2, h.ouh, fun i hi => own_keep (h.own i hi) fun g e => by have := (h.own i hi).lt g e; exact hk g this.1 (h.inn i hi g e) this.2, h.inn, h.apart, h.apo⟩
theorem OwnD.below (h : OwnD p lo hi w v n ss xss) (hb : Below w.heap.size w w') : OwnD p lo hi w' v n ss xss := h.keep fun g _ _ hg => hb.block g hg
theorem OwnD.chg {l r : Nat} (h : OwnD p lo hi w v n ss xss) (hc : Chg l r w w') (hd : hi ≤ l ∨ r ≤ lo) : OwnD p lo hi w' v n ss xss := h.keep fun g h1 h2 hg => hc.block g hg (by omega)
/-- Behind a write to row k. -/
theorem OwnD.wrote {k : Nat} (h : OwnD p lo hi w v n ss xss) (hk : p k) (hg : w.grownBy w' (OB ss k)) : OwnD (fun i => p i ∧ i ≠ k) lo hi w' v n ss xss :=
  ⟨h.out.kept hg (by
      rcases h.apo k hk with e | e
      · rw [e]
        cases hv : v.ownBlock <;> simp
      · exact .inr (Ne.symm e)),
    h.ouh, fun i hi => (h.own i hi.1).kept hg (h.apart i k hi.2 hi.1 hk), fun i hi => h.inn i hi.1, fun i j e a b => h.apart i j e a.1 b.1, fun i hi => h.apo i hi.1⟩
end
/-- Slices of one's own of slices of one's own. -/
structure OwnDS (lo hi : Nat) (w : World) (a : Option Addr) (n c : Nat) (ss : List Spot) (xss : List (List Int)) : Prop where
  len : xss.length = n
  p : OwnD (fun i => i < n) lo hi w (.slice a n c) n ss xss
theorem OwnDS.rd {lo hi : Nat} {w : World} {a : Option Addr} {n c : Nat} {ss : List Spot} {xss : List (List Int)} (h : OwnDS lo hi w a n c ss xss) : IntSS w a n c ss xss :=
  ⟨Rd.own h.p.out, h.len, fun i hi => by
    have ho := h.p.own i hi
    obtain ⟨A, C, e⟩ := own_form ho
    rcases hs : ss.getD i spot0 with ⟨A', L', C'⟩
    rw [hs] at ho e
    simp only [spotV, Value.slice.injEq] at e
    obtain ⟨rfl, e2, rfl⟩ := e
    subst e2
    exact Rd.own ho⟩

/-- Behind a write to row k: its numbers are others now. -/
theorem OwnD.marked {p : Nat → Prop} {lo hi : Nat} {w w' : World} {v : Value} {n : Nat} {ss : List Spot} {xss : List (List Int)} {k : Nat} {ys : List Int} (h : OwnD p lo hi w v n ss xss) (hk : p k) (hkl : k < xss.length) (hg : w.grownBy w' (OB ss k)) (ho : w'.ownsRow lo 2 1 (spotV (ss.getD k spot0)) ys.length (intCells ys)) : OwnD p lo hi w' v n ss (xss.set k ys) := by
  have h1 := h.wrote hk hg
  refine ⟨h1.out, h.ouh, fun i hi => ?_, h.inn, h.apart, h.apo⟩
  by_cases q : i = k
  · subst q
    rw [getD_set_self _ _ _ _ hkl]
    exact ho
  · rw [getD_set_ne _ _ _ _ _ (Ne.symm q)]
    exact h1.own i ⟨hi, q⟩

/-- rows that are marks, as many as k -/
def mkTo (xss : List (List Int)) (x : Int) : Nat → List (List Int)
  | 0 => xss
  | k + 1 => (mkTo xss x k).set k (marks (x + totTo xss k) (xss.getD k []).length)
theorem mkTo_len (xss : List (List Int)) (x : Int) (k : Nat) : (mkTo xss x k).length = xss.length := by
  induction k with
  | zero => rfl
  | succ k ih => simp [mkTo, ih]
theorem mkTo_get (xss : List (List Int)) (x : Int) (k i : Nat) (hi : i < xss.length) : (mkTo xss x k).getD i [] = if i < k then marks (x + totTo xss i) (xss.getD i []).length else xss.getD i [] := by
  induction k with
  | zero => rfl
  | succ k ih =>
    show ((mkTo xss x k).set k _).getD i [] = _
    by_cases q : i = k
    · subst q
      rw [getD_set_self _ _ _ _ (by rw [mkTo_len]; exact hi), if_pos (by omega)]
    · rw [getD_set_ne _ _ _ _ _ (Ne.symm q), ih]
      by_cases h : i < k
      · rw [if_pos h, if_pos (by omega)]
      · rw [if_neg h, if_neg (by omega)]

theorem szDie_ok (a : Option Addr) (n c : Nat) (x : Int) (w : World) (h0 : n ≤ 9223372036854775807) (h : (n : Int) ≤ x) (hx : x ≤ 1048576) :
    Calls Tryd.prog 64 #[.agg #[.slice a n c], .int .i64 x] w (Ret w (.int .i64 (x - n))) := by
  go_enter Tryd.func64, Tryd.ntmps64
  go_wp2_with (fail)
  have HB : Below w.heap.size w _ := (Below.refl w.heap.size w).alloc (Nat.le_refl _) (.cells #[.slice a n c] 94)
  refine (szInt64S_ok a n c x _ h0 h hx).mono ?_
  rintro e w1 ⟨rfl, rfl⟩
  go_wp2
  go_ret
  exact ⟨rfl, HB⟩

theorem szDie_no (a : Option Addr) (n c : Nat) (x : Int) (w : World) (h0 : n ≤ 9223372036854775807) (h : x < (n : Int)) (hx : 0 ≤ x) (hx' : x ≤ 1048576) :
    Calls Tryd.prog 64 #[.agg #[.slice a n c], .int .i64 x] w (Ret w (.int .i64 (-1))) := by
  go_enter Tryd.func64, Tryd.ntmps64
  go_wp2_with (fail)
  have HB : Below w.heap.size w _ := (Below.refl w.heap.size w).alloc (Nat.le_refl _) (.cells #[.slice a n c] 94)
  refine (szInt64S_no a n c x _ h0 h hx hx').mono ?_
  rintro e w1 ⟨rfl, rfl⟩
  go_wp2
  go_ret
  exact ⟨rfl, HB⟩

set_option maxHeartbeats 400000 in
theorem szDieS_any (a : Option Addr) (n c : Nat) (ss : List Spot) (xss : List (List Int)) (x : Int) (w : World) (h : IntSS w a n c ss xss) (hx : 0 ≤ x) (hx' : x ≤ 1048576) :
    Calls Tryd.prog 34 #[.slice a n c, .int .i64 x] w (Ret w (.int .i64 (szSS x xss))) := by
  obtain ⟨hc, hb, hcell⟩ := h.at
  have hl := h.len
  have HS : Hid (szSS x xss = if (n : Int) + tot xss ≤ x then x - n - tot xss else -1) := by show _ = _; unfold szSS; rw [hl]
  have HR := Lib.hid (fun i hi => (h.row i hi).len)
  have HM := Lib.hid (fun k (hk : k ≤ n) => totTo_mono xss hk (by omega : n ≤ xss.length))
  have HT : Hid (tot xss = totTo xss n) := by show _ = _; unfold tot; rw [hl]
  have HU := Lib.hid (fun k (hk : k < n) => totTo_succ xss k (by omega))
  have HL := Lib.hid (fun i hi => (h.row i hi).at)
  clear h hl
  by_cases hn : (n : Int) ≤ x
  case neg =>
    have e : szSS x xss = -1 := by rw [HS.out, if_neg (by omega)]
    rw [e]
    clear e HS HR HM HT HU HL hcell
    go_enter Tryd.func34, Tryd.ntmps34
    go_wp2
    go_ret
    exact ⟨rfl, Below.refl _ _⟩
  generalize szSS x xss = r at *
  generalize tot xss = t at *
  go_enter Tryd.func34, Tryd.ntmps34
  go_wp2
  go_loopw [1, 5] (fun m i wr => ∃ k : Nat, k ≤ n ∧ i = .int .i64 k ∧ m = .int .i64 (x - n - totTo xss k) ∧ (n : Int) + totTo xss k ≤ x ∧ Below w.heap.size w wr) (fun _ i _ => n - (intOf i).toNat)
  case atStart => exact ⟨0, by omega, rfl, by rw [totTo_zero]; simp, by rw [totTo_zero]; omega, Below.refl _ _⟩
  case round =>
    obtain ⟨k, hk, rfl, rfl, hle, hbr⟩ := hrel
    have HB := Lib.hid hbr
    by_cases hlt : k < n
    · obtain ⟨b, off, rfl, hlb, hcx⟩ := hcell k hlt
      have h0 := cell_on hbr (hcx k hlt)
      have hr := HR.out k hlt
      have hu := HU.out k hlt
      have hm := HM.out (k + 1) (by omega)
      have ht := HT.out
      obtain ⟨g1, g2, _⟩ := HL.out k hlt
      rw [hr] at hu
      clear hcell hcx hr hbr
      rcases hsp : ss.getD k spot0 with ⟨A, L, C⟩
      rw [hsp] at h0 hu g1 g2
      dsimp only at h0 hu g1 g2
      clear hsp
      generalize hT0 : totTo xss k = T0 at *
      by_cases hok : (n : Int) + T0 + L ≤ x
      · go_wp2_with (fail)
        refine (szDie_ok A L C (x - n - T0) wr (by omega) (by omega) (by omega)).mono ?_
        rintro e w1 ⟨rfl, hb1⟩
        have HB1 := Lib.hid (HB.out.trans (hb1.mono HB.out.size))
        clear hb1
        go_wp2
        go_roundw
        case rel => exact ⟨k + 1, by omega, by go_num, by first | go_num | (congr 1; omega), by omega, HB1.out⟩
        case measure => simp [intOf]; omega
      · have e : r = -1 := by rw [HS.out, if_neg (by omega)]
        subst e
        go_wp2_with (fail)
        refine (szDie_no A L C (x - n - T0) wr (by omega) (by omega) (by omega) (by omega)).mono ?_
        rintro e w1 ⟨rfl, hb1⟩
        have HB1 := Lib.hid (HB.out.trans (hb1.mono HB.out.size))
        clear hb1
        go_wp2
        go_ret
        exact ⟨rfl, HB1.out⟩
    · obtain rfl : k = n := by omega
      have ht := HT.out
      rw [← ht] at hle ⊢
      have e : r = x - k - t := by rw [HS.out, if_pos (by omega)]
      subst e
      clear hcell hbr
      go_wp2
      go_ret
      exact ⟨rfl, HB.out⟩

set_option maxHeartbeats 400000 in
theorem markDieS_any (lo hi : Nat) (a : Option Addr) (n c : Nat) (ss : List Spot) (xss : List (List Int)) (x : Int) (w : World) (h : OwnDS lo hi w a n c ss xss) (hx : 0 ≤ x) (hx' : x + tot xss ≤ 4611686018427387904) :
    Calls Tryd.prog 60 #[.slice a n c, .int .i64 x] w fun e w' => e = .returned (.int .i64 (x + tot xss)) ∧ Chg lo hi w w' ∧ OwnDS lo hi w' a n c ss (mkTo xss x n) := by
  obtain ⟨hc, hb, _⟩ := h.rd.at
  have hl := h.len
  have HM := Lib.hid (fun k (hk : k ≤ n) => totTo_mono xss hk (by omega : n ≤ xss.length))
  have HT : Hid (tot xss = totTo xss n) := by show _ = _; unfold tot; rw [hl]
  have HU := Lib.hid (fun k (hk : k < n) => totTo_succ xss k (by omega))
  have HP := Lib.hid h.p
  have HLn := Lib.hid hl
  clear h hl
  generalize tot xss = t at *
  go_enter Tryd.func60, Tryd.ntmps60
  go_wp2
  go_loopw [1, 5] (fun m i wr => ∃ k : Nat, k ≤ n ∧ i = .int .i64 k ∧ m = .int .i64 (x + totTo xss k) ∧ OwnD (fun i => i < n) lo hi wr (.slice a n c) n ss (mkTo xss x k) ∧ Chg lo hi w wr) (fun _ i _ => n - (intOf i).toNat)
  case atStart => exact ⟨0, by omega, rfl, by rw [totTo_zero]; simp, HP.out, Chg.refl _ _ _⟩
  case round =>
    obtain ⟨k, hk, rfl, rfl, hp, hchg⟩ := hrel
    have HC := Lib.hid hchg
    clear hchg
    by_cases hlt : k < n
    · have ho := hp.own k hlt
      rw [mkTo_get _ _ _ _ (by rw [HLn.out]; exact hlt), if_neg (by omega)] at ho
      have hs := hp.sl
      have hin := hp.inn k hlt
      have hu := HU.out k hlt
      have hm := HM.out (k + 1) (by omega)
      have ht := HT.out
      have HPw := Lib.hid hp
      have h0 : ∃ g, a = some ⟨g, 0, none⟩ ∧ wr.cell? ⟨g, k, none⟩ = some (spotV (ss.getD k spot0)) := by
        rcases hp.out.2 with h2 | ⟨g, cap, cur, e, _⟩
        · omega
        · simp only [Value.slice.injEq] at e
          obtain ⟨rfl, _, rfl⟩ := e
          refine ⟨g, rfl, ?_⟩
          rw [hp.out.cellAt k (by omega), spotCells_get _ _ (by omega)]
      obtain ⟨g, rfl, h0⟩ := h0
      obtain ⟨A, C, e⟩ := own_form ho
      have hOB : OB ss k = (spotV (ss.getD k spot0)).ownBlock := rfl
      rw [e] at ho h0 hOB
      clear hp hs
      rw [hOB] at hin
      have HOB := Lib.hid hOB
      have HIN := Lib.hid hin
      have CM := Lib.hid (markInt64S_any lo _ _ _ (x + totTo xss k) wr ho (by omega) (by omega))
      have HO := Lib.hid ho
      have HE := Lib.hid e
      clear ho hOB hin e
      generalize hRl : (xss.getD k []).length = L at *
      have HRl := Lib.hid hRl
      clear hRl
      generalize hT1 : totTo xss (k + 1) = T1 at *
      have HT1 := Lib.hid hT1
      clear hT1
      generalize hT0 : totTo xss k = T0 at *
      have HT0 := Lib.hid hT0
      clear hT0
      go_wp2_with (fail)
      refine CM.out.mono ?_
      rintro e w1 ⟨rfl, hm1, hg⟩
      have HC1 : Hid (Chg lo hi w w1) := HC.out.trans ⟨hg.os, hg.tape, hg.output, hg.size, fun i hi hr => hg.block i hi (fun e => by
        have h1 := HO.out.lt i e.symm
        have h2 := HIN.out i e.symm
        omega)⟩
      have HP1 : Hid (OwnD (fun i => i < n) lo hi w1 (.slice (some ⟨g, 0, none⟩) n c) n ss (mkTo xss x (k + 1))) := by
        show OwnD _ _ _ _ _ _ _ _
        refine HPw.out.marked (k := k) hlt (by rw [mkTo_len, HLn.out]; exact hlt) (by rw [HOB.out]; exact hg) ?_
        rw [HE.out, marks_len, HRl.out, HT0.out]
        exact hm1
      clear hg h0 hm1
      go_wp2
      go_roundw
      case rel => exact ⟨k + 1, by omega, by go_num, by rw [HT1.out]; first | go_num | (congr 1; omega), HP1.out, HC1.out⟩
      case measure => simp [intOf]; omega
    · obtain rfl : k = n := by omega
      have ht := HT.out
      rw [← ht]
      have HP2 := Lib.hid hp
      clear hp
      go_wp2
      go_ret
      exact ⟨rfl, HC.out, by rw [mkTo_len]; exact HLn.out, HP2.out⟩

theorem eqDie_same (a : Option Addr) (n c : Nat) (a' : Option Addr) (c' : Nat) (xs : List Int) (w : World) (h : Ints w a n c xs) (h' : Ints w a' n c' xs) :
    Calls Tryd.prog 74 #[.agg #[.slice a n c], .agg #[.slice a' n c']] w (Ret w (.bool true)) := by
  go_enter Tryd.func74, Tryd.ntmps74
  go_wp2_with (fail)
  have HB0 : Below w.heap.size w _ := ((Below.refl w.heap.size w).alloc (Nat.le_refl _) (.cells #[.slice a n c] 82)).alloc (by simp) (.cells #[.slice a' n c'] 82)
  refine (eqInt64S_any _ _ _ _ _ _ _ _ _ (h.mono HB0) (h'.mono HB0)).mono ?_
  rintro e w1 ⟨rfl, hq1⟩
  have HB1 := HB0.trans (hq1.b.mono HB0.size)
  clear hq1
  go_wp2
  go_ret
  exact ⟨rfl, HB1⟩

set_option maxRecDepth 100000 in
theorem eqDieS_same (a : Option Addr) (n c : Nat) (ss : List Spot) (a' : Option Addr) (c' : Nat) (ss' : List Spot) (xss : List (List Int)) (w : World) (h : IntSS w a n c ss xss) (h' : IntSS w a' n c' ss' xss) :
    Calls Tryd.prog 42 #[.slice a n c, .slice a' n c'] w (Ret w (.bool true)) := by
  obtain ⟨hc, hb, hcell⟩ := h.at
  obtain ⟨hc', hb', hcell'⟩ := h'.at
  have HR := Lib.hid h.row
  have HR' := Lib.hid h'.row
  have HLn := Lib.hid (fun i hi => (h.row i hi).len)
  have HLn' := Lib.hid (fun i hi => (h'.row i hi).len)
  clear h h'
  go_enter Tryd.func42, Tryd.ntmps42
  go_wp2
  go_loopw [5] (fun i wr => ∃ k : Nat, k ≤ n ∧ i = .int .i64 k ∧ Below w.heap.size w wr) (fun i _ => n - (intOf i).toNat)
  case atStart => exact ⟨0, by omega, rfl, Below.refl _ _⟩
  case round =>
    obtain ⟨k, hk, rfl, hbel⟩ := hrel
    by_cases hlt : k < n
    · obtain ⟨b, off, rfl, hlb, hx⟩ := hcell k hlt
      obtain ⟨b', off', rfl, hlb', hy⟩ := hcell' k hlt
      have hxk := cell_on hbel (hx k hlt)
      have hyk := cell_on hbel (hy k hlt)
      have r1 := (HR.out k hlt).mono hbel
      have r2 := (HR'.out k hlt).mono hbel
      have e2 := (HLn.out k hlt).symm.trans (HLn'.out k hlt)
      have HB := Lib.hid hbel
      have HS := Lib.hid hbel.size
      clear hcell hcell' hx hy hbel HR HR' HLn HLn'
      rcases hsx : ss.getD k spot0 with ⟨A, L, C⟩
      rcases hsy : ss'.getD k spot0 with ⟨A', L', C'⟩
      rw [hsx] at hxk r1 e2
      rw [hsy] at hyk r2 e2
      dsimp only at hxk hyk r1 r2 e2
      subst e2
      have CC := Lib.hid (eqDie_same A L C A' C' _ wr.drew r1 r2)
      clear hsx hsy r1 r2
      go_wp2_with (fail)
      go_still_tail 8, (by kernel_rfl)
      change wpList _ _ _ _ _ wr.drew
      go_wp2_with (fail)
      refine CC.out.mono ?_
      rintro e w2 ⟨rfl, hb2⟩
      have HB2 := Lib.hid (HB.out.drew.trans (hb2.mono HS.out))
      clear hb2
      go_wp2
      go_roundw
      case rel => exact ⟨k + 1, by omega, by go_num, HB2.out⟩
      case measure => simp [intOf]; omega
    · obtain rfl : k = n := by omega
      have HB := Lib.hid hbel
      clear hbel hcell hcell'
      go_wp2
      go_ret
      exact ⟨rfl, HB.out⟩

theorem toDie_any (a : Option Addr) (n c : Nat) (xs : List Int) (w : World) (h : Ints w a n c xs) (hn : n ≤ 1048576) :
    Calls Tryd.prog 68 #[.agg #[.slice a n c]] w fun e w' => ∃ g, e = .returned (.agg #[.slice (some ⟨g, 0, none⟩) n n]) ∧ Below w.heap.size w w' ∧ w'.ownsRow w.heap.size 2 1 (.slice (some ⟨g, 0, none⟩) n n) n (intCells xs) := by
  go_enter Tryd.func68, Tryd.ntmps68
  go_wp2_with (fail)
  have HB : Below w.heap.size w _ := (((Below.refl w.heap.size w).alloc (Nat.le_refl _) (.cells #[.slice a n c] 94)).alloc (by simp) (.cells #[.slice none 0 0] 82)).alloc (by simp; omega) (.cells #[.slice none 0 0] 82)
  refine (toInt64S_any _ _ _ _ _ (h.mono HB) hn).mono ?_
  rintro e w1 ⟨g0, rfl, hb1, ho0⟩
  have r0 := cell_on hb1 (p := ⟨w.heap.size + 1, 0, none⟩) (v := .slice none 0 0) (by go_simp)
  have q0 := cell_on hb1 (p := ⟨w.heap.size + 1 + 1, 0, none⟩) (v := .slice none 0 0) (by go_simp)
  have f0 := frozen_on hb1 (p := ⟨w.heap.size + 1 + 1, 0, none⟩) (by simp) (by go_simp)
  have e0 := frozen_on hb1 (p := ⟨w.heap.size + 1, 0, none⟩) (by simp) (by go_simp)
  have hz1 : w.heap.size + 3 ≤ w1.heap.size := by have := hb1.size; simp at this; omega
  have HB1 := HB.trans (hb1.mono HB.size)
  have hi0 := own_in ho0
  have hj0 : w.heap.size + 3 ≤ g0 := by have := hi0 _ rfl; simp at this; omega
  have ho1 := ownsRow_low ho0 (base' := w.heap.size) (by simp; omega)
  clear hb1 ho0 hi0
  go_wp2_with (fail)
  refine bodyPost_ret (v := .agg #[.slice (some ⟨g0, 0, none⟩) n n]) (by simp [results, Tryd.results68, go_sem, r0]) rfl ⟨g0, rfl, ?_, ?_⟩
  · exact (HB1.setCell (by simp; omega) _).setCell (by simp) _
  · exact ownsRow_setCell_other (ownsRow_setCell_other ho1 (fun y hy => by obtain rfl := Option.some.inj hy; dsimp only; omega) _) (fun y hy => by obtain rfl := Option.some.inj hy; dsimp only; omega) _

set_option maxHeartbeats 400000 in
theorem toDieS_any (a : Option Addr) (n c : Nat) (ss : List Spot) (xss : List (List Int)) (w : World) (h : IntSS w a n c ss xss) (hn : n ≤ 1048576) (hr : ∀ i, i < n → (xss.getD i []).length ≤ 1048576) :
    Calls Tryd.prog 37 #[.slice a n c] w fun e w' => ∃ (g : Nat) (ts : List Spot), e = .returned (.slice (some ⟨g, 0, none⟩) n n) ∧ Below w.heap.size w w' ∧ OwnDS w.heap.size w'.heap.size w' (some ⟨g, 0, none⟩) n n ts xss ∧ ∀ i, i < n → ∃ x, (ts.getD i spot0).1 = some x := by
  obtain ⟨hc, hb, hcell⟩ := h.at
  have HLen := Lib.hid h.len
  have CT := Lib.hid (fun i (hi : i < n) W (hW : Below w.heap.size w W) => toDie_any _ _ _ _ W ((h.row i hi).mono hW) (by have := (h.row i hi).len; have := hr i hi; omega))
  have HRL := Lib.hid (fun i (hi : i < n) => (h.row i hi).len)
  clear h hr
  obtain ⟨i0, hi, hz0, hz1, hz2⟩ := info_parts infoDie
  go_enter Tryd.func37, Tryd.ntmps37
  go_wp2_with (first | (at_make; go_must (refine wpList_make_full _ rfl _ _ 28 rfl w.heap.size 82 i0 _ 1 Tryd.underlying28 hi hz0 hz1 _ _ _ _ n rfl rfl rfl rfl (by rw [hz2]; omega) (by unfold maxLen; omega) (by simp) ?_; intro w1 hown1 hg1)))
  have HB1 := Lib.hid (below_made (Below.refl w.heap.size w) (Nat.le_refl _) hg1)
  have HO1 : Hid (OwnD (fun i => i < 0) w.heap.size w1.heap.size w1 (.slice (some ⟨w.heap.size, 0, none⟩) n n) n (List.replicate n spot0) xss) := by
    have ho : w1.ownsRow w.heap.size 82 1 (.slice (some ⟨w.heap.size, 0, none⟩) n n) n (spotCells (List.replicate n spot0)) := by
      have := hown1
      rw [made_const _ (.slice none 0 0) (by decide) (by intro i hi; match i, hi with | 0, _ => rfl), Nat.mul_one] at this
      unfold spotCells
      rw [List.map_replicate]
      exact this
    exact ⟨ho, fun g e => (ho.lt g e).2, fun i hi => by omega, fun i hi => by omega, fun i j _ hi => by omega, fun i hi => by omega⟩
  clear hown1 hg1
  go_loopw [4] (fun i wr => ∃ (k : Nat) (ts : List Spot), k ≤ n ∧ i = .int .i64 k ∧ Below w.heap.size w wr ∧ OwnD (fun i => i < k) w.heap.size wr.heap.size wr (.slice (some ⟨w.heap.size, 0, none⟩) n n) n ts xss ∧ ∀ i, i < k → ∃ x, (ts.getD i spot0).1 = some x) (fun i _ => n - (intOf i).toNat)
  case atStart => exact ⟨0, _, by omega, rfl, HB1.out, HO1.out, fun i hi => by omega⟩
  case round =>
    obtain ⟨k, ts, hk, rfl, hbel, hp, hsome⟩ := hrel
    have HB := Lib.hid hbel
    have HP := Lib.hid hp
    have HS := Lib.hid hsome
    clear hbel hp hsome
    by_cases hlt : k < n
    · obtain ⟨b, off, rfl, hlb, hx⟩ := hcell k hlt
      have h0 := cell_on HB.out (hx k hlt)
      have CC := Lib.hid (CT.out k hlt wr HB.out)
      have hrl := HRL.out k hlt
      clear hcell hx CT HRL
      rcases hsp : ss.getD k spot0 with ⟨A, L, C⟩
      rw [hsp] at h0 CC hrl
      dsimp only at h0 CC hrl
      clear hsp
      have HRl := Lib.hid hrl
      clear hrl
      go_wp2_with (fail)
      refine CC.out.mono ?_
      rintro e w2 ⟨g, rfl, hb2, ho2⟩
      have HP2 := Lib.hid (HP.out.below hb2)
      have HB2 := Lib.hid (HB.out.trans (hb2.mono HB.out.size))
      have HO2 := Lib.hid ho2
      have hgr := (ho2.lt g rfl).1
      have hgw := (ho2.lt g rfl).2
      have hwr : w.heap.size < wr.heap.size := HP.out.ouh _ rfl
      have hs2 := hb2.size
      have f := fun j => HP2.out.out.frozenAt j
      have c0 := HP2.out.out.cellAt k (by omega)
      rw [spotCells_get _ _ (by rw [HP2.out.sl]; exact hlt)] at c0
      have c0 : w2.cell? ⟨w.heap.size, k, none⟩ = some (spotV (ts.getD k spot0)) := by simpa using c0
      have HN : Hid (OwnD (fun i => i < k + 1) w.heap.size (w2.setCell ⟨w.heap.size, k, none⟩ (.slice (some ⟨g, 0, none⟩) L L)).heap.size (w2.setCell ⟨w.heap.size, k, none⟩ (.slice (some ⟨g, 0, none⟩) L L)) (.slice (some ⟨w.heap.size, 0, none⟩) n n) n (ts.set k (some ⟨g, 0, none⟩, L, L)) xss) := by
        have hsl := HP2.out.sl
        have hst := (HP2.out.out.stored k (.slice (some ⟨g, 0, none⟩) L L))
        have e1 : (spotCells ts).set k (.slice (some ⟨g, 0, none⟩) L L) = spotCells (ts.set k (some ⟨g, 0, none⟩, L, L)) := spotCells_set ts k (some ⟨g, 0, none⟩, L, L)
        rw [e1] at hst
        have hne : ∀ i, i < k → OB ts i = none ∨ OB ts i ≠ some w.heap.size := fun i hi => HP2.out.apo i hi
        have hOB : ∀ i, i < k → OB (ts.set k (some ⟨g, 0, none⟩, L, L)) i = OB ts i := fun i hi => by unfold OB; rw [getD_set_ne _ _ _ _ _ (by omega)]
        have hOBk : OB (ts.set k (some ⟨g, 0, none⟩, L, L)) k = some g := by unfold OB; rw [getD_set_self _ _ _ _ (by omega)]; rfl
        have hlow := ownsRow_low HO2.out HB.out.size
        have hold : ∀ i, i < k → ∀ x, OB ts i = some x → x < wr.heap.size := fun i hi x hx => HP.out.inn i hi x hx
        have hsz : (w2.setCell ⟨w.heap.size, k, none⟩ (.slice (some ⟨g, 0, none⟩) L L)).heap.size = w2.heap.size := by simp
        refine ⟨by simpa using hst.1, fun x e => ?_, fun i hi => ?_, fun i hi x e => ?_, fun i j hij hi hj => ?_, fun i hi => ?_⟩
        · have e : w.heap.size = x := Option.some.inj e
          omega
        · by_cases hik : i = k
          · subst hik
            rw [getD_set_self _ _ _ _ (by omega), HRl.out]
            exact ownsRow_setCell_other hlow (fun y hy => by obtain rfl := Option.some.inj hy; dsimp only; omega) _
          · rw [getD_set_ne _ _ _ _ _ (by omega)]
            refine own_keep (HP2.out.own i (by omega)) fun y hy => ?_
            have h1 := hne i (by omega)
            have h2 : OB ts i = some y := hy
            rw [h2] at h1
            exact Below.heap_setCell w2 _ _ y (by dsimp only; rcases h1 with h1 | h1 <;> simp at h1; exact h1)
        · rw [hsz]
          by_cases hik : i = k
          · subst hik; rw [hOBk] at e; have := Option.some.inj e; omega
          · rw [hOB i (by omega)] at e
            have := hold i (by omega) x e
            omega
        · by_cases hik : i = k
          · subst hik
            right
            rw [hOBk, hOB j (by omega)]
            intro e
            have := hold j (by omega) g e.symm
            omega
          · by_cases hjk : j = k
            · subst hjk
              rw [hOBk, hOB i (by omega)]
              right
              intro e
              have := hold i (by omega) g e
              omega
            · rw [hOB i (by omega), hOB j (by omega)]
              exact HP2.out.apart i j hij (by omega) (by omega)
        · by_cases hik : i = k
          · subst hik
            right
            rw [hOBk]
            intro e
            have e : g = w.heap.size := Option.some.inj e
            omega
          · rw [hOB i (by omega)]
            exact hne i (by omega)
      have HS2 : Hid (∀ i, i < k + 1 → ∃ x, ((ts.set k (some ⟨g, 0, none⟩, L, L)).getD i spot0).1 = some x) := fun i hi => by
        by_cases hik : i = k
        · subst hik; rw [getD_set_self _ _ _ _ (by rw [HP2.out.sl]; exact hlt)]; exact ⟨_, rfl⟩
        · rw [getD_set_ne _ _ _ _ _ (by omega)]; exact HS.out i (by omega)
      have HB3 : Hid (Below w.heap.size w (w2.setCell ⟨w.heap.size, k, none⟩ (.slice (some ⟨g, 0, none⟩) L L))) := HB2.out.setCell (Nat.le_refl _) _
      clear hb2 ho2 hgr hgw hwr hs2 CC h0
      go_wp2
      go_roundw
      case rel => exact ⟨k + 1, _, by omega, by go_num, HB3.out, HN.out, HS2.out⟩
      case measure => simp [intOf]; omega
    · obtain rfl : k = n := by omega
      clear hcell
      go_wp2
      go_ret
      exact ⟨_, ts, rfl, HB.out, ⟨HLen.out, HP.out⟩, HS.out⟩

set_option maxHeartbeats 400000 in
theorem heldDieS_any (a : Option Addr) (n c : Nat) (ss : List Spot) (xss : List (List Int)) (x : Int) (w : World) (h : IntSS w a n c ss (mkTo xss x n)) (hx : 0 ≤ x) (hx' : x + tot xss ≤ 4611686018427387904) :
    Calls Tryd.prog 62 #[.slice a n c, .int .i64 x] w (RetS w (.int .i64 (x + tot xss))) := by
  obtain ⟨hc, hb, hcell⟩ := h.at
  have hl : xss.length = n := by rw [← mkTo_len xss x n]; exact h.len
  have HM := Lib.hid (fun k (hk : k ≤ n) => totTo_mono xss hk (by omega : n ≤ xss.length))
  have HT : Hid (tot xss = totTo xss n) := by show _ = _; unfold tot; rw [hl]
  have HU := Lib.hid (fun k (hk : k < n) => totTo_succ xss k (by omega))
  have HR : Hid (∀ i, i < n → Ints w (ss.getD i spot0).1 (xss.getD i []).length (ss.getD i spot0).2.2 (marks (x + totTo xss i) (xss.getD i []).length) ∧ (ss.getD i spot0).2.1 = (xss.getD i []).length) := fun i hi => by
    have h1 := h.row i hi
    rw [mkTo_get _ _ _ _ (by omega), if_pos hi] at h1
    have h2 := h1.len
    rw [marks_len] at h2
    rw [← h2] at h1
    exact ⟨h1, h2.symm⟩
  clear h hl
  generalize tot xss = t at *
  go_enter Tryd.func62, Tryd.ntmps62
  go_wp2
  go_loop [1, 5] (fun m i => ∃ k : Nat, k ≤ n ∧ i = .int .i64 k ∧ m = .int .i64 (x + totTo xss k)) (fun _ i => n - (intOf i).toNat)
  case atStart => exact ⟨0, by omega, rfl, by rw [totTo_zero]; simp⟩
  case round =>
    obtain ⟨k, hk, rfl, rfl⟩ := hrel
    by_cases hlt : k < n
    · obtain ⟨b, off, rfl, hlb, hcx⟩ := hcell k hlt
      have h0 := hcx k hlt
      obtain ⟨hr, hq⟩ := HR.out k hlt
      have hu := HU.out k hlt
      have hm := HM.out (k + 1) (by omega)
      have ht := HT.out
      clear hcell hcx
      rcases hsp : ss.getD k spot0 with ⟨A, L, C⟩
      rw [hsp] at h0 hr hq
      dsimp only at h0 hr hq
      clear hsp
      generalize (xss.getD k []).length = L' at *
      subst hq
      generalize totTo xss k = T0 at *
      generalize hT1 : totTo xss (k + 1) = T1 at *
      have HT1 := Lib.hid hT1
      clear hT1
      have CC := Lib.hid (heldInt64S_any A L C (x + T0) w hr (by omega) (by omega))
      clear hr
      go_wp2_with (fail)
      refine CC.out.mono ?_
      rintro e w1 ⟨rfl, rfl⟩
      go_wp2
      go_round
      case rel => exact ⟨k + 1, by omega, by go_num, by rw [HT1.out]; first | go_num | (congr 1; omega)⟩
      case measure => simp [intOf]; omega
    · obtain rfl : k = n := by omega
      have ht := HT.out
      rw [← ht]
      clear hcell
      go_wp2
      go_ret
      exact ⟨rfl, rfl⟩

end Go.Proofs.YtnoageckldilnaaDoor
