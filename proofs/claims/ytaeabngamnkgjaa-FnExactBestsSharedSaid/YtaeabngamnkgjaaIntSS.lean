/- Slices of slices of numbers: how they read, and the laws' own words on them. -/
import Derived.Test.YtaeabngamnkgjaaI64
import Derived.Test.YtaeabngamnkgjaaChgC
namespace Go.Proofs.Ytaeabngamnkgjaa
open Go.RowKit
set_option linter.unusedVariables false

/-- where a row lies, how long it is, how much room it has -/
abbrev Spot := Option Addr × Nat × Nat
def spotV (s : Spot) : Value := .slice s.1 s.2.1 s.2.2
def spot0 : Spot := (none, 0, 0)
def spotCells (ss : List Spot) : List Value := ss.map spotV
theorem spotCells_len (ss : List Spot) : (spotCells ss).length = ss.length := by simp [spotCells]
theorem spotCells_get (ss : List Spot) (j : Nat) (h : j < ss.length) : (spotCells ss)[j]? = some (spotV (ss.getD j spot0)) := by simp [spotCells, h]
theorem spotCells_set (ss : List Spot) (j : Nat) (s : Spot) : (spotCells ss).set j (spotV s) = spotCells (ss.set j s) := by simp [spotCells, List.map_set]
theorem getD_set_self {α : Type} (l : List α) (i : Nat) (x d : α) (h : i < l.length) : (l.set i x).getD i d = x := by simp [h]
theorem getD_set_ne {α : Type} (l : List α) (i j : Nat) (x d : α) (h : i ≠ j) : (l.set i x).getD j d = l.getD j d := by
  rw [List.getD_eq_getElem?_getD, List.getD_eq_getElem?_getD, List.getElem?_set_ne h]

structure IntSS (w : World) (a : Option Addr) (n c : Nat) (ss : List Spot) (xss : List (List Int)) : Prop where
  rd : Rd w a n c 1 (spotCells ss)
  len : xss.length = n
  row : ∀ i, i < n → Ints w (ss.getD i spot0).1 (ss.getD i spot0).2.1 (ss.getD i spot0).2.2 (xss.getD i [])
theorem IntSS.sl {w : World} {a : Option Addr} {n c : Nat} {ss : List Spot} {xss : List (List Int)} (h : IntSS w a n c ss xss) : ss.length = n := by
  have := h.rd.1; rw [spotCells_len] at this; omega
theorem IntSS.at {w : World} {a : Option Addr} {n c : Nat} {ss : List Spot} {xss : List (List Int)} (h : IntSS w a n c ss xss) : n ≤ c ∧ c ≤ 9223372036854775807 ∧ ∀ i, i < n → ∃ b off, a = some ⟨b, off, none⟩ ∧ b < w.heap.size ∧ ∀ j, j < n → w.cell? ⟨b, off + j, none⟩ = some (.slice (ss.getD j spot0).1 (ss.getD j spot0).2.1 (ss.getD j spot0).2.2) := by
  have hl := h.sl
  obtain ⟨_, h2, h3, h4⟩ := h.rd
  refine ⟨h2, h3, fun i hi => ?_⟩
  rcases h4 with h4 | ⟨b, off, ha, hb, hc⟩
  · omega
  · exact ⟨b, off, ha, hb, fun j hj => by rw [hc j (by omega), spotCells_get _ _ (by omega)]; rfl⟩
theorem IntSS.mono {w w' : World} {a : Option Addr} {n c : Nat} {ss : List Spot} {xss : List (List Int)} (h : IntSS w a n c ss xss) (hb : Below w.heap.size w w') : IntSS w' a n c ss xss :=
  ⟨h.rd.mono hb, h.len, fun i hi => (h.row i hi).mono hb⟩
theorem IntSS.drewN {w : World} {a : Option Addr} {n c : Nat} {ss : List Spot} {xss : List (List Int)} (h : IntSS w a n c ss xss) (q : Nat) : IntSS (w.drewN q) a n c ss xss :=
  ⟨h.rd.drewN q, h.len, fun i hi => Rd.drewN (h.row i hi) q⟩

/-- how many numbers the first k rows have -/
def totTo (xss : List (List Int)) (k : Nat) : Nat := ((xss.take k).map List.length).sum
def tot (xss : List (List Int)) : Nat := totTo xss xss.length
theorem totTo_zero (xss : List (List Int)) : totTo xss 0 = 0 := by simp [totTo]
theorem totTo_succ (xss : List (List Int)) (k : Nat) (h : k < xss.length) : totTo xss (k + 1) = totTo xss k + (xss.getD k []).length := by
  unfold totTo
  rw [List.take_add_one, List.getElem?_eq_getElem h, List.map_append, List.sum_append]
  simp [h]
theorem totTo_mono (xss : List (List Int)) {k m : Nat} (h : k ≤ m) (hm : m ≤ xss.length) : totTo xss k ≤ totTo xss m := by
  induction m with
  | zero => have : k = 0 := by omega
            subst this; exact Nat.le_refl _
  | succ m ih =>
    by_cases e : k = m + 1
    · subst e; exact Nat.le_refl _
    · have := ih (by omega) (by omega)
      rw [totTo_succ _ _ (by omega)]
      omega
theorem totTo_row (xss : List (List Int)) (k : Nat) (h : k < xss.length) : (xss.getD k []).length ≤ tot xss := by
  have h1 := totTo_succ xss k h
  have h2 := totTo_mono xss (show k + 1 ≤ xss.length by omega) (Nat.le_refl _)
  unfold tot
  omega

/-- what is left of x behind all rows, or -1 -/
def szSS (x : Int) (xss : List (List Int)) : Int := if (xss.length : Int) + tot xss ≤ x then x - xss.length - tot xss else -1

set_option maxHeartbeats 400000 in
theorem szInt64SS_any (a : Option Addr) (n c : Nat) (ss : List Spot) (xss : List (List Int)) (x : Int) (w : World) (h : IntSS w a n c ss xss) (hx : 0 ≤ x) (hx' : x ≤ 1048576) :
    Calls Try.prog 32 #[.slice a n c, .int .i64 x] w (RetS w (.int .i64 (szSS x xss))) := by
  obtain ⟨hc, hb, hcell⟩ := h.at
  have hl := h.len
  have HS : Hid (szSS x xss = if (n : Int) + tot xss ≤ x then x - n - tot xss else -1) := by show _ = _; unfold szSS; rw [hl]
  have HR := Lib.hid (fun i hi => (h.row i hi).len)
  have HM := Lib.hid (fun k (hk : k ≤ n) => totTo_mono xss hk (by omega : n ≤ xss.length))
  have HT : Hid (tot xss = totTo xss n) := by show _ = _; unfold tot; rw [hl]
  have HU := Lib.hid (fun k (hk : k < n) => totTo_succ xss k (by omega))
  have HL := Lib.hid (fun i hi => (h.row i hi).at)
  clear h hl
  by_cases hn : (n : Int) ≤ x
  case neg =>
    have e : szSS x xss = -1 := by rw [HS.out, if_neg (by omega)]
    rw [e]
    clear e HS HR HM HT HU HL hcell
    go_enter Try.func32, Try.ntmps32
    go_wp2
    go_ret
    exact ⟨rfl, rfl⟩
  generalize szSS x xss = r at *
  generalize tot xss = t at *
  go_enter Try.func32, Try.ntmps32
  go_wp2
  go_loop [1, 5] (fun m i => ∃ k : Nat, k ≤ n ∧ i = .int .i64 k ∧ m = .int .i64 (x - n - totTo xss k) ∧ (n : Int) + totTo xss k ≤ x) (fun _ i => n - (intOf i).toNat)
  case atStart => exact ⟨0, by omega, rfl, by rw [totTo_zero]; simp, by rw [totTo_zero]; omega⟩
  case round =>
    obtain ⟨k, hk, rfl, rfl, hle⟩ := hrel
    by_cases hlt : k < n
    · obtain ⟨b, off, rfl, hlb, hcx⟩ := hcell k hlt
      have h0 := hcx k hlt
      have hr := HR.out k hlt
      have hu := HU.out k hlt
      have hm := HM.out (k + 1) (by omega)
      have ht := HT.out
      obtain ⟨g1, g2, _⟩ := HL.out k hlt
      rw [hr] at hu
      clear hcell hcx hr
      rcases hsp : ss.getD k spot0 with ⟨A, L, C⟩
      rw [hsp] at h0 hu g1 g2
      dsimp only at h0 hu g1 g2
      clear hsp
      generalize hT0 : totTo xss k = T0 at *
      by_cases hok : (n : Int) + T0 + L ≤ x
      · go_wp2_with (fail)
        refine (szInt64S_ok A L C (x - n - T0) w (by omega) (by omega) (by omega)).mono ?_
        rintro e w1 ⟨rfl, rfl⟩
        go_wp2
        go_round
        case rel => exact ⟨k + 1, by omega, by go_num, by first | go_num | (congr 1; omega), by omega⟩
        case measure => simp [intOf]; omega
      · have e : r = -1 := by rw [HS.out, if_neg (by omega)]
        subst e
        go_wp2_with (fail)
        refine (szInt64S_no A L C (x - n - T0) w (by omega) (by omega) (by omega) (by omega)).mono ?_
        rintro e w1 ⟨rfl, rfl⟩
        go_wp2
        go_ret
        exact ⟨rfl, rfl⟩
    · obtain rfl : k = n := by omega
      have ht := HT.out
      rw [← ht] at hle ⊢
      have e : r = x - k - t := by rw [HS.out, if_pos (by omega)]
      subst e
      clear hcell
      go_wp2
      go_ret
      exact ⟨rfl, rfl⟩

theorem own_keep {w w' : World} {B : Nat} {e : TypeId} {sz : Nat} {v : Value} {n : Nat} {cs : List Value} (h : w.ownsRow B e sz v n cs) (hk : ∀ g, v.ownBlock = some g → w'.heap[g]? = w.heap[g]?) : w'.ownsRow B e sz v n cs := by
  obtain ⟨h1, h2⟩ := h
  refine ⟨h1, ?_⟩
  rcases h2 with h2 | ⟨g, cap, cur, rfl, h3, h4, h5⟩
  · exact .inl h2
  · exact .inr ⟨g, cap, cur, rfl, h3, by rw [hk g rfl]; exact h4, h5⟩
/-- the block of a row -/
def OB (ss : List Spot) (i : Nat) : Option Nat := (spotV (ss.getD i spot0)).ownBlock

/-- Rows of one's own, those that p names, in blocks from lo on, below hi; no two in one block. -/
structure OwnP (p : Nat → Prop) (lo hi : Nat) (w : World) (v : Value) (n : Nat) (ss : List Spot) (xss : List (List Int)) : Prop where
  out : w.ownsRow lo 25 1 v n (spotCells ss)
  ouh : ∀ g, v.ownBlock = some g → g < hi
  own : ∀ i, p i → w.ownsRow lo 2 1 (spotV (ss.getD i spot0)) (xss.getD i []).length (intCells (xss.getD i []))
  inn : ∀ i, p i → ∀ g, OB ss i = some g → g < hi
  apart : ∀ i j, i ≠ j → p i → p j → OB ss i = none ∨ OB ss i ≠ OB ss j
  apo : ∀ i, p i → OB ss i = none ∨ OB ss i ≠ v.ownBlock
section
variable {p q : Nat → Prop} {lo hi : Nat} {w w' : World} {v : Value} {n : Nat} {ss : List Spot} {xss : List (List Int)}
theorem OwnP.sl (h : OwnP p lo hi w v n ss xss) : ss.length = n := by have := h.out.1; rw [spotCells_len] at this; omega
theorem OwnP.sub (h : OwnP p lo hi w v n ss xss) (hq : ∀ i, q i → p i) : OwnP q lo hi w v n ss xss :=
  ⟨h.out, h.ouh, fun i hi => h.own i (hq i hi), fun i hi => h.inn i (hq i hi), fun i j e a b => h.apart i j e (hq i a) (hq j b), fun i hi => h.apo i (hq i hi)⟩
theorem OwnP.wide {hi' : Nat} (h : OwnP p lo hi w v n ss xss) (hh : hi ≤ hi') : OwnP p lo hi' w v n ss xss :=
  ⟨h.out, fun g e => Nat.lt_of_lt_of_le (h.ouh g e) hh, h.own, fun i hi g e => Nat.lt_of_lt_of_le (h.inn i hi g e) hh, h.apart, h.apo⟩
theorem OwnP.keep (h : OwnP p lo hi w v n ss xss) (hk : ∀ g, lo ≤ g → g < hi → g < w.heap.size → w'.heap[g]? = w.heap[g]?) : OwnP p lo hi w' v n ss xss :=
  ⟨own_keep h.out fun g e => by have := h.out.lt g e; exact hk g this.1 (h.ouh g e) this.2, h.ouh, fun i hi => own_keep (h.own i hi) fun g e => by have := (h.own i hi).lt g e; exact hk g this.1 (h.inn i hi g e) this.2, h.inn, h.apart, h.apo⟩
theorem OwnP.below (h : OwnP p lo hi w v n ss xss) (hb : Below w.heap.size w w') : OwnP p lo hi w' v n ss xss := h.keep fun g _ _ hg => hb.block g hg
theorem OwnP.chg {l r : Nat} (h : OwnP p lo hi w v n ss xss) (hc : Chg l r w w') (hd : hi ≤ l ∨ r ≤ lo) : OwnP p lo hi w' v n ss xss := h.keep fun g h1 h2 hg => hc.block g hg (by omega)
/-- Behind a write to row k. -/
theorem OwnP.wrote {k : Nat} (h : OwnP p lo hi w v n ss xss) (hk : p k) (hg : w.grownBy w' (OB ss k)) : OwnP (fun i => p i ∧ i ≠ k) lo hi w' v n ss xss :=
  ⟨h.out.kept hg (by
      rcases h.apo k hk with e | e
      · rw [e]
        cases hv : v.ownBlock <;> simp
      · exact .inr (Ne.symm e)),
    h.ouh, fun i hi => (h.own i hi.1).kept hg (h.apart i k hi.2 hi.1 hk), fun i hi => h.inn i hi.1, fun i j e a b => h.apart i j e a.1 b.1, fun i hi => h.apo i hi.1⟩
end
/-- Slices of one's own of slices of one's own. -/
structure OwnSS (lo hi : Nat) (w : World) (a : Option Addr) (n c : Nat) (ss : List Spot) (xss : List (List Int)) : Prop where
  len : xss.length = n
  p : OwnP (fun i => i < n) lo hi w (.slice a n c) n ss xss
theorem OwnSS.rd {lo hi : Nat} {w : World} {a : Option Addr} {n c : Nat} {ss : List Spot} {xss : List (List Int)} (h : OwnSS lo hi w a n c ss xss) : IntSS w a n c ss xss :=
  ⟨Rd.own h.p.out, h.len, fun i hi => by
    have ho := h.p.own i hi
    obtain ⟨A, C, e⟩ := own_form ho
    rcases hs : ss.getD i spot0 with ⟨A', L', C'⟩
    rw [hs] at ho e
    simp only [spotV, Value.slice.injEq] at e
    obtain ⟨rfl, e2, rfl⟩ := e
    subst e2
    exact Rd.own ho⟩

set_option maxHeartbeats 400000 in
theorem markInt64SS_any (lo hi : Nat) (a : Option Addr) (n c : Nat) (ss : List Spot) (xss : List (List Int)) (x : Int) (w : World) (h : OwnSS lo hi w a n c ss xss) (hx : 0 ≤ x) (hx' : x + tot xss ≤ 4611686018427387904) :
    Calls Try.prog 36 #[.slice a n c, .int .i64 x] w fun e w' => e = .returned (.int .i64 (x + tot xss)) ∧ Chg lo hi w w' := by
  obtain ⟨hc, hb, _⟩ := h.rd.at
  have hl := h.len
  have HM := Lib.hid (fun k (hk : k ≤ n) => totTo_mono xss hk (by omega : n ≤ xss.length))
  have HT : Hid (tot xss = totTo xss n) := by show _ = _; unfold tot; rw [hl]
  have HU := Lib.hid (fun k (hk : k < n) => totTo_succ xss k (by omega))
  have HP := Lib.hid h.p
  clear h hl
  generalize tot xss = t at *
  go_enter Try.func36, Try.ntmps36
  go_wp2
  go_loopw [1, 5] (fun m i wr => ∃ k : Nat, k ≤ n ∧ i = .int .i64 k ∧ m = .int .i64 (x + totTo xss k) ∧ OwnP (fun i => i < n ∧ k ≤ i) lo hi wr (.slice a n c) n ss xss ∧ Chg lo hi w wr) (fun _ i _ => n - (intOf i).toNat)
  case atStart => exact ⟨0, by omega, rfl, by rw [totTo_zero]; simp, HP.out.sub fun i hi => hi.1, Chg.refl _ _ _⟩
  case round =>
    obtain ⟨k, hk, rfl, rfl, hp, hchg⟩ := hrel
    have HC := Lib.hid hchg
    clear hchg
    by_cases hlt : k < n
    · have ho := hp.own k ⟨hlt, Nat.le_refl _⟩
      have hs := hp.sl
      have hin := hp.inn k ⟨hlt, Nat.le_refl _⟩
      have hu := HU.out k hlt
      have hm := HM.out (k + 1) (by omega)
      have ht := HT.out
      have HPw := Lib.hid hp
      have h0 : ∃ g, a = some ⟨g, 0, none⟩ ∧ wr.cell? ⟨g, k, none⟩ = some (spotV (ss.getD k spot0)) := by
        rcases hp.out.2 with h2 | ⟨g, cap, cur, e, _⟩
        · omega
        · simp only [Value.slice.injEq] at e
          obtain ⟨rfl, _, rfl⟩ := e
          refine ⟨g, rfl, ?_⟩
          rw [hp.out.cellAt k (by omega), spotCells_get _ _ (by omega)]
      obtain ⟨g, rfl, h0⟩ := h0
      obtain ⟨A, C, e⟩ := own_form ho
      have hOB : OB ss k = (spotV (ss.getD k spot0)).ownBlock := rfl
      rw [e] at ho h0 hOB
      clear hp hs
      rw [hOB] at hin
      have HOB := Lib.hid hOB
      have HIN := Lib.hid hin
      have CM := Lib.hid (markInt64S_any lo _ _ _ (x + totTo xss k) wr ho (by omega) (by omega))
      have HO := Lib.hid ho
      clear ho hOB hin e
      generalize (xss.getD k []).length = L at *
      generalize hT1 : totTo xss (k + 1) = T1 at *
      have HT1 := Lib.hid hT1
      clear hT1
      generalize totTo xss k = T0 at *
      go_wp2_with (fail)
      refine CM.out.mono ?_
      rintro e w1 ⟨rfl, _, hg⟩
      have HC1 : Hid (Chg lo hi w w1) := HC.out.trans ⟨hg.os, hg.tape, hg.output, hg.size, fun i hi hr => hg.block i hi (fun e => by
        have h1 := HO.out.lt i e.symm
        have h2 := HIN.out i e.symm
        omega)⟩
      have HP1 : Hid (OwnP (fun i => i < n ∧ k + 1 ≤ i) lo hi w1 (.slice (some ⟨g, 0, none⟩) n c) n ss xss) := (HPw.out.wrote (k := k) ⟨hlt, Nat.le_refl _⟩ (by rw [HOB.out]; exact hg)).sub fun i hi => ⟨⟨hi.1, by omega⟩, by omega⟩
      clear hg h0
      go_wp2
      go_roundw
      case rel => exact ⟨k + 1, by omega, by go_num, by rw [HT1.out]; first | go_num | (congr 1; omega), HP1.out, HC1.out⟩
      case measure => simp [intOf]; omega
    · obtain rfl : k = n := by omega
      have ht := HT.out
      rw [← ht]
      clear hp
      go_wp2
      go_ret
      exact ⟨rfl, HC.out⟩

set_option maxHeartbeats 400000 in
theorem eqInt64SS_any (a : Option Addr) (n c : Nat) (ss : List Spot) (xss : List (List Int)) (a' : Option Addr) (n' c' : Nat) (ss' : List Spot) (yss : List (List Int)) (w : World) (h : IntSS w a n c ss xss) (h' : IntSS w a' n' c' ss' yss) :
    Calls Try.prog 35 #[.slice a n c, .slice a' n' c'] w (RetQ w (.bool (decide (xss = yss)))) := by
  obtain ⟨hc, hb, hcell⟩ := h.at
  obtain ⟨hc', hb', hcell'⟩ := h'.at
  have hl := h.len
  have hl' := h'.len
  by_cases hn : n = n'
  · subst hn
    have CE := Lib.hid (fun k (hk : k < n) W (hW : Quiet w W) => eqInt64S_any _ _ _ _ _ _ _ _ W ((h.row k hk).mono hW.b) ((h'.row k hk).mono hW.b))
    have hH := Lib.hid hl
    have hH' := Lib.hid hl'
    clear hl hl' h h'
    go_enter Try.func35, Try.ntmps35
    go_wp2
    go_loopw [5] (fun i wr => ∃ k : Nat, k ≤ n ∧ i = .int .i64 k ∧ AlikeTo [] xss yss k ∧ Quiet w wr) (fun i _ => n - (intOf i).toNat)
    case atStart => exact ⟨0, by omega, rfl, AlikeTo.zero _ _ _, Quiet.refl _⟩
    case round =>
      obtain ⟨k, hk, rfl, heq, hq⟩ := hrel
      have HQ := Lib.hid heq
      have HW := Lib.hid hq
      clear heq hq
      by_cases hlt : k < n
      · obtain ⟨b, off, rfl, hlb, hx⟩ := hcell k hlt
        obtain ⟨b', off', rfl, hlb', hy⟩ := hcell' k hlt
        have hxk := cell_on HW.out.b (hx k hlt)
        have hyk := cell_on HW.out.b (hy k hlt)
        have CC := Lib.hid (fun p => CE.out k hlt (wr.drewN p) (HW.out.drewN p))
        clear hcell hcell' hx hy CE
        rcases hsx : ss.getD k spot0 with ⟨A, L, C⟩
        rcases hsy : ss'.getD k spot0 with ⟨A', L', C'⟩
        rw [hsx] at hxk CC
        rw [hsy] at hyk CC
        dsimp only at hxk hyk CC
        rcases Decidable.em (xss.getD k [] = yss.getD k []) with he | he
        · rw [decide_eq_true he] at CC
          have HE := Lib.hid he
          clear he hsx hsy
          go_wp2
          go_quiet ((go_at_call 25; exact qQ (CC.out _)))
          go_wp2
          go_roundw
          case rel => exact ⟨k + 1, by omega, by go_num, HQ.out.succ HE.out, HW.out.drewN _⟩
          case measure => simp [intOf]; omega
        · rw [decide_eq_false he] at CC
          have HE := Lib.hid he
          clear he hsx hsy
          go_wp2
          go_quiet ((go_at_call 25; exact qQ (CC.out _)))
          go_wp2
          go_ret
          exact ⟨ret_bool (decide_eq_false (ne_of_getD HE.out)).symm, HW.out.drewN _⟩
      · obtain rfl : k = n := by omega
        clear hcell hcell'
        go_wp2
        go_ret
        exact ⟨ret_bool (decide_eq_true (HQ.out.eq hH.out hH'.out)).symm, HW.out⟩
  · have hne : xss ≠ yss := fun e => hn (by rw [← hl, ← hl', e])
    have HN := Lib.hid hne
    clear hne hl hl' hcell hcell' h h'
    go_enter Try.func35, Try.ntmps35
    go_wp2
    go_ret
    exact ⟨ret_bool (decide_eq_false HN.out).symm, Quiet.refl _⟩

end Go.Proofs.Ytaeabngamnkgjaa
