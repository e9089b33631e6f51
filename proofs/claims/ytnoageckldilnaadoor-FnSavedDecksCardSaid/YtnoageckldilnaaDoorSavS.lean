/- Slices of what is saved: how they read, and the laws' own words on them: szSavedS, toSavedS, eqSavedS. -/
import Derived.Test.YtnoageckldilnaaDoorSavA
import Derived.Test.YtnoageckldilnaaDoorRow
namespace Go.Proofs.YtnoageckldilnaaDoor
open Go.RowKit
set_option linter.unusedVariables false

/-- one as it lies: its text, where its deck lies, where its dice lie -/
abbrev MS := ByteArray × Spot × Spot
/-- one as it is: its text, its deck, its dice -/
abbrev AS := ByteArray × List Int × List (List Int)
def ms0 : MS := (⟨#[]⟩, spot0, spot0)
def as0 : AS := (⟨#[]⟩, [], [])
def msV (m : MS) : List Value := [.string m.1, spotV m.2.1, spotV m.2.2]
def svCells (ms : List MS) : List Value := ms.flatMap msV
theorem svCells_len (ms : List MS) : (svCells ms).length = ms.length * 3 := flat_len _ 3 (fun _ => rfl) ms
theorem svCells_get (ms : List MS) (j : Nat) (h : j < ms.length) : (svCells ms)[j * 3]? = some (.string (ms.getD j ms0).1) ∧ (svCells ms)[j * 3 + 1]? = some (spotV (ms.getD j ms0).2.1) ∧ (svCells ms)[j * 3 + 2]? = some (spotV (ms.getD j ms0).2.2) := by
  have e : ms[j]? = some (ms.getD j ms0) := by simp [h]
  have f := fun t ht => flat_get msV 3 (fun _ => rfl) ms j t ht
  refine ⟨?_, ?_, ?_⟩
  · have := f 0 (by omega); rw [e] at this; simpa [svCells, msV] using this
  · have := f 1 (by omega); rw [e] at this; simpa [svCells, msV] using this
  · have := f 2 (by omega); rw [e] at this; simpa [svCells, msV] using this
/-- how one reads -/
structure SavV (w : World) (m : MS) (x : AS) : Prop where
  nm : m.1 = x.1
  deck : Ints w m.2.1.1 m.2.1.2.1 m.2.1.2.2 x.2.1
  dice : ∃ ss, IntSS w m.2.2.1 m.2.2.2.1 m.2.2.2.2 ss x.2.2
theorem SavV.mono {w w' : World} {m : MS} {x : AS} (h : SavV w m x) (hb : Below w.heap.size w w') : SavV w' m x :=
  ⟨h.nm, h.deck.mono hb, by obtain ⟨ss, hs⟩ := h.dice; exact ⟨ss, hs.mono hb⟩⟩
structure SavS (w : World) (a : Option Addr) (n c : Nat) (ms : List MS) (xs : List AS) : Prop where
  rd : Rd w a n c 3 (svCells ms)
  len : xs.length = n
  el : ∀ i, i < n → SavV w (ms.getD i ms0) (xs.getD i as0)
section
variable {w w' : World} {a : Option Addr} {n c : Nat} {ms : List MS} {xs : List AS}
theorem SavS.ml (h : SavS w a n c ms xs) : ms.length = n := by have := h.rd.1; rw [svCells_len] at this; omega
theorem SavS.mono (h : SavS w a n c ms xs) (hb : Below w.heap.size w w') : SavS w' a n c ms xs := ⟨h.rd.mono hb, h.len, fun i hi => (h.el i hi).mono hb⟩
theorem SavS.at (h : SavS w a n c ms xs) : n ≤ c ∧ c ≤ 9223372036854775807 ∧ ∀ i, i < n → ∃ b off, a = some ⟨b, off, none⟩ ∧ b < w.heap.size ∧ ∀ j, j < n →
    w.cell? ⟨b, off + j * 3, none⟩ = some (.string (xs.getD j as0).1) ∧ w.cell? ⟨b, off + j * 3 + 1, none⟩ = some (.slice (ms.getD j ms0).2.1.1 (ms.getD j ms0).2.1.2.1 (ms.getD j ms0).2.1.2.2) ∧ w.cell? ⟨b, off + j * 3 + 2, none⟩ = some (.slice (ms.getD j ms0).2.2.1 (ms.getD j ms0).2.2.2.1 (ms.getD j ms0).2.2.2.2) := by
  have hl := h.ml
  obtain ⟨_, h2, h3, h4⟩ := h.rd
  refine ⟨h2, h3, fun i hi => ?_⟩
  rcases h4 with h4 | ⟨b, off, ha, hb, hc⟩
  · omega
  · refine ⟨b, off, ha, hb, fun j hj => ?_⟩
    obtain ⟨g0, g1, g2⟩ := svCells_get ms j (by omega)
    exact ⟨by rw [hc _ (by omega), g0, (h.el j hj).nm], by rw [Nat.add_assoc, hc _ (by omega), g1]; rfl, by rw [Nat.add_assoc, hc _ (by omega), g2]; rfl⟩
end
/-- how much there is of one -/
def totV (x : AS) : Nat := x.1.size + x.2.1.length + x.2.2.length + tot x.2.2

set_option maxHeartbeats 800000 in
theorem szSavedS_any (a : Option Addr) (n c : Nat) (ms : List MS) (xs : List AS) (w : World) (h : SavS w a n c ms xs) (hm : ∀ i, i < n → (xs.getD i as0).1.size ≤ maxLen) (x : Int) (hx : 0 ≤ x) (hx' : x ≤ 1048576) :
    Calls Tryd.prog 16 #[.slice a n c, .int .i64 x] w fun e w' => ∃ r : Int, e = .returned (.int .i64 r) ∧ (0 ≤ r → r ≤ 1048576 ∧ n ≤ 1048576 ∧ ∀ i, i < n → totV (xs.getD i as0) ≤ 1048576) ∧ Below w.heap.size w w' := by
  obtain ⟨hc, hb, hcell⟩ := h.at
  have HAt := Lib.hid hcell
  have HEl := Lib.hid h.el
  have HM := Lib.hid hm
  clear h hm hcell
  by_cases hn : (n : Int) ≤ x
  · have hw1 : IntKind.i64.wrap (x - (n : Int)) = x - (n : Int) := IntWalk.i64_in _ (by omega)
    go_enter Tryd.func16, Tryd.ntmps16
    go_wp2
    go_loopw [1, 5] (fun vl vi wr => ∃ (i : Nat) (l : Int), i ≤ n ∧ 0 ≤ l ∧ l ≤ 1048576 ∧ vi = .int .i64 i ∧ vl = .int .i64 l ∧ Hid (∀ k, k < i → totV (xs.getD k as0) ≤ 1048576) ∧ Below w.heap.size w wr) (fun _ vi _ => n - (intOf vi).toNat)
    case atStart => exact ⟨0, x - n, by omega, by omega, by omega, rfl, by go_num, (fun k hk => absurd hk (Nat.not_lt_zero _)), Below.refl _ _⟩
    case round =>
      obtain ⟨i, l, hi, hl0, hl1, rfl, rfl, HS, hb2⟩ := hrel
      have HB := Lib.hid hb2
      by_cases hlt : i < n
      · obtain ⟨b, off, rfl, hlb, hx2⟩ := HAt.out i hlt
        obtain ⟨y0, y1, y2⟩ := hx2 i hlt
        have z0 := cell_on hb2 y0
        have z1 := cell_on hb2 y1
        have z2 := cell_on hb2 y2
        have hmx := HM.out i hlt
        obtain ⟨_, hd, ss, hs⟩ := (HEl.out i hlt).mono hb2
        have hd2 := hd.at.1
        have hd3 := hd.at.2.1
        have hdl := hd.len
        clear hx2 y0 y1 y2 hb2
        have C := szSaved_any (xs.getD i as0).1 (ms.getD i ms0).2.1.1 (ms.getD i ms0).2.1.2.1 (ms.getD i ms0).2.1.2.2 (ms.getD i ms0).2.2.1 (ms.getD i ms0).2.2.2.1 (ms.getD i ms0).2.2.2.2 ss (xs.getD i as0).2.2 l wr (by omega) (by unfold maxLen at hmx; omega) hs hl0 hl1
        have HT : Hid (totV (xs.getD i as0) = (xs.getD i as0).1.size + (ms.getD i ms0).2.1.2.1 + (xs.getD i as0).2.2.length + tot (xs.getD i as0).2.2) := by show _ = _; unfold totV; rw [hdl]
        have HZ : Hid (szV l (xs.getD i as0).1.size (ms.getD i ms0).2.1.2.1 (xs.getD i as0).2.2 = if ((xs.getD i as0).1.size : Int) + (ms.getD i ms0).2.1.2.1 + (xs.getD i as0).2.2.length + tot (xs.getD i as0).2.2 ≤ l then l - (xs.getD i as0).1.size - (ms.getD i ms0).2.1.2.1 - (xs.getD i as0).2.2.length - tot (xs.getD i as0).2.2 else -1) := rfl
        have C := Lib.hid C
        clear hd hs hd2 hd3 hdl hmx
        generalize szV l (xs.getD i as0).1.size (ms.getD i ms0).2.1.2.1 (xs.getD i as0).2.2 = r at *
        by_cases hr : r < 0
        · go_wp2_with (fail)
          refine C.out.mono ?_
          rintro e w2 ⟨rfl, hb3⟩
          have HB3 := Lib.hid (HB.out.trans (hb3.mono HB.out.size))
          clear hb3
          go_wp2
          go_ret
          exact ⟨-1, rfl, fun q => by omega, HB3.out⟩
        · have HS2 : Hid (r ≤ 1048576 ∧ ∀ k, k < i + 1 → totV (xs.getD k as0) ≤ 1048576) := by
            have e := HZ.out
            split at e
            · refine ⟨by omega, fun k hk => ?_⟩
              by_cases q : k = i
              · subst q; rw [HT.out]; omega
              · exact HS.out k (by omega)
            · omega
          go_wp2_with (fail)
          refine C.out.mono ?_
          rintro e w2 ⟨rfl, hb3⟩
          have HB3 := Lib.hid (HB.out.trans (hb3.mono HB.out.size))
          clear hb3
          go_wp2
          go_roundw
          case rel => exact ⟨i + 1, r, by omega, by omega, HS2.out.1, by go_num, rfl, HS2.out.2, HB3.out⟩
          case measure => simp [intOf]; omega
      · obtain rfl : i = n := by omega
        clear hb2
        go_wp2
        go_ret
        exact ⟨l, rfl, fun _ => ⟨hl1, by omega, HS.out⟩, HB.out⟩
  · have hw1 : IntKind.i64.wrap (x - (n : Int)) = x - (n : Int) := IntWalk.i64_in _ (by omega)
    go_enter Tryd.func16, Tryd.ntmps16
    go_wp2
    go_ret
    exact ⟨-1, rfl, fun q => by omega, Below.refl _ _⟩

theorem infoSaved : (Tryd.prog.info? 30).map (fun i => (i.zero, i.size, i.bytes)) = some (some (.agg #[.string ⟨#[]⟩, .slice none 0 0, .slice none 0 0]), 3, 64) := by kernel_rfl

/-- One whose deck and dice are its own, all in blocks behind R. -/
structure SavO (R : Nat) (w : World) (m : MS) (x : AS) : Prop where
  nm : m.1 = x.1
  deck : w.ownsRow (R + 1) 2 1 (spotV m.2.1) m.2.1.2.1 (intCells x.2.1)
  dice : ∃ ss hi, OwnDS (R + 1) hi w m.2.2.1 m.2.2.2.1 m.2.2.2.2 ss x.2.2
theorem SavO.below {R : Nat} {w w' : World} {m : MS} {x : AS} (h : SavO R w m x) (hb : Below w.heap.size w w') : SavO R w' m x :=
  ⟨h.nm, ownsRow_below h.deck hb, by obtain ⟨ss, hi, hs⟩ := h.dice; exact ⟨ss, hi, hs.below hb⟩⟩
theorem SavO.set {R j : Nat} {w : World} {m : MS} {x : AS} (h : SavO R w m x) (v : Value) : SavO R (w.setCell ⟨R, j, none⟩ v) m x := by
  refine ⟨h.nm, own_keep h.deck fun g e => ?_, ?_⟩
  · have := (h.deck.lt g e).1
    exact Below.heap_setCell w _ v g (by dsimp only; omega)
  · obtain ⟨ss, hi, hs⟩ := h.dice
    exact ⟨ss, hi, hs.set _ (.inl (by dsimp only; omega)) v⟩
theorem SavO.v {R : Nat} {w : World} {m : MS} {x : AS} (h : SavO R w m x) : SavV w m x :=
  ⟨h.nm, by obtain ⟨nm, ⟨A, L, C⟩, _⟩ := m; exact Rd.own h.deck, by obtain ⟨ss, hi, hs⟩ := h.dice; exact ⟨ss, hs.rd⟩⟩

theorem getD_snoc_self {α : Type} (l : List α) (x d : α) (k : Nat) (h : l.length = k) : (l ++ [x]).getD k d = x := by subst h; simp
theorem getD_snoc_lt {α : Type} (l : List α) (x d : α) (i : Nat) (h : i < l.length) : (l ++ [x]).getD i d = l.getD i d := by
  rw [List.getD_eq_getElem?_getD, List.getD_eq_getElem?_getD, List.getElem?_append_left h]

set_option maxHeartbeats 1600000 in
theorem toSavedS_any (a : Option Addr) (n c : Nat) (ms : List MS) (xs : List AS) (w : World) (h : SavS w a n c ms xs) (hn : n ≤ 1048576) (hr : ∀ i, i < n → totV (xs.getD i as0) ≤ 1048576) :
    Calls Tryd.prog 18 #[.slice a n c] w fun e w' => ∃ (g : Nat) (ts : List MS), e = .returned (.slice (some ⟨g, 0, none⟩) n n) ∧ Below w.heap.size w w' ∧ SavS w' (some ⟨g, 0, none⟩) n n ts xs := by
  obtain ⟨hc, hb, hcell⟩ := h.at
  have HLen := Lib.hid h.len
  have HEl := Lib.hid h.el
  have HTot := Lib.hid hr
  have HAt := Lib.hid hcell
  clear h hr hcell
  obtain ⟨i0, hi, hz0, hz1, hz2⟩ := info_parts infoSaved
  go_enter Tryd.func18, Tryd.ntmps18
  go_wp2_with (first | (at_make; go_must (refine wpList_make_full _ rfl _ _ 39 rfl w.heap.size 30 i0 _ 3 Tryd.underlying39 hi hz0 hz1 _ _ _ _ n rfl rfl rfl rfl (by rw [hz2]; omega) (by unfold maxLen; omega) (by simp) ?_; intro w1 hown1 hg1)))
  have HB1 := Lib.hid (below_made (Below.refl w.heap.size w) (Nat.le_refl _) hg1)
  have HO1 := Lib.hid hown1
  clear hown1 hg1
  go_loopw [4] (fun i wr => ∃ (k : Nat) (ts : List MS) (L : List Value), k ≤ n ∧ i = .int .i64 k ∧ Below w.heap.size w wr ∧ wr.ownsRow w.heap.size 30 3 (.slice (some ⟨w.heap.size, 0, none⟩) n n) n L ∧ ts.length = k ∧ L.take (k * 3) = svCells ts ∧ ∀ i, i < k → SavO w.heap.size wr (ts.getD i ms0) (xs.getD i as0)) (fun i _ => n - (intOf i).toNat)
  case atStart => exact ⟨0, [], _, by omega, rfl, HB1.out, HO1.out, rfl, by simp [svCells], fun i hi => absurd hi (Nat.not_lt_zero _)⟩
  case round =>
    obtain ⟨k, ts, L, hk, rfl, hbel, hown, htl, hL, hel⟩ := hrel
    have HB := Lib.hid hbel
    have HO := Lib.hid hown
    have HL := Lib.hid hL
    have HE := Lib.hid hel
    have HTl := Lib.hid htl
    have hgl := (hown.lt _ rfl).2
    clear hown hL hel htl
    by_cases hlt : k < n
    · obtain ⟨b, off, rfl, hlb, hx⟩ := HAt.out k hlt
      obtain ⟨y0, y1, y2⟩ := hx k hlt
      have z0 := cell_on hbel y0
      have z1 := cell_on hbel y1
      have z2 := cell_on hbel y2
      obtain ⟨hnm, hd, ss, hs⟩ := (HEl.out k hlt).mono hbel
      have ht := HTot.out k hlt
      have hdl := hd.len
      have hsl := hs.len
      have CT := toSaved_own (xs.getD k as0).1 _ _ _ _ _ _ _ ss _ wr hd hs (by unfold totV at ht; omega) (by unfold totV at ht; omega) (fun i hi => by have := totTo_row (xs.getD k as0).2.2 i (by omega); unfold totV at ht; omega)
      have CT := Lib.hid CT
      clear hx y0 y1 y2 hbel hnm hd hs hdl hsl ht
      rcases hM : ms.getD k ms0 with ⟨nm', ⟨A0, L0, C0⟩, ⟨A1, L1, C1⟩⟩
      rw [hM] at z1 z2 CT
      dsimp only at z1 z2 CT
      clear hM
      rcases hX : xs.getD k as0 with ⟨nm, x0, xss⟩
      rw [hX] at z0 CT
      dsimp only at z0 CT
      have HX := Lib.hid hX
      clear hX
      go_wp2_with (fail)
      refine CT.out.mono ?_
      rintro e w2 ⟨g0, g1, tss, rfl, hb2, ho0, ho1⟩
      have HB2 := Lib.hid (HB.out.trans (hb2.mono HB.out.size))
      have hown2 := ownsRow_below HO.out hb2
      have HO2 := Lib.hid hown2
      have hLl := hown2.1
      obtain ⟨q0, c0⟩ : ∃ q, w2.cell? ⟨w.heap.size, k * 3, none⟩ = some q := ⟨_, (hown2.cellAt (k * 3) (by omega)).trans (List.getElem?_eq_getElem (by omega))⟩
      obtain ⟨q1, c1⟩ : ∃ q, w2.cell? ⟨w.heap.size, k * 3 + 1, none⟩ = some q := ⟨_, (hown2.cellAt (k * 3 + 1) (by omega)).trans (List.getElem?_eq_getElem (by omega))⟩
      obtain ⟨q2, c2⟩ : ∃ q, w2.cell? ⟨w.heap.size, k * 3 + 2, none⟩ = some q := ⟨_, (hown2.cellAt (k * 3 + 2) (by omega)).trans (List.getElem?_eq_getElem (by omega))⟩
      have f := fun j => hown2.frozenAt j
      have HN0 : Hid (SavO w.heap.size w2 (nm, (some ⟨g0, 0, none⟩, L0, L0), (some ⟨g1, 0, none⟩, L1, L1)) (nm, x0, xss)) := ⟨rfl, ownsRow_low ho0 (by omega), tss, _, ho1.low (by omega)⟩
      have HE2 : Hid (∀ i, i < k → SavO w.heap.size w2 (ts.getD i ms0) (xs.getD i as0)) := fun i hi => (HE.out i hi).below hb2
      clear hb2 ho0 ho1 hown2 hLl CT
      go_wp2_with (fail)
      go_roundw
      case rel =>
        have g0' := (HO2.out.stored (k * 3) (.string nm)).1
        have g1' := (g0'.stored (k * 3 + 1) (.slice (some ⟨g0, 0, none⟩) L0 L0)).1
        have g2' := (g1'.stored (k * 3 + 2) (.slice (some ⟨g1, 0, none⟩) L1 L1)).1
        refine ⟨k + 1, ts ++ [(nm, (some ⟨g0, 0, none⟩, L0, L0), (some ⟨g1, 0, none⟩, L1, L1))], _, by omega, by go_num, ((HB2.out.setCell (by simp) _).setCell (by simp) _).setCell (by simp) _, by simpa using g2', by simp [HTl.out], ?_, fun i hi => ?_⟩
        · have hl3 : L.length = n * 3 := HO2.out.1
          have e1 : svCells (ts ++ [(nm, (some ⟨g0, 0, none⟩, L0, L0), (some ⟨g1, 0, none⟩, L1, L1))]) = svCells ts ++ [.string nm, .slice (some ⟨g0, 0, none⟩) L0 L0, .slice (some ⟨g1, 0, none⟩) L1 L1] := by simp [svCells, msV, spotV]
          rw [e1, ← HL.out]
          apply List.ext_getElem?
          intro j
          have e3 : (k + 1) * 3 = k * 3 + 3 := by omega
          rw [e3, List.getElem?_take]
          by_cases hj : j < k * 3
          · rw [if_pos (by omega), List.getElem?_append_left (by simp; omega), List.getElem?_take, if_pos hj, List.getElem?_set_ne (by omega), List.getElem?_set_ne (by omega), List.getElem?_set_ne (by omega)]
          · by_cases hj2 : j < k * 3 + 3
            · rw [if_pos hj2, List.getElem?_append_right (by simp; omega)]
              have hlt3 : (List.take (k * 3) L).length = k * 3 := by rw [List.length_take]; omega
              rw [hlt3]
              have h3 : j = k * 3 ∨ j = k * 3 + 1 ∨ j = k * 3 + 2 := by omega
              rcases h3 with rfl | rfl | rfl
              · rw [List.getElem?_set_ne (by omega), List.getElem?_set_ne (by omega), List.getElem?_set_self (by omega)]; simp
              · rw [List.getElem?_set_ne (by omega), List.getElem?_set_self (by rw [List.length_set]; omega)]; simp
              · rw [List.getElem?_set_self (by rw [List.length_set, List.length_set]; omega)]; simp
            · rw [if_neg hj2, List.getElem?_eq_none (by simp; omega)]
        · by_cases hik : i = k
          · subst hik
            rw [getD_snoc_self _ _ _ _ HTl.out, HX.out]
            exact ((HN0.out.set _).set _).set _
          · rw [getD_snoc_lt _ _ _ _ (by rw [HTl.out]; omega)]
            exact (((HE2.out i (by omega)).set _).set _).set _
      case measure => simp [intOf]; omega
    · obtain rfl : k = n := by omega
      clear hbel
      go_wp2
      go_ret
      refine ⟨_, rfl, HB.out, ts, ?_, HLen.out, fun i hi => (HE.out i hi).v⟩
      have hR := Rd.own HO.out
      have e : L = svCells ts := by rw [← HL.out, List.take_of_length_le (by have := HO.out.1; omega)]
      rw [e] at hR
      exact hR

set_option maxRecDepth 100000 in
set_option maxHeartbeats 800000 in
theorem eqSavedS_same (a : Option Addr) (n c : Nat) (ms : List MS) (a' : Option Addr) (c' : Nat) (ms' : List MS) (xs : List AS) (w : World) (h : SavS w a n c ms xs) (h' : SavS w a' n c' ms' xs) :
    Calls Tryd.prog 20 #[.slice a n c, .slice a' n c'] w (Ret w (.bool true)) := by
  obtain ⟨hc, hb, hcell⟩ := h.at
  obtain ⟨hc', hb', hcell'⟩ := h'.at
  have HR := Lib.hid h.el
  have HR' := Lib.hid h'.el
  have HC := Lib.hid hcell
  have HC' := Lib.hid hcell'
  clear h h' hcell hcell'
  go_enter Tryd.func20, Tryd.ntmps20
  go_wp2
  go_loopw [5] (fun i wr => ∃ k : Nat, k ≤ n ∧ i = .int .i64 k ∧ Below w.heap.size w wr) (fun i _ => n - (intOf i).toNat)
  case atStart => exact ⟨0, by omega, rfl, Below.refl _ _⟩
  case round =>
    obtain ⟨k, hk, rfl, hbel⟩ := hrel
    by_cases hlt : k < n
    · obtain ⟨b, off, rfl, hlb, hx⟩ := HC.out k hlt
      obtain ⟨b', off', rfl, hlb', hy⟩ := HC'.out k hlt
      obtain ⟨h0, h1, h2⟩ := hx k hlt
      have r0 := cell_on hbel h0
      have r1 := cell_on hbel h1
      have r2 := cell_on hbel h2
      obtain ⟨h0, h1, h2⟩ := hy k hlt
      have s0 := cell_on hbel h0
      have s1 := cell_on hbel h1
      have s2 := cell_on hbel h2
      obtain ⟨_, d1, ss1, e1⟩ := (HR.out k hlt).mono hbel
      obtain ⟨_, d2, ss2, e2⟩ := (HR'.out k hlt).mono hbel
      have l1 := d1.len.symm.trans d2.len
      have l2 := e1.len.symm.trans e2.len
      have HB := Lib.hid hbel
      have HS := Lib.hid hbel.size
      clear hx hy hbel h0 h1 h2
      rcases hM : ms.getD k ms0 with ⟨nm1, ⟨A0, L0, C0⟩, ⟨A1, L1, C1⟩⟩
      rcases hM' : ms'.getD k ms0 with ⟨nm2, ⟨B0, K0, F0⟩, ⟨B1, K1, F1⟩⟩
      rw [hM] at r1 r2 d1 e1 l1 l2
      rw [hM'] at s1 s2 d2 e2 l1 l2
      dsimp only at r1 r2 d1 e1 s1 s2 d2 e2 l1 l2
      clear hM hM'
      subst l1 l2
      have CC := Lib.hid (eqSaved_same (xs.getD k as0).1 A0 L0 C0 _ A1 L1 C1 ss1 _ B0 F0 B1 F1 ss2 wr.drew d1 (e1.drewN 1) d2 (e2.drewN 1))
      clear d1 e1 d2 e2
      generalize xs.getD k as0 = x at *
      go_wp2_with (fail)
      go_still_tail 8, (by kernel_rfl)
      change wpList _ _ _ _ _ wr.drew
      go_wp2_with (fail)
      refine CC.out.mono ?_
      rintro e w2 ⟨rfl, hb2⟩
      have HB2 := Lib.hid (HB.out.drew.trans (hb2.mono HS.out))
      clear hb2
      go_wp2
      go_roundw
      case rel => exact ⟨k + 1, by omega, by go_num, HB2.out⟩
      case measure => simp [intOf]; omega
    · obtain rfl : k = n := by omega
      have HB := Lib.hid hbel
      clear hbel
      go_wp2
      go_ret
      exact ⟨rfl, HB.out⟩

end Go.Proofs.YtnoageckldilnaaDoor
