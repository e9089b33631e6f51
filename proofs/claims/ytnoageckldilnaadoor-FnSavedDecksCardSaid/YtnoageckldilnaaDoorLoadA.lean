/- Reading what is stored: plain terms; the loader's take. -/
import Derived.Test.YtnoageckldilnaaDoorStoC
import Derived.Test.YtnoageckldilnaaDoorSavS
import Derived.Deep.RegionHeld3
namespace Go.Proofs.YtnoageckldilnaaDoor
open Go.RowKit
set_option linter.unusedVariables false

/-- the bytes that are left, and whether there were too few -/
abbrev LS := List UInt8 × Bool
def tk (st : LS) (m : Nat) : List UInt8 × LS := if st.1.length < m then (List.replicate m 0, (st.1, true)) else (st.1.take m, (st.1.drop m, st.2))
theorem tk_bad {st : LS} {m : Nat} (h : st.1.length < m) : tk st m = (List.replicate m 0, (st.1, true)) := if_pos h
theorem tk_ok {st : LS} {m : Nat} (h : m ≤ st.1.length) : tk st m = (st.1.take m, (st.1.drop m, st.2)) := if_neg (by omega)
theorem tk_len (st : LS) (m : Nat) : (tk st m).1.length = m := by
  by_cases h : st.1.length < m
  · rw [tk_bad h]; simp
  · rw [tk_ok (by omega)]; simp; omega
theorem tk_left (st : LS) (m : Nat) : (tk st m).2.1.length ≤ st.1.length := by
  by_cases h : st.1.length < m
  · rw [tk_bad h]; exact Nat.le_refl _
  · rw [tk_ok (by omega)]; simp
theorem tk_sticky {st : LS} {m : Nat} (h : st.2 = true) : (tk st m).2.2 = true := by
  by_cases q : st.1.length < m
  · rw [tk_bad q]
  · rw [tk_ok (by omega)]; exact h
def hd0 (l : List UInt8) : UInt8 := l.headD 0
/-- a list of numbers -/
def cnt (st : LS) : List Int × LS := (((tk (tk st 1).2 (hd0 (tk st 1).1).toNat).1.map fun b => (b.toNat : Int)), (tk (tk st 1).2 (hd0 (tk st 1).1).toNat).2)
theorem cnt_left (st : LS) : (cnt st).2.1.length ≤ st.1.length := Nat.le_trans (tk_left _ _) (tk_left _ _)
theorem cnt_sticky {st : LS} (h : st.2 = true) : (cnt st).2.2 = true := tk_sticky (tk_sticky h)
theorem cnt_len (st : LS) : (cnt st).1.length = (hd0 (tk st 1).1).toNat := by simp [cnt, tk_len]
theorem cnt_le (st : LS) : (cnt st).1.length ≤ 255 := by rw [cnt_len]; have := UInt8.toNat_lt (hd0 (tk st 1).1); omega
/-- so many lists -/
def dce : Nat → LS → List (List Int) × LS
  | 0, st => ([], st)
  | k + 1, st => ((dce k st).1 ++ [(cnt (dce k st).2).1], (cnt (dce k st).2).2)
theorem dce_len (k : Nat) (st : LS) : (dce k st).1.length = k := by
  induction k with
  | zero => rfl
  | succ k ih => simp [dce, ih]
theorem dce_left (k : Nat) (st : LS) : (dce k st).2.1.length ≤ st.1.length := by
  induction k with
  | zero => exact Nat.le_refl _
  | succ k ih => exact Nat.le_trans (cnt_left _) ih
theorem dce_sticky {st : LS} {k : Nat} (h : (dce k st).2.2 = true) : ∀ m, k ≤ m → (dce m st).2.2 = true := by
  intro m
  induction m with
  | zero => intro hk; obtain rfl : k = 0 := by omega
            exact h
  | succ m ih =>
    intro hk
    by_cases q : k = m + 1
    · subst q; exact h
    · exact cnt_sticky (ih (by omega))
/-- what bytes begin with; and what is left -/
def ld1 (l : List UInt8) : LS := (tk (l, false) 4).2
def ld2 (l : List UInt8) : List UInt8 × LS := tk (tk (ld1 l) 1).2 (hd0 (tk (ld1 l) 1).1).toNat
def ld3 (l : List UInt8) : List Int × LS := cnt (ld2 l).2
def ld4 (l : List UInt8) : List UInt8 × LS := tk (ld3 l).2 1
def ld5 (l : List UInt8) : List (List Int) × LS := dce (hd0 (ld4 l).1).toNat (ld4 l).2
def ldX (l : List UInt8) : AS := (ofL (ld2 l).1, (ld3 l).1, (ld5 l).1)
def ldBad (l : List UInt8) : Bool := (ld5 l).2.2
/-- how much of it is what is stored; 0 if nothing is -/
def ldN (l : List UInt8) : Nat := if ldBad l = false ∧ okSaved (ldX l).1 (ldX l).2.1 (ldX l).2.2 = true ∧ (storeL (ldX l).1 (ldX l).2.1 (ldX l).2.2).isPrefixOf l = true then (storeL (ldX l).1 (ldX l).2.1 (ldX l).2.2).length else 0

theorem ofL_ext (l : List UInt8) (a b : Nat) : (ofL l).extract a b = ofL ((l.take b).drop a) := by
  rw [← ofL_data ((ofL l).extract a b), ext_data, ofL_toList]

/-- The loader, as it lies. -/
structure LdAt (w : World) (b : Nat) (st : LS) : Prop where
  s : w.cell? ⟨b, 0, none⟩ = some (.string (ofL st.1))
  bad : w.cell? ⟨b, 1, none⟩ = some (.bool st.2)
  fr : ∀ j, w.frozen? ⟨b, j, none⟩ = false
theorem LdAt.on {w w' : World} {b : Nat} {st : LS} (h : LdAt w b st) (hb : Below w.heap.size w w') : LdAt w' b st :=
  ⟨cell_on hb h.s, cell_on hb h.bad, fun j => frozen_on hb (show b < _ from cell_lt h.s) (h.fr j)⟩
theorem Chg.of_set {w : World} {b j : Nat} (v : Value) : Chg b (b + 1) w (w.setCell ⟨b, j, none⟩ v) :=
  ⟨rfl, rfl, rfl, by simp, fun k _ hr => Below.heap_setCell w _ v k (by dsimp only; omega)⟩

set_option maxHeartbeats 1600000 in
theorem take_any (b : Nat) (st : LS) (m : Nat) (w : World) (h : LdAt w b st) (hm : m ≤ 255) (hl : st.1.length ≤ 1048576) :
    Calls Tryd.prog 83 #[.pointer (some ⟨b, 0, none⟩), .int .i64 m] w fun e w' => e = .returned (.string (ofL (tk st m).1)) ∧ LdAt w' b (tk st m).2 ∧ Chg b (b + 1) w w' := by
  obtain ⟨h1, h2, h3⟩ := h
  have hs : (ofL st.1).size = st.1.length := ofL_sz _
  have hblt := cell_lt h1
  dsimp only at hblt
  by_cases hlt : st.1.length < m
  · have HT := Lib.hid (tk_bad hlt)
    have hlt2 : ((ofL st.1).size : Int) < (m : Int) := by omega
    have C := Tryd.strings_Repeat ⟨#[0]⟩ m (w.setCell ⟨b, 1, none⟩ (.bool true)) (by omega) (by show 1 * m ≤ _; omega)
    have hrp : (⟨(Lib.repeatL (⟨#[0]⟩ : ByteArray).data.toList m).toArray⟩ : ByteArray) = ofL (List.replicate m 0) := by
      have : ∀ m, Lib.repeatL [(0 : UInt8)] m = List.replicate m 0 := by
        intro m
        induction m with
        | zero => rfl
        | succ m ih => show [0] ++ Lib.repeatL [0] m = _; rw [ih]; rfl
      show ofL (Lib.repeatL [(0 : UInt8)] m) = _
      rw [this]
    rw [hrp] at C
    have C := Lib.hid C
    have HL : Hid (LdAt (w.setCell ⟨b, 1, none⟩ (.bool true)) b (st.1, true)) := ⟨by go_simp, by go_simp, fun j => by go_simp⟩
    have HC : Hid (Chg b (b + 1) w (w.setCell ⟨b, 1, none⟩ (.bool true))) := Chg.of_set _
    rw [HT.out]
    dsimp only
    clear hs hrp hlt
    generalize ofL st.1 = sx at *
    generalize ofL (List.replicate m 0) = sz at *
    go_enter Tryd.func83, Tryd.ntmps83
    go_wp2_with (fail)
    refine C.out.mono ?_
    rintro e w1 ⟨rfl, hb1⟩
    have HL1 := Lib.hid (HL.out.on hb1)
    have HC1 := Lib.hid (HC.out.trans (Chg.of_below hb1 (Nat.le_refl _)))
    clear hb1 C
    go_wp2
    go_ret
    exact ⟨rfl, HL1.out, HC1.out⟩
  · have HT := Lib.hid (tk_ok (st := st) (m := m) (by omega))
    have hlt2 : (m : Int) ≤ ((ofL st.1).size : Int) := by omega
    have e1 : (ofL st.1).extract 0 m = ofL (st.1.take m) := by rw [ofL_ext]; simp
    have e2 : (ofL st.1).extract m (ofL st.1).size = ofL (st.1.drop m) := by rw [ofL_ext, hs, List.take_of_length_le (Nat.le_refl _)]
    have E1 := Lib.hid e1
    have E2 := Lib.hid e2
    have HL : Hid (LdAt (w.setCell ⟨b, 0, none⟩ (.string ((ofL st.1).extract m (ofL st.1).size))) b (st.1.drop m, st.2)) := ⟨by rw [e2]; go_simp, by go_simp, fun j => by go_simp⟩
    have HC : Hid (Chg b (b + 1) w (w.setCell ⟨b, 0, none⟩ (.string ((ofL st.1).extract m (ofL st.1).size)))) := Chg.of_set _
    rw [HT.out]
    clear hlt e1 e2
    have hs2 : (ofL st.1).size ≤ 1048576 := by omega
    clear hs
    go_enter Tryd.func83, Tryd.ntmps83
    go_wp2
    go_ret
    exact ⟨by rw [← E1.out]; rfl, HL.out, HC.out⟩

end Go.Proofs.YtnoageckldilnaaDoor
