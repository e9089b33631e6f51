/- Reading what is stored: the program's load. -/
import Derived.Test.YtnoageckldilnaaDoorLoadC
import Derived.Deep.RegionWith
import Derived.Deep.RegionLaw
namespace Go.Proofs.YtnoageckldilnaaDoor
open Go.RowKit
set_option linter.unusedVariables false
set_option linter.unusedSimpArgs false

theorem Clone_any (s : ByteArray) (w : World) (hs : s.size ≤ 1048576) : Calls Tryd.prog 84 #[.string s] w (Ret w (.string s)) := by
  have C := Tryd.stringslite_Clone s w (by omega)
  go_enter Tryd.func84, Tryd.ntmps84
  go_wp2_with (fail)
  refine C.mono ?_
  rintro e w1 ⟨rfl, hb1⟩
  go_wp2
  go_ret
  exact ⟨rfl, hb1⟩

theorem ldX_eq (l : List UInt8) : ldX l = (ofL (ld2 l).1, (ld3 l).1, (ld5 l).1) := by unfold ldX; exact Eq.refl _
theorem ldN_eq (l : List UInt8) : ldN l = if (ld5 l).2.2 = false ∧ okSaved (ofL (ld2 l).1) (ld3 l).1 (ld5 l).1 = true ∧ (storeL (ofL (ld2 l).1) (ld3 l).1 (ld5 l).1).isPrefixOf l = true then (storeL (ofL (ld2 l).1) (ld3 l).1 (ld5 l).1).length else 0 := by
  unfold ldN ldBad
  rw [ldX_eq]

theorem ints_own {w : World} {B : Nat} {a : Option Addr} {n c : Nat} {xs : List Int} (h : w.ownsRow B 2 1 (.slice a n c) n (intCells xs)) : Ints w a n c xs := Rd.own h
/-- What a load leaves. -/
def LoadPost (l : List UInt8) (w : World) (e : Ending) (w' : World) : Prop :=
  Below w.heap.size w w' ∧ (ldN l = 0 → e = .returned (.tuple #[.agg #[.string ⟨#[]⟩, .slice none 0 0, .slice none 0 0], .int .i64 0, .bool false])) ∧
  (ldN l ≠ 0 → ∃ a0 n0 c0 a1 n1 c1 ts l1, e = .returned (.tuple #[.agg #[.string (ldX l).1, .slice a0 n0 c0, .slice a1 n1 c1], .int .i64 (ldN l : Nat), .bool true]) ∧ w.heap.size ≤ l1 ∧ l1 ≤ w'.heap.size ∧
    w'.ownsRow w.heap.size 2 1 (.slice a0 n0 c0) n0 (intCells (ldX l).2.1) ∧ In w.heap.size l1 a0 ∧ OwnDS l1 w'.heap.size w' a1 n1 c1 ts (ldX l).2.2)

/-- The result's own cells, empty. -/
structure ResAt (w : World) (b : Nat) : Prop where
  c0 : w.cell? ⟨b, 0, none⟩ = some (.string ⟨#[]⟩)
  c1 : w.cell? ⟨b, 1, none⟩ = some (.slice none 0 0)
  c2 : w.cell? ⟨b, 2, none⟩ = some (.slice none 0 0)
  fr : ∀ j, w.frozen? ⟨b, j, none⟩ = false
theorem ResAt.chg {w w' : World} {b lo hi : Nat} (h : ResAt w b) (hc : Chg lo hi w w') (hb : b < lo ∨ hi ≤ b) : ResAt w' b :=
  ⟨hc.cell h.c0 hb, hc.cell h.c1 hb, hc.cell h.c2 hb, fun j => (World.frozen?_of_block (hc.block b (cell_lt h.c0) hb)).trans (h.fr j)⟩

theorem Chg.setNew {lo hi : Nat} {a w : World} (h : Chg lo hi a w) (p : Addr) (hp : a.heap.size ≤ p.block) (v : Value) : Chg lo hi a (w.setCell p v) :=
  ⟨h.os, h.tape, h.output, by simpa using h.size, fun k hk hr => (Below.heap_setCell w p v k (by omega)).trans (h.block k hk hr)⟩
theorem LdAt.set {w : World} {b : Nat} {st : LS} (h : LdAt w b st) (p : Addr) (hp : p.block ≠ b) (v : Value) : LdAt (w.setCell p v) b st := by
  have hb := Below.heap_setCell w p v b (Ne.symm hp)
  exact ⟨(World.cell?_of_block hb).trans h.s, (World.cell?_of_block hb).trans h.bad, fun j => (World.frozen?_of_block hb).trans (h.fr j)⟩
theorem LdAt.chg {lo hi : Nat} {w w' : World} {b : Nat} {st : LS} (h : LdAt w b st) (hc : Chg lo hi w w') (hb : b < lo ∨ hi ≤ b) : LdAt w' b st :=
  ⟨hc.cell h.s hb, hc.cell h.bad hb, fun j => (World.frozen?_of_block (hc.block b (cell_lt h.s) hb)).trans (h.fr j)⟩
theorem dce_zero (st : LS) : dce 0 st = ([], st) := rfl
theorem dce_succ (k : Nat) (st : LS) : dce (k + 1) st = ((dce k st).1 ++ [(cnt (dce k st).2).1], (cnt (dce k st).2).2) := rfl
theorem ownDS_nil (lo hi : Nat) (w : World) : OwnDS lo hi w none 0 0 [] [] :=
  ⟨rfl, ⟨World.ownsRow_nil _ _ _ _, fun g e => by simp [Value.ownBlock] at e, fun i hi => absurd hi (Nat.not_lt_zero _), fun i hi => absurd hi (Nat.not_lt_zero _), fun i j _ hi => absurd hi (Nat.not_lt_zero _), fun i hi => absurd hi (Nat.not_lt_zero _)⟩⟩

theorem load_step_cell (w9 w10 : World) {O : Nat} {v : Value} (a : Option Addr) (k c : Nat) (o : Obj) (hg : (w9.alloc o).grownBy w10 (Value.slice a k c).ownBlock) (h : (w9.alloc o).cell? ⟨O, 2, none⟩ = some v) (hne : ∀ x, (Value.slice a k c).ownBlock = some x → O < x) : w10.cell? ⟨O, 2, none⟩ = some v :=
  (World.cell?_of_block (hg.block O (cell_lt h) (fun e => by have := hne O e.symm; omega))).trans h
theorem load_step_fr (w9 w10 : World) {O : Nat} (a : Option Addr) (k c : Nat) (o : Obj) (hg : (w9.alloc o).grownBy w10 (Value.slice a k c).ownBlock) (h : ∀ j, (w9.alloc o).frozen? ⟨O, j, none⟩ = false) (hO : O < w9.heap.size) (hne : ∀ x, (Value.slice a k c).ownBlock = some x → O < x) : ∀ j, w10.frozen? ⟨O, j, none⟩ = false := fun j =>
  (World.frozen?_of_block (hg.block O (by simp; omega) (fun e => by have := hne O e.symm; omega))).trans (h j)
theorem Chg.outer {lo hi l r : Nat} {a w w' : World} (h : Chg lo hi a w) (k : Chg l r w w') (hl : a.heap.size ≤ l) : Chg lo hi a w' :=
  ⟨k.os.trans h.os, k.tape.trans h.tape, k.output.trans h.output, Nat.le_trans h.size k.size, fun i h1 h2 => (k.block i (by have := h.size; omega) (.inl (by omega))).trans (h.block i h1 h2)⟩
/-- Behind a round: one die more. -/
theorem load_step (l : List UInt8) (w w4 w8 W0 wr w9 w10 : World) (k : Nat) (a : Option Addr) (c : Nat) (ss : List Spot) (gd dl cd g9 c9 gg cap : Nat) (hO1 : w4.heap.size < w8.heap.size) (hO3 : w.heap.size + 2 ≤ w4.heap.size) (hO4 : gd < w8.heap.size) (hz0 : W0.heap.size = w.heap.size + 2) (hzW : W0.heap.size ≤ w8.heap.size)
    (hL : LdAt wr (w.heap.size + 1) (dce k (ld4 l).2).2) (hP : wr.cell? ⟨w4.heap.size, 0, none⟩ = some (.string (ofL (ld2 l).1)) ∧ wr.cell? ⟨w4.heap.size, 1, none⟩ = some (.slice (some ⟨gd, 0, none⟩) dl cd) ∧ wr.cell? ⟨w4.heap.size, 2, none⟩ = some (.slice a k c) ∧ ∀ j, wr.frozen? ⟨w4.heap.size, j, none⟩ = false)
    (hD : OwnDS w8.heap.size wr.heap.size wr a k c ss (dce k (ld4 l).2).1) (hO : wr.ownsRow (w4.heap.size + 1) 2 1 (.slice (some ⟨gd, 0, none⟩) dl cd) dl (intCells (ld3 l).1)) (hC : Chg (w.heap.size + 1) (w.heap.size + 1 + 1) W0 wr) (hz : w8.heap.size ≤ wr.heap.size)
    (h9L : LdAt w9 (w.heap.size + 1) (cnt (dce k (ld4 l).2).2).2) (h9C : Chg (w.heap.size + 1) (w.heap.size + 1 + 1) wr w9) (h9O : w9.ownsRow wr.heap.size 2 1 (.slice (some ⟨g9, 0, none⟩) (cnt (dce k (ld4 l).2).2).1.length c9) (cnt (dce k (ld4 l).2).2).1.length (intCells (cnt (dce k (ld4 l).2).2).1))
    (hown : w10.ownsRow w8.heap.size 82 1 (.slice (some ⟨gg, 0, none⟩) (k + 1) cap) (k + 1) (spotCells ss ++ [.slice (some ⟨g9, 0, none⟩) (cnt (dce k (ld4 l).2).2).1.length c9]))
    (hg : (w9.alloc (.cells #[.slice (some ⟨g9, 0, none⟩) (cnt (dce k (ld4 l).2).2).1.length c9] 82)).grownBy w10 (Value.slice a k c).ownBlock) (hat : (Value.slice a k c).ownBlock = some gg ∨ gg = w9.heap.size + 1) :
    LdAt (w10.setCell ⟨w4.heap.size, 2, none⟩ (.slice (some ⟨gg, 0, none⟩) (k + 1) cap)) (w.heap.size + 1) (dce (k + 1) (ld4 l).2).2 ∧
    Hid ((w10.setCell ⟨w4.heap.size, 2, none⟩ (.slice (some ⟨gg, 0, none⟩) (k + 1) cap)).cell? ⟨w4.heap.size, 0, none⟩ = some (.string (ofL (ld2 l).1)) ∧ (w10.setCell ⟨w4.heap.size, 2, none⟩ (.slice (some ⟨gg, 0, none⟩) (k + 1) cap)).cell? ⟨w4.heap.size, 1, none⟩ = some (.slice (some ⟨gd, 0, none⟩) dl cd) ∧ (w10.setCell ⟨w4.heap.size, 2, none⟩ (.slice (some ⟨gg, 0, none⟩) (k + 1) cap)).cell? ⟨w4.heap.size, 2, none⟩ = some (.slice (some ⟨gg, 0, none⟩) (k + 1) cap) ∧ ∀ j, (w10.setCell ⟨w4.heap.size, 2, none⟩ (.slice (some ⟨gg, 0, none⟩) (k + 1) cap)).frozen? ⟨w4.heap.size, j, none⟩ = false) ∧
    OwnDS w8.heap.size (w10.setCell ⟨w4.heap.size, 2, none⟩ (.slice (some ⟨gg, 0, none⟩) (k + 1) cap)).heap.size (w10.setCell ⟨w4.heap.size, 2, none⟩ (.slice (some ⟨gg, 0, none⟩) (k + 1) cap)) (some ⟨gg, 0, none⟩) (k + 1) cap (ss ++ [(some ⟨g9, 0, none⟩, (cnt (dce k (ld4 l).2).2).1.length, c9)]) (dce (k + 1) (ld4 l).2).1 ∧
    (w10.setCell ⟨w4.heap.size, 2, none⟩ (.slice (some ⟨gg, 0, none⟩) (k + 1) cap)).ownsRow (w4.heap.size + 1) 2 1 (.slice (some ⟨gd, 0, none⟩) dl cd) dl (intCells (ld3 l).1) ∧
    Chg (w.heap.size + 1) (w.heap.size + 1 + 1) W0 (w10.setCell ⟨w4.heap.size, 2, none⟩ (.slice (some ⟨gg, 0, none⟩) (k + 1) cap)) ∧ w8.heap.size ≤ (w10.setCell ⟨w4.heap.size, 2, none⟩ (.slice (some ⟨gg, 0, none⟩) (k + 1) cap)).heap.size := by
  rw [dce_succ]
  dsimp only
  generalize (cnt (dce k (ld4 l).2).2).1 = ys at *
  generalize (cnt (dce k (ld4 l).2).2).2 = st9 at *
  generalize (dce k (ld4 l).2).1 = xss at *
  have hA : Below w9.heap.size w9 (w9.alloc (.cells #[.slice (some ⟨g9, 0, none⟩) ys.length c9] 82)) := (Below.refl _ _).alloc (Nat.le_refl _) _
  have hAs : (w9.alloc (.cells #[.slice (some ⟨g9, 0, none⟩) ys.length c9] 82)).heap.size = w9.heap.size + 1 := by simp
  have hIn : In w8.heap.size wr.heap.size a := fun x hx => by
    subst hx
    exact hD.p.out.lt _ rfl
  have hcg := Chg.of_grown (n := k) (c := c) hIn hg
  have hs9 := h9C.size
  have hs10 := hcg.size
  obtain ⟨p0, p1, p2, pf⟩ := hP
  have hgd := (hO.lt gd rfl).1
  have cc : ∀ j v, wr.cell? ⟨w4.heap.size, j, none⟩ = some v → w10.cell? ⟨w4.heap.size, j, none⟩ = some v := fun j v h => hcg.cell (cell_on hA (h9C.cell h (.inr (by dsimp only; omega)))) (.inl (by dsimp only; omega))
  have cf : ∀ j, w10.frozen? ⟨w4.heap.size, j, none⟩ = false := fun j =>
    ((World.frozen?_of_block (hcg.block w4.heap.size (by omega) (.inl (by omega)))).trans (hA.frozen (p := ⟨w4.heap.size, j, none⟩) (by dsimp only; omega))).trans ((World.frozen?_of_block (h9C.block w4.heap.size (by omega) (.inr (by omega)))).trans (pf j))
  have c0 := cc 0 _ p0
  have c1 := cc 1 _ p1
  have c2 := cc 2 _ p2
  have hD9 := hD.chg h9C (.inr (by omega))
  have hS := OwnDS.snoc (s := (some ⟨g9, 0, none⟩, ys.length, c9)) (lo2 := wr.heap.size) (hi' := w10.heap.size) hD9 h9O hz (Nat.le_refl _) (by omega) (by omega) hown hg hat (Nat.le_refl _)
  have hdeck : w10.ownsRow (w4.heap.size + 1) 2 1 (.slice (some ⟨gd, 0, none⟩) dl cd) dl (intCells (ld3 l).1) :=
    own_chg (ownsRow_below (own_chg hO h9C (fun x hx => by cases hx; exact ⟨Nat.le_refl _, Nat.lt_succ_self _⟩ : In gd (gd + 1) _) (.inr (by omega))) hA) hcg (fun x hx => by cases hx; exact ⟨Nat.le_refl _, Nat.lt_succ_self _⟩ : In gd (gd + 1) _) (.inl (by omega))
  refine ⟨((h9L.on hA).chg hcg (.inl (by omega))).set _ (by dsimp only; omega) _, ⟨?_, ?_, ?_, fun j => ?_⟩, ?_, ?_, ?_, ?_⟩
  · clear c1 c2; go_simp
  · clear c0 c2; go_simp
  · go_simp
  · go_simp
  · exact (hS.set _ (.inl (by dsimp only; omega)) _).wide (by simp)
  · exact ownsRow_setCell_other hdeck (fun y hy => by obtain rfl := Option.some.inj hy; dsimp only; omega) _
  · exact (((hC.trans h9C).trans (Chg.of_below hA (Nat.le_refl _))).outer hcg hzW).setNew _ (by dsimp only; omega) _
  · simp; omega

set_option maxHeartbeats 6400000 in
set_option maxRecDepth 100000 in
theorem load_any (l : List UInt8) (w : World) (hs : l.length ≤ 1048576) :
    Calls Tryd.prog 52 #[.string (ofL l)] w (LoadPost l w) := by
  have hB0 : Below w.heap.size w ((w.alloc (.cells #[.string ⟨#[]⟩, .slice none 0 0, .slice none 0 0] 30)).alloc (.cells #[.string (ofL l), .bool false] 115)) := ((Below.refl _ _).alloc (Nat.le_refl _) _).alloc (by simp) _
  have hR0 : ResAt ((w.alloc (.cells #[.string ⟨#[]⟩, .slice none 0 0, .slice none 0 0] 30)).alloc (.cells #[.string (ofL l), .bool false] 115)) w.heap.size := ⟨by go_simp, by go_simp, by go_simp, fun j => by go_simp⟩
  have hL0 : LdAt ((w.alloc (.cells #[.string ⟨#[]⟩, .slice none 0 0, .slice none 0 0] 30)).alloc (.cells #[.string (ofL l), .bool false] 115)) (w.heap.size + 1) (l, false) := ⟨by go_simp, by go_simp, fun j => by go_simp⟩
  have hz0 : ((w.alloc (.cells #[.string ⟨#[]⟩, .slice none 0 0, .slice none 0 0] 30)).alloc (.cells #[.string (ofL l), .bool false] 115)).heap.size = w.heap.size + 2 := by simp
  have h1l : (ld1 l).1.length ≤ 1048576 := Nat.le_trans (tk_left _ _) hs
  have h2l : (tk (ld1 l) 1).2.1.length ≤ 1048576 := Nat.le_trans (tk_left _ _) h1l
  have h3l : (ld2 l).2.1.length ≤ 1048576 := Nat.le_trans (tk_left _ _) h2l
  have h4l : (ld3 l).2.1.length ≤ 1048576 := Nat.le_trans (cnt_left _) h3l
  have h5l : (ld4 l).2.1.length ≤ 1048576 := Nat.le_trans (tk_left _ _) h4l
  have hnl : (ld2 l).1.length ≤ 255 := by unfold ld2; rw [tk_len]; have := UInt8.toNat_lt (hd0 (tk (ld1 l) 1).1); omega
  have T1 := Lib.hid (take_any (w.heap.size + 1) (l, false) 4 _ hL0 (by omega) hs)
  have T2 := Lib.hid (fun W (h : LdAt W (w.heap.size + 1) (ld1 l)) => take_any (w.heap.size + 1) (ld1 l) 1 W h (by omega) h1l)
  have T3 : Hid (∀ W, LdAt W (w.heap.size + 1) (tk (ld1 l) 1).2 → Calls Tryd.prog 83 #[.pointer (some ⟨w.heap.size + 1, 0, none⟩), .int .i64 (hd0 (tk (ld1 l) 1).1).toNat] W fun e w' => e = .returned (.string (ofL (ld2 l).1)) ∧ LdAt w' (w.heap.size + 1) (ld2 l).2 ∧ Chg (w.heap.size + 1) (w.heap.size + 1 + 1) W w') := (fun W h => take_any (w.heap.size + 1) (tk (ld1 l) 1).2 (hd0 (tk (ld1 l) 1).1).toNat W h (by have := UInt8.toNat_lt (hd0 (tk (ld1 l) 1).1); omega) h2l)
  have T4 := Lib.hid (fun W => Clone_any (ofL (ld2 l).1) W (by rw [ofL_sz]; omega))
  have T5 : Hid (∀ W, LdAt W (w.heap.size + 1) (ld2 l).2 → Calls Tryd.prog 85 #[.pointer (some ⟨w.heap.size + 1, 0, none⟩)] W fun e w' => ∃ g c, e = .returned (.slice (some ⟨g, 0, none⟩) (ld3 l).1.length c) ∧ LdAt w' (w.heap.size + 1) (ld3 l).2 ∧ Chg (w.heap.size + 1) (w.heap.size + 1 + 1) W w' ∧ w'.ownsRow W.heap.size 2 1 (.slice (some ⟨g, 0, none⟩) (ld3 l).1.length c) (ld3 l).1.length (intCells (ld3 l).1)) := (fun W h => counted2_any (w.heap.size + 1) (ld2 l).2 W h h3l)
  have T6 : Hid (∀ W, LdAt W (w.heap.size + 1) (ld3 l).2 → Calls Tryd.prog 83 #[.pointer (some ⟨w.heap.size + 1, 0, none⟩), .int .i64 1] W fun e w' => e = .returned (.string (ofL (ld4 l).1)) ∧ LdAt w' (w.heap.size + 1) (ld4 l).2 ∧ Chg (w.heap.size + 1) (w.heap.size + 1 + 1) W w') := (fun W h => take_any (w.heap.size + 1) (ld3 l).2 1 W h (by omega) h4l)
  have q1 : (ofL (tk (ld1 l) 1).1).size = 1 := by rw [ofL_sz, tk_len]
  have q2 := ofL_hd (tk (ld1 l) 1).1
  have q3 : (ofL (ld4 l).1).size = 1 := by unfold ld4; rw [ofL_sz, tk_len]
  have q4 := ofL_hd (ld4 l).1
  have q5 := UInt8.toNat_lt (hd0 (tk (ld1 l) 1).1)
  have q6 := UInt8.toNat_lt (hd0 (ld4 l).1)
  have HR0 := Lib.hid hR0
  have HB0 := Lib.hid hB0
  clear hB0 hR0 hL0
  generalize ofL (tk (ld1 l) 1).1 = s1 at *
  generalize hd0 (tk (ld1 l) 1).1 = ch1 at *
  have H5 : Hid (dce (hd0 (ld4 l).1).toNat (ld4 l).2 = ld5 l) := rfl
  generalize ofL (ld4 l).1 = s4 at *
  generalize hd0 (ld4 l).1 = ch4 at *
  go_enter Tryd.func52, Tryd.ntmps52
  go_wp2_with (fail)
  refine T1.out.mono ?_
  rintro e w1 ⟨rfl, hL1, hc1⟩
  have HC1 := Lib.hid hc1
  have T2' := Lib.hid (T2.out w1 hL1)
  clear hL1 hc1 T1 T2
  generalize (w.alloc (.cells #[.string ⟨#[]⟩, .slice none 0 0, .slice none 0 0] 30)).alloc (.cells #[.string (ofL l), .bool false] 115) = W0 at *
  go_wp2_with (fail)
  refine T2'.out.mono ?_
  rintro e w2 ⟨rfl, hL2, hc2⟩
  have HC2 := Lib.hid (HC1.out.trans hc2)
  have T3' := Lib.hid (T3.out w2 hL2)
  clear hL2 hc2 T2' T3 HC1
  go_wp2_with (fail)
  refine T3'.out.mono ?_
  rintro e w3 ⟨rfl, hL3, hc3⟩
  have HC3 := Lib.hid (HC2.out.trans hc3)
  have HL3 := Lib.hid hL3
  clear hL3 hc3 T3' HC2
  go_wp2_with (fail)
  refine (T4.out w3).mono ?_
  rintro e w4 ⟨rfl, hb4⟩
  have HL4 := Lib.hid (HL3.out.on hb4)
  have HC4 := Lib.hid (HC3.out.trans (Chg.of_below hb4 (Nat.le_refl _)))
  have hz4 := HC4.out.size
  clear hb4 T4 HL3 HC3
  have HC5 := Lib.hid (HC4.out.trans (Chg.of_below ((Below.refl w4.heap.size w4).alloc (Nat.le_refl _) (.cells #[.string (ofL (ld2 l).1), .slice none 0 0, .slice none 0 0] 30)) (Nat.le_refl _)))
  have HL5 := Lib.hid (HL4.out.on ((Below.refl w4.heap.size w4).alloc (Nat.le_refl _) (.cells #[.string (ofL (ld2 l).1), .slice none 0 0, .slice none 0 0] 30)))
  have o0 : (w4.alloc (.cells #[.string (ofL (ld2 l).1), .slice none 0 0, .slice none 0 0] 30)).cell? ⟨w4.heap.size, 0, none⟩ = some (.string (ofL (ld2 l).1)) := by go_simp
  have o1 : (w4.alloc (.cells #[.string (ofL (ld2 l).1), .slice none 0 0, .slice none 0 0] 30)).cell? ⟨w4.heap.size, 1, none⟩ = some (.slice none 0 0) := by go_simp
  have o2 : (w4.alloc (.cells #[.string (ofL (ld2 l).1), .slice none 0 0, .slice none 0 0] 30)).cell? ⟨w4.heap.size, 2, none⟩ = some (.slice none 0 0) := by go_simp
  have of0 : ∀ j, (w4.alloc (.cells #[.string (ofL (ld2 l).1), .slice none 0 0, .slice none 0 0] 30)).frozen? ⟨w4.heap.size, j, none⟩ = false := fun j => by go_simp
  have hz5 : (w4.alloc (.cells #[.string (ofL (ld2 l).1), .slice none 0 0, .slice none 0 0] 30)).heap.size = w4.heap.size + 1 := by simp
  have T5' := Lib.hid (T5.out _ HL5.out)
  clear T5 HL4 HC4
  go_wp2_with (fail)
  refine T5'.out.mono ?_
  rintro e w6 ⟨gd, cd, rfl, hL6, hc6, ho6⟩
  have HL6 := Lib.hid hL6
  have HC6 := Lib.hid (HC5.out.trans hc6)
  have o0 := hc6.cell o0 (.inr (by dsimp only; omega))
  have o1 := hc6.cell o1 (.inr (by dsimp only; omega))
  have o2 := hc6.cell o2 (.inr (by dsimp only; omega))
  have of1 : ∀ j, w6.frozen? ⟨w4.heap.size, j, none⟩ = false := fun j => (World.frozen?_of_block (hc6.block w4.heap.size (by omega) (.inr (by omega)))).trans (of0 j)
  have hz6 := hc6.size
  rw [hz5] at ho6 hz6
  have HO6 := Lib.hid ho6
  have hgd := (ho6.lt gd rfl)
  clear hL6 hc6 T5' HC5 HL5 of0 ho6
  generalize hDl : (ld3 l).1.length = dl at *
  have HDl := Lib.hid hDl
  clear hDl
  have h7 : LdAt (w6.setCell ⟨w4.heap.size, 1, none⟩ (.slice (some ⟨gd, 0, none⟩) dl cd)) (w.heap.size + 1) (ld3 l).2 := HL6.out.set _ (by dsimp only; omega) _
  have HC7 := Lib.hid (HC6.out.setNew ⟨w4.heap.size, 1, none⟩ (by dsimp only; omega) (.slice (some ⟨gd, 0, none⟩) dl cd))
  have T6' := Lib.hid (T6.out _ h7)
  have HO7 := Lib.hid (ownsRow_setCell_other HO6.out (p := ⟨w4.heap.size, 1, none⟩) (fun y hy => by obtain rfl := Option.some.inj hy; dsimp only; omega) (.slice (some ⟨gd, 0, none⟩) dl cd))
  have p0 : (w6.setCell ⟨w4.heap.size, 1, none⟩ (.slice (some ⟨gd, 0, none⟩) dl cd)).cell? ⟨w4.heap.size, 0, none⟩ = some (.string (ofL (ld2 l).1)) := by go_simp
  have p1 : (w6.setCell ⟨w4.heap.size, 1, none⟩ (.slice (some ⟨gd, 0, none⟩) dl cd)).cell? ⟨w4.heap.size, 1, none⟩ = some (.slice (some ⟨gd, 0, none⟩) dl cd) := by go_simp
  have p2 : (w6.setCell ⟨w4.heap.size, 1, none⟩ (.slice (some ⟨gd, 0, none⟩) dl cd)).cell? ⟨w4.heap.size, 2, none⟩ = some (.slice none 0 0) := by go_simp
  have pf : ∀ j, (w6.setCell ⟨w4.heap.size, 1, none⟩ (.slice (some ⟨gd, 0, none⟩) dl cd)).frozen? ⟨w4.heap.size, j, none⟩ = false := fun j => by go_simp
  have hz7 : (w6.setCell ⟨w4.heap.size, 1, none⟩ (.slice (some ⟨gd, 0, none⟩) dl cd)).heap.size = w6.heap.size := by simp
  have HPP := Lib.hid (And.intro p0 (And.intro p1 (And.intro p2 pf)))
  clear h7 T6 HL6 HC6 HO6 p0 p1 p2 pf
  go_wp2_with (fail)
  obtain ⟨p0, p1, p2, pf⟩ := HPP.out
  clear o0 o1 o2 of1 HPP
  generalize w6.setCell ⟨w4.heap.size, 1, none⟩ (.slice (some ⟨gd, 0, none⟩) dl cd) = w7 at *
  refine T6'.out.mono ?_
  rintro e w8 ⟨rfl, hL8, hc8⟩
  have HL8 := Lib.hid hL8
  have HC8 := Lib.hid (HC7.out.trans hc8)
  have p0 := hc8.cell p0 (.inr (by dsimp only; omega))
  have p1 := hc8.cell p1 (.inr (by dsimp only; omega))
  have p2 := hc8.cell p2 (.inr (by dsimp only; omega))
  have pf8 : ∀ j, w8.frozen? ⟨w4.heap.size, j, none⟩ = false := fun j => (World.frozen?_of_block (hc8.block w4.heap.size (by omega) (.inr (by omega)))).trans (pf j)
  have HO8 := Lib.hid (own_chg HO7.out hc8 (own_in HO7.out) (.inr (by omega)))
  have hz8 := hc8.size
  clear hL8 hc8 T6' HC7 HO7 pf
  have HP8 : Hid (w8.cell? ⟨w4.heap.size, 0, none⟩ = some (.string (ofL (ld2 l).1)) ∧ w8.cell? ⟨w4.heap.size, 1, none⟩ = some (.slice (some ⟨gd, 0, none⟩) dl cd) ∧ w8.cell? ⟨w4.heap.size, 2, none⟩ = some (.slice none 0 0) ∧ ∀ j, w8.frozen? ⟨w4.heap.size, j, none⟩ = false) := ⟨p0, p1, p2, pf8⟩
  clear p0 p1 p2 pf8
  go_wp2
  go_loopw [21] (fun vi wr => ∃ (k : Nat) (a : Option Addr) (c : Nat) (ss : List Spot), k ≤ ch4.toNat ∧ vi = .int .u8 k ∧ LdAt wr (w.heap.size + 1) (dce k (ld4 l).2).2 ∧ Hid (wr.cell? ⟨w4.heap.size, 0, none⟩ = some (.string (ofL (ld2 l).1)) ∧ wr.cell? ⟨w4.heap.size, 1, none⟩ = some (.slice (some ⟨gd, 0, none⟩) dl cd) ∧ wr.cell? ⟨w4.heap.size, 2, none⟩ = some (.slice a k c) ∧ ∀ j, wr.frozen? ⟨w4.heap.size, j, none⟩ = false) ∧ OwnDS w8.heap.size wr.heap.size wr a k c ss (dce k (ld4 l).2).1 ∧ wr.ownsRow (w4.heap.size + 1) 2 1 (.slice (some ⟨gd, 0, none⟩) dl cd) dl (intCells (ld3 l).1) ∧ Chg (w.heap.size + 1) (w.heap.size + 1 + 1) W0 wr ∧ w8.heap.size ≤ wr.heap.size) (fun vi _ => ch4.toNat - (intOf vi).toNat)
  case atStart =>
    refine ⟨0, none, 0, [], Nat.zero_le _, rfl, ?_, HP8.out, ?_, HO8.out, HC8.out, Nat.le_refl _⟩
    · rw [dce_zero]; exact HL8.out
    · rw [dce_zero]; exact ownDS_nil _ _ _
  case round =>
    obtain ⟨k, a, c, ss, hk, rfl, hL, HP, hD, hO, hC, hz⟩ := hrel
    have HL := Lib.hid hL
    have HD := Lib.hid hD
    have HO := Lib.hid hO
    have HC := Lib.hid hC
    clear hL hD hO hC
    by_cases hlt : k < ch4.toNat
    · have hO1 : w4.heap.size < w8.heap.size := by omega
      have hO3 : w.heap.size + 2 ≤ w4.heap.size := by omega
      have hO4 : gd < w8.heap.size := by have := hgd.2; omega
      have hzW : W0.heap.size ≤ w8.heap.size := by omega
      have hzr : w8.heap.size ≤ wr.heap.size := hz
      have hO2 : w4.heap.size ≠ w.heap.size + 1 := by omega
      obtain ⟨_, _, p2, pf⟩ := HP.out
      have hdl5 : (dce k (ld4 l).2).2.1.length ≤ 1048576 := Nat.le_trans (dce_left _ _) h5l
      have C1 := Lib.hid (counted2_any (w.heap.size + 1) _ wr.drew (HL.out.on (Below.refl _ _).drew) hdl5)
      obtain ⟨i0, hi, hz0', hz1', hz2'⟩ := info_parts infoDie
      have hkb : k ≤ 255 := by omega
      have hkl : (k : Int) < (ch4.toNat : Int) := by omega
      clear hdl5
      go_wp2
      refine wp_region_held_drew (S := fun _ => True) (by kernel_rfl) trivial (fun _ => ?_)
      refine wpAnyH_take (i := 0) (v := ?_) rfl (by kernel_rfl) (by kernel_rfl) (by kernel_rfl) (fun _ _ _ h => h) (Or.inl ⟨by rfl, ?_⟩) trivial ?_
      rotate_left 1
      · intro w hSw; go_simp; try with_reducible rfl
      try simp only [Act.put, List.setIfInBounds_toArray, List.set_cons_zero, List.set_cons_succ]
      refine wpAnyH_ready (rs := [1, 2]) (by kernel_rfl) (by simp) ?_
      refine AllReadyH.cons rfl (fun K hK => ?_) ?_
      · skip
        go_simp
        refine hK.out _ _ trivial (fun _ => ?_)
        clear hK K
        try simp only [Act.put, List.setIfInBounds_toArray, List.set_cons_zero, List.set_cons_succ]
        refine wpAnyH_ready (rs := [2]) (by kernel_rfl) (by simp) ?_
        refine AllReadyH.cons rfl (fun K hK => ?_) ?_
        · skip
          go_simp
          go_at_call 85
          refine C1.out.mono ?_
          rintro e w9 ⟨g9, c9, rfl, hL9, hc9, ho9⟩
          have H9 : Hid (LdAt w9 (w.heap.size + 1) (cnt (dce k (ld4 l).2).2).2 ∧ Chg (w.heap.size + 1) (w.heap.size + 1 + 1) wr w9 ∧ w9.ownsRow wr.heap.size 2 1 (.slice (some ⟨g9, 0, none⟩) (cnt (dce k (ld4 l).2).2).1.length c9) (cnt (dce k (ld4 l).2).2).1.length (intCells (cnt (dce k (ld4 l).2).2).1)) := ⟨hL9, ⟨hc9.os, hc9.tape, hc9.output, hc9.size, hc9.block⟩, ho9⟩
          have p2 := H9.out.2.1.cell p2 (.inr (by dsimp only; omega))
          have pf : ∀ j, w9.frozen? ⟨w4.heap.size, j, none⟩ = false := fun j => (World.frozen?_of_block (H9.out.2.1.block w4.heap.size (by omega) (.inr (by omega)))).trans (pf j)
          clear hL9 hc9 ho9
          refine hK.out _ _ trivial (fun _ => ?_)
          clear hK K
          try simp only [Act.put, List.setIfInBounds_toArray, List.set_cons_zero, List.set_cons_succ]
          refine wpAnyH_take (i := 3) (v := ?_) rfl (by kernel_rfl) (by kernel_rfl) (by kernel_rfl) (fun _ _ _ h => h) (Or.inl ⟨by rfl, ?_⟩) trivial ?_
          rotate_left 1
          · intro w hSw; go_simp; try with_reducible rfl
          try simp only [Act.put, List.setIfInBounds_toArray, List.set_cons_zero, List.set_cons_succ]
          refine wpAnyH_ready (rs := [4]) (by kernel_rfl) (by simp) ?_
          refine AllReadyH.cons rfl (fun K hK => ?_) ?_
          · skip
            go_simp
            have hA9 : Below w9.heap.size w9 (w9.alloc (.cells #[.slice (some ⟨g9, 0, none⟩) (cnt (dce k (ld4 l).2).2).1.length c9] 82)) := (Below.refl _ _).alloc (Nat.le_refl _) _
            have p2 := cell_on hA9 p2
            have pf : ∀ j, (w9.alloc (.cells #[.slice (some ⟨g9, 0, none⟩) (cnt (dce k (ld4 l).2).2).1.length c9] 82)).frozen? ⟨w4.heap.size, j, none⟩ = false := fun j => frozen_on hA9 (by have := H9.out.2.1.size; show w4.heap.size < _; omega) (pf j)
            refine hK.out _ _ trivial (fun _ => ?_)
            clear hK K
            try simp only [Act.put, List.setIfInBounds_toArray, List.set_cons_zero, List.set_cons_succ]
            refine wpAnyH_ready (rs := [5]) (by kernel_rfl) (by simp) ?_
            refine AllReadyH.cons rfl (fun K hK => ?_) ?_
            · skip
              refine step_append_lies _ (by rfl) _ _ _ (by rfl) w8.heap.size 82 i0 _ 1 24 Tryd.underlying28 hi hz0' hz1' hz2' rfl (by omega) (.slice a k c) k (spotCells ss) (by rfl) ((HD.out.chg H9.out.2.1 (.inr (by omega))).p.out.alloc _) ⟨w9.heap.size, 0, none⟩ 1 1 [.slice (some ⟨g9, 0, none⟩) (cnt (dce k (ld4 l).2).2).1.length c9] (by rfl) (by rfl) (new1 _ _ _) (one1 rfl) (by omega) (by unfold maxLen; omega) (by omega) (by have := H9.out.2.1.size; simp; omega) (w9.heap.size + 1) (by simp) ?_
              intro gg cap w10 hown1 hg1 hat hlt10
              have HN := Lib.hid (load_step l w w4 w8 W0 wr w9 w10 k a c ss gd dl cd g9 c9 gg cap hO1 hO3 hO4 hz0 hzW HL.out HP.out HD.out HO.out HC.out hz H9.out.1 H9.out.2.1 H9.out.2.2 hown1 hg1 hat)
              have p2 : w10.cell? ⟨w4.heap.size, 2, none⟩ = some (.slice a k c) := load_step_cell w9 w10 a k c _ hg1 p2 (fun x hx => by have := (HD.out.p.out.lt x hx).1; omega)
              have pf : ∀ j, w10.frozen? ⟨w4.heap.size, j, none⟩ = false := load_step_fr w9 w10 a k c _ hg1 pf (by have := H9.out.2.1.size; omega) (fun x hx => by have := (HD.out.p.out.lt x hx).1; omega)
              clear hown1 hg1 hat hlt10
              refine hK.out _ _ trivial (fun _ => ?_)
              clear hK K
              try simp only [Act.put, List.setIfInBounds_toArray, List.set_cons_zero, List.set_cons_succ]
              refine wpAnyH_take (i := 6) (v := ?_) rfl (by kernel_rfl) (by kernel_rfl) (by kernel_rfl) (fun _ _ _ h => h) (Or.inl ⟨by rfl, ?_⟩) trivial ?_
              rotate_left 1
              · intro w hSw; go_simp; try with_reducible rfl
              try simp only [Act.put, List.setIfInBounds_toArray, List.set_cons_zero, List.set_cons_succ]
              refine wpAnyH_ready (rs := [7]) (by kernel_rfl) (by simp) ?_
              refine AllReadyH.cons rfl (fun K hK => ?_) ?_
              · skip
                go_simp
                refine hK.out _ _ trivial (fun _ => ?_)
                clear hK K
                try simp only [Act.put, List.setIfInBounds_toArray, List.set_cons_zero, List.set_cons_succ]
                refine wpAnyH_done (by kernel_rfl) ?_ _
                clear p2 pf
                go_wp2
                go_roundw
                case rel => exact ⟨k + 1, some ⟨gg, 0, none⟩, cap, _, by omega, by go_num, HN.out.1, HN.out.2.1, HN.out.2.2.1, HN.out.2.2.2.1, HN.out.2.2.2.2.1, HN.out.2.2.2.2.2⟩
                case measure => simp [intOf]; omega
              exact AllReadyH.nil
            exact AllReadyH.nil
          exact AllReadyH.nil
        exact AllReadyH.nil
      refine AllReadyH.cons rfl (fun K hK => ?_) ?_
      · skip
        go_simp
        go_at_call 85
        refine C1.out.mono ?_
        rintro e w9 ⟨g9, c9, rfl, hL9, hc9, ho9⟩
        have H9 : Hid (LdAt w9 (w.heap.size + 1) (cnt (dce k (ld4 l).2).2).2 ∧ Chg (w.heap.size + 1) (w.heap.size + 1 + 1) wr w9 ∧ w9.ownsRow wr.heap.size 2 1 (.slice (some ⟨g9, 0, none⟩) (cnt (dce k (ld4 l).2).2).1.length c9) (cnt (dce k (ld4 l).2).2).1.length (intCells (cnt (dce k (ld4 l).2).2).1)) := ⟨hL9, ⟨hc9.os, hc9.tape, hc9.output, hc9.size, hc9.block⟩, ho9⟩
        have p2 := H9.out.2.1.cell p2 (.inr (by dsimp only; omega))
        have pf : ∀ j, w9.frozen? ⟨w4.heap.size, j, none⟩ = false := fun j => (World.frozen?_of_block (H9.out.2.1.block w4.heap.size (by omega) (.inr (by omega)))).trans (pf j)
        clear hL9 hc9 ho9
        refine hK.out _ _ trivial (fun _ => ?_)
        clear hK K
        try simp only [Act.put, List.setIfInBounds_toArray, List.set_cons_zero, List.set_cons_succ]
        refine wpAnyH_take (i := 3) (v := ?_) rfl (by kernel_rfl) (by kernel_rfl) (by kernel_rfl) (fun _ _ _ h => h) (Or.inl ⟨by rfl, ?_⟩) trivial ?_
        rotate_left 1
        · intro w hSw; go_simp; try with_reducible rfl
        try simp only [Act.put, List.setIfInBounds_toArray, List.set_cons_zero, List.set_cons_succ]
        refine wpAnyH_ready (rs := [1, 4]) (by kernel_rfl) (by simp) ?_
        refine AllReadyH.cons rfl (fun K hK => ?_) ?_
        · skip
          go_simp
          refine hK.out _ _ trivial (fun _ => ?_)
          clear hK K
          try simp only [Act.put, List.setIfInBounds_toArray, List.set_cons_zero, List.set_cons_succ]
          refine wpAnyH_ready (rs := [4]) (by kernel_rfl) (by simp) ?_
          refine AllReadyH.cons rfl (fun K hK => ?_) ?_
          · skip
            go_simp
            have hA9 : Below w9.heap.size w9 (w9.alloc (.cells #[.slice (some ⟨g9, 0, none⟩) (cnt (dce k (ld4 l).2).2).1.length c9] 82)) := (Below.refl _ _).alloc (Nat.le_refl _) _
            have p2 := cell_on hA9 p2
            have pf : ∀ j, (w9.alloc (.cells #[.slice (some ⟨g9, 0, none⟩) (cnt (dce k (ld4 l).2).2).1.length c9] 82)).frozen? ⟨w4.heap.size, j, none⟩ = false := fun j => frozen_on hA9 (by have := H9.out.2.1.size; show w4.heap.size < _; omega) (pf j)
            refine hK.out _ _ trivial (fun _ => ?_)
            clear hK K
            try simp only [Act.put, List.setIfInBounds_toArray, List.set_cons_zero, List.set_cons_succ]
            refine wpAnyH_ready (rs := [5]) (by kernel_rfl) (by simp) ?_
            refine AllReadyH.cons rfl (fun K hK => ?_) ?_
            · skip
              refine step_append_lies _ (by rfl) _ _ _ (by rfl) w8.heap.size 82 i0 _ 1 24 Tryd.underlying28 hi hz0' hz1' hz2' rfl (by omega) (.slice a k c) k (spotCells ss) (by rfl) ((HD.out.chg H9.out.2.1 (.inr (by omega))).p.out.alloc _) ⟨w9.heap.size, 0, none⟩ 1 1 [.slice (some ⟨g9, 0, none⟩) (cnt (dce k (ld4 l).2).2).1.length c9] (by rfl) (by rfl) (new1 _ _ _) (one1 rfl) (by omega) (by unfold maxLen; omega) (by omega) (by have := H9.out.2.1.size; simp; omega) (w9.heap.size + 1) (by simp) ?_
              intro gg cap w10 hown1 hg1 hat hlt10
              have HN := Lib.hid (load_step l w w4 w8 W0 wr w9 w10 k a c ss gd dl cd g9 c9 gg cap hO1 hO3 hO4 hz0 hzW HL.out HP.out HD.out HO.out HC.out hz H9.out.1 H9.out.2.1 H9.out.2.2 hown1 hg1 hat)
              have p2 : w10.cell? ⟨w4.heap.size, 2, none⟩ = some (.slice a k c) := load_step_cell w9 w10 a k c _ hg1 p2 (fun x hx => by have := (HD.out.p.out.lt x hx).1; omega)
              have pf : ∀ j, w10.frozen? ⟨w4.heap.size, j, none⟩ = false := load_step_fr w9 w10 a k c _ hg1 pf (by have := H9.out.2.1.size; omega) (fun x hx => by have := (HD.out.p.out.lt x hx).1; omega)
              clear hown1 hg1 hat hlt10
              refine hK.out _ _ trivial (fun _ => ?_)
              clear hK K
              try simp only [Act.put, List.setIfInBounds_toArray, List.set_cons_zero, List.set_cons_succ]
              refine wpAnyH_take (i := 6) (v := ?_) rfl (by kernel_rfl) (by kernel_rfl) (by kernel_rfl) (fun _ _ _ h => h) (Or.inl ⟨by rfl, ?_⟩) trivial ?_
              rotate_left 1
              · intro w hSw; go_simp; try with_reducible rfl
              try simp only [Act.put, List.setIfInBounds_toArray, List.set_cons_zero, List.set_cons_succ]
              refine wpAnyH_ready (rs := [7]) (by kernel_rfl) (by simp) ?_
              refine AllReadyH.cons rfl (fun K hK => ?_) ?_
              · skip
                go_simp
                refine hK.out _ _ trivial (fun _ => ?_)
                clear hK K
                try simp only [Act.put, List.setIfInBounds_toArray, List.set_cons_zero, List.set_cons_succ]
                refine wpAnyH_done (by kernel_rfl) ?_ _
                clear p2 pf
                go_wp2
                go_roundw
                case rel => exact ⟨k + 1, some ⟨gg, 0, none⟩, cap, _, by omega, by go_num, HN.out.1, HN.out.2.1, HN.out.2.2.1, HN.out.2.2.2.1, HN.out.2.2.2.2.1, HN.out.2.2.2.2.2⟩
                case measure => simp [intOf]; omega
              exact AllReadyH.nil
            exact AllReadyH.nil
          exact AllReadyH.nil
        refine AllReadyH.cons rfl (fun K hK => ?_) ?_
        · skip
          go_simp
          have hA9 : Below w9.heap.size w9 (w9.alloc (.cells #[.slice (some ⟨g9, 0, none⟩) (cnt (dce k (ld4 l).2).2).1.length c9] 82)) := (Below.refl _ _).alloc (Nat.le_refl _) _
          have p2 := cell_on hA9 p2
          have pf : ∀ j, (w9.alloc (.cells #[.slice (some ⟨g9, 0, none⟩) (cnt (dce k (ld4 l).2).2).1.length c9] 82)).frozen? ⟨w4.heap.size, j, none⟩ = false := fun j => frozen_on hA9 (by have := H9.out.2.1.size; show w4.heap.size < _; omega) (pf j)
          refine hK.out _ _ trivial (fun _ => ?_)
          clear hK K
          try simp only [Act.put, List.setIfInBounds_toArray, List.set_cons_zero, List.set_cons_succ]
          refine wpAnyH_ready (rs := [1]) (by kernel_rfl) (by simp) ?_
          refine AllReadyH.cons rfl (fun K hK => ?_) ?_
          · skip
            go_simp
            refine hK.out _ _ trivial (fun _ => ?_)
            clear hK K
            try simp only [Act.put, List.setIfInBounds_toArray, List.set_cons_zero, List.set_cons_succ]
            refine wpAnyH_ready (rs := [5]) (by kernel_rfl) (by simp) ?_
            refine AllReadyH.cons rfl (fun K hK => ?_) ?_
            · skip
              refine step_append_lies _ (by rfl) _ _ _ (by rfl) w8.heap.size 82 i0 _ 1 24 Tryd.underlying28 hi hz0' hz1' hz2' rfl (by omega) (.slice a k c) k (spotCells ss) (by rfl) ((HD.out.chg H9.out.2.1 (.inr (by omega))).p.out.alloc _) ⟨w9.heap.size, 0, none⟩ 1 1 [.slice (some ⟨g9, 0, none⟩) (cnt (dce k (ld4 l).2).2).1.length c9] (by rfl) (by rfl) (new1 _ _ _) (one1 rfl) (by omega) (by unfold maxLen; omega) (by omega) (by have := H9.out.2.1.size; simp; omega) (w9.heap.size + 1) (by simp) ?_
              intro gg cap w10 hown1 hg1 hat hlt10
              have HN := Lib.hid (load_step l w w4 w8 W0 wr w9 w10 k a c ss gd dl cd g9 c9 gg cap hO1 hO3 hO4 hz0 hzW HL.out HP.out HD.out HO.out HC.out hz H9.out.1 H9.out.2.1 H9.out.2.2 hown1 hg1 hat)
              have p2 : w10.cell? ⟨w4.heap.size, 2, none⟩ = some (.slice a k c) := load_step_cell w9 w10 a k c _ hg1 p2 (fun x hx => by have := (HD.out.p.out.lt x hx).1; omega)
              have pf : ∀ j, w10.frozen? ⟨w4.heap.size, j, none⟩ = false := load_step_fr w9 w10 a k c _ hg1 pf (by have := H9.out.2.1.size; omega) (fun x hx => by have := (HD.out.p.out.lt x hx).1; omega)
              clear hown1 hg1 hat hlt10
              refine hK.out _ _ trivial (fun _ => ?_)
              clear hK K
              try simp only [Act.put, List.setIfInBounds_toArray, List.set_cons_zero, List.set_cons_succ]
              refine wpAnyH_take (i := 6) (v := ?_) rfl (by kernel_rfl) (by kernel_rfl) (by kernel_rfl) (fun _ _ _ h => h) (Or.inl ⟨by rfl, ?_⟩) trivial ?_
              rotate_left 1
              · intro w hSw; go_simp; try with_reducible rfl
              try simp only [Act.put, List.setIfInBounds_toArray, List.set_cons_zero, List.set_cons_succ]
              refine wpAnyH_ready (rs := [7]) (by kernel_rfl) (by simp) ?_
              refine AllReadyH.cons rfl (fun K hK => ?_) ?_
              · skip
                go_simp
                refine hK.out _ _ trivial (fun _ => ?_)
                clear hK K
                try simp only [Act.put, List.setIfInBounds_toArray, List.set_cons_zero, List.set_cons_succ]
                refine wpAnyH_done (by kernel_rfl) ?_ _
                clear p2 pf
                go_wp2
                go_roundw
                case rel => exact ⟨k + 1, some ⟨gg, 0, none⟩, cap, _, by omega, by go_num, HN.out.1, HN.out.2.1, HN.out.2.2.1, HN.out.2.2.2.1, HN.out.2.2.2.2.1, HN.out.2.2.2.2.2⟩
                case measure => simp [intOf]; omega
              exact AllReadyH.nil
            exact AllReadyH.nil
          exact AllReadyH.nil
        exact AllReadyH.nil
      exact AllReadyH.nil
    · obtain rfl : k = ch4.toNat := by omega
      rw [H5.out] at HL HD
      obtain ⟨p0, p1, p2, pf⟩ := HP.out
      have hR := HR0.out.chg HC.out (.inl (by omega))
      have lb := HL.out.bad
      have HBr : Hid (Below w.heap.size w wr) := below_chg HB0.out HB0.out.size (by omega) HC.out
      have hzs := HBr.out.size
      have CV := Lib.hid (implValidSaved_any (ofL (ld2 l).1) (some ⟨gd, 0, none⟩) dl cd (ld3 l).1 a ch4.toNat c ss (ld5 l).1 wr (ints_own HO.out) HD.out.rd (by rw [ofL_sz]; omega))
      have hRs := HR0.out.chg HC.out (.inl (by omega))
      have HV := Lib.hid (ldN_eq l)
      have HX := Lib.hid (ldX_eq l)
      have CS : Hid (∀ W, Below wr.heap.size wr W → okSaved (ofL (ld2 l).1) (ld3 l).1 (ld5 l).1 = true → Calls Tryd.prog 44 #[.agg #[.string (ofL (ld2 l).1), .slice (some ⟨gd, 0, none⟩) dl cd, .slice a ch4.toNat c]] W (Ret W (.string (ofL (storeL (ofL (ld2 l).1) (ld3 l).1 (ld5 l).1))))) := fun W hW hok => by
        have t1 := ints_own (ownsRow_below HO.out hW)
        have t2 := (HD.out.below hW).rd
        exact store_any (ofL (ld2 l).1) (some ⟨gd, 0, none⟩) dl cd (ld3 l).1 a ch4.toNat c ss (ld5 l).1 W t1 t2 hok
      have HSl : Hid (okSaved (ofL (ld2 l).1) (ld3 l).1 (ld5 l).1 = true → 2 ≤ (storeL (ofL (ld2 l).1) (ld3 l).1 (ld5 l).1).length ∧ (storeL (ofL (ld2 l).1) (ld3 l).1 (ld5 l).1).length ≤ 147) := fun hok => by rw [storeL_len]; have := storeB_len hok; omega
      clear HR0 hs
      generalize hSL : storeL (ofL (ld2 l).1) (ld3 l).1 (ld5 l).1 = SL at *
      clear hSL
      generalize (ld5 l).2.2 = bad at *
      cases bad
      · generalize hok : okSaved (ofL (ld2 l).1) (ld3 l).1 (ld5 l).1 = ok at *
        have HOk := Lib.hid hok
        cases ok
        · have HN0 : Hid (ldN l = 0) := by show _ = _; rw [HV.out, if_neg]; simp
          clear hok
          go_wp2_with (fail)
          refine CV.out.mono ?_
          rintro e w11 ⟨rfl, hb11⟩
          have hR : ResAt w11 w.heap.size := hRs.chg (Chg.of_below (lo := 0) (hi := 0) hb11 (Nat.le_refl _)) (.inr (Nat.zero_le _))
          have hB11 := HBr.out.trans (hb11.mono hzs)
          have g0 := hR.fr
          clear hb11
          have r0 := hR.c0
          have r1 := hR.c1
          have r2 := hR.c2
          go_wp2
          refine bodyPost_ret (v := .tuple #[.agg #[.string ⟨#[]⟩, .slice none 0 0, .slice none 0 0], .int .i64 0, .bool false]) (by simp [results, Tryd.results52, go_sem, hR.c0, hR.c1, hR.c2]) rfl ⟨?_, fun _ => rfl, fun q => absurd HN0.out q⟩
          exact ((hB11.setCell (Nat.le_refl _) _).setCell (Nat.le_refl _) _).setCell (Nat.le_refl _) _
        · obtain ⟨hsl, hsl2⟩ := HSl.out (by simp)
          have CP := Tryd.strings_HasPrefix (ofL l) (ofL SL)
          have hpe : ∀ W, Calls Tryd.prog 86 #[.string (ofL l), .string (ofL SL)] W fun e w' => e = .returned (.bool (SL.isPrefixOf l)) ∧ w' = W := fun W => by
            have := CP W
            rw [ofL_toList, ofL_toList] at this
            exact this
          have CPr := Lib.hid hpe
          have hSs := ofL_sz SL
          have HF := Lib.hid hSs
          clear hok CP hpe
          generalize hpx : SL.isPrefixOf l = pre at *
          have HPx := Lib.hid hpx
          clear hpx
          go_wp2_with (fail)
          refine CV.out.mono ?_
          rintro e w11 ⟨rfl, hb11⟩
          have CS1 := Lib.hid (CS.out w11 hb11 (by simp))
          have p0 := cell_on hb11 p0
          have p1 := cell_on hb11 p1
          have p2 := cell_on hb11 p2
          have HBx := Lib.hid hb11
          clear hb11 CV CS
          go_wp2_with (fail)
          refine CS1.out.mono ?_
          rintro e w12 ⟨rfl, hb12⟩
          have p0 := cell_on hb12 p0
          have p1 := cell_on hb12 p1
          have p2 := cell_on hb12 p2
          have HBy := Lib.hid (HBx.out.trans (hb12.mono HBx.out.size))
          have hR : ResAt w12 w.heap.size := hRs.chg (Chg.of_below (lo := 0) (hi := 0) HBy.out (Nat.le_refl _)) (.inr (Nat.zero_le _))
          have g0 := hR.fr
          have r0 := hR.c0
          have r1 := hR.c1
          have r2 := hR.c2
          have HB12 := Lib.hid (HBr.out.trans (HBy.out.mono hzs))
          clear hb12 CS1 HBx
          go_wp2_with (fail)
          refine (CPr.out _).mono ?_
          rintro e w13 ⟨rfl, rfl⟩
          cases pre
          · have HN0 : Hid (ldN l = 0) := by show _ = _; rw [HV.out, if_neg]; simp
            go_wp2
            refine bodyPost_ret (v := .tuple #[.agg #[.string ⟨#[]⟩, .slice none 0 0, .slice none 0 0], .int .i64 0, .bool false]) (by simp [results, Tryd.results52, go_sem, hR.c0, hR.c1, hR.c2]) rfl ⟨?_, fun _ => rfl, fun q => absurd HN0.out q⟩
            exact ((HB12.out.setCell (Nat.le_refl _) _).setCell (Nat.le_refl _) _).setCell (Nat.le_refl _) _
          · have HN1 : Hid (ldN l = SL.length) := by show _ = _; rw [HV.out, if_pos ⟨by simp, by simp, by simp⟩]
            go_wp2
            refine bodyPost_ret (v := .tuple #[.agg #[.string (ofL (ld2 l).1), .slice (some ⟨gd, 0, none⟩) dl cd, .slice a ch4.toNat c], .int .i64 (SL.length : Nat), .bool true]) (by simp [results, Tryd.results52, go_sem, hR.c0, hR.c1, hR.c2, hSs]) rfl ⟨?_, fun q => ?_, fun _ => ?_⟩
            · exact ((HB12.out.setCell (Nat.le_refl _) _).setCell (Nat.le_refl _) _).setCell (Nat.le_refl _) _
            · rw [HN1.out] at q; omega
            · refine ⟨some ⟨gd, 0, none⟩, dl, cd, a, ch4.toNat, c, ss, w8.heap.size, ?_, ?_, ?_, ?_, ?_, ?_⟩
              · rw [HN1.out, HX.out]
              · omega
              · have := HBy.out.size; simp; omega
              · have q := ownsRow_low (ownsRow_below HO.out HBy.out) (base' := w.heap.size) (by omega)
                exact ownsRow_setCell_other (ownsRow_setCell_other (ownsRow_setCell_other q (fun y hy => by obtain rfl := Option.some.inj hy; dsimp only; omega) _) (fun y hy => by obtain rfl := Option.some.inj hy; dsimp only; omega) _) (fun y hy => by obtain rfl := Option.some.inj hy; dsimp only; omega) _
              · intro x hx
                cases hx
                exact ⟨by dsimp only; omega, by dsimp only; omega⟩
              · have q := (HD.out.below HBy.out).wide (hi' := w13.heap.size) HBy.out.size
                have q2 := ((q.set ⟨w.heap.size, 0, none⟩ (.inl (by dsimp only; omega)) (.string (ofL (ld2 l).1))).set ⟨w.heap.size, 1, none⟩ (.inl (by dsimp only; omega)) (.slice (some ⟨gd, 0, none⟩) dl cd)).set ⟨w.heap.size, 2, none⟩ (.inl (by dsimp only; omega)) (.slice a ch4.toNat c)
                have q3 := q2.wide (hi' := (((w13.setCell ⟨w.heap.size, 0, none⟩ (.string (ofL (ld2 l).1))).setCell ⟨w.heap.size, 1, none⟩ (.slice (some ⟨gd, 0, none⟩) dl cd)).setCell ⟨w.heap.size, 2, none⟩ (.slice a ch4.toNat c)).heap.size) (by simp)
                have hx2 : (ldX l).2.2 = (ld5 l).1 := by rw [HX.out]
                rw [hx2]
                exact q3
      · have HN0 : Hid (ldN l = 0) := by show _ = _; rw [HV.out, if_neg]; simp
        have g0 := hR.fr
        have r0 := hR.c0
        have r1 := hR.c1
        have r2 := hR.c2
        go_wp2
        refine bodyPost_ret (v := .tuple #[.agg #[.string ⟨#[]⟩, .slice none 0 0, .slice none 0 0], .int .i64 0, .bool false]) (by simp [results, Tryd.results52, go_sem, hR.c0, hR.c1, hR.c2]) rfl ⟨?_, fun _ => rfl, fun q => absurd HN0.out q⟩
        exact ((HBr.out.setCell (Nat.le_refl _) _).setCell (Nat.le_refl _) _).setCell (Nat.le_refl _) _

end Go.Proofs.YtnoageckldilnaaDoor
