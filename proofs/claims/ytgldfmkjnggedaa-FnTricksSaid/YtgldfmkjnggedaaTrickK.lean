/- Tricks, impl: TrickLine, what is kept from round to round. -/
import Derived.Test.YtgldfmkjnggedaaTrickJ
import Derived.Test.YtgldfmkjnggedaaTrickI
import Derived.Deep.RegionWith
import Derived.Deep.Cut
import Derived.Deep.CutRange
namespace Go.Proofs.Ytgldfmkjnggedaa
open Go.RowKit
set_option linter.unusedVariables false

structure Geo (w0 : World) (b4 b5 bT M B1 : Nat) : Prop where
  h4 : w0.heap.size ≤ b4
  h5 : w0.heap.size ≤ b5
  n45 : b4 ≠ b5
  nT4 : bT ≠ b4
  nT5 : bT ≠ b5
  n4M : b4 ≠ M
  n5M : b5 ≠ M
  nTM : bT ≠ M
  B4 : b4 < B1
  B5 : b5 < B1
  BT : bT < B1
  BM : M < B1
  hM : w0.heap.size ≤ M
/-- the ground: table, frames and the row told -/
structure Bg (w0 : World) (b4 b5 bT M B1 : Nat) (t : Int) (ra : Option Addr) (rc : Nat) (O : List Int) (ol k : Nat) (W : World) : Prop where
  bel : Below w0.heap.size w0 W
  t0 : W.cell? ⟨bT, 0, none⟩ = some (.int .i64 t)
  t1 : W.cell? ⟨bT, 1, none⟩ = some (.map (some M))
  z4 : W.frozen? ⟨b4, 0, none⟩ = false
  z5 : W.frozen? ⟨b5, 0, none⟩ = false
  tab : TabAt M k t W
  out : W.ownsRow B1 2 1 (.slice ra ol rc) ol (intCells O)
  size : B1 ≤ W.heap.size
theorem Chg.frozen {lo hi : Nat} {w w' : World} {p : Addr} (h : Chg lo hi w w') (hl : p.block < w.heap.size) (hp : p.block < lo ∨ hi ≤ p.block) : w'.frozen? p = w.frozen? p := World.frozen?_of_block (h.block _ hl hp)
section
variable {w0 : World} {b4 b5 bT M B1 : Nat} {t : Int} {ra : Option Addr} {rc : Nat} {O : List Int} {ol k : Nat} {W W' : World}
theorem Bg.below (h : Bg w0 b4 b5 bT M B1 t ra rc O ol k W) (G : Geo w0 b4 b5 bT M B1) (hb : Below W.heap.size W W') : Bg w0 b4 b5 bT M B1 t ra rc O ol k W' where
  bel := h.bel.trans (hb.mono h.bel.size)
  t0 := cell_on hb h.t0
  t1 := cell_on hb h.t1
  z4 := frozen_on hb (by have := G.B4; have := h.size; dsimp only; omega) h.z4
  z5 := frozen_on hb (by have := G.B5; have := h.size; dsimp only; omega) h.z5
  tab := h.tab.mono hb
  out := ownsRow_below h.out hb
  size := Nat.le_trans h.size hb.size
theorem Bg.chg (h : Bg w0 b4 b5 bT M B1 t ra rc O ol k W) (G : Geo w0 b4 b5 bT M B1) (hc : Chg M (M + 1) W W') {k' : Nat} (ht : TabAt M k' t W') : Bg w0 b4 b5 bT M B1 t ra rc O ol k' W' where
  bel := below_chg h.bel h.bel.size G.hM hc
  t0 := hc.cellNe h.t0 G.nTM
  t1 := hc.cellNe h.t1 G.nTM
  z4 := (hc.frozen (by have := G.B4; have := h.size; dsimp only; omega) (by have := G.n4M; dsimp only; omega)).trans h.z4
  z5 := (hc.frozen (by have := G.B5; have := h.size; dsimp only; omega) (by have := G.n5M; dsimp only; omega)).trans h.z5
  tab := ht
  out := own_chg h.out hc (own_in h.out) (.inr (by have := G.BM; omega))
  size := Nat.le_trans h.size hc.size
theorem tab_chg {lo hi : Nat} (h : TabAt M k t W) (hc : Chg lo hi W W') (hM : M < lo) : TabAt M k t W' := by
  have hl := h.lt
  obtain ⟨D, ⟨es, clock, hb, F, hs, hD⟩, h2⟩ := h
  exact ⟨D, ⟨es, clock, by rw [hc.block M hl (.inl hM)]; exact hb, F, hs, hD⟩, h2⟩
/-- the row told has grown -/
theorem Bg.grown {ra' : Option Addr} {rc' ol' : Nat} {O' : List Int} (h : Bg w0 b4 b5 bT M B1 t ra rc O ol k W) (G : Geo w0 b4 b5 bT M B1) (hg : W.grownBy W' (Value.slice ra ol rc).ownBlock) (ho : W'.ownsRow B1 2 1 (.slice ra' ol' rc') ol' (intCells O')) : Bg w0 b4 b5 bT M B1 t ra' rc' O' ol' k W' := by
  have hc : Chg B1 W.heap.size W W' := Chg.of_grown (own_in h.out) hg
  have h4 := G.B4
  have h5 := G.B5
  have hT := G.BT
  have hs := h.size
  exact {
    bel := below_chg h.bel h.bel.size (by have := G.h4; omega) hc
    t0 := hc.cell h.t0 (.inl hT)
    t1 := hc.cell h.t1 (.inl hT)
    z4 := (hc.frozen (by dsimp only; omega) (.inl h4)).trans h.z4
    z5 := (hc.frozen (by dsimp only; omega) (.inl h5)).trans h.z5
    tab := tab_chg h.tab hc G.BM
    out := ho
    size := Nat.le_trans h.size hc.size }
theorem cell_set {W : World} {p q : Addr} {u v : Value} (h : W.cell? p = some v) (hp : p.block ≠ q.block) : (W.setCell q u).cell? p = some v := by
  rw [World.cell?_of_block (Below.heap_setCell W q u p.block hp)]
  exact h
theorem Bg.set (h : Bg w0 b4 b5 bT M B1 t ra rc O ol k W) (G : Geo w0 b4 b5 bT M B1) {b : Nat} (hb : b = b4 ∨ b = b5) (v : Value) : Bg w0 b4 b5 bT M B1 t ra rc O ol k (W.setCell ⟨b, 0, none⟩ v) := by
  have hw : w0.heap.size ≤ b := by rcases hb with e | e <;> subst e; exact G.h4; exact G.h5
  have hT : bT ≠ b := by rcases hb with e | e <;> subst e; exact G.nT4; exact G.nT5
  have hM : b ≠ M := by rcases hb with e | e <;> subst e; exact G.n4M; exact G.n5M
  have hB : b < B1 := by rcases hb with e | e <;> subst e; exact G.B4; exact G.B5
  exact {
    bel := h.bel.setCell hw _
    t0 := cell_set h.t0 hT
    t1 := cell_set h.t1 hT
    z4 := by rw [World.frozen?_setCell]; exact h.z4
    z5 := by rw [World.frozen?_setCell]; exact h.z5
    tab := h.tab.set hM v
    out := ownsRow_setCell_other h.out (fun x hx => by have := (own_in h.out x hx).1; dsimp only; omega) v
    size := by simpa using h.size }
theorem Bg.drew (h : Bg w0 b4 b5 bT M B1 t ra rc O ol k W) : Bg w0 b4 b5 bT M B1 t ra rc O ol k W.drew := ⟨h.bel.drew, h.t0, h.t1, h.z4, h.z5, h.tab, h.out, h.size⟩
end
theorem Rd.zero {w w' : World} {a : Option Addr} {c sz : Nat} {cs : List Value} (h : Rd w a 0 c sz cs) : Rd w' a 0 c sz cs := ⟨h.1, h.2.1, h.2.2.1, .inl rfl⟩
/-- a hand that is held -/
structure Ld (M b4 b5 : Nat) (ra : Option Addr) (f : Nat) (a : Option Addr) (c : Nat) (X : List Int) (W : World) : Prop where
  rd : Ints W a f c X
  hd : Hand f X
  av : 0 < f → Av M a ∧ Av b4 a ∧ Av b5 a ∧ Dj a ra
section
variable {M b4 b5 : Nat} {ra : Option Addr} {f : Nat} {a : Option Addr} {c : Nat} {X : List Int} {W W' : World}
theorem Ld.below (h : Ld M b4 b5 ra f a c X W) (hb : Below W.heap.size W W') : Ld M b4 b5 ra f a c X W' := ⟨h.rd.mono hb, h.hd, h.av⟩
theorem Ld.chg (h : Ld M b4 b5 ra f a c X W) (hc : Chg M (M + 1) W W') : Ld M b4 b5 ra f a c X W' := by
  refine ⟨?_, h.hd, h.av⟩
  rcases Nat.eq_zero_or_pos f with e | e
  · subst e; exact Rd.zero h.rd
  · exact Rd.av h.rd hc (h.av e).1
theorem Ld.grown {ol rc : Nat} (h : Ld M b4 b5 ra f a c X W) (hg : W.grownBy W' (Value.slice ra ol rc).ownBlock) : Ints W' a f c X := by
  rcases Nat.eq_zero_or_pos f with e | e
  · subst e; exact Rd.zero h.rd
  · exact Rd.grown h.rd hg (h.av e).2.2.2
theorem Ld.set (h : Ld M b4 b5 ra f a c X W) {b : Nat} (hb : b = b4 ∨ b = b5) (v : Value) : Ld M b4 b5 ra f a c X (W.setCell ⟨b, 0, none⟩ v) := by
  refine ⟨?_, h.hd, h.av⟩
  rcases Nat.eq_zero_or_pos f with e | e
  · subst e; exact Rd.zero h.rd
  · refine Rd.set h.rd ?_ v
    rcases hb with e2 | e2 <;> subst e2
    · exact (h.av e).2.1
    · exact (h.av e).2.2.1
theorem Ld.new {B : Nat} (h : W.ownsRow B 2 1 (.slice a f c) f (intCells X)) (hx : Hand f X) (hM : M < B) (h4 : b4 < B) (h5 : b5 < B) (hd : Dj a ra) : Ld M b4 b5 ra f a c X W :=
  ⟨Rd.own h, hx, fun _ => ⟨av_own h hM, av_own h h4, av_own h h5, hd⟩⟩
end
/-- what a region that lays the hands that are left leaves -/
structure Nx (w0 : World) (b4 b5 bT M B1 : Nat) (t : Int) (ra : Option Addr) (rc : Nat) (O : List Int) (ol k f : Nat) (X1 Y1 : List Int) (by' : Nat) (y : Int) (W : World) : Prop where
  ex : ∃ a c a' c', W.cell? ⟨b4, 0, none⟩ = some (.slice a f c) ∧ W.cell? ⟨b5, 0, none⟩ = some (.slice a' f c') ∧ Ld M b4 b5 ra f a c X1 W ∧ Ld M b4 b5 ra f a' c' Y1 W
  bg : Bg w0 b4 b5 bT M B1 t ra rc O ol k W
  cy : W.cell? ⟨by', 0, none⟩ = some (.int .i64 y)
theorem Nx.of {w0 : World} {b4 b5 bT M B1 : Nat} {t : Int} {ra : Option Addr} {rc : Nat} {O : List Int} {ol k f : Nat} {X1 Y1 : List Int} {by' : Nat} {y : Int} {W5 W7 : World} {a a' : Option Addr} {c c' n n' B B' : Nat} {u v : Value}
    (G : Geo w0 b4 b5 bT M B1) (hbg : Bg w0 b4 b5 bT M B1 t ra rc O ol k W5) (hcy : W5.cell? ⟨by', 0, none⟩ = some (.int .i64 y)) (hy4 : by' ≠ b4) (hy5 : by' ≠ b5)
    (hb : Below W5.heap.size W5 W7) (h6 : W7.ownsRow B 2 1 (.slice a n c) n (intCells X1)) (h7 : W7.ownsRow B' 2 1 (.slice a' n' c') n' (intCells Y1)) (hB : W5.heap.size ≤ B) (hB' : W5.heap.size ≤ B') (hX : Hand f X1) (hY : Hand f Y1)
    (c4 : W5.cell? ⟨b4, 0, none⟩ = some u) (c5 : W5.cell? ⟨b5, 0, none⟩ = some v) :
    Nx w0 b4 b5 bT M B1 t ra rc O ol k f X1 Y1 by' y ((W7.setCell ⟨b4, 0, none⟩ (.slice a n c)).setCell ⟨b5, 0, none⟩ (.slice a' n' c')) := by
  have e1 : n = f := by have := h6.1; rw [intCells_len] at this; have := hX.len; omega
  have e2 : n' = f := by have := h7.1; rw [intCells_len] at this; have := hY.len; omega
  subst e1 e2
  have hs := hbg.size
  have h4 := G.B4
  have h5 := G.B5
  have hM := G.BM
  have D6 := dj_rows h6 hbg.out hB
  have D7 := dj_rows h7 hbg.out hB'
  have L6 : Ld M b4 b5 ra n' a c X1 W7 := Ld.new h6 hX (by omega) (by omega) (by omega) D6
  have L7 : Ld M b4 b5 ra n' a' c' Y1 W7 := Ld.new h7 hY (by omega) (by omega) (by omega) D7
  have d4 := cell_on hb c4
  have d5 := cell_on hb c5
  refine ⟨⟨a, c, a', c', ?_, ?_, (L6.set (.inl rfl) _).set (.inr rfl) _, (L7.set (.inl rfl) _).set (.inr rfl) _⟩, ((hbg.below G hb).set G (.inl rfl) _).set G (.inr rfl) _, ?_⟩
  · exact cell_set (World.cell?_setCell_same _ _ _ d4) G.n45
  · exact World.cell?_setCell_same _ _ _ (cell_set d5 (Ne.symm G.n45))
  · exact cell_set (cell_set (cell_on hb hcy) hy4) hy5

end Go.Proofs.Ytgldfmkjnggedaa
