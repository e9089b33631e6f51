/- A table of numbers told once, by two numbers. -/
import Derived.Test.YtgldfmkjnggedaaTrickB
import Derived.Maps.OwnSet
import Derived.Maps.Keyed
import Derived.Maps.Views
import Derived.DeepKeys4
namespace Go.Proofs.Ytgldfmkjnggedaa
open Go.RowKit
set_option linter.unusedVariables false

theorem key2 {P : Program} {k e : TypeId} (hk : P.underlying k = some (.array 2 e)) (he : P.underlying e = some (.int .i64)) (hC : P.cellsOf k = 2) (hCe : P.cellsOf e = 1) (ht : P.keyType k = true) (hs : ∃ D, P.types.size = D + 1) {a b : Int} (ha : (Lit.int .i64 a).wf = true) (hb : (Lit.int .i64 b).wf = true) :
    ∃ kl, keyOf P k (.agg #[.int .i64 a, .int .i64 b]) = some kl := by
  obtain ⟨D, hD⟩ := hs
  unfold keyOf
  rw [hk]
  have h0 : (List.range 2) = [0, 1] := by decide
  simp [ht, Value.formed, hk, hC, Value.cells, Program.keyLits, hCe, he, ha, hb, hD, h0]

theorem keyedArr : Maps.Keyed Try.prog 63 := Maps.Keyed.of_law (deep_law_laid (P := Try.prog) (by kernel_rfl) (m := 3) (by decide) (k := 63) (of_decide_eq_true (by kernel_rfl)) (by kernel_rfl) (by kernel_rfl))
theorem arrKey {a b : Int} (ha : (Lit.int .i64 a).wf = true) (hb : (Lit.int .i64 b).wf = true) : ∃ kl, keyOf Try.prog 63 (.agg #[.int .i64 a, .int .i64 b]) = some kl :=
  key2 Try.underlying63 Try.underlying2 (by kernel_rfl) (by kernel_rfl) (by kernel_rfl) ⟨Try.prog.types.size - 1, of_decide_eq_true (by kernel_rfl)⟩ ha hb

theorem wf_i64 {n : Int} (h0 : -9223372036854775808 ≤ n) (h1 : n ≤ 9223372036854775807) : (Lit.int .i64 n).wf = true := by
  simp [Lit.wf, IntKind.min, IntKind.max, IntKind.bits, IntKind.signed]
  omega
theorem wf_bits {f : Nat} {xs : List Int} (h : Hand f xs) : (Lit.int .i64 (bitsN xs : Nat)).wf = true := by
  have := bitsN_lt xs h.rng
  exact wf_i64 (by omega) (by omega)
theorem handKey {f g : Nat} {xs ys : List Int} (h : Hand f xs) (k : Hand g ys) : ∃ kl, keyOf Try.prog 63 (.agg #[.int .i64 (bitsN xs : Nat), .int .i64 (bitsN ys : Nat)]) = some kl := arrKey (wf_bits h) (wf_bits k)

/-- What the table tells is right. -/
def Known (t : Int) (D : DataW Unit) : Prop := Maps.IsMap D ∧ ∀ (f : Nat) (L O : List Int) (kl : Lit), Hand f L → Hand f O → keyOf Try.prog 63 (.agg #[.int .i64 (bitsN L : Nat), .int .i64 (bitsN O : Nat)]) = some kl → Maps.has D kl = true → ∀ z, D.atKey kl z = .lit (.int .i64 (bestF t f L O))
theorem Known.empty (t : Int) : Known t (.map []) := ⟨Maps.isMap_empty, fun f L O kl _ _ _ h => by simp [Maps.has] at h⟩
theorem Known.put {t : Int} {D : DataW Unit} (h : Known t D) {f : Nat} {L O : List Int} {kl : Lit} (hL : Hand f L) (hO : Hand f O) (hk : keyOf Try.prog 63 (.agg #[.int .i64 (bitsN L : Nat), .int .i64 (bitsN O : Nat)]) = some kl) : Known t (D.put kl (.lit (.int .i64 (bestF t f L O)))) := by
  refine ⟨h.1.put _ _, fun f' L' O' kl' hL' hO' hk' hh z => ?_⟩
  by_cases e : kl' = kl
  · subst e
    have ea := keyedArr.inj hk hk'
    simp only [Value.agg.injEq, Array.mk.injEq, List.cons.injEq, Value.int.injEq, true_and, and_true] at ea
    have p1 := perm_of_bits hL hL' (by omega)
    have p2 := perm_of_bits hO hO' (by omega)
    have ef : f = f' := by rw [← hL.len, ← hL'.len, p1.length_eq]
    subst ef
    rw [Maps.atKey_put_same h.1 (keyedArr.key hk), bestF_perm t f _ _ _ _ p1 p2]
  · rw [Maps.has_put_other e] at hh
    rw [Maps.atKey_put_other e]
    exact h.2 f' L' O' kl' hL' hO' hk' hh z

/-- Block M is the table. -/
def TabAt (M k : Nat) (t : Int) (w : World) : Prop := ∃ D : DataW Unit, w.ownsMap Try.prog 63 (plainElem Try.prog 2) M k D ∧ Known t D
theorem TabAt.lt {M k : Nat} {t : Int} {w : World} (h : TabAt M k t w) : M < w.heap.size := by
  obtain ⟨D, h1, _⟩ := h
  exact h1.lt
theorem TabAt.mono {M k : Nat} {t : Int} {w w' : World} (h : TabAt M k t w) (hb : Below w.heap.size w w') : TabAt M k t w' := by
  obtain ⟨D, h1, h2⟩ := h
  exact ⟨D, h1.kept (row := none) ⟨hb.os, hb.tape, hb.output, hb.size, fun j hj _ => hb.block j hj⟩ (by simp), h2⟩
/-- Not in block M. -/
def Av (M : Nat) (a : Option Addr) : Prop := ∀ x, a = some x → x.block ≠ M
theorem Rd.av {M : Nat} {w w' : World} {a : Option Addr} {n c sz : Nat} {cs : List Value} (h : Rd w a n c sz cs) (hc : Chg M (M + 1) w w') (ha : Av M a) : Rd w' a n c sz cs := by
  obtain ⟨h1, h2, h3, h4⟩ := h
  refine ⟨h1, h2, h3, ?_⟩
  rcases h4 with h4 | ⟨b, off, rfl, hlt, hcs⟩
  · exact .inl h4
  · have hb := ha _ rfl
    refine .inr ⟨b, off, rfl, Nat.lt_of_lt_of_le hlt hc.size, fun j hj => ?_⟩
    rw [← hcs j hj]
    exact World.cell?_of_block (hc.block _ hlt (by dsimp only at hb; show b < M ∨ M + 1 ≤ b; omega))
theorem av_own {M B : Nat} {w : World} {e : TypeId} {sz : Nat} {a : Option Addr} {n c : Nat} {cs : List Value} (h : w.ownsRow B e sz (.slice a n c) n cs) (hM : M < B) : Av M a := fun x hx => by
  have := (own_in h x hx).1
  omega
theorem Chg.cellNe {M : Nat} {w w' : World} (h : Chg M (M + 1) w w') {p : Addr} {v : Value} (hc : w.cell? p = some v) (hp : p.block ≠ M) : w'.cell? p = some v := h.cell hc (by omega)
theorem own_av {M : Nat} {w w' : World} {B : Nat} {e : TypeId} {sz : Nat} {a : Option Addr} {n c : Nat} {cs : List Value} (h : w.ownsRow B e sz (.slice a n c) n cs) (hc : Chg M (M + 1) w w') (ha : Av M a) : w'.ownsRow B e sz (.slice a n c) n cs := by
  obtain ⟨h1, h2⟩ := h
  refine ⟨h1, ?_⟩
  rcases h2 with h2 | ⟨g, cap, cur, e1, h3, h4, h5⟩
  · exact .inl h2
  · simp only [Value.slice.injEq] at e1
    obtain ⟨rfl, _, rfl⟩ := e1
    have hb := ha _ rfl
    refine .inr ⟨g, c, cur, rfl, h3, ?_, h5⟩
    rw [hc.block g (by rcases Nat.lt_or_ge g w.heap.size with hg | hg; exact hg; rw [Array.getElem?_eq_none hg] at h4; cases h4) (by dsimp only at hb; omega)]
    exact h4
theorem Chg.below {M : Nat} {w w' : World} (h : Below w.heap.size w w') : Chg M (M + 1) w w' := ⟨h.os, h.tape, h.output, h.size, fun k hk _ => h.block k hk⟩

/-- how many entries a search may lay -/
def cb : Nat → Nat
  | 0 => 0
  | f + 1 => 1 + (f + 1) * ((f + 1) * cb f)
theorem cb_le {f : Nat} (h : f ≤ 6) : cb f ≤ 1000000 := by
  match f, h with
  | 0, _ => decide
  | 1, _ => decide
  | 2, _ => decide
  | 3, _ => decide
  | 4, _ => decide
  | 5, _ => decide
  | 6, _ => decide

end Go.Proofs.Ytgldfmkjnggedaa
