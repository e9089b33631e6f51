/- A source of numbers: next, pick, one, l00From. -/
import Derived.Test.YtcflgmjjomiejaaChgC
import Derived.Test.YtcflgmjjomiejaaRow
import Derived.Test.YtcflgmjjomiejaaProg
import Derived.StillTailTactics
import Derived.Laws.BitsAllLaws
import Derived.Laws.Bits64
import Derived.IntWalk
namespace Go.Proofs.Ytcflgmjjomiejaa
open Go.RowKit
set_option linter.unusedVariables false

abbrev Bytes := Row (Value.int .u8)
def okB (bs : List Int) : Prop := ∀ i, 0 ≤ bs.getD i 0 ∧ bs.getD i 0 ≤ 255
/-- a source in block g, of which k numbers at most have been taken -/
structure SrcV (g k : Nat) (a : Option Addr) (n c : Nat) (bs : List Int) (i : Nat) (s : Int) (w : World) : Prop where
  c0 : w.cell? ⟨g, 0, none⟩ = some (.slice a n c)
  c1 : w.cell? ⟨g, 1, none⟩ = some (.int .i64 i)
  c2 : w.cell? ⟨g, 2, none⟩ = some (.int .u64 s)
  f1 : w.frozen? ⟨g, 1, none⟩ = false
  f2 : w.frozen? ⟨g, 2, none⟩ = false
  hi : i ≤ k
  hb : Bytes w a n c bs
  ok : okB bs
  av : n = 0 ∨ ∀ x, a = some x → x.block < g
def Src (g k : Nat) (w : World) : Prop := ∃ a n c bs i s, SrcV g k a n c bs i s w
/-- a number of a source -/
def RetN (g k : Nat) (m : Int) (w : World) (e : Ending) (w' : World) : Prop := ∃ x : Int, e = .returned (.int .i64 x) ∧ 0 ≤ x ∧ x < m ∧ Chg g (g + 1) w w' ∧ Src g k w'

theorem SrcV.drewN {g k : Nat} {a : Option Addr} {n c : Nat} {bs : List Int} {i : Nat} {s : Int} {w : World} (h : SrcV g k a n c bs i s w) (q : Nat) : SrcV g k a n c bs i s (w.drewN q) := ⟨h.c0, h.c1, h.c2, h.f1, h.f2, h.hi, h.hb, h.ok, h.av⟩
theorem SrcV.put {g k : Nat} {a : Option Addr} {n c : Nat} {bs : List Int} {i : Nat} {s : Int} {w : World} (h : SrcV g k a n c bs i s w) (q : Nat) (s' : Int) :
    SrcV g (k + 1) a n c bs (i + 1) s' (((w.drewN q).setCell ⟨g, 1, none⟩ (.int .i64 ((i : Int) + 1))).setCell ⟨g, 2, none⟩ (.int .u64 s')) ∧ Chg g (g + 1) w (((w.drewN q).setCell ⟨g, 1, none⟩ (.int .i64 ((i : Int) + 1))).setCell ⟨g, 2, none⟩ (.int .u64 s')) := by
  have h' := h.drewN q
  have h1 : Chg g (g + 1) w ((w.drewN q).setCell ⟨g, 1, none⟩ (.int .i64 ((i : Int) + 1))) := ((Chg.refl _ _ w).drewN q).set (p := ⟨g, 1, none⟩) _ (Nat.le_refl _) (Nat.lt_succ_self _)
  have hC := h1.set (p := ⟨g, 2, none⟩) (.int .u64 s') (Nat.le_refl _) (Nat.lt_succ_self _)
  obtain ⟨c0, c1, c2, f1, f2, hi, hb, ok, av⟩ := h'
  have n1 : (⟨g, 1, none⟩ : Addr) ≠ ⟨g, 0, none⟩ := by simp
  have n2 : (⟨g, 2, none⟩ : Addr) ≠ ⟨g, 0, none⟩ := by simp
  have n3 : (⟨g, 2, none⟩ : Addr) ≠ ⟨g, 1, none⟩ := by simp
  have n4 : (⟨g, 1, none⟩ : Addr) ≠ ⟨g, 2, none⟩ := by simp
  refine ⟨⟨?_, ?_, ?_, ?_, ?_, by omega, ?_, ok, av⟩, hC⟩
  · exact (World.cell?_setCell_other _ _ _ _ n2).trans ((World.cell?_setCell_other _ _ _ _ n1).trans c0)
  · exact (World.cell?_setCell_other _ _ _ _ n3).trans (World.cell?_setCell_same _ _ _ c1)
  · exact World.cell?_setCell_same _ _ _ ((World.cell?_setCell_other _ _ _ _ n4).trans c2)
  · simpa using f1
  · simpa using f2
  · rcases av with rfl | av
    · obtain ⟨h1, h2, h3, _⟩ := hb
      exact ⟨h1, h2, h3, .inl rfl⟩
    · exact (Rd.set hb (fun x hx => Nat.ne_of_lt (av x hx)) _).set (fun x hx => Nat.ne_of_lt (av x hx)) _

theorem and255 (v : Int) (h0 : 0 ≤ v) (h1 : v < 18446744073709551616) : 0 ≤ wrap64 (bits .and .u64 v 255) ∧ wrap64 (bits .and .u64 v 255) < 256 := by
  have e := u64_and v 255 h0 h1 (by omega) (by omega)
  have h2 : v.toNat &&& (255 : Int).toNat ≤ (255 : Int).toNat := Nat.and_le_right
  rw [e]
  have h3 : (255 : Int).toNat = 255 := rfl
  rw [h3] at h2 ⊢
  generalize v.toNat &&& 255 = q at h2 ⊢
  unfold wrap64
  omega
theorem seed255 (s : Int) : 0 ≤ wrap64 (bits .and .u64 (IntKind.u64.wrap s / 1099511627776) 255) ∧ wrap64 (bits .and .u64 (IntKind.u64.wrap s / 1099511627776) 255) < 256 := by
  rw [IntKind.wrap_u64]
  exact and255 _ (by omega) (by omega)

set_option maxHeartbeats 1600000 in
set_option maxRecDepth 100000 in
theorem next_any (g k : Nat) (w : World) (h : Src g k w) (hk : k < 1099511627776) : Calls Try.prog 71 #[.pointer (some ⟨g, 0, none⟩)] w (RetN g (k + 1) 256 w) := by
  obtain ⟨a, n, c, bs, i, s, hs⟩ := h
  have HS := Lib.hid hs
  obtain ⟨c0, c1, c2, f1, f2, hi, hb, ok, av⟩ := hs
  obtain ⟨hc, hm, hat⟩ := hb.at 0
  have HAt := Lib.hid hat
  have HOk := Lib.hid ok
  have hw1 : IntKind.i64.wrap ((i : Int) + 1) = (i : Int) + 1 := IntWalk.i64_in _ (by omega)
  clear hb hat ok av
  by_cases hlt : i < n
  · obtain ⟨b, off, rfl, hbl, hx⟩ := HAt.out i hlt
    have x0 := hx i hlt
    have hok := HOk.out i
    clear hx
    generalize bs.getD i 0 = x at *
    go_enter Try.func71, Try.ntmps71
    go_wp2
    go_quiet (fail)
    go_wp2
    go_quiet (fail)
    go_wp2
    generalize hW : World.setCell _ _ _ = w3
    have HP := hW ▸ HS.out.put _ _
    obtain ⟨hp, hC⟩ := HP
    have HSP := Lib.hid hp
    have HC := Lib.hid hC
    obtain ⟨d0, d1, d2, _, _, _, _, _, _⟩ := hp
    clear hW c0 c1 c2 f1 f2 x0 hC
    go_quiet (fail)
    go_wp2
    go_ret
    exact ⟨x, rfl, by omega, by omega, HC.out.drewN _, _, _, _, _, _, _, HSP.out.drewN _⟩
  · go_enter Try.func71, Try.ntmps71
    go_wp2
    go_quiet (fail)
    go_wp2
    generalize hW : World.setCell _ _ _ = w3
    have HP := hW ▸ HS.out.put _ _
    obtain ⟨hp, hC⟩ := HP
    have HSP := Lib.hid hp
    have HC := Lib.hid hC
    obtain ⟨d0, d1, d2, _, _, _, _, _, _⟩ := hp
    clear hW c0 c1 c2 f1 f2 hC
    go_quiet (fail)
    go_wp2
    go_ret
    exact ⟨_, rfl, (seed255 _).1, (seed255 _).2, HC.out.drewN _, _, _, _, _, _, _, HSP.out.drewN _⟩

theorem Src.more {g k k' : Nat} {w : World} (h : Src g k w) (hk : k ≤ k') : Src g k' w := by
  obtain ⟨a, n, c, bs, i, s, c0, c1, c2, f1, f2, hi, hb, ok, av⟩ := h
  exact ⟨a, n, c, bs, i, s, c0, c1, c2, f1, f2, by omega, hb, ok, av⟩
theorem Src.on {g k : Nat} {w w' : World} (h : Src g k w) (hb : Below w.heap.size w w') : Src g k w' := by
  obtain ⟨a, n, c, bs, i, s, c0, c1, c2, f1, f2, hi, hs, ok, av⟩ := h
  exact ⟨a, n, c, bs, i, s, cell_on hb c0, cell_on hb c1, cell_on hb c2, frozen_on hb (cell_lt c1) f1, frozen_on hb (cell_lt c2) f2, hi, hs.mono hb, ok, av⟩
theorem Src.lt {g k : Nat} {w : World} (h : Src g k w) : g < w.heap.size := by
  obtain ⟨a, n, c, bs, i, s, hs⟩ := h
  exact cell_lt hs.c0
theorem Src.chg {g k lo hi : Nat} {w w' : World} (h : Src g k w) (hc : Chg lo hi w w') (hg : g < lo) : Src g k w' := by
  obtain ⟨a, n, c, bs, i, s, c0, c1, c2, f1, f2, hi, hs, ok, av⟩ := h
  have fr : ∀ p : Addr, p.block = g → p.block < w.heap.size → w.frozen? p = false → w'.frozen? p = false := fun p hp hl hf => (World.frozen?_of_block (hc.block _ hl (.inl (by omega)))).trans hf
  refine ⟨a, n, c, bs, i, s, hc.cell c0 (.inl hg), hc.cell c1 (.inl hg), hc.cell c2 (.inl hg), fr _ rfl (cell_lt c1) f1, fr _ rfl (cell_lt c2) f2, hi, ?_, ok, av⟩
  rcases av with rfl | av
  · obtain ⟨h1, h2, h3, _⟩ := hs
    exact ⟨h1, h2, h3, .inl rfl⟩
  · exact Rd.chg hs hc (fun x hx => ⟨Nat.zero_le _, av x hx⟩ : In 0 g a) (.inl (by omega))
theorem Chg.setNewS {lo hi : Nat} {a w : World} {p : Addr} (h : Chg lo hi a w) (v : Value) (hp : a.heap.size ≤ p.block) : Chg lo hi a (w.setCell p v) :=
  ⟨h.os, h.tape, h.output, by simpa using h.size, fun k hk hr => (Below.heap_setCell w p v k (by omega)).trans (h.block k hk hr)⟩
theorem rem_bd {x n : Int} (h : 1 < n) (h0 : 0 ≤ x) : 0 ≤ x % n ∧ x % n < n := ⟨Int.emod_nonneg _ (by omega), Int.emod_lt_of_pos _ (by omega)⟩

set_option maxHeartbeats 1600000 in
theorem pick_any (g k : Nat) (n : Int) (w : World) (h : Src g k w) (hk : k < 1099511627776) (hn : 1 ≤ n) (hn2 : n ≤ 200) : Calls Try.prog 58 #[.pointer (some ⟨g, 0, none⟩), .int .i64 n] w (RetN g (k + 1) n w) := by
  have C1 := Lib.hid (next_any g k w h hk)
  have HS := Lib.hid (h.more (Nat.le_succ k))
  clear h
  by_cases h1 : n ≤ 1
  · go_enter Try.func58, Try.ntmps58
    go_wp2
    go_ret
    exact ⟨0, rfl, by omega, by omega, Chg.refl _ _ _, HS.out⟩
  · go_enter Try.func58, Try.ntmps58
    go_wp2_with (fail)
    refine C1.out.mono ?_
    rintro e w1 ⟨x, rfl, hx0, hx1, hc, hs⟩
    have HC := Lib.hid hc
    have HS1 := Lib.hid hs
    clear hc hs
    go_wp2
    go_ret
    exact ⟨x % n, rfl, (rem_bd h1 hx0).1, (rem_bd h1 hx0).2, HC.out, HS1.out⟩

set_option maxHeartbeats 1600000 in
theorem l00From_any (a : Option Addr) (n c : Nat) (bs : List Int) (w : World) (h : Bytes w a n c bs) (ok : okB bs) : Calls Try.prog 26 #[.slice a n c] w fun e w' => e = .returned (.pointer (some ⟨w.heap.size, 0, none⟩)) ∧ Below w.heap.size w w' ∧ Src w.heap.size 0 w' := by
  have HB := Lib.hid h
  have HOk := Lib.hid ok
  clear h ok
  go_enter Try.func26, Try.ntmps26
  have hX : Below w.heap.size w (w.alloc (.cells #[.slice a n c, .int .i64 0, .int .u64 0] 70)) := (Below.refl _ _).alloc (Nat.le_refl _) _
  have HX := Lib.hid hX
  go_wp2
  go_ret
  refine ⟨rfl, HX.out, a, n, c, bs, 0, 0, ?_, ?_, ?_, ?_, ?_, Nat.le_refl _, HB.out.mono HX.out, HOk.out, ?_⟩
  · simp
  · simp
  · simp
  · simp
  · simp
  · by_cases hn : n = 0
    · exact .inl hn
    · right
      intro x hx
      have := Rd.in_heap HB.out (by omega) x hx
      omega

end Go.Proofs.Ytcflgmjjomiejaa
