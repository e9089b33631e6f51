/- Slices of slices of numbers: the copy of one. -/
import Derived.Test.YtaeabngamnkgjaaIntSS
namespace Go.Proofs.Ytaeabngamnkgjaa
open Go.RowKit
set_option linter.unusedVariables false

theorem infoI64S : (Try.prog.info? 25).map (fun i => (i.zero, i.size, i.bytes)) = some (some (.slice none 0 0), 1, 24) := by kernel_rfl

set_option maxHeartbeats 400000 in
theorem toInt64SS_any (a : Option Addr) (n c : Nat) (ss : List Spot) (xss : List (List Int)) (w : World) (h : IntSS w a n c ss xss) (hn : n ≤ 1048576) (hr : ∀ i, i < n → (xss.getD i []).length ≤ 1048576) :
    Calls Try.prog 34 #[.slice a n c] w fun e w' => ∃ (g : Nat) (ts : List Spot), e = .returned (.slice (some ⟨g, 0, none⟩) n n) ∧ Below w.heap.size w w' ∧ OwnSS w.heap.size w'.heap.size w' (some ⟨g, 0, none⟩) n n ts xss ∧ ∀ i, i < n → ∃ x, (ts.getD i spot0).1 = some x := by
  obtain ⟨hc, hb, hcell⟩ := h.at
  have HLen := Lib.hid h.len
  have CT := Lib.hid (fun i (hi : i < n) W (hW : Below w.heap.size w W) => toInt64S_any _ _ _ _ W ((h.row i hi).mono hW) (by have := (h.row i hi).len; have := hr i hi; omega))
  have HRL := Lib.hid (fun i (hi : i < n) => (h.row i hi).len)
  clear h hr
  obtain ⟨i0, hi, hz0, hz1, hz2⟩ := info_parts infoI64S
  go_enter Try.func34, Try.ntmps34
  go_wp2_with (first | (at_make; go_must (refine wpList_make_full _ rfl _ _ 33 rfl w.heap.size 25 i0 _ 1 Try.underlying33 hi hz0 hz1 _ _ _ _ n rfl rfl rfl rfl (by rw [hz2]; omega) (by unfold maxLen; omega) (by simp) ?_; intro w1 hown1 hg1)))
  have HB1 := Lib.hid (below_made (Below.refl w.heap.size w) (Nat.le_refl _) hg1)
  have HO1 : Hid (OwnP (fun i => i < 0) w.heap.size w1.heap.size w1 (.slice (some ⟨w.heap.size, 0, none⟩) n n) n (List.replicate n spot0) xss) := by
    have ho : w1.ownsRow w.heap.size 25 1 (.slice (some ⟨w.heap.size, 0, none⟩) n n) n (spotCells (List.replicate n spot0)) := by
      have := hown1
      rw [made_const _ (.slice none 0 0) (by decide) (by intro i hi; match i, hi with | 0, _ => rfl), Nat.mul_one] at this
      unfold spotCells
      rw [List.map_replicate]
      exact this
    exact ⟨ho, fun g e => (ho.lt g e).2, fun i hi => by omega, fun i hi => by omega, fun i j _ hi => by omega, fun i hi => by omega⟩
  clear hown1 hg1
  go_loopw [4] (fun i wr => ∃ (k : Nat) (ts : List Spot), k ≤ n ∧ i = .int .i64 k ∧ Below w.heap.size w wr ∧ OwnP (fun i => i < k) w.heap.size wr.heap.size wr (.slice (some ⟨w.heap.size, 0, none⟩) n n) n ts xss ∧ ∀ i, i < k → ∃ x, (ts.getD i spot0).1 = some x) (fun i _ => n - (intOf i).toNat)
  case atStart => exact ⟨0, _, by omega, rfl, HB1.out, HO1.out, fun i hi => by omega⟩
  case round =>
    obtain ⟨k, ts, hk, rfl, hbel, hp, hsome⟩ := hrel
    have HB := Lib.hid hbel
    have HP := Lib.hid hp
    have HS := Lib.hid hsome
    clear hbel hp hsome
    by_cases hlt : k < n
    · obtain ⟨b, off, rfl, hlb, hx⟩ := hcell k hlt
      have h0 := cell_on HB.out (hx k hlt)
      have CC := Lib.hid (CT.out k hlt wr HB.out)
      have hrl := HRL.out k hlt
      clear hcell hx CT HRL
      rcases hsp : ss.getD k spot0 with ⟨A, L, C⟩
      rw [hsp] at h0 CC hrl
      dsimp only at h0 CC hrl
      clear hsp
      have HRl := Lib.hid hrl
      clear hrl
      go_wp2_with (fail)
      refine CC.out.mono ?_
      rintro e w2 ⟨g, rfl, hb2, ho2⟩
      have HP2 := Lib.hid (HP.out.below hb2)
      have HB2 := Lib.hid (HB.out.trans (hb2.mono HB.out.size))
      have HO2 := Lib.hid ho2
      have hgr := (ho2.lt g rfl).1
      have hgw := (ho2.lt g rfl).2
      have hwr : w.heap.size < wr.heap.size := HP.out.ouh _ rfl
      have hs2 := hb2.size
      have f := fun j => HP2.out.out.frozenAt j
      have c0 := HP2.out.out.cellAt k (by omega)
      rw [spotCells_get _ _ (by rw [HP2.out.sl]; exact hlt)] at c0
      have c0 : w2.cell? ⟨w.heap.size, k, none⟩ = some (spotV (ts.getD k spot0)) := by simpa using c0
      have HN : Hid (OwnP (fun i => i < k + 1) w.heap.size (w2.setCell ⟨w.heap.size, k, none⟩ (.slice (some ⟨g, 0, none⟩) L L)).heap.size (w2.setCell ⟨w.heap.size, k, none⟩ (.slice (some ⟨g, 0, none⟩) L L)) (.slice (some ⟨w.heap.size, 0, none⟩) n n) n (ts.set k (some ⟨g, 0, none⟩, L, L)) xss) := by
        have hsl := HP2.out.sl
        have hst := (HP2.out.out.stored k (.slice (some ⟨g, 0, none⟩) L L))
        have e1 : (spotCells ts).set k (.slice (some ⟨g, 0, none⟩) L L) = spotCells (ts.set k (some ⟨g, 0, none⟩, L, L)) := spotCells_set ts k (some ⟨g, 0, none⟩, L, L)
        rw [e1] at hst
        have hne : ∀ i, i < k → OB ts i = none ∨ OB ts i ≠ some w.heap.size := fun i hi => HP2.out.apo i hi
        have hOB : ∀ i, i < k → OB (ts.set k (some ⟨g, 0, none⟩, L, L)) i = OB ts i := fun i hi => by unfold OB; rw [getD_set_ne _ _ _ _ _ (by omega)]
        have hOBk : OB (ts.set k (some ⟨g, 0, none⟩, L, L)) k = some g := by unfold OB; rw [getD_set_self _ _ _ _ (by omega)]; rfl
        have hlow := ownsRow_low HO2.out HB.out.size
        have hold : ∀ i, i < k → ∀ x, OB ts i = some x → x < wr.heap.size := fun i hi x hx => HP.out.inn i hi x hx
        have hsz : (w2.setCell ⟨w.heap.size, k, none⟩ (.slice (some ⟨g, 0, none⟩) L L)).heap.size = w2.heap.size := by simp
        refine ⟨by simpa using hst.1, fun x e => ?_, fun i hi => ?_, fun i hi x e => ?_, fun i j hij hi hj => ?_, fun i hi => ?_⟩
        · have e : w.heap.size = x := Option.some.inj e
          omega
        · by_cases hik : i = k
          · subst hik
            rw [getD_set_self _ _ _ _ (by omega), HRl.out]
            exact ownsRow_setCell_other hlow (fun y hy => by obtain rfl := Option.some.inj hy; dsimp only; omega) _
          · rw [getD_set_ne _ _ _ _ _ (by omega)]
            refine own_keep (HP2.out.own i (by omega)) fun y hy => ?_
            have h1 := hne i (by omega)
            have h2 : OB ts i = some y := hy
            rw [h2] at h1
            exact Below.heap_setCell w2 _ _ y (by dsimp only; rcases h1 with h1 | h1 <;> simp at h1; exact h1)
        · rw [hsz]
          by_cases hik : i = k
          · subst hik; rw [hOBk] at e; have := Option.some.inj e; omega
          · rw [hOB i (by omega)] at e
            have := hold i (by omega) x e
            omega
        · by_cases hik : i = k
          · subst hik
            right
            rw [hOBk, hOB j (by omega)]
            intro e
            have := hold j (by omega) g e.symm
            omega
          · by_cases hjk : j = k
            · subst hjk
              rw [hOBk, hOB i (by omega)]
              right
              intro e
              have := hold i (by omega) g e
              omega
            · rw [hOB i (by omega), hOB j (by omega)]
              exact HP2.out.apart i j hij (by omega) (by omega)
        · by_cases hik : i = k
          · subst hik
            right
            rw [hOBk]
            intro e
            have e : g = w.heap.size := Option.some.inj e
            omega
          · rw [hOB i (by omega)]
            exact hne i (by omega)
      have HS2 : Hid (∀ i, i < k + 1 → ∃ x, ((ts.set k (some ⟨g, 0, none⟩, L, L)).getD i spot0).1 = some x) := fun i hi => by
        by_cases hik : i = k
        · subst hik; rw [getD_set_self _ _ _ _ (by rw [HP2.out.sl]; exact hlt)]; exact ⟨_, rfl⟩
        · rw [getD_set_ne _ _ _ _ _ (by omega)]; exact HS.out i (by omega)
      have HB3 : Hid (Below w.heap.size w (w2.setCell ⟨w.heap.size, k, none⟩ (.slice (some ⟨g, 0, none⟩) L L))) := HB2.out.setCell (Nat.le_refl _) _
      clear hb2 ho2 hgr hgw hwr hs2 CC h0
      go_wp2
      go_roundw
      case rel => exact ⟨k + 1, _, by omega, by go_num, HB3.out, HN.out, HS2.out⟩
      case measure => simp [intOf]; omega
    · obtain rfl : k = n := by omega
      clear hcell
      go_wp2
      go_ret
      exact ⟨_, ts, rfl, HB.out, ⟨HLen.out, HP.out⟩, HS.out⟩

end Go.Proofs.Ytaeabngamnkgjaa
