/- Clock patience: the program's ClockDeal. -/
import Derived.Test.YtdnhhkbijamadaaClockA
import Derived.Test.YtdnhhkbijamadaaIntSS
import Derived.Test.YtdnhhkbijamadaaOrderB
import Derived.Test.YtdnhhkbijamadaaBasic
import Derived.Test.YtdnhhkbijamadaaAv
import Derived.Deep.AppendLies
namespace Go.Proofs.Ytdnhhkbijamadaa
open Go.RowKit
set_option linter.unusedVariables false
set_option linter.unusedSimpArgs false

theorem infoSlI : (Try.prog.info? 26).map (fun i => (i.zero, i.size, i.bytes)) = some (some (.slice none 0 0), 1, 24) := by kernel_rfl
theorem OB_set_ne {ss : List Spot} {k j : Nat} {s : Spot} (h : k ≠ j) : OB (ss.set k s) j = OB ss j := by
  unfold OB
  rw [getD_set_ne _ _ _ _ _ h]
theorem OB_set_self {ss : List Spot} {k : Nat} {s : Spot} (h : k < ss.length) : OB (ss.set k s) k = (spotV s).ownBlock := by
  unfold OB
  rw [getD_set_self _ _ _ _ h]
/-- row k is longer now -/
theorem OwnP.push {lo P k g gg cap L : Nat} {w w5 : World} {ss : List Spot} {xss : List (List Int)} {X : List Int} (h : OwnP (fun i => i < P) lo w.heap.size w (.slice (some ⟨g, 0, none⟩) P P) P ss xss) (hk : k < P)
    (hgrow : w.grownBy w5 (OB ss k)) (hown : w5.ownsRow lo 2 1 (.slice (some ⟨gg, 0, none⟩) L cap) L (intCells X)) (hat : OB ss k = some gg ∨ w.heap.size ≤ gg) (hlt : gg < w5.heap.size) (hX : X.length = L) (hxl : xss.length = P) :
    OwnP (fun i => i < P) lo (w5.setCell ⟨g, k, none⟩ (.slice (some ⟨gg, 0, none⟩) L cap)).heap.size (w5.setCell ⟨g, k, none⟩ (.slice (some ⟨gg, 0, none⟩) L cap)) (.slice (some ⟨g, 0, none⟩) P P) P (ss.set k (some ⟨gg, 0, none⟩, L, cap)) (xss.set k X) := by
  have hs := h.sl
  have h5 := h.wrote (k := k) hk hgrow
  have hsz : (w5.setCell ⟨g, k, none⟩ (.slice (some ⟨gg, 0, none⟩) L cap)).heap.size = w5.heap.size := by simp
  have hgl : g < w.heap.size := (h.out.lt g rfl).2
  have hne : gg ≠ g := by
    rintro rfl
    rcases hat with e | e
    · rcases h.apo k hk with q | q
      · rw [q] at e; cases e
      · exact q e
    · omega
  have ap : ∀ i, i < P → i ≠ k → OB ss i = none ∨ OB ss i ≠ some gg := fun i hi hn => by
    rcases hat with e | e
    · rw [← e]; exact h.apart i k hn hi hk
    · rcases hq : OB ss i with _ | x
      · exact .inl rfl
      · right
        intro q
        have := h.inn i hi x hq
        have := Option.some.inj q
        omega
  refine ⟨?_, fun x hx => ?_, fun i hi => ?_, fun i hi x hx => ?_, fun i j hij hi hj => ?_, fun i hi => ?_⟩
  · have := (h5.out.stored k (.slice (some ⟨gg, 0, none⟩) L cap)).1
    rw [show (Value.slice (some ⟨gg, 0, none⟩) L cap) = spotV (some ⟨gg, 0, none⟩, L, cap) from rfl, spotCells_set] at this
    exact this
  · rw [hsz]
    obtain rfl := Option.some.inj hx
    exact Nat.lt_of_lt_of_le hgl hgrow.size
  · by_cases e : i = k
    · subst e
      rw [getD_set_self _ _ _ _ (by omega), getD_set_self _ _ _ _ (by omega), hX]
      refine own_keep hown fun x hx => ?_
      obtain rfl := Option.some.inj hx
      exact Below.heap_setCell w5 _ _ _ hne
    · rw [getD_set_ne _ _ _ _ _ (Ne.symm e), getD_set_ne _ _ _ _ _ (Ne.symm e)]
      refine own_keep (h5.own i ⟨hi, e⟩) fun x hx => ?_
      refine Below.heap_setCell w5 _ _ _ ?_
      rintro rfl
      rcases h.apo i hi with q | q
      · unfold OB at q; rw [q] at hx; cases hx
      · exact q hx
  · rw [hsz]
    by_cases e : i = k
    · subst e
      rw [OB_set_self (by omega)] at hx
      obtain rfl := Option.some.inj hx
      exact hlt
    · rw [OB_set_ne (Ne.symm e)] at hx
      exact Nat.lt_of_lt_of_le (h.inn i hi x hx) hgrow.size
  · by_cases e : i = k
    · subst e
      rw [OB_set_self (by omega), OB_set_ne hij]
      right
      rcases ap j hj (Ne.symm hij) with q | q
      · rw [q]; exact fun q => by cases q
      · exact fun r => q r.symm
    · rw [OB_set_ne (Ne.symm e)]
      by_cases e2 : j = k
      · subst e2
        rw [OB_set_self (by omega)]
        exact ap i hi e
      · rw [OB_set_ne (Ne.symm e2)]
        exact h.apart i j hij hi hj
  · by_cases e : i = k
    · subst e
      rw [OB_set_self (by omega)]
      right
      intro q
      exact hne (Option.some.inj q)
    · rw [OB_set_ne (Ne.symm e)]
      exact h.apo i hi

theorem OwnP.app {lo P k g gg cap L C : Nat} {A : Option Addr} {wr w5 : World} {ss : List Spot} {xss : List (List Int)} {X : List Int} {o : Obj} (h : OwnP (fun i => i < P) lo wr.heap.size wr (.slice (some ⟨g, 0, none⟩) P P) P ss xss) (hk : k < P) (hs : ss.getD k spot0 = (A, L, C))
    (hg : (wr.alloc o).grownBy w5 (Value.slice A L C).ownBlock) (hown : w5.ownsRow lo 2 1 (.slice (some ⟨gg, 0, none⟩) (L + 1) cap) (L + 1) (intCells X)) (hat : (Value.slice A L C).ownBlock = some gg ∨ gg = wr.heap.size + 1) (hlt : gg < w5.heap.size) (hX : X.length = L + 1) (hxl : xss.length = P) :
    w5.cell? ⟨g, k, none⟩ = some (.slice A L C) ∧ w5.frozen? ⟨g, k, none⟩ = false ∧ OwnP (fun i => i < P) lo (w5.setCell ⟨g, k, none⟩ (.slice (some ⟨gg, 0, none⟩) (L + 1) cap)).heap.size (w5.setCell ⟨g, k, none⟩ (.slice (some ⟨gg, 0, none⟩) (L + 1) cap)) (.slice (some ⟨g, 0, none⟩) P P) P (ss.set k (some ⟨gg, 0, none⟩, L + 1, cap)) (xss.set k X) := by
  have hsz : (wr.alloc o).heap.size = wr.heap.size + 1 := by simp
  have hsl := h.sl
  have hb : Below wr.heap.size wr (wr.alloc o) := (Below.refl _ _).alloc (Nat.le_refl _) _
  have h1 : OwnP (fun i => i < P) lo (wr.alloc o).heap.size (wr.alloc o) (.slice (some ⟨g, 0, none⟩) P P) P ss xss := (h.below hb).wide (by omega)
  have hOB : OB ss k = (Value.slice A L C).ownBlock := by unfold OB; rw [hs]; rfl
  have hgl : g < (wr.alloc o).heap.size := (h1.out.lt g rfl).2
  have hgn : some g ≠ (Value.slice A L C).ownBlock := by
    rw [← hOB]
    rcases h1.apo k hk with q | q
    · rw [q]; exact fun r => by cases r
    · exact fun r => q r.symm
  have hc : (wr.alloc o).cell? ⟨g, k, none⟩ = some (.slice A L C) := by
    rw [h1.out.cellAt k (by omega), spotCells_get _ _ (by omega), hs]
    rfl
  refine ⟨(World.grownBy.cell_far hg ⟨g, k, none⟩ hgl hgn).trans hc, (World.grownBy.frozen_far hg ⟨g, k, none⟩ hgl hgn).trans (h1.out.frozenAt k), ?_⟩
  exact h1.push hk (by rw [hOB]; exact hg) hown (by rw [hOB, hsz]; exact hat.imp id fun q => by omega) hlt hX hxl
theorem OwnP.zero {lo g P : Nat} {D : List Int} {w : World} (h : w.ownsRow lo 26 1 (.slice (some ⟨g, 0, none⟩) P P) P (List.replicate P (.slice none 0 0))) :
    OwnP (fun i => i < P) lo w.heap.size w (.slice (some ⟨g, 0, none⟩) P P) P (List.replicate P spot0) (List.replicate P []) := by
  have e : ∀ i, (List.replicate P spot0).getD i spot0 = spot0 := fun i => by
    rw [List.getD_eq_getElem?_getD, List.getElem?_replicate]
    split <;> rfl
  have e2 : ∀ i, (List.replicate P ([] : List Int)).getD i [] = [] := fun i => by
    rw [List.getD_eq_getElem?_getD, List.getElem?_replicate]
    split <;> rfl
  have e3 : ∀ i, OB (List.replicate P spot0) i = none := fun i => by unfold OB; rw [e]; rfl
  refine ⟨?_, fun x hx => (h.lt x hx).2, fun i hi => ?_, fun i hi x hx => ?_, fun i j _ _ _ => .inl (e3 i), fun i _ => .inl (e3 i)⟩
  · have : spotCells (List.replicate P spot0) = List.replicate P (.slice none 0 0) := by unfold spotCells; rw [List.map_replicate]; rfl
    rw [this]
    exact h
  · rw [e, e2]
    exact ⟨rfl, .inl ⟨rfl, rfl⟩⟩
  · rw [e3] at hx; cases hx

def stks (D : List Int) (P i : Nat) : List (List Int) := (List.range P).map (stk D P i)
theorem stks_len (D : List Int) (P i : Nat) : (stks D P i).length = P := by simp [stks]
theorem stks_get (D : List Int) (P i : Nat) {k : Nat} (hk : k < P) : (stks D P i).getD k [] = stk D P i k := by simp [stks, hk]
theorem stks_set (D : List Int) {P : Nat} (i : Nat) (hP : 0 < P) : (stks D P i).set (i % P) (stk D P i (i % P) ++ [D.getD i 0]) = stks D P (i + 1) := by
  apply List.ext_getElem?
  intro j
  unfold stks
  rw [List.getElem?_set, List.length_map, List.length_range, List.getElem?_map, List.getElem?_map]
  by_cases hj : j < P
  · rw [List.getElem?_range hj]
    by_cases e : i % P = j
    · rw [if_pos e, if_pos (by omega), ← e]
      show _ = some (stk D P (i + 1) (i % P))
      rw [stk_same]
    · rw [if_neg e]
      show some (stk D P i j) = some (stk D P (i + 1) j)
      rw [stk_ne _ _ _ (Ne.symm e)]
  · have : i % P < P := Nat.mod_lt _ hP
    rw [if_neg (by omega), List.getElem?_eq_none (by simp; omega)]
    rfl

/-- The piles while cards are taken: row k has its first S - l k cards. -/
structure Piles (lo g P S N : Nat) (D : List Int) (l : Nat → Nat) (w : World) (ss : List Spot) : Prop where
  out : w.ownsRow lo 26 1 (.slice (some ⟨g, 0, none⟩) P P) P (spotCells ss)
  row : ∀ k, k < P → ∃ A C, ss.getD k spot0 = (A, S - l k, C) ∧ Ints w A (S - l k) C ((stk D P N k).take (S - l k)) ∧ (∀ x : Addr, A = some x → x.block ≠ g)
theorem Piles.sl {lo g P S N : Nat} {D : List Int} {l : Nat → Nat} {w : World} {ss : List Spot} (h : Piles lo g P S N D l w ss) : ss.length = P := by have := h.out.1; rw [spotCells_len] at this; omega
theorem Piles.init {lo hi g P S N : Nat} {D : List Int} {w : World} {ss : List Spot} (h : OwnP (fun i => i < P) lo hi w (.slice (some ⟨g, 0, none⟩) P P) P ss (stks D P N)) (hN : N = S * P) : Piles lo g P S N D (fun _ => 0) w ss := by
  subst hN
  refine ⟨h.out, fun k hk => ?_⟩
  have ho := h.own k hk
  rw [stks_get _ _ _ hk, stk_full D hk] at ho
  obtain ⟨A, C, e⟩ := own_form ho
  have hap := h.apo k hk
  unfold OB at hap
  rw [e] at ho hap
  rcases hs : ss.getD k spot0 with ⟨A', L', C'⟩
  rw [hs] at e
  simp only [spotV, Value.slice.injEq] at e
  obtain ⟨rfl, rfl, rfl⟩ := e
  refine ⟨A', C', rfl, ?_, fun x hx => ?_⟩
  · have e3 := List.take_of_length_le (l := stk D P (L' * P) k) (i := L') (by rw [stk_full D hk]; exact Nat.le_refl _)
    show Ints w A' L' C' ((stk D P (L' * P) k).take L')
    rw [e3]
    exact Rd.own ho
  · subst hx
    rcases hap with q | q
    · simp [Value.ownBlock] at q
    · intro r
      apply q
      simp [Value.ownBlock, r]
theorem Piles.pop {lo g P S N a : Nat} {D : List Int} {l : Nat → Nat} {w : World} {ss : List Spot} {A : Option Addr} {t C : Nat} (h : Piles lo g P S N D l w ss) (ha : a < P) (hl : l a < S) (hs : ss.getD a spot0 = (A, t + 1, C)) (ht : S - (l a + 1) = t) :
    Piles lo g P S N D (upd l a (l a + 1)) (w.setCell ⟨g, a, none⟩ (.slice A t C)) (ss.set a (A, t, C)) := by
  have hsl := h.sl
  refine ⟨?_, fun k hk => ?_⟩
  · have := (h.out.stored a (.slice A t C)).1
    rw [show (Value.slice A t C) = spotV (A, t, C) from rfl, spotCells_set] at this
    exact this
  · obtain ⟨A', C', e, hi, hne⟩ := h.row k hk
    by_cases q : k = a
    · subst q
      rw [upd_same, ht, getD_set_self _ _ _ _ (by omega)]
      rw [hs] at e
      simp only [Prod.mk.injEq] at e
      obtain ⟨rfl, e2, rfl⟩ := e
      refine ⟨A, C, rfl, ?_, hne⟩
      have h2 := Ints.take hi t (by omega)
      rw [List.take_take, Nat.min_eq_left (by omega)] at h2
      exact Rd.set h2 (fun x hx => hne x hx) _
    · rw [upd_ne _ _ _ q, getD_set_ne _ _ _ _ _ (Ne.symm q)]
      exact ⟨A', C', e, Rd.set hi (fun x hx => hne x hx) _, hne⟩

set_option maxHeartbeats 3200000 in
set_option maxRecDepth 100000 in
theorem implClockDeal_any (a : Option Addr) (N c P S : Nat) (D : List Int) (w : World) (h : Ints w a N c D) (hP : 1 ≤ P) (hP13 : P ≤ 13) (hN : N = S * P) (hok : okDeck D = true) (hD : ∀ i, i < N → 0 ≤ D.getD i 0 ∧ D.getD i 0 < 64) :
    Calls Try.prog 11 #[.slice a N c, .int .i64 P] w (Ret w (.tuple #[.int .i64 (clk D P S (S * P) (fun _ => 0) (P - 1) : Nat), .bool (clk D P S (S * P) (fun _ => 0) (P - 1) == N), .bool true])) := by
  obtain ⟨hc, hb, hcell⟩ := h.at
  have hl := h.len
  have hN52 : N ≤ 52 := by
    unfold okDeck at hok
    simp only [Bool.and_eq_true, decide_eq_true_eq] at hok
    omega
  have CD := IsDeck_any a N c D w h
  rw [hok] at CD
  have CD := Lib.hid CD
  have hin : inB (P : Int) 1 13 = true := (inB_iff _ _ _).2 ⟨by omega, by omega⟩
  have CW := Lib.hid (fun W => within_any (P : Int) 1 13 W)
  have hrem : (N : Int) % (P : Int) = 0 := by subst hN; exact_mod_cast Nat.mul_mod_left S P
  have HCell := Lib.hid hcell
  have HD := Lib.hid hD
  obtain ⟨i0, hi, hz0, hz1, hz2⟩ := info_parts infoSlI
  obtain ⟨i1, hii, hy0, hy1, hy2⟩ := info_parts infoI64
  have HN := Lib.hid hN
  have HStart := Lib.hid (Clk.start D (P := P) (S := S) hP)
  generalize hT : clk D P S (S * P) (fun _ => 0) (P - 1) = T at *
  clear hT h hcell hD hok hN
  go_enter Try.func11, Try.ntmps11
  go_wp2_with (fail)
  refine CD.out.mono ?_
  rintro e w1 ⟨rfl, hb1⟩
  have HB1 := Lib.hid hb1
  have hs1 := hb1.size
  clear hb1 CD
  go_wp2_with (first | (go_at_call 19; refine (CW.out _).mono ?_; rintro e w2 ⟨rfl, rfl⟩; rw [hin]) | (at_make; go_must (refine wpList_make_full _ rfl _ _ 44 rfl w.heap.size 26 i0 _ 1 Try.underlying44 hi hz0 hz1 _ _ _ _ P rfl rfl rfl rfl (by rw [hz2]; omega) (by unfold maxLen; omega) (by omega) ?_; intro w3 hown3 hg3)))
  have HB3 := Lib.hid (below_made HB1.out hs1 hg3)
  have hg0 : w.heap.size ≤ w1.heap.size := hs1
  have h3 := hown3
  rw [made_const _ (.slice none 0 0) (by decide) (by intro i hi; match i, hi with | 0, _ => rfl), Nat.mul_one] at h3
  have HP0 : Hid (OwnP (fun i => i < P) w.heap.size w3.heap.size w3 (.slice (some ⟨w1.heap.size, 0, none⟩) P P) P (List.replicate P spot0) (stks D P 0)) := by
    have e : stks D P 0 = List.replicate P [] := by
      unfold stks
      rw [List.eq_replicate_iff]
      refine ⟨by simp, fun x hx => ?_⟩
      obtain ⟨k, _, rfl⟩ := List.mem_map.1 hx
      rfl
    show OwnP _ _ _ _ _ _ _ _
    rw [e]
    exact OwnP.zero (D := D) h3
  clear hown3 hg3 h3 HB1 CW
  generalize w1.heap.size = g at *
  go_loopw [34] (fun vi wr => ∃ (i : Nat) (ss : List Spot), i ≤ N ∧ vi = .int .i64 i ∧ OwnP (fun k => k < P) w.heap.size wr.heap.size wr (.slice (some ⟨g, 0, none⟩) P P) P ss (stks D P i) ∧ Below w.heap.size w wr) (fun vi _ => N - (intOf vi).toNat)
  case atStart => exact ⟨0, _, by omega, rfl, HP0.out, HB3.out⟩
  case round =>
    obtain ⟨i, ss, hiN, rfl, hp, hbel⟩ := hrel
    have HB := Lib.hid hbel
    have HPr := Lib.hid hp
    have hsz := hbel.size
    by_cases hlt : i < N
    · obtain ⟨b, off, rfl, hlb, hx⟩ := HCell.out i hlt
      have z0 := cell_on hbel (hx i hlt)
      obtain ⟨k, hk⟩ : ∃ k, i % P = k := ⟨_, rfl⟩
      have hkP : k < P := by rw [← hk]; exact Nat.mod_lt _ (by omega)
      have hrm : (i : Int) % (P : Int) = (k : Int) := by rw [← hk]; exact (Int.natCast_emod i P).symm
      have hP0 : ¬ (P : Int) = 0 := by omega
      have HSt := Lib.hid (stks_set D i (show 0 < P by omega))
      rw [hk] at HSt
      have hsl := hp.sl
      have ho := hp.own k hkP
      rw [stks_get _ _ _ hkP] at ho
      have hXl := stk_len D P k i
      obtain ⟨A, C, e⟩ := own_form ho
      rcases hs : ss.getD k spot0 with ⟨A', L, C'⟩
      rw [hs] at e
      simp only [spotV, Value.slice.injEq] at e
      obtain ⟨rfl, hL, rfl⟩ := e
      rw [hs, ← hL] at ho
      rw [← hL] at hXl
      have z1 : wr.cell? ⟨g, k, none⟩ = some (.slice A' L C') := by
        rw [hp.out.cellAt k (by omega), spotCells_get _ _ (by omega), hs]
        rfl
      have HO := Lib.hid ho
      have HS := Lib.hid hs
      have HXL : Hid (L = (stk D P i k).length) := hL
      have hyb := HD.out i hlt
      generalize D.getD i 0 = y at *
      generalize stk D P i k = X at *
      clear hp ho hs hx hbel hL HB3 HP0 HStart hsl
      go_wp2_with (first | (at_builtin; go_must (refine wpList_append_lies _ rfl _ _ 26 rfl w.heap.size 2 i1 _ 1 8 Try.underlying26 hii hy0 hy1 hy2 rfl (by omega) (.slice A' L C') L (intCells X) rfl (HO.out.alloc _) ⟨wr.heap.size, 0, none⟩ 1 1 [.int .i64 y] rfl rfl (new1 _ _ _) (one1 rfl) (by omega) (by unfold maxLen; omega) (by omega) (by simp; omega) (wr.heap.size + 1) (by simp) ?_); intro gg cap w5 hown1 hg1 hat hlt5; rw [← intCells_snoc] at hown1; obtain ⟨z5, f5, hp5⟩ := OwnP.app HPr.out hkP HS.out hg1 hown1 hat hlt5 (by rw [List.length_append, ← HXL.out]; rfl) (stks_len D P i); have HB5 := Lib.hid (below_app HB.out hsz hg1 HO.out); have HP5 := Lib.hid hp5; clear hown1 hg1 hat hp5))
      rw [HSt.out] at HP5
      go_roundw
      case rel => exact ⟨i + 1, _, by omega, by go_num, HP5.out, HB5.out.setCell hg0 _⟩
      case measure => simp [intOf]; omega
    · obtain rfl : i = N := by omega
      have HQ := Lib.hid (Piles.init (S := S) HPr.out HN.out)
      have hPm : IntKind.i64.wrap ((P : Int) - 1) = ((P - 1 : Nat) : Int) := by rw [IntWalk.i64_in _ (by omega)]; omega
      clear hp hbel HB3 HP0 HPr
      go_wp2
      go_loopw [11, 12] (fun vt va wr => ∃ (t f q : Nat) (l : Nat → Nat) (ss : List Spot), vt = .int .i64 t ∧ va = .int .i64 q ∧ Clk D P S T t f l q ∧ t + f = i ∧ Piles w.heap.size g P S i D l wr ss ∧ Below w.heap.size w wr) (fun vt _ _ => i - (intOf vt).toNat)
      case atStart => exact ⟨0, S * P, P - 1, _, _, rfl, rfl, HStart.out, by have := HN.out; omega, HQ.out, HB.out⟩
      case round =>
        obtain ⟨t, f, q, l, ss', rfl, rfl, hclk, htf, hpil, hbel⟩ := hrel
        have HK := Lib.hid hclk
        have HPi := Lib.hid hpil
        have HBr := Lib.hid hbel
        have hq := hclk.pil
        obtain ⟨A, C, hs, hin2, hne⟩ := hpil.row q hq
        have hsl := hpil.sl
        have z1 : World.cell? _ ⟨g, q, none⟩ = some (.slice A (S - l q) C) := (by rw [hpil.out.cellAt q (by omega), spotCells_get _ _ (by omega), hs]; rfl)
        have f1 := hpil.out.frozenAt q
        obtain ⟨hc1, hc2, hcl⟩ := hin2.at
        have HN2 := Lib.hid HN.out
        by_cases hl2 : l q < S
        · obtain ⟨t', ht'⟩ : ∃ t' : Nat, S - (l q + 1) = t' := ⟨_, rfl⟩
          have hS1 : S - l q = t' + 1 := by omega
          rw [hS1] at hs z1 hc1 hcl
          obtain ⟨b', off', rfl, hlb', hx'⟩ := hcl t' (by omega)
          have z2 := hx' t' (by omega)
          have hfull := stk_full D hq S
          have hN' := HN2.out
          have e1 : (List.take (t' + 1) (stk D P i q)).getD t' 0 = D.getD (t' * P + q) 0 := by
            rw [hN', List.getD_eq_getElem?_getD, List.getElem?_take_of_lt (by omega), ← List.getD_eq_getElem?_getD, stk_top D hq (by omega)]
          rw [e1] at z2
          have hlt2 : t' * P + q < i := by
            have h1 : (t' + 1) * P ≤ S * P := Nat.mul_le_mul_right P (by omega)
            rw [Nat.succ_mul] at h1
            omega
          have hyb := HD.out _ hlt2
          obtain ⟨f', hf, hclk'⟩ := HK.out.step hl2
          rw [ht'] at hclk'
          generalize D.getD (t' * P + q) 0 = y at *
          obtain ⟨y, rfl⟩ : ∃ m : Nat, y = m := ⟨y.toNat, by omega⟩
          obtain ⟨k, hk⟩ : ∃ k, y % P = k := ⟨_, rfl⟩
          have hrm : (y : Int) % (P : Int) = (k : Int) := by rw [← hk]; exact (Int.natCast_emod y P).symm
          rw [Int.toNat_natCast, hk] at hclk'
          have HK' := Lib.hid hclk'
          have HP' := Lib.hid (HPi.out.pop hq hl2 hs ht')
          have hP0 : ¬ (P : Int) = 0 := by omega
          have hwt : IntKind.i64.wrap (((t' + 1 : Nat) : Int) - 1) = (t' : Int) := by rw [IntWalk.i64_in _ (by omega)]; omega
          have ht52 : t ≤ 52 := by omega
          have hf1 : f = f' + 1 := hf
          have hcc : t' ≤ C := by omega
          have hpos : (0 : Int) < ((t' + 1 : Nat) : Int) := by omega
          clear hclk hpil hbel hs hin2 hne hcl hx' e1 hclk' hfull hN' HPi HK hS1 ht' hl2 HQ HB HStart
          go_wp2
          go_roundw
          case rel => exact ⟨t + 1, f', k, _, _, by go_num, by rw [hrm], HK'.out, by omega, HP'.out, HBr.out.setCell hg0 _⟩
          case measure => simp [intOf]; omega
        · have hS0 : S - l q = 0 := by omega
          have hT := HK.out.done (by omega)
          subst hT
          rw [hS0] at z1
          clear hclk hpil hbel hs hin2 hne hcl HPi HK HQ HB HStart
          go_wp2
          go_ret3
          have hbq : ((T : Int) == (i : Int)) = (T == i) := by
            rw [Bool.eq_iff_iff, beq_iff_eq, beq_iff_eq]
            exact Int.ofNat_inj
          exact ⟨congrArg (fun b => Ending.returned (.tuple #[.int .i64 (T : Int), .bool b, .bool true])) hbq, HBr.out⟩

end Go.Proofs.Ytdnhhkbijamadaa
