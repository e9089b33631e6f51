/- Tricks, impl: leadCard. -/
import Derived.Test.YtgldfmkjnggedaaTrickG
import Derived.Deep.RegionWith
import Derived.Deep.RegionHeld3
namespace Go.Proofs.Ytgldfmkjnggedaa
open Go.RowKit
set_option linter.unusedVariables false

set_option maxHeartbeats 1600000 in
theorem leadCard1_any (t : Int) (M f : Nat) (hf : f ≤ 5) (k : Nat) (a : Option Addr) (c : Nat) (xs : List Int) (a' : Option Addr) (c' : Nat) (ys : List Int) (y m : Int) (b0 b1 b2 b3 : Nat) (w : World) (h : Ints w a (f + 1) c xs) (h' : Ints w a' (f + 1) c' ys) (hv : Av M a) (hv' : Av M a') (hx : Hand (f + 1) xs) (hy : Hand (f + 1) ys) (hym : y ∈ xs) (ht : TabAt M k t w) (hk : k + (f + 1) * cb f ≤ 1099511627776)
    (p0 : w.cell? ⟨b0, 0, none⟩ = some (.int .i64 t)) (p1 : w.cell? ⟨b0, 1, none⟩ = some (.map (some M))) (p2 : w.cell? ⟨b1, 0, none⟩ = some (.slice a (f + 1 : Nat) c)) (p3 : w.cell? ⟨b2, 0, none⟩ = some (.slice a' (f + 1 : Nat) c')) (p4 : w.cell? ⟨b3, 0, none⟩ = some (.int .i64 m)) (n0 : b0 ≠ M) (n1 : b1 ≠ M) (n2 : b2 ≠ M) (n3 : b3 ≠ M) :
    Calls Try.prog 39 #[.int .i64 y, .pointer (some ⟨b0, 0, none⟩), .pointer (some ⟨b1, 0, none⟩), .pointer (some ⟨b2, 0, none⟩), .pointer (some ⟨b3, 0, none⟩)] w fun e w' => e = .returned (.bool (aftF t f xs ys y == m)) ∧ Chg M (M + 1) w w' ∧ ∃ k', k' ≤ k + (f + 1) * cb f ∧ TabAt M k' t w' := by
  have C := Lib.hid (after_of t M f hf (best_any t M f (by omega)) k a c xs a' c' ys y w.drew (h.drewN 1) (h'.drewN 1) hv hv' hx hy hym (ht.drewN 1) hk)
  obtain ⟨hc, hb, _⟩ := h.at
  obtain ⟨hc', hb', _⟩ := h'.at
  clear h h' ht hx hy hym hk
  generalize (f + 1) * cb f = cf at *
  generalize aftF t f xs ys y = V at *
  generalize hn : f + 1 = n at *
  clear hn hf
  go_enter Try.func39, Try.ntmps39
  go_wp2
  go_region_held3 (fun W => W.cell? ⟨b0, 0, none⟩ = some (.int .i64 t) ∧ W.cell? ⟨b0, 1, none⟩ = some (.map (some M)) ∧ W.cell? ⟨b1, 0, none⟩ = some (.slice a n c) ∧ W.cell? ⟨b2, 0, none⟩ = some (.slice a' n c') ∧ W.cell? ⟨b3, 0, none⟩ = some (.int .i64 m))
    (first | exact hkeep | go_keep)
    ((go_at_call 23; refine C.out.mono ?_; rintro e w4 ⟨rfl, hc4, k4, hk4, ht4⟩; have hkeep := And.intro (hc4.cellNe (show w.drew.cell? _ = _ from p0) n0) (And.intro (hc4.cellNe (show w.drew.cell? _ = _ from p1) n0) (And.intro (hc4.cellNe (show w.drew.cell? _ = _ from p2) n1) (And.intro (hc4.cellNe (show w.drew.cell? _ = _ from p3) n2) (hc4.cellNe (show w.drew.cell? _ = _ from p4) n3))))))
  have HC4 : Hid (Chg M (M + 1) w w4) := ((Chg.refl M (M + 1) w).drewN 1).trans hc4
  have HT4 := Lib.hid ht4
  clear hc4 ht4 hkeep C
  go_wp2
  go_ret
  exact ⟨rfl, HC4.out, k4, hk4, HT4.out⟩

set_option maxHeartbeats 1600000 in
theorem TrickLine1_any (t : Int) (M f : Nat) (hf : f ≤ 5) (k : Nat) (a : Option Addr) (c : Nat) (xs : List Int) (a' : Option Addr) (c' : Nat) (ys : List Int) (y z m : Int) (b0 b1 b2 b3 b4 : Nat) (w : World) (h : Ints w a (f + 1) c xs) (h' : Ints w a' (f + 1) c' ys) (hv : Av M a) (hv' : Av M a') (hx : Hand (f + 1) xs) (hy : Hand (f + 1) ys) (hym : y ∈ xs) (hzm : z ∈ ys) (ht : TabAt M k t w) (hk : k + cb f ≤ 1099511627776)
    (p0 : w.cell? ⟨b0, 0, none⟩ = some (.int .i64 t)) (p1 : w.cell? ⟨b0, 1, none⟩ = some (.map (some M))) (p2 : w.cell? ⟨b1, 0, none⟩ = some (.slice a (f + 1 : Nat) c)) (p3 : w.cell? ⟨b2, 0, none⟩ = some (.slice a' (f + 1 : Nat) c')) (p4 : w.cell? ⟨b3, 0, none⟩ = some (.int .i64 y)) (p5 : w.cell? ⟨b4, 0, none⟩ = some (.int .i64 m)) (n0 : b0 ≠ M) (n1 : b1 ≠ M) (n2 : b2 ≠ M) (n3 : b3 ≠ M) (n4 : b4 ≠ M) :
    Calls Try.prog 26 #[.int .i64 z, .pointer (some ⟨b0, 0, none⟩), .pointer (some ⟨b1, 0, none⟩), .pointer (some ⟨b2, 0, none⟩), .pointer (some ⟨b3, 0, none⟩), .pointer (some ⟨b4, 0, none⟩)] w fun e w' => e = .returned (.bool (repF t f xs ys y z == m)) ∧ Chg M (M + 1) w w' ∧ ∃ k', k' ≤ k + cb f ∧ TabAt M k' t w' := by
  have C := Lib.hid (reply_of t M f hf (best_any t M f (by omega)) k a c xs a' c' ys y z w.drew (h.drewN 1) (h'.drewN 1) hv hv' hx hy hym hzm (ht.drewN 1) hk)
  obtain ⟨hc, hb, _⟩ := h.at
  obtain ⟨hc', hb', _⟩ := h'.at
  clear h h' ht hx hy hym hzm hk
  generalize cb f = cf at *
  generalize repF t f xs ys y z = V at *
  generalize hn : f + 1 = n at *
  clear hn hf
  go_enter Try.func26, Try.ntmps26
  go_wp2
  go_region_held3 (fun W => W.cell? ⟨b0, 0, none⟩ = some (.int .i64 t) ∧ W.cell? ⟨b0, 1, none⟩ = some (.map (some M)) ∧ W.cell? ⟨b1, 0, none⟩ = some (.slice a n c) ∧ W.cell? ⟨b2, 0, none⟩ = some (.slice a' n c') ∧ W.cell? ⟨b3, 0, none⟩ = some (.int .i64 y) ∧ W.cell? ⟨b4, 0, none⟩ = some (.int .i64 m))
    (first | exact hkeep | go_keep)
    ((go_at_call 27; refine C.out.mono ?_; rintro e w4 ⟨rfl, hc4, k4, hk4, ht4⟩; have hkeep := And.intro (hc4.cellNe (show w.drew.cell? _ = _ from p0) n0) (And.intro (hc4.cellNe (show w.drew.cell? _ = _ from p1) n0) (And.intro (hc4.cellNe (show w.drew.cell? _ = _ from p2) n1) (And.intro (hc4.cellNe (show w.drew.cell? _ = _ from p3) n2) (And.intro (hc4.cellNe (show w.drew.cell? _ = _ from p4) n3) (hc4.cellNe (show w.drew.cell? _ = _ from p5) n4)))))))
  have HC4 : Hid (Chg M (M + 1) w w4) := ((Chg.refl M (M + 1) w).drewN 1).trans hc4
  have HT4 := Lib.hid ht4
  clear hc4 ht4 hkeep C
  go_wp2
  go_ret
  exact ⟨rfl, HC4.out, k4, hk4, HT4.out⟩

set_option maxHeartbeats 1600000 in
set_option maxRecDepth 100000 in
theorem leadCard_any (t : Int) (M f : Nat) (hf : f ≤ 5) (k : Nat) (a : Option Addr) (c : Nat) (xs : List Int) (a' : Option Addr) (c' : Nat) (ys : List Int) (w : World) (h : Ints w a (f + 1) c xs) (h' : Ints w a' (f + 1) c' ys) (hv : Av M a) (hv' : Av M a') (hx : Hand (f + 1) xs) (hy : Hand (f + 1) ys) (ht : TabAt M k t w) (hk : k + 2000000 ≤ 1099511627776) :
    Calls Try.prog 22 #[.agg #[.int .i64 t, .map (some M)], .slice a (f + 1 : Nat) c, .slice a' (f + 1 : Nat) c'] w fun e w' => e = .returned (.int .i64 (leadC t f xs ys)) ∧ Chg M (M + 1) w w' ∧ ∃ k', k' ≤ k + 2000000 ∧ TabAt M k' t w' := by
  have hM := ht.lt
  have hcb : cb (f + 1) = 1 + (f + 1) * ((f + 1) * cb f) := rfl
  have hcl := cb_le (show f + 1 ≤ 6 by omega)
  have HB0 : Hid (Below w.heap.size w (((w.alloc (.cells #[.int .i64 t, .map (some M)] 47)).alloc (.cells #[.slice a (f + 1 : Nat) c] 25)).alloc (.cells #[.slice a' (f + 1 : Nat) c'] 25))) := (((Below.refl w.heap.size w).alloc (Nat.le_refl _) _).alloc (by simp) _).alloc (by simp; omega) _
  have CC := Lib.hid (cloneI64_any a (f + 1) c xs _ (h.mono HB0.out) (by omega))
  have HI1 := Lib.hid h
  have HI2 := Lib.hid h'
  have HL := Lib.hid hx.len
  have HT := Lib.hid ht
  have HMem : Hid (∃ x ∈ isort xs, aftF t f xs ys x = bestF t (f + 1) xs ys) := by
    have hm : maxL (xs.map (aftF t f xs ys)) ∈ xs.map (aftF t f xs ys) := maxL_mem (fun x hx' => by
      obtain ⟨c, hc, rfl⟩ := List.mem_map.1 hx'
      exact (aftF_bd hx hy hc).1) (by simpa using hx.ne)
    obtain ⟨c, hc, e⟩ := List.mem_map.1 hm
    exact ⟨c, (isort_perm xs).mem_iff.2 hc, e⟩
  have HFi := Lib.hid (firstOf_mem HMem.out)
  have HLc : Hid (leadC t f xs ys = firstOf (aftF t f xs ys) (bestF t (f + 1) xs ys) (isort xs)) := rfl
  have HFo : Hid (firstOf (aftF t f xs ys) (bestF t (f + 1) xs ys) (isort xs) = (isort xs).getD (firstIdx (fun c => aftF t f xs ys c == bestF t (f + 1) xs ys) (isort xs)).toNat 0) := rfl
  have CB := Lib.hid (fun W (i1 : Ints W a (f + 1) c xs) (i2 : Ints W a' (f + 1) c' ys) (hT : TabAt M k t W) => best_any t M (f + 1) (by omega) k a c xs a' c' ys W i1 i2 hv hv' hx hy hT (by omega))
  have CP := Lib.hid (fun (k2 : Nat) (x : Int) W (b0 b1 b2 b3 : Nat) (i1 : Ints W a (f + 1) c xs) (i2 : Ints W a' (f + 1) c' ys) (hT : TabAt M k2 t W) (hk2 : k2 + (f + 1) * cb f ≤ 1099511627776) (hxm : x ∈ xs) => leadCard1_any t M f hf k2 a c xs a' c' ys x (bestF t (f + 1) xs ys) b0 b1 b2 b3 W i1 i2 hv hv' hx hy hxm hT hk2)
  have HSm : Hid (∀ y ∈ isort xs, y ∈ xs) := fun y hy => (isort_perm xs).mem_iff.1 hy
  have HSl : Hid ((isort xs).length = f + 1) := by show _ = _; rw [isort_len, hx.len]
  obtain ⟨hc, hb, _⟩ := h.at
  obtain ⟨hc', hb', _⟩ := h'.at
  clear h h' hx hy ht HMem
  generalize bestF t (f + 1) xs ys = BF at *
  generalize aftF t f xs ys = g at *
  generalize leadC t f xs ys = LC at *
  generalize (f + 1) * cb f = s at *
  generalize cb (f + 1) = cbf at *
  generalize hn : f + 1 = n at *
  have hn1 : 1 ≤ n := by omega
  have hn6 : n ≤ 6 := by omega
  clear hn
  go_enter Try.func22, Try.ntmps22
  go_wp2_with (fail)
  refine CC.out.mono ?_
  rintro e w1 ⟨ca, cc, rfl, hb1, ho1⟩
  obtain ⟨gb, rfl⟩ := own_some ho1 (by omega)
  have hgb := (own_block ho1).1
  have CS := Lib.hid (sortI64_any gb n cc _ xs w1 ho1 (by omega))
  have hs0 := HB0.out.size
  have HB1 := Lib.hid (HB0.out.trans (hb1.mono HB0.out.size))
  have hA1 : Below (w.alloc (.cells #[.int .i64 t, .map (some M)] 47)).heap.size (w.alloc (.cells #[.int .i64 t, .map (some M)] 47)) (((w.alloc (.cells #[.int .i64 t, .map (some M)] 47)).alloc (.cells #[.slice a n c] 25)).alloc (.cells #[.slice a' n c'] 25)) := ((Below.refl _ _).alloc (Nat.le_refl _) _).alloc (by simp) _
  have hA2 : Below ((w.alloc (.cells #[.int .i64 t, .map (some M)] 47)).alloc (.cells #[.slice a n c] 25)).heap.size ((w.alloc (.cells #[.int .i64 t, .map (some M)] 47)).alloc (.cells #[.slice a n c] 25)) (((w.alloc (.cells #[.int .i64 t, .map (some M)] 47)).alloc (.cells #[.slice a n c] 25)).alloc (.cells #[.slice a' n c'] 25)) := (Below.refl _ _).alloc (Nat.le_refl _) _
  have p0 := cell_on hb1 (cell_on hA1 (show (w.alloc (.cells #[.int .i64 t, .map (some M)] 47)).cell? ⟨w.heap.size, 0, none⟩ = some (.int .i64 t) by simp))
  have p1 := cell_on hb1 (cell_on hA1 (show (w.alloc (.cells #[.int .i64 t, .map (some M)] 47)).cell? ⟨w.heap.size, 1, none⟩ = some (.map (some M)) by simp))
  have p2 := cell_on hb1 (cell_on hA2 (show ((w.alloc (.cells #[.int .i64 t, .map (some M)] 47)).alloc (.cells #[.slice a n c] 25)).cell? ⟨w.heap.size + 1, 0, none⟩ = some (.slice a n c) by rw [World.cell?_alloc_at _ _ _ _ (by simp)]; rfl))
  have p3 := cell_on hb1 (show (((w.alloc (.cells #[.int .i64 t, .map (some M)] 47)).alloc (.cells #[.slice a n c] 25)).alloc (.cells #[.slice a' n c'] 25)).cell? ⟨w.heap.size + 2, 0, none⟩ = some (.slice a' n c') by rw [World.cell?_alloc_at _ _ _ _ (by simp)]; rfl)
  clear hA1 hA2
  simp at hgb hs0
  have hcc : n ≤ cc ∧ cc ≤ 9223372036854775807 := by have := Rd.own ho1; exact ⟨this.2.1, this.2.2.1⟩
  clear hb1 ho1 CC
  go_wp2_with (fail)
  refine CS.out.mono ?_
  rintro e w2 ⟨rfl, hc2, ho2⟩
  have HB2 := Lib.hid (below_chg HB1.out HB1.out.size (by omega) hc2)
  have q0 := hc2.cell p0 (.inl (by dsimp only; omega))
  have q1 := hc2.cell p1 (.inl (by dsimp only; omega))
  have q2 := hc2.cell p2 (.inl (by dsimp only; omega))
  have q3 := hc2.cell p3 (.inl (by dsimp only; omega))
  have HO2 := Lib.hid ho2
  have CBB := Lib.hid (CB.out w2 (HI1.out.mono HB2.out) (HI2.out.mono HB2.out) (HT.out.mono HB2.out))
  clear hc2 ho2 p0 p1 p2 p3 CS CB
  go_wp2_with (fail)
  refine CBB.out.mono ?_
  rintro e w3 ⟨rfl, hc3, k3, hk3, ht3⟩
  have r0 := hc3.cellNe q0 (by dsimp only; omega)
  have r1 := hc3.cellNe q1 (by dsimp only; omega)
  have r2 := hc3.cellNe q2 (by dsimp only; omega)
  have r3 := hc3.cellNe q3 (by dsimp only; omega)
  have V2 : Hid (Av M (some ⟨gb, 0, none⟩)) := fun x hx => by obtain rfl := Option.some.inj hx; dsimp only; omega
  have HC3 := Lib.hid ((Chg.below HB2.out).trans hc3)
  have HO3 := Lib.hid (own_av HO2.out hc3 V2.out)
  have hs3 : w.heap.size + 3 ≤ w3.heap.size := by have h1 := HB2.out.size; have h2 := hc3.size; have h3 := cell_lt r3; dsimp only at h3; omega
  have HA : Hid (Below w3.heap.size w3 (w3.alloc (.cells #[.int .i64 BF] 2))) := (Below.refl _ _).alloc (Nat.le_refl _) _
  have HT4 := Lib.hid (ht3.mono HA.out)
  have HC4 := Lib.hid (HC3.out.trans (Chg.below HA.out))
  have HO4 := Lib.hid (ownsRow_below HO3.out HA.out)
  have s0 := cell_on HA.out r0
  have s1 := cell_on HA.out r1
  have s2 := cell_on HA.out r2
  have s3 := cell_on HA.out r3
  have s4 : (w3.alloc (.cells #[.int .i64 BF] 2)).cell? ⟨w3.heap.size, 0, none⟩ = some (.int .i64 BF) := by simp
  have hbd : k3 + n * s ≤ 1099511627776 := by omega
  have CI := Lib.hid (indexFuncT_any (fun x => g x == BF) 39 #[.pointer (some ⟨w.heap.size, 0, none⟩), .pointer (some ⟨w.heap.size + 1, 0, none⟩), .pointer (some ⟨w.heap.size + 2, 0, none⟩), .pointer (some ⟨w3.heap.size, 0, none⟩)] (enters_of Try.func39 (by kernel_rfl) rfl) M t k3 s (some ⟨gb, 0, none⟩) n cc (isort xs) (w3.alloc (.cells #[.int .i64 BF] 2)) (Rd.own HO4.out) V2.out HT4.out hbd
    (fun W k' hW hT' hk' x hx => CP.out k' x W _ _ _ _ (HI1.out.av (HC4.out.trans hW) hv) (HI2.out.av (HC4.out.trans hW) hv') hT' hk' (HSm.out x hx) (hW.cellNe s0 (by dsimp only; omega)) (hW.cellNe s1 (by dsimp only; omega)) (hW.cellNe s2 (by dsimp only; omega)) (hW.cellNe s3 (by dsimp only; omega)) (hW.cellNe s4 (by dsimp only; omega)) (by omega) (by omega) (by omega) (by omega)))
  obtain ⟨_, _, i, hi1, hi2⟩ := HFi.out
  have hFo := HFo.out
  rw [hi1, Int.toNat_natCast] at hFo
  have HRes : Hid (LC = (isort xs).getD i 0) := HLc.out.trans hFo
  have hi3 : i < n := by rw [← HSl.out]; exact hi2
  rw [hi1] at CI
  clear q0 q1 q2 q3 r0 r1 r2 s0 s1 s2 s3 s4 CP CBB hc3 ht3 HFi HFo hFo hi1 hi2
  go_wp2_with (fail)
  refine CI.out.mono ?_
  rintro e w5 ⟨rfl, hc5, k5, hk5, ht5⟩
  have x0 := own_get (own_av HO4.out hc5 V2.out) i hi3
  have HC5 := Lib.hid (HC4.out.trans hc5)
  have HT5 := Lib.hid ht5
  clear hc5 ht5 CI
  go_wp2
  go_ret
  exact ⟨ret_int HRes.out.symm, HC5.out, k5, by omega, HT5.out⟩

end Go.Proofs.Ytgldfmkjnggedaa
