/- What is stored: the program's store. -/
import Derived.Test.YtnoageckldilnaaDoorStoB
import Derived.Deep.RegionHeld3
import Derived.Deep.Cut
import Derived.Deep.CutRange
namespace Go.Proofs.YtnoageckldilnaaDoor
open Go.RowKit
set_option linter.unusedVariables false
set_option linter.unusedSimpArgs false

theorem ofL_app (a b : List UInt8) : ofL a ++ ofL b = ofL (a ++ b) := by
  rw [← ofL_data (ofL a ++ ofL b)]
  congr 1
theorem ofL_sz (a : List UInt8) : (ofL a).size = a.length := by simp [ofL, ByteArray.size]
/-- A slice of one byte as a text. -/
theorem conv1 (W : World) (g : Nat) (b : UInt8) (h : W.cell? ⟨g, 0, none⟩ = some (.int .u8 (b.toNat : Int))) : (convert 43 9 (.slice (some ⟨g, 0, none⟩) 1 1)).run Tryd.prog W = .ok (.string (ofL [b])) W :=
  run_convert_bytes_back W 43 9 5 ⟨g, 0, none⟩ 1 [b] Tryd.underlying43 Tryd.underlying5 Tryd.underlying9 (fun j hj => by
    obtain rfl : j = 0 := by simp at hj; omega
    simpa [Addr.add] using h)
/-- A condition that says more serves. -/
theorem wpAnyH_str {P : Program} {md : Region.Mode} {ops : Array Oper} {Q : Exit → Act → World → Prop} {S S' : World → Prop} (h : ∀ w, S' w → S w) : ∀ {fuel : Nat} {listed : Array Bool} {a : Act} {w : World}, wpAnyH P md ops Q S' fuel listed a w → wpAnyH P md ops Q S fuel listed a w
  | 0, _, _, _, k => k
  | fuel + 1, _, _, _, k => ⟨k.1, fun i hi => wpOp_mono (fun a' w' h' => ⟨h w' h'.1, wpAnyH_str h h'.2⟩) (k.2 i hi)⟩

set_option maxHeartbeats 6400000 in
set_option maxRecDepth 100000 in
theorem store_any (nm : ByteArray) (a0 : Option Addr) (n0 c0 : Nat) (x0 : List Int) (a1 : Option Addr) (n1 c1 : Nat) (ss : List Spot) (xss : List (List Int)) (w : World)
    (h0 : Ints w a0 n0 c0 x0) (h1 : IntSS w a1 n1 c1 ss xss) (hok : okSaved nm x0 xss = true) :
    Calls Tryd.prog 44 #[.agg #[.string nm, .slice a0 n0 c0, .slice a1 n1 c1]] w (Ret w (.string (ofL (storeL nm x0 xss)))) := by
  obtain ⟨b1, b2, b3, b4, b5⟩ := ok_bounds hok
  have HSB : Hid (storeB nm x0 xss = headB nm x0 (n1 : Int) ++ diceTo xss n1) := by show _ = _; unfold storeB; rw [h1.len]
  have HSC : Hid (storeC nm x0 xss = chkL 0 (storeB nm x0 xss)) := rfl
  have HSL : Hid (storeL nm x0 xss = storeB nm x0 xss ++ [byteOf (storeC nm x0 xss), byteOf (storeC nm x0 xss / 256)]) := rfl
  have hSl := storeB_len hok
  obtain ⟨k0, k1⟩ := storeC_bd nm x0 xss
  have hx1 : IntKind.u8.wrap (storeC nm x0 xss) = ((byteOf (storeC nm x0 xss)).toNat : Int) := byteOf_wrap _
  have hx2 : IntKind.u8.wrap (storeC nm x0 xss / 256) = ((byteOf (storeC nm x0 xss / 256)).toNat : Int) := byteOf_wrap _
  have hl0 := h0.len
  have hl1 := h1.len
  obtain ⟨hc, hc2, hcell⟩ := h1.at
  have HCell := Lib.hid hcell
  have HR : Hid (∀ i, i < n1 → Ints w (ss.getD i spot0).1 (ss.getD i spot0).2.1 (ss.getD i spot0).2.2 (xss.getD i []) ∧ (ss.getD i spot0).2.1 ≤ 12 ∧ diceTo xss (i + 1) = diceTo xss i ++ bList (xss.getD i [])) := fun i hi => ⟨h1.row i hi, by have := (h1.row i hi).len; have := b5 i (by omega); omega, diceTo_succ xss i (by omega)⟩
  have HXB : Hid (∀ k, k ≤ n1 → (headB nm x0 (n1 : Int) ++ diceTo xss k).length ≤ 145) := fun k hk => by
    rw [List.length_append, headB_len]
    have := diceTo_len xss b5 k (by omega)
    omega
  clear hcell
  have hn0 : n0 ≤ 52 := by omega
  have hn1 : n1 ≤ 6 := by omega
  have hwn : IntKind.u8.wrap (nm.size : Int) = ((byteOf (nm.size : Int)).toNat : Int) := byteOf_wrap _
  have hwm : IntKind.u8.wrap (n1 : Int) = ((byteOf (n1 : Int)).toNat : Int) := byteOf_wrap _
  have CC : Hid (∀ W, Below w.heap.size w W → Calls Tryd.prog 77 #[.slice a0 n0 c0] W (Ret W (.string (ofL (bList x0))))) := fun W hW => counted_any a0 n0 c0 x0 W (h0.mono hW) (by omega)
  have hK1 : (ofL [byteOf (nm.size : Int)]).size = 1 := rfl
  have hK2 : (ofL (bList x0)).size ≤ 60 := by rw [ofL_sz, bList_len]; omega
  have hK3 : (ofL [byteOf (n1 : Int)]).size = 1 := rfl
  have KS : Hid (((((⟨#[68, 67, 75, 49]⟩ : ByteArray) ++ ofL [byteOf (nm.size : Int)]) ++ nm) ++ ofL (bList x0)) ++ ofL [byteOf (n1 : Int)] = ofL (headB nm x0 (n1 : Int))) := by
    show _ = _
    rw [show (⟨#[68, 67, 75, 49]⟩ : ByteArray) = ofL [68, 67, 75, 49] from rfl, show nm = ofL nm.data.toList from (ofL_data nm).symm, ofL_app, ofL_app, ofL_app, ofL_app, ofL_data]
    rfl
  have convA := fun W g h => conv1 W g (byteOf (nm.size : Int)) h
  have convB := fun W g h => conv1 W g (byteOf (n1 : Int)) h
  generalize storeL nm x0 xss = SL at *
  generalize hSC : storeC nm x0 xss = cN at *
  generalize hSB : storeB nm x0 xss = SB at *
  clear hSC hSB
  generalize byteOf (cN / 256) = bh at *
  generalize byteOf cN = bl at *
  generalize headB nm x0 (n1 : Int) = HD at *
  obtain ⟨HS, hHS⟩ : ∃ HS, HS = ofL HD := ⟨_, rfl⟩
  have HHS := Lib.hid hHS
  rw [← hHS] at KS
  clear hHS h0 h1 hok b3 b4 b5 hl0 hl1
  generalize ofL (bList x0) = s2 at *
  generalize ofL [byteOf (nm.size : Int)] = s1 at *
  generalize ofL [byteOf (n1 : Int)] = s3 at *
  generalize byteOf (nm.size : Int) = bn at *
  generalize byteOf (n1 : Int) = bm at *
  have hB : Hid (Below w.heap.size w (w.alloc (.cells #[.string nm, .slice a0 n0 c0, .slice a1 n1 c1] 30))) := (Below.refl w.heap.size w).alloc (Nat.le_refl _) _
  have HS0 : Hid (SavAt (w.alloc (.cells #[.string nm, .slice a0 n0 c0, .slice a1 n1 c1] 30)) w.heap.size 0 nm a0 n0 c0 a1 n1 c1) := ⟨by go_simp, by go_simp, by go_simp⟩
  go_enter Tryd.func44, Tryd.ntmps44
  go_upto_region 1 with fail
  have hsz : w.heap.size ≤ (w.alloc (.cells #[.string nm, .slice a0 n0 c0, .slice a1 n1 c1] 30)).heap.size := hB.out.size
  generalize w.alloc (.cells #[.string nm, .slice a0 n0 c0, .slice a1 n1 c1] 30) = wb at *
  go_cut [3] from 8 to 28 (fun v wc => v = .string HS ∧ Below wb.heap.size wb wc)
  case first =>
    have z0 := HS0.out.nm
    have z1 := HS0.out.deck
    have z2 := HS0.out.dice
    rw [Nat.zero_add] at z1 z2
    have hz2 : ¬ 9223372036854775807 < 5 + nm.size := by omega
    have hz3 : ¬ 9223372036854775807 < 5 + nm.size + s2.size := by omega
    have hz4 : ¬ 9223372036854775807 < 5 + nm.size + s2.size + 1 := by omega
    refine wp_region_held_drew (S := fun W => W.cell? ⟨w.heap.size, 0, none⟩ = some (.string nm) ∧ W.cell? ⟨w.heap.size, 1, none⟩ = some (.slice a0 n0 c0) ∧ W.cell? ⟨w.heap.size, 2, none⟩ = some (.slice a1 n1 c1)) (by kernel_rfl) ⟨z0, z1, z2⟩ (fun hHeld => ?_)
    have HB0 : Below wb.heap.size wb wb.drew := (Below.refl _ _).drew
    generalize wb.drew = W0 at *
    refine wpAnyH_take (i := 0) (v := ?_) rfl (by kernel_rfl) (by kernel_rfl) (by kernel_rfl) (fun _ _ _ h => h) (Or.inl ⟨by rfl, ?_⟩) hHeld ?_
    rotate_left 1
    · intro w hSw; (try dsimp only at hSw); go_simp; try with_reducible rfl
    try simp only [Act.put, List.setIfInBounds_toArray, List.set_cons_zero, List.set_cons_succ]
    refine wpAnyH_take (i := 1) (v := ?_) rfl (by kernel_rfl) (by kernel_rfl) (by kernel_rfl) (fun _ _ _ h => h) (Or.inl ⟨by rfl, ?_⟩) hHeld ?_
    rotate_left 1
    · intro w hSw; (try dsimp only at hSw); go_simp; try with_reducible rfl
    try simp only [Act.put, List.setIfInBounds_toArray, List.set_cons_zero, List.set_cons_succ]
    refine wpAnyH_take (i := 2) (v := ?_) rfl (by kernel_rfl) (by kernel_rfl) (by kernel_rfl) (fun _ _ _ h => h) (Or.inl ⟨by rfl, ?_⟩) hHeld ?_
    rotate_left 1
    · intro w hSw; (try dsimp only at hSw); go_simp; try with_reducible rfl
    try simp only [Act.put, List.setIfInBounds_toArray, List.set_cons_zero, List.set_cons_succ]
    refine wpAnyH_take (i := 3) (v := ?_) rfl (by kernel_rfl) (by kernel_rfl) (by kernel_rfl) (fun _ _ _ h => h) (Or.inl ⟨by rfl, ?_⟩) hHeld ?_
    rotate_left 1
    · intro w hSw; (try dsimp only at hSw); go_simp; try with_reducible rfl
    try simp only [Act.put, List.setIfInBounds_toArray, List.set_cons_zero, List.set_cons_succ]
    refine wpAnyH_take (i := 7) (v := ?_) rfl (by kernel_rfl) (by kernel_rfl) (by kernel_rfl) (fun _ _ _ h => h) (Or.inl ⟨by rfl, ?_⟩) hHeld ?_
    rotate_left 1
    · intro w hSw; (try dsimp only at hSw); go_simp; try with_reducible rfl
    try simp only [Act.put, List.setIfInBounds_toArray, List.set_cons_zero, List.set_cons_succ]
    refine wpAnyH_take (i := 8) (v := ?_) rfl (by kernel_rfl) (by kernel_rfl) (by kernel_rfl) (fun _ _ _ h => h) (Or.inl ⟨by rfl, ?_⟩) hHeld ?_
    rotate_left 1
    · intro w hSw; (try dsimp only at hSw); go_simp; try with_reducible rfl
    try simp only [Act.put, List.setIfInBounds_toArray, List.set_cons_zero, List.set_cons_succ]
    refine wpAnyH_take (i := 10) (v := ?_) rfl (by kernel_rfl) (by kernel_rfl) (by kernel_rfl) (fun _ _ _ h => h) (Or.inl ⟨by rfl, ?_⟩) hHeld ?_
    rotate_left 1
    · intro w hSw; (try dsimp only at hSw); go_simp; try with_reducible rfl
    try simp only [Act.put, List.setIfInBounds_toArray, List.set_cons_zero, List.set_cons_succ]
    refine wpAnyH_take (i := 11) (v := ?_) rfl (by kernel_rfl) (by kernel_rfl) (by kernel_rfl) (fun _ _ _ h => h) (Or.inl ⟨by rfl, ?_⟩) hHeld ?_
    rotate_left 1
    · intro w hSw; (try dsimp only at hSw); go_simp; try with_reducible rfl
    try simp only [Act.put, List.setIfInBounds_toArray, List.set_cons_zero, List.set_cons_succ]
    refine wpAnyH_take (i := 14) (v := ?_) rfl (by kernel_rfl) (by kernel_rfl) (by kernel_rfl) (fun _ _ _ h => h) (Or.inl ⟨by rfl, ?_⟩) hHeld ?_
    rotate_left 1
    · intro w hSw; (try dsimp only at hSw); go_simp; try with_reducible rfl
    try simp only [Act.put, List.setIfInBounds_toArray, List.set_cons_zero, List.set_cons_succ]
    refine wpAnyH_take (i := 15) (v := ?_) rfl (by kernel_rfl) (by kernel_rfl) (by kernel_rfl) (fun _ _ _ h => h) (Or.inl ⟨by rfl, ?_⟩) hHeld ?_
    rotate_left 1
    · intro w hSw; (try dsimp only at hSw); go_simp; try with_reducible rfl
    try simp only [Act.put, List.setIfInBounds_toArray, List.set_cons_zero, List.set_cons_succ]
    refine wpAnyH_take (i := 16) (v := ?_) rfl (by kernel_rfl) (by kernel_rfl) (by kernel_rfl) (fun _ _ _ h => h) (Or.inl ⟨by rfl, ?_⟩) hHeld ?_
    rotate_left 1
    · intro w hSw; (try dsimp only at hSw); go_simp; try with_reducible rfl
    try simp only [Act.put, List.setIfInBounds_toArray, List.set_cons_zero, List.set_cons_succ]
    refine wpAnyH_take (i := 17) (v := ?_) rfl (by kernel_rfl) (by kernel_rfl) (by kernel_rfl) (fun _ _ _ h => h) (Or.inl ⟨by rfl, ?_⟩) hHeld ?_
    rotate_left 1
    · intro w hSw; (try dsimp only at hSw); go_simp; try with_reducible rfl
    try simp only [Act.put, List.setIfInBounds_toArray, List.set_cons_zero, List.set_cons_succ]
    refine wpAnyH_ready (rs := [4, 12, 18]) (by kernel_rfl) (by simp) ?_
    refine AllReadyH.cons rfl (fun K hK => ?_) ?_
    · skip
      go_simp
      refine hK.out _ _ ?_ (fun hHeld => ?_)
      · go_keep
      clear hK K
      have HB1 := below_step HB0 HB0.size ((Below.refl _ _).alloc (Nat.le_refl _) (.cells #[.int .u8 (bn.toNat : Int)] 5))
      have qa : (W0.alloc (.cells #[.int .u8 (bn.toNat : Int)] 5)).cell? ⟨W0.heap.size, 0, none⟩ = some (.int .u8 (bn.toNat : Int)) := by go_simp
      generalize W0.alloc (.cells #[.int .u8 (bn.toNat : Int)] 5) = W1 at *
      refine wpAnyH_str (S' := fun W => (W.cell? ⟨w.heap.size, 0, none⟩ = some (.string nm) ∧ W.cell? ⟨w.heap.size, 1, none⟩ = some (.slice a0 n0 c0) ∧ W.cell? ⟨w.heap.size, 2, none⟩ = some (.slice a1 n1 c1)) ∧ W.cell? ⟨W0.heap.size, 0, none⟩ = some (.int .u8 (bn.toNat : Int))) (fun W h => h.1) ?_
      have hHeld : (fun W : World => (W.cell? ⟨w.heap.size, 0, none⟩ = some (.string nm) ∧ W.cell? ⟨w.heap.size, 1, none⟩ = some (.slice a0 n0 c0) ∧ W.cell? ⟨w.heap.size, 2, none⟩ = some (.slice a1 n1 c1)) ∧ W.cell? ⟨W0.heap.size, 0, none⟩ = some (.int .u8 (bn.toNat : Int))) W1 := ⟨hHeld, qa⟩
      try simp only [Act.put, List.setIfInBounds_toArray, List.set_cons_zero, List.set_cons_succ]
      refine wpAnyH_take (i := 5) (v := ?_) rfl (by kernel_rfl) (by kernel_rfl) (by kernel_rfl) (fun _ _ _ h => h) (Or.inl ⟨by rfl, ?_⟩) hHeld ?_
      rotate_left 1
      · intro w hSw; (try dsimp only at hSw); go_simp; try with_reducible rfl
      try simp only [Act.put, List.setIfInBounds_toArray, List.set_cons_zero, List.set_cons_succ]
      refine wpAnyH_take (i := 6) (v := ?_) rfl (by kernel_rfl) (by kernel_rfl) (by kernel_rfl) (fun _ _ _ h => h) (Or.inl ⟨by rfl, ?_⟩) hHeld ?_
      rotate_left 1
      · intro w hSw; (try dsimp only at hSw); go_simp; try with_reducible rfl
      try simp only [Act.put, List.setIfInBounds_toArray, List.set_cons_zero, List.set_cons_succ]
      refine wpAnyH_take (i := 9) (v := ?_) rfl (by kernel_rfl) (by kernel_rfl) (by kernel_rfl) (fun _ _ _ h => h) (Or.inl ⟨by rfl, ?_⟩) hHeld ?_
      rotate_left 1
      · intro w hSw; (try dsimp only at hSw); go_simp; try with_reducible rfl
      try simp only [Act.put, List.setIfInBounds_toArray, List.set_cons_zero, List.set_cons_succ]
      refine wpAnyH_ready (rs := [12, 18]) (by kernel_rfl) (by simp) ?_
      refine AllReadyH.cons rfl (fun K hK => ?_) ?_
      · skip
        go_simp
        go_at_call 77
        refine (CC.out _ (hB.out.trans (HB1.mono hB.out.size))).mono ?_
        rintro e W2 ⟨rfl, hb2⟩
        refine hK.out _ _ ?_ (fun hHeld => ?_)
        · (try dsimp only at hHeld); go_split_ands; (try dsimp only); refine_lift ?_; (repeat' apply And.intro) <;> exact cell_on hb2 (by assumption)
        clear hK K
        have HB2 := below_step HB1 HB1.size hb2
        have qa := cell_on hb2 qa
        clear hb2
        try simp only [Act.put, List.setIfInBounds_toArray, List.set_cons_zero, List.set_cons_succ]
        refine wpAnyH_take (i := 13) (v := ?_) rfl (by kernel_rfl) (by kernel_rfl) (by kernel_rfl) (fun _ _ _ h => h) (Or.inl ⟨by rfl, ?_⟩) hHeld ?_
        rotate_left 1
        · intro w hSw; (try dsimp only at hSw); go_simp; try with_reducible rfl
        try simp only [Act.put, List.setIfInBounds_toArray, List.set_cons_zero, List.set_cons_succ]
        refine wpAnyH_ready (rs := [18]) (by kernel_rfl) (by simp) ?_
        refine AllReadyH.cons rfl (fun K hK => ?_) ?_
        · skip
          go_simp
          refine hK.out _ _ ?_ (fun hHeld => ?_)
          · go_keep
          clear hK K
          have HB3 := below_step HB2 HB2.size ((Below.refl _ _).alloc (Nat.le_refl _) (.cells #[.int .u8 (bm.toNat : Int)] 5))
          have qb : (W2.alloc (.cells #[.int .u8 (bm.toNat : Int)] 5)).cell? ⟨W2.heap.size, 0, none⟩ = some (.int .u8 (bm.toNat : Int)) := by go_simp
          have qa := cell_on ((Below.refl _ _).alloc (Nat.le_refl _) (.cells #[.int .u8 (bm.toNat : Int)] 5)) qa
          generalize W2.alloc (.cells #[.int .u8 (bm.toNat : Int)] 5) = W3 at *
          refine wpAnyH_str (S' := fun W => ((W.cell? ⟨w.heap.size, 0, none⟩ = some (.string nm) ∧ W.cell? ⟨w.heap.size, 1, none⟩ = some (.slice a0 n0 c0) ∧ W.cell? ⟨w.heap.size, 2, none⟩ = some (.slice a1 n1 c1)) ∧ W.cell? ⟨W0.heap.size, 0, none⟩ = some (.int .u8 (bn.toNat : Int))) ∧ W.cell? ⟨W2.heap.size, 0, none⟩ = some (.int .u8 (bm.toNat : Int))) (fun W h => h.1) ?_
          have hHeld : (fun W : World => ((W.cell? ⟨w.heap.size, 0, none⟩ = some (.string nm) ∧ W.cell? ⟨w.heap.size, 1, none⟩ = some (.slice a0 n0 c0) ∧ W.cell? ⟨w.heap.size, 2, none⟩ = some (.slice a1 n1 c1)) ∧ W.cell? ⟨W0.heap.size, 0, none⟩ = some (.int .u8 (bn.toNat : Int))) ∧ W.cell? ⟨W2.heap.size, 0, none⟩ = some (.int .u8 (bm.toNat : Int))) W3 := ⟨hHeld, qb⟩
          try simp only [Act.put, List.setIfInBounds_toArray, List.set_cons_zero, List.set_cons_succ]
          refine wpAnyH_take (i := 19) (v := ?_) rfl (by kernel_rfl) (by kernel_rfl) (by kernel_rfl) (fun _ _ _ h => h) (Or.inl ⟨by rfl, ?_⟩) hHeld ?_
          rotate_left 1
          · intro w hSw; (try dsimp only at hSw); go_simp; try with_reducible rfl
          try simp only [Act.put, List.setIfInBounds_toArray, List.set_cons_zero, List.set_cons_succ]
          refine wpAnyH_take (i := 20) (v := ?_) rfl (by kernel_rfl) (by kernel_rfl) (by kernel_rfl) (fun _ _ _ h => h) (Or.inl ⟨by rfl, ?_⟩) hHeld ?_
          rotate_left 1
          · intro w hSw; (try dsimp only at hSw); go_simp; try with_reducible rfl
          try simp only [Act.put, List.setIfInBounds_toArray, List.set_cons_zero, List.set_cons_succ]
          refine wpAnyH_take (i := 21) (v := ?_) rfl (by kernel_rfl) (by kernel_rfl) (by kernel_rfl) (fun _ _ _ h => h) (Or.inl ⟨by rfl, ?_⟩) hHeld ?_
          rotate_left 1
          · intro w hSw; (try dsimp only at hSw); go_simp; try with_reducible rfl
          try simp only [Act.put, List.setIfInBounds_toArray, List.set_cons_zero, List.set_cons_succ]
          refine wpAnyH_done (by kernel_rfl) ?_ _
          go_wp2_with (fail)
          go_meet
          exact ⟨by rw [← KS.out], HB3⟩
        exact AllReadyH.nil
      refine AllReadyH.cons rfl (fun K hK => ?_) ?_
      · skip
        go_simp
        refine hK.out _ _ ?_ (fun hHeld => ?_)
        · go_keep
        clear hK K
        have HB2 := below_step HB1 HB1.size ((Below.refl _ _).alloc (Nat.le_refl _) (.cells #[.int .u8 (bm.toNat : Int)] 5))
        have qb : (W1.alloc (.cells #[.int .u8 (bm.toNat : Int)] 5)).cell? ⟨W1.heap.size, 0, none⟩ = some (.int .u8 (bm.toNat : Int)) := by go_simp
        have qa := cell_on ((Below.refl _ _).alloc (Nat.le_refl _) (.cells #[.int .u8 (bm.toNat : Int)] 5)) qa
        generalize W1.alloc (.cells #[.int .u8 (bm.toNat : Int)] 5) = W2 at *
        refine wpAnyH_str (S' := fun W => ((W.cell? ⟨w.heap.size, 0, none⟩ = some (.string nm) ∧ W.cell? ⟨w.heap.size, 1, none⟩ = some (.slice a0 n0 c0) ∧ W.cell? ⟨w.heap.size, 2, none⟩ = some (.slice a1 n1 c1)) ∧ W.cell? ⟨W0.heap.size, 0, none⟩ = some (.int .u8 (bn.toNat : Int))) ∧ W.cell? ⟨W1.heap.size, 0, none⟩ = some (.int .u8 (bm.toNat : Int))) (fun W h => h.1) ?_
        have hHeld : (fun W : World => ((W.cell? ⟨w.heap.size, 0, none⟩ = some (.string nm) ∧ W.cell? ⟨w.heap.size, 1, none⟩ = some (.slice a0 n0 c0) ∧ W.cell? ⟨w.heap.size, 2, none⟩ = some (.slice a1 n1 c1)) ∧ W.cell? ⟨W0.heap.size, 0, none⟩ = some (.int .u8 (bn.toNat : Int))) ∧ W.cell? ⟨W1.heap.size, 0, none⟩ = some (.int .u8 (bm.toNat : Int))) W2 := ⟨hHeld, qb⟩
        try simp only [Act.put, List.setIfInBounds_toArray, List.set_cons_zero, List.set_cons_succ]
        refine wpAnyH_take (i := 19) (v := ?_) rfl (by kernel_rfl) (by kernel_rfl) (by kernel_rfl) (fun _ _ _ h => h) (Or.inl ⟨by rfl, ?_⟩) hHeld ?_
        rotate_left 1
        · intro w hSw; (try dsimp only at hSw); go_simp; try with_reducible rfl
        try simp only [Act.put, List.setIfInBounds_toArray, List.set_cons_zero, List.set_cons_succ]
        refine wpAnyH_ready (rs := [12]) (by kernel_rfl) (by simp) ?_
        refine AllReadyH.cons rfl (fun K hK => ?_) ?_
        · skip
          go_simp
          go_at_call 77
          refine (CC.out _ (hB.out.trans (HB2.mono hB.out.size))).mono ?_
          rintro e W3 ⟨rfl, hb3⟩
          refine hK.out _ _ ?_ (fun hHeld => ?_)
          · (try dsimp only at hHeld); go_split_ands; (try dsimp only); refine_lift ?_; (repeat' apply And.intro) <;> exact cell_on hb3 (by assumption)
          clear hK K
          have HB3 := below_step HB2 HB2.size hb3
          have qa := cell_on hb3 qa
          have qb := cell_on hb3 qb
          clear hb3
          try simp only [Act.put, List.setIfInBounds_toArray, List.set_cons_zero, List.set_cons_succ]
          refine wpAnyH_take (i := 13) (v := ?_) rfl (by kernel_rfl) (by kernel_rfl) (by kernel_rfl) (fun _ _ _ h => h) (Or.inl ⟨by rfl, ?_⟩) hHeld ?_
          rotate_left 1
          · intro w hSw; (try dsimp only at hSw); go_simp; try with_reducible rfl
          try simp only [Act.put, List.setIfInBounds_toArray, List.set_cons_zero, List.set_cons_succ]
          refine wpAnyH_take (i := 20) (v := ?_) rfl (by kernel_rfl) (by kernel_rfl) (by kernel_rfl) (fun _ _ _ h => h) (Or.inl ⟨by rfl, ?_⟩) hHeld ?_
          rotate_left 1
          · intro w hSw; (try dsimp only at hSw); go_simp; try with_reducible rfl
          try simp only [Act.put, List.setIfInBounds_toArray, List.set_cons_zero, List.set_cons_succ]
          refine wpAnyH_take (i := 21) (v := ?_) rfl (by kernel_rfl) (by kernel_rfl) (by kernel_rfl) (fun _ _ _ h => h) (Or.inl ⟨by rfl, ?_⟩) hHeld ?_
          rotate_left 1
          · intro w hSw; (try dsimp only at hSw); go_simp; try with_reducible rfl
          try simp only [Act.put, List.setIfInBounds_toArray, List.set_cons_zero, List.set_cons_succ]
          refine wpAnyH_done (by kernel_rfl) ?_ _
          go_wp2_with (fail)
          go_meet
          exact ⟨by rw [← KS.out], HB3⟩
        exact AllReadyH.nil
      exact AllReadyH.nil
    refine AllReadyH.cons rfl (fun K hK => ?_) ?_
    · skip
      go_simp
      go_at_call 77
      refine (CC.out _ (hB.out.trans (HB0.mono hB.out.size))).mono ?_
      rintro e W1 ⟨rfl, hb1⟩
      refine hK.out _ _ ?_ (fun hHeld => ?_)
      · (try dsimp only at hHeld); go_split_ands; (try dsimp only); refine_lift ?_; (repeat' apply And.intro) <;> exact cell_on hb1 (by assumption)
      clear hK K
      have HB1 := below_step HB0 HB0.size hb1
      clear hb1
      try simp only [Act.put, List.setIfInBounds_toArray, List.set_cons_zero, List.set_cons_succ]
      refine wpAnyH_ready (rs := [4, 18]) (by kernel_rfl) (by simp) ?_
      refine AllReadyH.cons rfl (fun K hK => ?_) ?_
      · skip
        go_simp
        refine hK.out _ _ ?_ (fun hHeld => ?_)
        · go_keep
        clear hK K
        have HB2 := below_step HB1 HB1.size ((Below.refl _ _).alloc (Nat.le_refl _) (.cells #[.int .u8 (bn.toNat : Int)] 5))
        have qa : (W1.alloc (.cells #[.int .u8 (bn.toNat : Int)] 5)).cell? ⟨W1.heap.size, 0, none⟩ = some (.int .u8 (bn.toNat : Int)) := by go_simp
        generalize W1.alloc (.cells #[.int .u8 (bn.toNat : Int)] 5) = W2 at *
        refine wpAnyH_str (S' := fun W => (W.cell? ⟨w.heap.size, 0, none⟩ = some (.string nm) ∧ W.cell? ⟨w.heap.size, 1, none⟩ = some (.slice a0 n0 c0) ∧ W.cell? ⟨w.heap.size, 2, none⟩ = some (.slice a1 n1 c1)) ∧ W.cell? ⟨W1.heap.size, 0, none⟩ = some (.int .u8 (bn.toNat : Int))) (fun W h => h.1) ?_
        have hHeld : (fun W : World => (W.cell? ⟨w.heap.size, 0, none⟩ = some (.string nm) ∧ W.cell? ⟨w.heap.size, 1, none⟩ = some (.slice a0 n0 c0) ∧ W.cell? ⟨w.heap.size, 2, none⟩ = some (.slice a1 n1 c1)) ∧ W.cell? ⟨W1.heap.size, 0, none⟩ = some (.int .u8 (bn.toNat : Int))) W2 := ⟨hHeld, qa⟩
        try simp only [Act.put, List.setIfInBounds_toArray, List.set_cons_zero, List.set_cons_succ]
        refine wpAnyH_take (i := 5) (v := ?_) rfl (by kernel_rfl) (by kernel_rfl) (by kernel_rfl) (fun _ _ _ h => h) (Or.inl ⟨by rfl, ?_⟩) hHeld ?_
        rotate_left 1
        · intro w hSw; (try dsimp only at hSw); go_simp; try with_reducible rfl
        try simp only [Act.put, List.setIfInBounds_toArray, List.set_cons_zero, List.set_cons_succ]
        refine wpAnyH_take (i := 6) (v := ?_) rfl (by kernel_rfl) (by kernel_rfl) (by kernel_rfl) (fun _ _ _ h => h) (Or.inl ⟨by rfl, ?_⟩) hHeld ?_
        rotate_left 1
        · intro w hSw; (try dsimp only at hSw); go_simp; try with_reducible rfl
        try simp only [Act.put, List.setIfInBounds_toArray, List.set_cons_zero, List.set_cons_succ]
        refine wpAnyH_take (i := 9) (v := ?_) rfl (by kernel_rfl) (by kernel_rfl) (by kernel_rfl) (fun _ _ _ h => h) (Or.inl ⟨by rfl, ?_⟩) hHeld ?_
        rotate_left 1
        · intro w hSw; (try dsimp only at hSw); go_simp; try with_reducible rfl
        try simp only [Act.put, List.setIfInBounds_toArray, List.set_cons_zero, List.set_cons_succ]
        refine wpAnyH_take (i := 13) (v := ?_) rfl (by kernel_rfl) (by kernel_rfl) (by kernel_rfl) (fun _ _ _ h => h) (Or.inl ⟨by rfl, ?_⟩) hHeld ?_
        rotate_left 1
        · intro w hSw; (try dsimp only at hSw); go_simp; try with_reducible rfl
        try simp only [Act.put, List.setIfInBounds_toArray, List.set_cons_zero, List.set_cons_succ]
        refine wpAnyH_ready (rs := [18]) (by kernel_rfl) (by simp) ?_
        refine AllReadyH.cons rfl (fun K hK => ?_) ?_
        · skip
          go_simp
          refine hK.out _ _ ?_ (fun hHeld => ?_)
          · go_keep
          clear hK K
          have HB3 := below_step HB2 HB2.size ((Below.refl _ _).alloc (Nat.le_refl _) (.cells #[.int .u8 (bm.toNat : Int)] 5))
          have qb : (W2.alloc (.cells #[.int .u8 (bm.toNat : Int)] 5)).cell? ⟨W2.heap.size, 0, none⟩ = some (.int .u8 (bm.toNat : Int)) := by go_simp
          have qa := cell_on ((Below.refl _ _).alloc (Nat.le_refl _) (.cells #[.int .u8 (bm.toNat : Int)] 5)) qa
          generalize W2.alloc (.cells #[.int .u8 (bm.toNat : Int)] 5) = W3 at *
          refine wpAnyH_str (S' := fun W => ((W.cell? ⟨w.heap.size, 0, none⟩ = some (.string nm) ∧ W.cell? ⟨w.heap.size, 1, none⟩ = some (.slice a0 n0 c0) ∧ W.cell? ⟨w.heap.size, 2, none⟩ = some (.slice a1 n1 c1)) ∧ W.cell? ⟨W1.heap.size, 0, none⟩ = some (.int .u8 (bn.toNat : Int))) ∧ W.cell? ⟨W2.heap.size, 0, none⟩ = some (.int .u8 (bm.toNat : Int))) (fun W h => h.1) ?_
          have hHeld : (fun W : World => ((W.cell? ⟨w.heap.size, 0, none⟩ = some (.string nm) ∧ W.cell? ⟨w.heap.size, 1, none⟩ = some (.slice a0 n0 c0) ∧ W.cell? ⟨w.heap.size, 2, none⟩ = some (.slice a1 n1 c1)) ∧ W.cell? ⟨W1.heap.size, 0, none⟩ = some (.int .u8 (bn.toNat : Int))) ∧ W.cell? ⟨W2.heap.size, 0, none⟩ = some (.int .u8 (bm.toNat : Int))) W3 := ⟨hHeld, qb⟩
          try simp only [Act.put, List.setIfInBounds_toArray, List.set_cons_zero, List.set_cons_succ]
          refine wpAnyH_take (i := 19) (v := ?_) rfl (by kernel_rfl) (by kernel_rfl) (by kernel_rfl) (fun _ _ _ h => h) (Or.inl ⟨by rfl, ?_⟩) hHeld ?_
          rotate_left 1
          · intro w hSw; (try dsimp only at hSw); go_simp; try with_reducible rfl
          try simp only [Act.put, List.setIfInBounds_toArray, List.set_cons_zero, List.set_cons_succ]
          refine wpAnyH_take (i := 20) (v := ?_) rfl (by kernel_rfl) (by kernel_rfl) (by kernel_rfl) (fun _ _ _ h => h) (Or.inl ⟨by rfl, ?_⟩) hHeld ?_
          rotate_left 1
          · intro w hSw; (try dsimp only at hSw); go_simp; try with_reducible rfl
          try simp only [Act.put, List.setIfInBounds_toArray, List.set_cons_zero, List.set_cons_succ]
          refine wpAnyH_take (i := 21) (v := ?_) rfl (by kernel_rfl) (by kernel_rfl) (by kernel_rfl) (fun _ _ _ h => h) (Or.inl ⟨by rfl, ?_⟩) hHeld ?_
          rotate_left 1
          · intro w hSw; (try dsimp only at hSw); go_simp; try with_reducible rfl
          try simp only [Act.put, List.setIfInBounds_toArray, List.set_cons_zero, List.set_cons_succ]
          refine wpAnyH_done (by kernel_rfl) ?_ _
          go_wp2_with (fail)
          go_meet
          exact ⟨by rw [← KS.out], HB3⟩
        exact AllReadyH.nil
      refine AllReadyH.cons rfl (fun K hK => ?_) ?_
      · skip
        go_simp
        refine hK.out _ _ ?_ (fun hHeld => ?_)
        · go_keep
        clear hK K
        have HB2 := below_step HB1 HB1.size ((Below.refl _ _).alloc (Nat.le_refl _) (.cells #[.int .u8 (bm.toNat : Int)] 5))
        have qb : (W1.alloc (.cells #[.int .u8 (bm.toNat : Int)] 5)).cell? ⟨W1.heap.size, 0, none⟩ = some (.int .u8 (bm.toNat : Int)) := by go_simp
        generalize W1.alloc (.cells #[.int .u8 (bm.toNat : Int)] 5) = W2 at *
        refine wpAnyH_str (S' := fun W => (W.cell? ⟨w.heap.size, 0, none⟩ = some (.string nm) ∧ W.cell? ⟨w.heap.size, 1, none⟩ = some (.slice a0 n0 c0) ∧ W.cell? ⟨w.heap.size, 2, none⟩ = some (.slice a1 n1 c1)) ∧ W.cell? ⟨W1.heap.size, 0, none⟩ = some (.int .u8 (bm.toNat : Int))) (fun W h => h.1) ?_
        have hHeld : (fun W : World => (W.cell? ⟨w.heap.size, 0, none⟩ = some (.string nm) ∧ W.cell? ⟨w.heap.size, 1, none⟩ = some (.slice a0 n0 c0) ∧ W.cell? ⟨w.heap.size, 2, none⟩ = some (.slice a1 n1 c1)) ∧ W.cell? ⟨W1.heap.size, 0, none⟩ = some (.int .u8 (bm.toNat : Int))) W2 := ⟨hHeld, qb⟩
        try simp only [Act.put, List.setIfInBounds_toArray, List.set_cons_zero, List.set_cons_succ]
        refine wpAnyH_take (i := 19) (v := ?_) rfl (by kernel_rfl) (by kernel_rfl) (by kernel_rfl) (fun _ _ _ h => h) (Or.inl ⟨by rfl, ?_⟩) hHeld ?_
        rotate_left 1
        · intro w hSw; (try dsimp only at hSw); go_simp; try with_reducible rfl
        try simp only [Act.put, List.setIfInBounds_toArray, List.set_cons_zero, List.set_cons_succ]
        refine wpAnyH_ready (rs := [4]) (by kernel_rfl) (by simp) ?_
        refine AllReadyH.cons rfl (fun K hK => ?_) ?_
        · skip
          go_simp
          refine hK.out _ _ ?_ (fun hHeld => ?_)
          · go_keep
          clear hK K
          have HB3 := below_step HB2 HB2.size ((Below.refl _ _).alloc (Nat.le_refl _) (.cells #[.int .u8 (bn.toNat : Int)] 5))
          have qa : (W2.alloc (.cells #[.int .u8 (bn.toNat : Int)] 5)).cell? ⟨W2.heap.size, 0, none⟩ = some (.int .u8 (bn.toNat : Int)) := by go_simp
          have qb := cell_on ((Below.refl _ _).alloc (Nat.le_refl _) (.cells #[.int .u8 (bn.toNat : Int)] 5)) qb
          generalize W2.alloc (.cells #[.int .u8 (bn.toNat : Int)] 5) = W3 at *
          refine wpAnyH_str (S' := fun W => ((W.cell? ⟨w.heap.size, 0, none⟩ = some (.string nm) ∧ W.cell? ⟨w.heap.size, 1, none⟩ = some (.slice a0 n0 c0) ∧ W.cell? ⟨w.heap.size, 2, none⟩ = some (.slice a1 n1 c1)) ∧ W.cell? ⟨W1.heap.size, 0, none⟩ = some (.int .u8 (bm.toNat : Int))) ∧ W.cell? ⟨W2.heap.size, 0, none⟩ = some (.int .u8 (bn.toNat : Int))) (fun W h => h.1) ?_
          have hHeld : (fun W : World => ((W.cell? ⟨w.heap.size, 0, none⟩ = some (.string nm) ∧ W.cell? ⟨w.heap.size, 1, none⟩ = some (.slice a0 n0 c0) ∧ W.cell? ⟨w.heap.size, 2, none⟩ = some (.slice a1 n1 c1)) ∧ W.cell? ⟨W1.heap.size, 0, none⟩ = some (.int .u8 (bm.toNat : Int))) ∧ W.cell? ⟨W2.heap.size, 0, none⟩ = some (.int .u8 (bn.toNat : Int))) W3 := ⟨hHeld, qa⟩
          try simp only [Act.put, List.setIfInBounds_toArray, List.set_cons_zero, List.set_cons_succ]
          refine wpAnyH_take (i := 5) (v := ?_) rfl (by kernel_rfl) (by kernel_rfl) (by kernel_rfl) (fun _ _ _ h => h) (Or.inl ⟨by rfl, ?_⟩) hHeld ?_
          rotate_left 1
          · intro w hSw; (try dsimp only at hSw); go_simp; try with_reducible rfl
          try simp only [Act.put, List.setIfInBounds_toArray, List.set_cons_zero, List.set_cons_succ]
          refine wpAnyH_take (i := 6) (v := ?_) rfl (by kernel_rfl) (by kernel_rfl) (by kernel_rfl) (fun _ _ _ h => h) (Or.inl ⟨by rfl, ?_⟩) hHeld ?_
          rotate_left 1
          · intro w hSw; (try dsimp only at hSw); go_simp; try with_reducible rfl
          try simp only [Act.put, List.setIfInBounds_toArray, List.set_cons_zero, List.set_cons_succ]
          refine wpAnyH_take (i := 9) (v := ?_) rfl (by kernel_rfl) (by kernel_rfl) (by kernel_rfl) (fun _ _ _ h => h) (Or.inl ⟨by rfl, ?_⟩) hHeld ?_
          rotate_left 1
          · intro w hSw; (try dsimp only at hSw); go_simp; try with_reducible rfl
          try simp only [Act.put, List.setIfInBounds_toArray, List.set_cons_zero, List.set_cons_succ]
          refine wpAnyH_take (i := 13) (v := ?_) rfl (by kernel_rfl) (by kernel_rfl) (by kernel_rfl) (fun _ _ _ h => h) (Or.inl ⟨by rfl, ?_⟩) hHeld ?_
          rotate_left 1
          · intro w hSw; (try dsimp only at hSw); go_simp; try with_reducible rfl
          try simp only [Act.put, List.setIfInBounds_toArray, List.set_cons_zero, List.set_cons_succ]
          refine wpAnyH_take (i := 20) (v := ?_) rfl (by kernel_rfl) (by kernel_rfl) (by kernel_rfl) (fun _ _ _ h => h) (Or.inl ⟨by rfl, ?_⟩) hHeld ?_
          rotate_left 1
          · intro w hSw; (try dsimp only at hSw); go_simp; try with_reducible rfl
          try simp only [Act.put, List.setIfInBounds_toArray, List.set_cons_zero, List.set_cons_succ]
          refine wpAnyH_take (i := 21) (v := ?_) rfl (by kernel_rfl) (by kernel_rfl) (by kernel_rfl) (fun _ _ _ h => h) (Or.inl ⟨by rfl, ?_⟩) hHeld ?_
          rotate_left 1
          · intro w hSw; (try dsimp only at hSw); go_simp; try with_reducible rfl
          try simp only [Act.put, List.setIfInBounds_toArray, List.set_cons_zero, List.set_cons_succ]
          refine wpAnyH_done (by kernel_rfl) ?_ _
          go_wp2_with (fail)
          go_meet
          exact ⟨by rw [← KS.out], HB3⟩
        exact AllReadyH.nil
      exact AllReadyH.nil
    refine AllReadyH.cons rfl (fun K hK => ?_) ?_
    · skip
      go_simp
      refine hK.out _ _ ?_ (fun hHeld => ?_)
      · go_keep
      clear hK K
      have HB1 := below_step HB0 HB0.size ((Below.refl _ _).alloc (Nat.le_refl _) (.cells #[.int .u8 (bm.toNat : Int)] 5))
      have qb : (W0.alloc (.cells #[.int .u8 (bm.toNat : Int)] 5)).cell? ⟨W0.heap.size, 0, none⟩ = some (.int .u8 (bm.toNat : Int)) := by go_simp
      generalize W0.alloc (.cells #[.int .u8 (bm.toNat : Int)] 5) = W1 at *
      refine wpAnyH_str (S' := fun W => (W.cell? ⟨w.heap.size, 0, none⟩ = some (.string nm) ∧ W.cell? ⟨w.heap.size, 1, none⟩ = some (.slice a0 n0 c0) ∧ W.cell? ⟨w.heap.size, 2, none⟩ = some (.slice a1 n1 c1)) ∧ W.cell? ⟨W0.heap.size, 0, none⟩ = some (.int .u8 (bm.toNat : Int))) (fun W h => h.1) ?_
      have hHeld : (fun W : World => (W.cell? ⟨w.heap.size, 0, none⟩ = some (.string nm) ∧ W.cell? ⟨w.heap.size, 1, none⟩ = some (.slice a0 n0 c0) ∧ W.cell? ⟨w.heap.size, 2, none⟩ = some (.slice a1 n1 c1)) ∧ W.cell? ⟨W0.heap.size, 0, none⟩ = some (.int .u8 (bm.toNat : Int))) W1 := ⟨hHeld, qb⟩
      try simp only [Act.put, List.setIfInBounds_toArray, List.set_cons_zero, List.set_cons_succ]
      refine wpAnyH_take (i := 19) (v := ?_) rfl (by kernel_rfl) (by kernel_rfl) (by kernel_rfl) (fun _ _ _ h => h) (Or.inl ⟨by rfl, ?_⟩) hHeld ?_
      rotate_left 1
      · intro w hSw; (try dsimp only at hSw); go_simp; try with_reducible rfl
      try simp only [Act.put, List.setIfInBounds_toArray, List.set_cons_zero, List.set_cons_succ]
      refine wpAnyH_ready (rs := [4, 12]) (by kernel_rfl) (by simp) ?_
      refine AllReadyH.cons rfl (fun K hK => ?_) ?_
      · skip
        go_simp
        refine hK.out _ _ ?_ (fun hHeld => ?_)
        · go_keep
        clear hK K
        have HB2 := below_step HB1 HB1.size ((Below.refl _ _).alloc (Nat.le_refl _) (.cells #[.int .u8 (bn.toNat : Int)] 5))
        have qa : (W1.alloc (.cells #[.int .u8 (bn.toNat : Int)] 5)).cell? ⟨W1.heap.size, 0, none⟩ = some (.int .u8 (bn.toNat : Int)) := by go_simp
        have qb := cell_on ((Below.refl _ _).alloc (Nat.le_refl _) (.cells #[.int .u8 (bn.toNat : Int)] 5)) qb
        generalize W1.alloc (.cells #[.int .u8 (bn.toNat : Int)] 5) = W2 at *
        refine wpAnyH_str (S' := fun W => ((W.cell? ⟨w.heap.size, 0, none⟩ = some (.string nm) ∧ W.cell? ⟨w.heap.size, 1, none⟩ = some (.slice a0 n0 c0) ∧ W.cell? ⟨w.heap.size, 2, none⟩ = some (.slice a1 n1 c1)) ∧ W.cell? ⟨W0.heap.size, 0, none⟩ = some (.int .u8 (bm.toNat : Int))) ∧ W.cell? ⟨W1.heap.size, 0, none⟩ = some (.int .u8 (bn.toNat : Int))) (fun W h => h.1) ?_
        have hHeld : (fun W : World => ((W.cell? ⟨w.heap.size, 0, none⟩ = some (.string nm) ∧ W.cell? ⟨w.heap.size, 1, none⟩ = some (.slice a0 n0 c0) ∧ W.cell? ⟨w.heap.size, 2, none⟩ = some (.slice a1 n1 c1)) ∧ W.cell? ⟨W0.heap.size, 0, none⟩ = some (.int .u8 (bm.toNat : Int))) ∧ W.cell? ⟨W1.heap.size, 0, none⟩ = some (.int .u8 (bn.toNat : Int))) W2 := ⟨hHeld, qa⟩
        try simp only [Act.put, List.setIfInBounds_toArray, List.set_cons_zero, List.set_cons_succ]
        refine wpAnyH_take (i := 5) (v := ?_) rfl (by kernel_rfl) (by kernel_rfl) (by kernel_rfl) (fun _ _ _ h => h) (Or.inl ⟨by rfl, ?_⟩) hHeld ?_
        rotate_left 1
        · intro w hSw; (try dsimp only at hSw); go_simp; try with_reducible rfl
        try simp only [Act.put, List.setIfInBounds_toArray, List.set_cons_zero, List.set_cons_succ]
        refine wpAnyH_take (i := 6) (v := ?_) rfl (by kernel_rfl) (by kernel_rfl) (by kernel_rfl) (fun _ _ _ h => h) (Or.inl ⟨by rfl, ?_⟩) hHeld ?_
        rotate_left 1
        · intro w hSw; (try dsimp only at hSw); go_simp; try with_reducible rfl
        try simp only [Act.put, List.setIfInBounds_toArray, List.set_cons_zero, List.set_cons_succ]
        refine wpAnyH_take (i := 9) (v := ?_) rfl (by kernel_rfl) (by kernel_rfl) (by kernel_rfl) (fun _ _ _ h => h) (Or.inl ⟨by rfl, ?_⟩) hHeld ?_
        rotate_left 1
        · intro w hSw; (try dsimp only at hSw); go_simp; try with_reducible rfl
        try simp only [Act.put, List.setIfInBounds_toArray, List.set_cons_zero, List.set_cons_succ]
        refine wpAnyH_ready (rs := [12]) (by kernel_rfl) (by simp) ?_
        refine AllReadyH.cons rfl (fun K hK => ?_) ?_
        · skip
          go_simp
          go_at_call 77
          refine (CC.out _ (hB.out.trans (HB2.mono hB.out.size))).mono ?_
          rintro e W3 ⟨rfl, hb3⟩
          refine hK.out _ _ ?_ (fun hHeld => ?_)
          · (try dsimp only at hHeld); go_split_ands; (try dsimp only); refine_lift ?_; (repeat' apply And.intro) <;> exact cell_on hb3 (by assumption)
          clear hK K
          have HB3 := below_step HB2 HB2.size hb3
          have qa := cell_on hb3 qa
          have qb := cell_on hb3 qb
          clear hb3
          try simp only [Act.put, List.setIfInBounds_toArray, List.set_cons_zero, List.set_cons_succ]
          refine wpAnyH_take (i := 13) (v := ?_) rfl (by kernel_rfl) (by kernel_rfl) (by kernel_rfl) (fun _ _ _ h => h) (Or.inl ⟨by rfl, ?_⟩) hHeld ?_
          rotate_left 1
          · intro w hSw; (try dsimp only at hSw); go_simp; try with_reducible rfl
          try simp only [Act.put, List.setIfInBounds_toArray, List.set_cons_zero, List.set_cons_succ]
          refine wpAnyH_take (i := 20) (v := ?_) rfl (by kernel_rfl) (by kernel_rfl) (by kernel_rfl) (fun _ _ _ h => h) (Or.inl ⟨by rfl, ?_⟩) hHeld ?_
          rotate_left 1
          · intro w hSw; (try dsimp only at hSw); go_simp; try with_reducible rfl
          try simp only [Act.put, List.setIfInBounds_toArray, List.set_cons_zero, List.set_cons_succ]
          refine wpAnyH_take (i := 21) (v := ?_) rfl (by kernel_rfl) (by kernel_rfl) (by kernel_rfl) (fun _ _ _ h => h) (Or.inl ⟨by rfl, ?_⟩) hHeld ?_
          rotate_left 1
          · intro w hSw; (try dsimp only at hSw); go_simp; try with_reducible rfl
          try simp only [Act.put, List.setIfInBounds_toArray, List.set_cons_zero, List.set_cons_succ]
          refine wpAnyH_done (by kernel_rfl) ?_ _
          go_wp2_with (fail)
          go_meet
          exact ⟨by rw [← KS.out], HB3⟩
        exact AllReadyH.nil
      refine AllReadyH.cons rfl (fun K hK => ?_) ?_
      · skip
        go_simp
        go_at_call 77
        refine (CC.out _ (hB.out.trans (HB1.mono hB.out.size))).mono ?_
        rintro e W2 ⟨rfl, hb2⟩
        refine hK.out _ _ ?_ (fun hHeld => ?_)
        · (try dsimp only at hHeld); go_split_ands; (try dsimp only); refine_lift ?_; (repeat' apply And.intro) <;> exact cell_on hb2 (by assumption)
        clear hK K
        have HB2 := below_step HB1 HB1.size hb2
        have qb := cell_on hb2 qb
        clear hb2
        try simp only [Act.put, List.setIfInBounds_toArray, List.set_cons_zero, List.set_cons_succ]
        refine wpAnyH_ready (rs := [4]) (by kernel_rfl) (by simp) ?_
        refine AllReadyH.cons rfl (fun K hK => ?_) ?_
        · skip
          go_simp
          refine hK.out _ _ ?_ (fun hHeld => ?_)
          · go_keep
          clear hK K
          have HB3 := below_step HB2 HB2.size ((Below.refl _ _).alloc (Nat.le_refl _) (.cells #[.int .u8 (bn.toNat : Int)] 5))
          have qa : (W2.alloc (.cells #[.int .u8 (bn.toNat : Int)] 5)).cell? ⟨W2.heap.size, 0, none⟩ = some (.int .u8 (bn.toNat : Int)) := by go_simp
          have qb := cell_on ((Below.refl _ _).alloc (Nat.le_refl _) (.cells #[.int .u8 (bn.toNat : Int)] 5)) qb
          generalize W2.alloc (.cells #[.int .u8 (bn.toNat : Int)] 5) = W3 at *
          refine wpAnyH_str (S' := fun W => ((W.cell? ⟨w.heap.size, 0, none⟩ = some (.string nm) ∧ W.cell? ⟨w.heap.size, 1, none⟩ = some (.slice a0 n0 c0) ∧ W.cell? ⟨w.heap.size, 2, none⟩ = some (.slice a1 n1 c1)) ∧ W.cell? ⟨W0.heap.size, 0, none⟩ = some (.int .u8 (bm.toNat : Int))) ∧ W.cell? ⟨W2.heap.size, 0, none⟩ = some (.int .u8 (bn.toNat : Int))) (fun W h => h.1) ?_
          have hHeld : (fun W : World => ((W.cell? ⟨w.heap.size, 0, none⟩ = some (.string nm) ∧ W.cell? ⟨w.heap.size, 1, none⟩ = some (.slice a0 n0 c0) ∧ W.cell? ⟨w.heap.size, 2, none⟩ = some (.slice a1 n1 c1)) ∧ W.cell? ⟨W0.heap.size, 0, none⟩ = some (.int .u8 (bm.toNat : Int))) ∧ W.cell? ⟨W2.heap.size, 0, none⟩ = some (.int .u8 (bn.toNat : Int))) W3 := ⟨hHeld, qa⟩
          try simp only [Act.put, List.setIfInBounds_toArray, List.set_cons_zero, List.set_cons_succ]
          refine wpAnyH_take (i := 5) (v := ?_) rfl (by kernel_rfl) (by kernel_rfl) (by kernel_rfl) (fun _ _ _ h => h) (Or.inl ⟨by rfl, ?_⟩) hHeld ?_
          rotate_left 1
          · intro w hSw; (try dsimp only at hSw); go_simp; try with_reducible rfl
          try simp only [Act.put, List.setIfInBounds_toArray, List.set_cons_zero, List.set_cons_succ]
          refine wpAnyH_take (i := 6) (v := ?_) rfl (by kernel_rfl) (by kernel_rfl) (by kernel_rfl) (fun _ _ _ h => h) (Or.inl ⟨by rfl, ?_⟩) hHeld ?_
          rotate_left 1
          · intro w hSw; (try dsimp only at hSw); go_simp; try with_reducible rfl
          try simp only [Act.put, List.setIfInBounds_toArray, List.set_cons_zero, List.set_cons_succ]
          refine wpAnyH_take (i := 9) (v := ?_) rfl (by kernel_rfl) (by kernel_rfl) (by kernel_rfl) (fun _ _ _ h => h) (Or.inl ⟨by rfl, ?_⟩) hHeld ?_
          rotate_left 1
          · intro w hSw; (try dsimp only at hSw); go_simp; try with_reducible rfl
          try simp only [Act.put, List.setIfInBounds_toArray, List.set_cons_zero, List.set_cons_succ]
          refine wpAnyH_take (i := 13) (v := ?_) rfl (by kernel_rfl) (by kernel_rfl) (by kernel_rfl) (fun _ _ _ h => h) (Or.inl ⟨by rfl, ?_⟩) hHeld ?_
          rotate_left 1
          · intro w hSw; (try dsimp only at hSw); go_simp; try with_reducible rfl
          try simp only [Act.put, List.setIfInBounds_toArray, List.set_cons_zero, List.set_cons_succ]
          refine wpAnyH_take (i := 20) (v := ?_) rfl (by kernel_rfl) (by kernel_rfl) (by kernel_rfl) (fun _ _ _ h => h) (Or.inl ⟨by rfl, ?_⟩) hHeld ?_
          rotate_left 1
          · intro w hSw; (try dsimp only at hSw); go_simp; try with_reducible rfl
          try simp only [Act.put, List.setIfInBounds_toArray, List.set_cons_zero, List.set_cons_succ]
          refine wpAnyH_take (i := 21) (v := ?_) rfl (by kernel_rfl) (by kernel_rfl) (by kernel_rfl) (fun _ _ _ h => h) (Or.inl ⟨by rfl, ?_⟩) hHeld ?_
          rotate_left 1
          · intro w hSw; (try dsimp only at hSw); go_simp; try with_reducible rfl
          try simp only [Act.put, List.setIfInBounds_toArray, List.set_cons_zero, List.set_cons_succ]
          refine wpAnyH_done (by kernel_rfl) ?_ _
          go_wp2_with (fail)
          go_meet
          exact ⟨by rw [← KS.out], HB3⟩
        exact AllReadyH.nil
      exact AllReadyH.nil
    exact AllReadyH.nil
  case rest =>
    obtain ⟨rfl, hwc⟩ := hcut
    have HBc := Lib.hid (hB.out.trans (hwc.mono hB.out.size))
    have z2 := cell_on hwc HS0.out.dice
    rw [Nat.zero_add] at z2
    clear hwc hwn hwm hK1 hK2 hK3 KS convA convB CC
    go_wp2
    go_loopw [3, 32] (fun vo vi wr => ∃ (k : Nat) (E : List UInt8), k ≤ n1 ∧ vi = .int .i64 k ∧ vo = .string (ofL E) ∧ Hid (E = HD ++ diceTo xss k) ∧ Below w.heap.size w wr) (fun _ vi _ => n1 - (intOf vi).toNat)
    case atStart => exact ⟨0, HD, Nat.zero_le _, rfl, by rw [HHS.out], by show _ = _; simp [diceTo], HBc.out⟩
    case round =>
      obtain ⟨k, E, hk, rfl, rfl, HE, hb⟩ := hrel
      have hEb : E.length ≤ 145 := by rw [HE.out]; exact HXB.out k hk
      have HB := Lib.hid hb
      have hsz := hb.size
      by_cases hlt : k < n1
      · obtain ⟨db, doff, rfl, hlb, hx⟩ := HCell.out k hlt
        have q0 := cell_on hb (hx k hlt)
        obtain ⟨hr1, hr2, hr3⟩ := HR.out k hlt
        have HDn := Lib.hid hr3
        clear hx hb hr3
        generalize xss.getD k [] = xs at *
        have hxl := hr1.len
        rcases hsp : ss.getD k spot0 with ⟨A, L, C⟩
        rw [hsp] at q0 hr1 hr2 hxl
        dsimp only at q0 hr1 hr2 hxl
        clear hsp
        have HBa := Lib.hid (HB.out.alloc hsz (.cells #[.slice A L C] 82))
        have CL := Lib.hid (counted_any A L C xs _ (hr1.mono HBa.out) (by omega))
        have hs1 := ofL_sz E
        have hs2 := ofL_sz (bList xs)
        rw [bList_len] at hs2
        have hz1 : ¬ 9223372036854775807 < (ofL E).size + (ofL (bList xs)).size := by omega
        have HAp := Lib.hid (ofL_app E (bList xs))
        clear hr1 hs1 hs2 hxl
        generalize ofL (bList xs) = sx at *
        go_wp2_with (fail)
        refine CL.out.mono ?_
        rintro e w9 ⟨rfl, hb9⟩
        have HB9 := Lib.hid (HBa.out.trans (hb9.mono HBa.out.size))
        clear hb9 CL
        go_wp2
        go_roundw
        case rel => exact ⟨k + 1, E ++ bList xs, by omega, by go_num, by rw [HAp.out], by show _ = _; rw [HDn.out, ← List.append_assoc, ← HE.out], HB9.out⟩
        case measure => simp [intOf]; omega
      · obtain rfl : k = n1 := by omega
        have HF : Hid (E = SB) := by show _ = _; rw [HE.out, HSB.out]
        have hsE := ofL_sz E
        have CK := CheckOf_any 0 (ofL E) wr (by omega) (by omega)
        rw [ofL_toList, HF.out, ← HSC.out, ← HF.out] at CK
        have CK := Lib.hid CK
        have qc := U8s.str (show U8s (wr.alloc (.cells #[.int .u8 (bl.toNat : Int), .int .u8 (bh.toNat : Int)] 5)) (some ⟨wr.heap.size, 0, none⟩) [bl, bh].length 2 [bl, bh] from Rd.own (own_lit wr w.heap.size 5 [.int .u8 (bl.toNat : Int), .int .u8 (bh.toNat : Int)] 2 rfl (by omega) hsz)) 43 5 Tryd.underlying43 Tryd.underlying5 9 Tryd.underlying9
        rw [show [bl, bh].length = 2 from rfl] at qc
        have hz1 : ¬ 9223372036854775807 < (ofL E).size + 2 := by omega
        have hz2 : (ofL [bl, bh]).size = 2 := rfl
        have HAp : Hid (ofL E ++ ofL [bl, bh] = ofL SL) := by show _ = _; rw [ofL_app, HF.out, HSL.out]
        have HB9 := Lib.hid (HB.out.alloc hsz (.cells #[.int .u8 (bl.toNat : Int), .int .u8 (bh.toNat : Int)] 5))
        clear hb hsE z2
        go_wp2_with (first
          | (go_at_call 78; refine CK.out.mono ?_; rintro e w9 ⟨rfl, rfl⟩))
        go_ret
        exact ⟨by rw [← HAp.out]; rfl, HB9.out⟩

end Go.Proofs.YtnoageckldilnaaDoor
