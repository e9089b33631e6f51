/- TestText of both. -/
import Derived.Test.YtmijfieiebnbfaaDoorTxB
import Derived.Test.YtmijfieiebnbfaaDoorChgC
import Derived.Lib.AppendIntMem
namespace Go.Proofs.YtmijfieiebnbfaaDoor
open Go.RowKit
set_option linter.unusedVariables false
set_option linter.unusedSimpArgs false

theorem txtR_yes {gs : List (Int × Int × Int)} (h : okTests gs = true) : txtR gs = (ofL (txtL gs), true) := if_pos h
theorem txtR_no {gs : List (Int × Int × Int)} (h : okTests gs = false) : txtR gs = (⟨#[]⟩, false) := if_neg (by rw [h]; exact Bool.false_ne_true)
theorem ret_sb {a : ByteArray} {p : Bool} {r : ByteArray × Bool} (h : r = (a, p)) : Ending.returned (.tuple #[.string a, .bool p]) = .returned (.tuple #[.string r.1, .bool r.2]) := by rw [h]

set_option maxHeartbeats 800000 in
theorem specTestText_any (a : Option Addr) (n c : Nat) (gs : List (Int × Int × Int)) (w : World) (h : Trips w a n c gs) :
    Calls Tryd.prog 7 #[.slice a n c] w (Ret w (.tuple #[.string (txtR gs).1, .bool (txtR gs).2])) := by
  have C1 := l07Tests_any a n c gs w h
  have hl := h.len
  rcases Bool.eq_false_or_eq_true (okTests gs) with e | e
  · have C2 := Lib.hid (l07Text_any a n c gs w h (okTests_all e) (by have := okTests_len e; omega))
    have HR := Lib.hid (txtR_yes e)
    have HL : Hid (txtL gs = txtTo gs n) := by show _ = _; unfold txtL; rw [hl]
    rw [e] at C1
    have C1 := Lib.hid C1
    clear h e hl
    go_enter Tryd.func7, Tryd.ntmps7
    go_wp2_with (fail)
    refine C1.out.mono ?_
    rintro e w1 ⟨rfl, rfl⟩
    go_wp2_with (fail)
    refine C2.out.mono ?_
    rintro e w2 ⟨rfl, hb⟩
    go_wp2
    go_ret2
    exact ⟨ret_sb (by rw [HR.out, HL.out]), hb⟩
  · have HR := Lib.hid (txtR_no e)
    rw [e] at C1
    have C1 := Lib.hid C1
    clear h e hl
    go_enter Tryd.func7, Tryd.ntmps7
    go_wp2_with (fail)
    refine C1.out.mono ?_
    rintro e w1 ⟨rfl, rfl⟩
    go_wp2
    go_ret2
    exact ⟨ret_sb HR.out, Below.refl _ _⟩

theorem fieldWords_any (w : World) : Calls Tryd.prog 26 #[] w fun e w' => e = .returned (.slice (some ⟨w.heap.size, 0, none⟩) 3 3) ∧ Below w.heap.size w w' ∧ ∀ x : Nat, x < 3 → w'.cell? ⟨w.heap.size, x, none⟩ = some (.string (ofL (fldL (x : Int)))) := by
  have hX : ∀ x : Nat, x < 3 → (w.alloc (.cells #[.string ⟨#[114, 97, 110, 107]⟩, .string ⟨#[115, 117, 105, 116]⟩, .string ⟨#[99, 97, 114, 100]⟩] 9)).cell? ⟨w.heap.size, x, none⟩ = some (.string (ofL (fldL (x : Int)))) := fun x hx => by
    match x, hx with
    | 0, _ => go_simp; rfl
    | 1, _ => go_simp; rfl
    | 2, _ => go_simp; rfl
  have HX := Lib.hid hX
  have HB : Hid (Below w.heap.size w (w.alloc (.cells #[.string ⟨#[114, 97, 110, 107]⟩, .string ⟨#[115, 117, 105, 116]⟩, .string ⟨#[99, 97, 114, 100]⟩] 9))) := (Below.refl _ _).alloc (Nat.le_refl _) _
  clear hX
  go_enter Tryd.func26, Tryd.ntmps26
  go_wp2
  go_ret
  exact ⟨rfl, HB.out, HX.out⟩

def wd (gs : List (Int × Int × Int)) (k : Nat) : List ByteArray := (gs.take k).map fun g => ofL (tstL g)
theorem wd_len (gs : List (Int × Int × Int)) (k : Nat) (h : k ≤ gs.length) : (wd gs k).length = k := by simp [wd]; omega
theorem wd_succ (gs : List (Int × Int × Int)) (k : Nat) (h : k < gs.length) : wd gs (k + 1) = wd gs k ++ [ofL (tstL (gs.getD k (0, 0, 0)))] := by
  unfold wd
  rw [List.take_add_one, List.getElem?_eq_getElem h, List.map_append]
  simp [h]
theorem wd_join (gs : List (Int × Int × Int)) : Lib.join ((wd gs gs.length).map (·.data.toList)) (⟨#[38]⟩ : ByteArray).data.toList = txtL gs := by
  unfold txtL
  rw [txtTo_join gs _ (Nat.le_refl _)]
  unfold wd
  rw [List.map_map]
  congr 1

set_option maxHeartbeats 6400000 in
set_option maxRecDepth 100000 in
theorem implTestText_any (a : Option Addr) (n c : Nat) (gs : List (Int × Int × Int)) (w : World) (h : Trips w a n c gs) (htab : Lib.TabIs Tryd.prog w "internal/strconv.uint64pow10" .u64 Lib.pow10Tab) :
    Calls Tryd.prog 9 #[.slice a n c] w (Ret w (.tuple #[.string (txtR gs).1, .bool (txtR gs).2])) := by
  have C0 := areTests_any a n c gs w h
  have hl := h.len
  obtain ⟨hc, hb, hcell⟩ := h.at
  have HAt := Lib.hid hcell
  rcases Bool.eq_false_or_eq_true (okTests gs) with e | e
  case inr =>
    have HR := Lib.hid (txtR_no e)
    rw [e] at C0
    have C0 := Lib.hid C0
    clear h e hl hcell HAt htab
    go_enter Tryd.func9, Tryd.ntmps9
    go_wp2_with (fail)
    refine C0.out.mono ?_
    rintro e w1 ⟨rfl, hb1⟩
    go_wp2
    go_ret2
    exact ⟨ret_sb HR.out, hb1⟩
  have HV := Lib.hid (okTests_all e)
  have hn := okTests_len e
  have HR := Lib.hid (txtR_yes e)
  have HTab := Lib.hid (Lib.tabBelow_of_tabIs htab)
  have hzl := txtTo_len gs (fun g hg => by obtain ⟨_, _, h3, h4⟩ := okTest3_cases (HV.out g hg); omega)
  have hjl : (Lib.join ((wd gs gs.length).map (·.data.toList)) (⟨#[38]⟩ : ByteArray).data.toList).length ≤ 140737488355328 := by
    rw [wd_join]
    have := hzl gs.length (Nat.le_refl _)
    unfold txtL
    omega
  have HJl := Lib.hid hjl
  rw [e] at C0
  have C0 := Lib.hid C0
  obtain ⟨i0, hi, hz0, hz1', hz2'⟩ := info_parts infoStr
  clear h e hcell htab hzl hjl
  have hn6 : n ≤ 6 := by omega
  go_enter Tryd.func9, Tryd.ntmps9
  go_wp2_with (fail)
  refine C0.out.mono ?_
  rintro e wa ⟨rfl, hba⟩
  have HBa := Lib.hid hba
  have hsa := hba.size
  have HO0 : Hid ((wa.alloc (.cells #[] 9)).ownsRow w.heap.size 9 1 (.slice (some ⟨wa.heap.size, 0, none⟩) 0 0) 0 ((wd gs 0).map Value.string)) := World.ownsRow_made wa #[] 0 hsa (Nat.zero_le _) (by simp)
  have HB0 : Hid (Below w.heap.size w (wa.alloc (.cells #[] 9))) := hba.alloc hsa _
  clear hba
  go_wp2
  go_loopw [4, 13] (fun vo vi wr => ∃ (k g c' : Nat), k ≤ n ∧ vi = .int .i64 k ∧ vo = .slice (some ⟨g, 0, none⟩) k c' ∧ Below w.heap.size w wr ∧ wr.ownsRow w.heap.size 9 1 (.slice (some ⟨g, 0, none⟩) k c') k ((wd gs k).map Value.string)) (fun _ vi _ => n - (intOf vi).toNat)
  case atStart => exact ⟨0, wa.heap.size, 0, by omega, rfl, rfl, HB0.out, HO0.out⟩
  case round =>
    obtain ⟨k, g, c', hk, rfl, rfl, hbr, hor⟩ := hrel
    have HB := Lib.hid hbr
    have HO := Lib.hid hor
    have hszr := hbr.size
    clear hbr hor HB0 HO0
    by_cases hlt : k < n
    · obtain ⟨b, off, rfl, hlb, hx⟩ := HAt.out k hlt
      obtain ⟨y0, y1, y2⟩ := hx k hlt
      have HWs := Lib.hid (wd_succ gs k (by omega))
      obtain ⟨X, Y, Z, hg, hX, hY, hZ⟩ := test_nat (HV.out _ (getD_mem (d := (0, 0, 0)) (show k < gs.length by omega)))
      rw [hg] at y0 y1 y2 HWs
      have y0 := cell_on HB.out y0
      have y1 := cell_on HB.out y1
      have y2 := cell_on HB.out y2
      have hsl := sgn_ext Y hY
      have CD : Hid (∀ W, Below w.heap.size w W → Calls Tryd.prog 27 #[.int .i64 (Z : Int)] W (Ret W (.string (ofL (numL (Z : Int)))))) := fun W hW => Decimal_any Z W (by omega) (HTab.out W hW)
      have hnz : (numL (Z : Int)).length ≤ 2 := numL_len _ (by omega)
      have s1 : (ofL (fldL (X : Int))).size = 4 := by rw [ofL_sz, fldL_len]
      have s2 : (ofL (sgnL (Y : Int))).size = 1 := by rw [ofL_sz, sgnL_len]
      have s3 : (ofL (numL (Z : Int))).size ≤ 2 := by rw [ofL_sz]; exact hnz
      have HA : Hid ((ofL (fldL (X : Int)) ++ ofL (sgnL (Y : Int))) ++ ofL (numL (Z : Int)) = ofL (tstL ((X : Int), (Y : Int), (Z : Int)))) := by show _ = _; rw [ofL_app, ofL_app]; rfl
      have CW := Lib.hid (fun W => (fieldWords_any W).mono (fun e w' hh => (⟨hh.1, hh.2.1, hh.2.2 X hX⟩ : e = .returned (.slice (some ⟨W.heap.size, 0, none⟩) 3 3) ∧ Below W.heap.size W w' ∧ w'.cell? ⟨W.heap.size, X, none⟩ = some (.string (ofL (fldL (X : Int)))))))
      generalize ofL (fldL (X : Int)) = F at *
      generalize ofL (sgnL (Y : Int)) = G at *
      generalize ofL (numL (Z : Int)) = N at *
      have hzz1 : ¬ 9223372036854775807 < F.size + G.size := by omega
      have hzz2 : ¬ 9223372036854775807 < F.size + G.size + N.size := by omega
      have hwy : IntKind.i64.wrap ((Y : Int) + 1) = (Y : Int) + 1 := IntWalk.i64_in _ (by omega)
      have hy1 : (Y : Int) + 1 ≤ 3 := by omega
      have hy0 : (0 : Int) ≤ (Y : Int) := by omega
      have hy4 : (Y : Int) ≤ (Y : Int) + 1 := by omega
      have hy6 : ((Y : Int) + 1).toNat = Y + 1 := by omega
      have hy5 : (⟨#[61, 60, 62]⟩ : ByteArray).size = 3 := rfl
      have hx0 : (0 : Int) ≤ (X : Int) := by omega
      have hx1 : (X : Int) < 3 := by omega
      have z0 : (wr.alloc (.cells #[.int .i64 (X : Int), .int .i64 (Y : Int), .int .i64 (Z : Int)] 38)).cell? ⟨wr.heap.size, 0, none⟩ = some (.int .i64 (X : Int)) := by go_simp
      have z1 : (wr.alloc (.cells #[.int .i64 (X : Int), .int .i64 (Y : Int), .int .i64 (Z : Int)] 38)).cell? ⟨wr.heap.size, 1, none⟩ = some (.int .i64 (Y : Int)) := by go_simp
      have z2 : (wr.alloc (.cells #[.int .i64 (X : Int), .int .i64 (Y : Int), .int .i64 (Z : Int)] 38)).cell? ⟨wr.heap.size, 2, none⟩ = some (.int .i64 (Z : Int)) := by go_simp
      have hB : Below wr.heap.size wr (wr.alloc (.cells #[.int .i64 (X : Int), .int .i64 (Y : Int), .int .i64 (Z : Int)] 38)) := (Below.refl _ _).alloc (Nat.le_refl _) _
      have hzT : (wr.alloc (.cells #[.int .i64 (X : Int), .int .i64 (Y : Int), .int .i64 (Z : Int)] 38)).heap.size = wr.heap.size + 1 := by simp
      clear hx hg s1 s2 s3 hnz
      go_wp2
      clear y0 y1 y2
      refine wp_region_held_drew (S := fun W => W.cell? ⟨wr.heap.size, 0, none⟩ = some (.int .i64 (X : Int)) ∧ W.cell? ⟨wr.heap.size, 1, none⟩ = some (.int .i64 (Y : Int)) ∧ W.cell? ⟨wr.heap.size, 2, none⟩ = some (.int .i64 (Z : Int))) (by kernel_rfl) ⟨z0, z1, z2⟩ (fun _ => ?_)
      have z0 : (wr.alloc (.cells #[.int .i64 (X : Int), .int .i64 (Y : Int), .int .i64 (Z : Int)] 38)).drew.cell? ⟨wr.heap.size, 0, none⟩ = some (.int .i64 (X : Int)) := z0
      have z1 : (wr.alloc (.cells #[.int .i64 (X : Int), .int .i64 (Y : Int), .int .i64 (Z : Int)] 38)).drew.cell? ⟨wr.heap.size, 1, none⟩ = some (.int .i64 (Y : Int)) := z1
      have z2 : (wr.alloc (.cells #[.int .i64 (X : Int), .int .i64 (Y : Int), .int .i64 (Z : Int)] 38)).drew.cell? ⟨wr.heap.size, 2, none⟩ = some (.int .i64 (Z : Int)) := z2
      have hB : Below wr.heap.size wr (wr.alloc (.cells #[.int .i64 (X : Int), .int .i64 (Y : Int), .int .i64 (Z : Int)] 38)).drew := hB.drew
      have hzT : (wr.alloc (.cells #[.int .i64 (X : Int), .int .i64 (Y : Int), .int .i64 (Z : Int)] 38)).drew.heap.size = wr.heap.size + 1 := by simp
      generalize (wr.alloc (.cells #[.int .i64 (X : Int), .int .i64 (Y : Int), .int .i64 (Z : Int)] 38)).drew = W0 at *
      refine wpAnyH_take (i := 0) (v := ?_) rfl (by kernel_rfl) (by kernel_rfl) (by kernel_rfl) (fun _ _ _ h => h) (Or.inl ⟨by rfl, ?_⟩) ⟨z0, z1, z2⟩ ?_
      rotate_left 1
      · intro w hSw; obtain ⟨s0, s1, s2⟩ := hSw; go_simp; try with_reducible rfl
      try simp only [Act.put, List.setIfInBounds_toArray, List.set_cons_zero, List.set_cons_succ]
      refine wpAnyH_take (i := 2) (v := ?_) rfl (by kernel_rfl) (by kernel_rfl) (by kernel_rfl) (fun _ _ _ h => h) (Or.inl ⟨by rfl, ?_⟩) ⟨z0, z1, z2⟩ ?_
      rotate_left 1
      · intro w hSw; obtain ⟨s0, s1, s2⟩ := hSw; go_simp; try with_reducible rfl
      try simp only [Act.put, List.setIfInBounds_toArray, List.set_cons_zero, List.set_cons_succ]
      refine wpAnyH_take (i := 3) (v := ?_) rfl (by kernel_rfl) (by kernel_rfl) (by kernel_rfl) (fun _ _ _ h => h) (Or.inl ⟨by rfl, ?_⟩) ⟨z0, z1, z2⟩ ?_
      rotate_left 1
      · intro w hSw; obtain ⟨s0, s1, s2⟩ := hSw; go_simp; try with_reducible rfl
      try simp only [Act.put, List.setIfInBounds_toArray, List.set_cons_zero, List.set_cons_succ]
      refine wpAnyH_take (i := 6) (v := ?_) rfl (by kernel_rfl) (by kernel_rfl) (by kernel_rfl) (fun _ _ _ h => h) (Or.inl ⟨by rfl, ?_⟩) ⟨z0, z1, z2⟩ ?_
      rotate_left 1
      · intro w hSw; obtain ⟨s0, s1, s2⟩ := hSw; go_simp; try with_reducible rfl
      try simp only [Act.put, List.setIfInBounds_toArray, List.set_cons_zero, List.set_cons_succ]
      refine wpAnyH_take (i := 7) (v := ?_) rfl (by kernel_rfl) (by kernel_rfl) (by kernel_rfl) (fun _ _ _ h => h) (Or.inl ⟨by rfl, ?_⟩) ⟨z0, z1, z2⟩ ?_
      rotate_left 1
      · intro w hSw; obtain ⟨s0, s1, s2⟩ := hSw; go_simp; try with_reducible rfl
      try simp only [Act.put, List.setIfInBounds_toArray, List.set_cons_zero, List.set_cons_succ]
      refine wpAnyH_take (i := 8) (v := ?_) rfl (by kernel_rfl) (by kernel_rfl) (by kernel_rfl) (fun _ _ _ h => h) (Or.inl ⟨by rfl, ?_⟩) ⟨z0, z1, z2⟩ ?_
      rotate_left 1
      · intro w hSw; obtain ⟨s0, s1, s2⟩ := hSw; go_simp; try with_reducible rfl
      try simp only [Act.put, List.setIfInBounds_toArray, List.set_cons_zero, List.set_cons_succ]
      refine wpAnyH_take (i := 9) (v := ?_) rfl (by kernel_rfl) (by kernel_rfl) (by kernel_rfl) (fun _ _ _ h => h) (Or.inl ⟨by rfl, ?_⟩) ⟨z0, z1, z2⟩ ?_
      rotate_left 1
      · intro w hSw; obtain ⟨s0, s1, s2⟩ := hSw; go_simp; try with_reducible rfl
      try simp only [Act.put, List.setIfInBounds_toArray, List.set_cons_zero, List.set_cons_succ]
      refine wpAnyH_take (i := 10) (v := ?_) rfl (by kernel_rfl) (by kernel_rfl) (by kernel_rfl) (fun _ _ _ h => h) (Or.inl ⟨by rfl, ?_⟩) ⟨z0, z1, z2⟩ ?_
      rotate_left 1
      · intro w hSw; obtain ⟨s0, s1, s2⟩ := hSw; go_simp; try with_reducible rfl
      try simp only [Act.put, List.setIfInBounds_toArray, List.set_cons_zero, List.set_cons_succ]
      refine wpAnyH_take (i := 11) (v := ?_) rfl (by kernel_rfl) (by kernel_rfl) (by kernel_rfl) (fun _ _ _ h => h) (Or.inl ⟨by rfl, ?_⟩) ⟨z0, z1, z2⟩ ?_
      rotate_left 1
      · intro w hSw; obtain ⟨s0, s1, s2⟩ := hSw; go_simp; try with_reducible rfl
      try simp only [Act.put, List.setIfInBounds_toArray, List.set_cons_zero, List.set_cons_succ]
      refine wpAnyH_take (i := 13) (v := ?_) rfl (by kernel_rfl) (by kernel_rfl) (by kernel_rfl) (fun _ _ _ h => h) (Or.inl ⟨by rfl, ?_⟩) ⟨z0, z1, z2⟩ ?_
      rotate_left 1
      · intro w hSw; obtain ⟨s0, s1, s2⟩ := hSw; go_simp; try with_reducible rfl
      try simp only [Act.put, List.setIfInBounds_toArray, List.set_cons_zero, List.set_cons_succ]
      refine wpAnyH_take (i := 14) (v := ?_) rfl (by kernel_rfl) (by kernel_rfl) (by kernel_rfl) (fun _ _ _ h => h) (Or.inl ⟨by rfl, ?_⟩) ⟨z0, z1, z2⟩ ?_
      rotate_left 1
      · intro w hSw; obtain ⟨s0, s1, s2⟩ := hSw; go_simp; try with_reducible rfl
      try simp only [Act.put, List.setIfInBounds_toArray, List.set_cons_zero, List.set_cons_succ]
      refine wpAnyH_ready (rs := [1]) (by kernel_rfl) (by simp) ?_
      refine AllReadyH.cons rfl (fun K hK => ?_) ?_
      · skip
        go_simp
        go_at_call 26
        refine (CW.out _).mono ?_
        rintro e W1 ⟨rfl, hb1, kX⟩
        rw [hzT] at kX
        have z0 := cell_on hb1 z0
        have z1 := cell_on hb1 z1
        have z2 := cell_on hb1 z2
        have hB := hB.trans (hb1.mono (by omega))
        have hz1 := hb1.size
        clear hb1
        refine hK.out _ _ ⟨z0, z1, z2⟩ (fun _ => ?_)
        clear hK K
        try simp only [Act.put, List.setIfInBounds_toArray, List.set_cons_zero, List.set_cons_succ]
        refine wpAnyH_take (i := 4) (v := ?_) rfl (by kernel_rfl) (by kernel_rfl) (by kernel_rfl) (fun _ _ _ h => h) (Or.inl ⟨by rfl, ?_⟩) ⟨z0, z1, z2⟩ ?_
        rotate_left 1
        · intro w hSw; obtain ⟨s0, s1, s2⟩ := hSw; go_simp; try with_reducible rfl
        try simp only [Act.put, List.setIfInBounds_toArray, List.set_cons_zero, List.set_cons_succ]
        refine wpAnyH_ready (rs := [5, 15]) (by kernel_rfl) (by simp) ?_
        refine AllReadyH.cons rfl (fun K hK => ?_) ?_
        · skip
          go_simp
          refine hK.out _ _ ⟨z0, z1, z2⟩ (fun _ => ?_)
          clear hK K
          try simp only [Act.put, List.setIfInBounds_toArray, List.set_cons_zero, List.set_cons_succ]
          refine wpAnyH_take (i := 12) (v := ?_) rfl (by kernel_rfl) (by kernel_rfl) (by kernel_rfl) (fun _ _ _ h => h) (Or.inl ⟨by rfl, ?_⟩) ⟨z0, z1, z2⟩ ?_
          rotate_left 1
          · intro w hSw; obtain ⟨s0, s1, s2⟩ := hSw; go_simp; try with_reducible rfl
          try simp only [Act.put, List.setIfInBounds_toArray, List.set_cons_zero, List.set_cons_succ]
          refine wpAnyH_ready (rs := [15]) (by kernel_rfl) (by simp) ?_
          refine AllReadyH.cons rfl (fun K hK => ?_) ?_
          · skip
            go_simp
            go_at_call 27
            refine (CD.out _ (HB.out.trans (hB.mono hszr))).mono ?_
            rintro e W2 ⟨rfl, hb2⟩
            have z0 := cell_on hb2 z0
            have z1 := cell_on hb2 z1
            have z2 := cell_on hb2 z2
            have kX := cell_on hb2 kX
            have hB := hB.trans (hb2.mono (by omega))
            have hz2 := hb2.size
            clear hb2
            refine hK.out _ _ ⟨z0, z1, z2⟩ (fun _ => ?_)
            clear hK K
            try simp only [Act.put, List.setIfInBounds_toArray, List.set_cons_zero, List.set_cons_succ]
            refine wpAnyH_take (i := 16) (v := ?_) rfl (by kernel_rfl) (by kernel_rfl) (by kernel_rfl) (fun _ _ _ h => h) (Or.inl ⟨by rfl, ?_⟩) ⟨z0, z1, z2⟩ ?_
            rotate_left 1
            · intro w hSw; obtain ⟨s0, s1, s2⟩ := hSw; go_simp; try with_reducible rfl
            try simp only [Act.put, List.setIfInBounds_toArray, List.set_cons_zero, List.set_cons_succ]
            refine wpAnyH_ready (rs := [17]) (by kernel_rfl) (by simp) ?_
            refine AllReadyH.cons rfl (fun K hK => ?_) ?_
            · skip
              go_simp
              have z0 := cell_on ((Below.refl W2.heap.size W2).alloc (Nat.le_refl _) (.cells #[.string (F ++ G ++ N)] 9)) z0
              have z1 := cell_on ((Below.refl W2.heap.size W2).alloc (Nat.le_refl _) (.cells #[.string (F ++ G ++ N)] 9)) z1
              have z2 := cell_on ((Below.refl W2.heap.size W2).alloc (Nat.le_refl _) (.cells #[.string (F ++ G ++ N)] 9)) z2
              refine hK.out _ _ ⟨z0, z1, z2⟩ (fun _ => ?_)
              clear hK K
              try simp only [Act.put, List.setIfInBounds_toArray, List.set_cons_zero, List.set_cons_succ]
              refine wpAnyH_ready (rs := [18]) (by kernel_rfl) (by simp) ?_
              refine AllReadyH.cons rfl (fun K hK => ?_) ?_
              · skip
                refine step_append_lies _ (by rfl) _ _ _ (by rfl) w.heap.size 9 i0 _ 1 16 Tryd.underlying50 hi hz0 hz1' hz2' rfl (by omega) (.slice (some ⟨g, 0, none⟩) k c') k ((wd gs k).map Value.string) (by rfl) ((ownsRow_below HO.out hB).alloc _) ⟨W2.heap.size, 0, none⟩ 1 1 [.string (F ++ G ++ N)] (by rfl) (by rfl) (new1 _ _ _) (one1 rfl) (by omega) (by unfold maxLen; omega) (by omega) (by simp; omega) (W2.heap.size + 1) (by simp) ?_
                intro gg cap w10 hown1 hg1 hat hlt10
                have hCg := Chg.of_grown (n := k) (c := c') (own_in HO.out) hg1
                have z0 := hCg.cell z0 (.inr (by dsimp only; omega))
                have z1 := hCg.cell z1 (.inr (by dsimp only; omega))
                have z2 := hCg.cell z2 (.inr (by dsimp only; omega))
                have HBn := Lib.hid (below_app (HB.out.trans (hB.mono hszr)) (by omega) hg1 (ownsRow_below HO.out hB))
                have HOn : Hid (w10.ownsRow w.heap.size 9 1 (.slice (some ⟨gg, 0, none⟩) (k + 1) cap) (k + 1) ((wd gs (k + 1)).map Value.string)) := (by show w10.ownsRow _ _ _ _ _ _; rw [HWs.out, ← HA.out, List.map_append]; exact hown1)
                clear hown1 hg1 hat hlt10 hCg
                refine hK.out _ _ ⟨z0, z1, z2⟩ (fun _ => ?_)
                clear hK K
                try simp only [Act.put, List.setIfInBounds_toArray, List.set_cons_zero, List.set_cons_succ]
                refine wpAnyH_ready (rs := [19]) (by kernel_rfl) (by simp) ?_
                refine AllReadyH.cons rfl (fun K hK => ?_) ?_
                · skip
                  go_simp
                  refine hK.out _ _ ⟨z0, z1, z2⟩ (fun _ => ?_)
                  clear hK K
                  try simp only [Act.put, List.setIfInBounds_toArray, List.set_cons_zero, List.set_cons_succ]
                  refine wpAnyH_done (by kernel_rfl) ?_ _
                  clear z0 z1 z2
                  go_wp2
                  go_roundw
                  case rel => exact ⟨k + 1, gg, cap, by omega, by first | rfl | go_num, by first | rfl | go_num, HBn.out, HOn.out⟩
                  case measure => simp [intOf]; omega
                exact AllReadyH.nil
              exact AllReadyH.nil
            exact AllReadyH.nil
          exact AllReadyH.nil
        refine AllReadyH.cons rfl (fun K hK => ?_) ?_
        · skip
          go_simp
          go_at_call 27
          refine (CD.out _ (HB.out.trans (hB.mono hszr))).mono ?_
          rintro e W2 ⟨rfl, hb2⟩
          have z0 := cell_on hb2 z0
          have z1 := cell_on hb2 z1
          have z2 := cell_on hb2 z2
          have kX := cell_on hb2 kX
          have hB := hB.trans (hb2.mono (by omega))
          have hz2 := hb2.size
          clear hb2
          refine hK.out _ _ ⟨z0, z1, z2⟩ (fun _ => ?_)
          clear hK K
          try simp only [Act.put, List.setIfInBounds_toArray, List.set_cons_zero, List.set_cons_succ]
          refine wpAnyH_ready (rs := [5]) (by kernel_rfl) (by simp) ?_
          refine AllReadyH.cons rfl (fun K hK => ?_) ?_
          · skip
            go_simp
            refine hK.out _ _ ⟨z0, z1, z2⟩ (fun _ => ?_)
            clear hK K
            try simp only [Act.put, List.setIfInBounds_toArray, List.set_cons_zero, List.set_cons_succ]
            refine wpAnyH_take (i := 12) (v := ?_) rfl (by kernel_rfl) (by kernel_rfl) (by kernel_rfl) (fun _ _ _ h => h) (Or.inl ⟨by rfl, ?_⟩) ⟨z0, z1, z2⟩ ?_
            rotate_left 1
            · intro w hSw; obtain ⟨s0, s1, s2⟩ := hSw; go_simp; try with_reducible rfl
            try simp only [Act.put, List.setIfInBounds_toArray, List.set_cons_zero, List.set_cons_succ]
            refine wpAnyH_take (i := 16) (v := ?_) rfl (by kernel_rfl) (by kernel_rfl) (by kernel_rfl) (fun _ _ _ h => h) (Or.inl ⟨by rfl, ?_⟩) ⟨z0, z1, z2⟩ ?_
            rotate_left 1
            · intro w hSw; obtain ⟨s0, s1, s2⟩ := hSw; go_simp; try with_reducible rfl
            try simp only [Act.put, List.setIfInBounds_toArray, List.set_cons_zero, List.set_cons_succ]
            refine wpAnyH_ready (rs := [17]) (by kernel_rfl) (by simp) ?_
            refine AllReadyH.cons rfl (fun K hK => ?_) ?_
            · skip
              go_simp
              have z0 := cell_on ((Below.refl W2.heap.size W2).alloc (Nat.le_refl _) (.cells #[.string (F ++ G ++ N)] 9)) z0
              have z1 := cell_on ((Below.refl W2.heap.size W2).alloc (Nat.le_refl _) (.cells #[.string (F ++ G ++ N)] 9)) z1
              have z2 := cell_on ((Below.refl W2.heap.size W2).alloc (Nat.le_refl _) (.cells #[.string (F ++ G ++ N)] 9)) z2
              refine hK.out _ _ ⟨z0, z1, z2⟩ (fun _ => ?_)
              clear hK K
              try simp only [Act.put, List.setIfInBounds_toArray, List.set_cons_zero, List.set_cons_succ]
              refine wpAnyH_ready (rs := [18]) (by kernel_rfl) (by simp) ?_
              refine AllReadyH.cons rfl (fun K hK => ?_) ?_
              · skip
                refine step_append_lies _ (by rfl) _ _ _ (by rfl) w.heap.size 9 i0 _ 1 16 Tryd.underlying50 hi hz0 hz1' hz2' rfl (by omega) (.slice (some ⟨g, 0, none⟩) k c') k ((wd gs k).map Value.string) (by rfl) ((ownsRow_below HO.out hB).alloc _) ⟨W2.heap.size, 0, none⟩ 1 1 [.string (F ++ G ++ N)] (by rfl) (by rfl) (new1 _ _ _) (one1 rfl) (by omega) (by unfold maxLen; omega) (by omega) (by simp; omega) (W2.heap.size + 1) (by simp) ?_
                intro gg cap w10 hown1 hg1 hat hlt10
                have hCg := Chg.of_grown (n := k) (c := c') (own_in HO.out) hg1
                have z0 := hCg.cell z0 (.inr (by dsimp only; omega))
                have z1 := hCg.cell z1 (.inr (by dsimp only; omega))
                have z2 := hCg.cell z2 (.inr (by dsimp only; omega))
                have HBn := Lib.hid (below_app (HB.out.trans (hB.mono hszr)) (by omega) hg1 (ownsRow_below HO.out hB))
                have HOn : Hid (w10.ownsRow w.heap.size 9 1 (.slice (some ⟨gg, 0, none⟩) (k + 1) cap) (k + 1) ((wd gs (k + 1)).map Value.string)) := (by show w10.ownsRow _ _ _ _ _ _; rw [HWs.out, ← HA.out, List.map_append]; exact hown1)
                clear hown1 hg1 hat hlt10 hCg
                refine hK.out _ _ ⟨z0, z1, z2⟩ (fun _ => ?_)
                clear hK K
                try simp only [Act.put, List.setIfInBounds_toArray, List.set_cons_zero, List.set_cons_succ]
                refine wpAnyH_ready (rs := [19]) (by kernel_rfl) (by simp) ?_
                refine AllReadyH.cons rfl (fun K hK => ?_) ?_
                · skip
                  go_simp
                  refine hK.out _ _ ⟨z0, z1, z2⟩ (fun _ => ?_)
                  clear hK K
                  try simp only [Act.put, List.setIfInBounds_toArray, List.set_cons_zero, List.set_cons_succ]
                  refine wpAnyH_done (by kernel_rfl) ?_ _
                  clear z0 z1 z2
                  go_wp2
                  go_roundw
                  case rel => exact ⟨k + 1, gg, cap, by omega, by first | rfl | go_num, by first | rfl | go_num, HBn.out, HOn.out⟩
                  case measure => simp [intOf]; omega
                exact AllReadyH.nil
              exact AllReadyH.nil
            exact AllReadyH.nil
          exact AllReadyH.nil
        exact AllReadyH.nil
      exact AllReadyH.nil
    · obtain rfl : k = n := by omega
      have C9 := Tryd.strings_Join g 0 c' (wd gs k) ⟨#[38]⟩ wr (fun j x hx => by
        have hj : j < k := by have := (List.getElem?_eq_some_iff.1 hx).1; rw [wd_len gs k (by omega)] at this; exact this
        rw [Nat.zero_add, HO.out.cellAt j (by omega), List.getElem?_map, hx]
        rfl) (HO.out.lt g rfl).2 (by rw [wd_len gs k (by omega)]; omega) (by rw [wd_len gs k (by omega)]; exact (Rd.own HO.out : Rd wr _ k c' 1 _).2.1) (by have := HJl.out; rw [hl] at this; exact this)
      rw [wd_len gs k (by omega)] at C9
      have HJ : Hid (Lib.join ((wd gs k).map (·.data.toList)) (⟨#[38]⟩ : ByteArray).data.toList = txtL gs) := by show _ = _; rw [← wd_join gs, hl]
      rw [HJ.out] at C9
      have C9 := Lib.hid C9
      go_wp2_with (fail)
      refine C9.out.mono ?_
      rintro e w9 ⟨rfl, hb9⟩
      go_wp2
      go_ret2
      exact ⟨ret_sb (by rw [HR.out]; rfl), HB.out.trans (hb9.mono hszr)⟩

end Go.Proofs.YtmijfieiebnbfaaDoor
