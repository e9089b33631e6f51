/- Texts of tests: l07Field, l07Number, l07Text. -/
import Derived.Test.YtmijfieiebnbfaaDoorTestsC
import Derived.Test.YtmijfieiebnbfaaDoorChk
import Derived.Deep.RegionHeld3
namespace Go.Proofs.YtmijfieiebnbfaaDoor
open Go.RowKit
set_option linter.unusedVariables false
set_option linter.unusedSimpArgs false

theorem ofL_app (a b : List UInt8) : ofL a ++ ofL b = ofL (a ++ b) := by
  rw [← ofL_data (ofL a ++ ofL b)]
  congr 1
theorem ofL_sz (a : List UInt8) : (ofL a).size = a.length := by simp [ofL, ByteArray.size]
/-- A slice of one byte as a text. -/
theorem conv1 (W : World) (g : Nat) (b : UInt8) (h : W.cell? ⟨g, 0, none⟩ = some (.int .u8 (b.toNat : Int))) : (convert 34 9 (.slice (some ⟨g, 0, none⟩) 1 1)).run Tryd.prog W = .ok (.string (ofL [b])) W :=
  run_convert_bytes_back W 34 9 5 ⟨g, 0, none⟩ 1 [b] Tryd.underlying34 Tryd.underlying5 Tryd.underlying9 (fun j hj => by
    obtain rfl : j = 0 := by simp at hj; omega
    simpa [Addr.add] using h)

def fldL (x : Int) : List UInt8 := if x = 0 then [114, 97, 110, 107] else if x = 1 then [115, 117, 105, 116] else [99, 97, 114, 100]
def sgnL (y : Int) : List UInt8 := if y = 0 then [61] else if y = 1 then [60] else [62]
def numL (z : Int) : List UInt8 := Lib.decDigits z.toNat
/-- a test's text -/
def tstL (g : Int × Int × Int) : List UInt8 := (fldL g.1 ++ sgnL g.2.1) ++ numL g.2.2
/-- the text of the first k -/
def txtTo (gs : List (Int × Int × Int)) : Nat → List UInt8
  | 0 => []
  | k + 1 => (if 0 < k then txtTo gs k ++ [38] else txtTo gs k) ++ tstL (gs.getD k (0, 0, 0))
def txtL (gs : List (Int × Int × Int)) : List UInt8 := txtTo gs gs.length
theorem fldL_len (x : Int) : (fldL x).length = 4 := by unfold fldL; split; rfl; split <;> rfl
theorem sgnL_len (x : Int) : (sgnL x).length = 1 := by unfold sgnL; split; rfl; split <;> rfl
theorem dec_len2 (n : Nat) (h : n ≤ 99) : (Lib.decDigits n).length ≤ 2 := by
  rw [decDigits_eq]
  by_cases q : n < 10
  · rw [if_pos q]; simp
  · rw [if_neg q, decDigits_eq, if_pos (by omega)]; simp
theorem numL_len (z : Int) (h : 0 ≤ z ∧ z ≤ 99) : (numL z).length ≤ 2 := dec_len2 _ (by omega)
theorem tstL_len (g : Int × Int × Int) (h : 0 ≤ g.2.2 ∧ g.2.2 ≤ 99) : (tstL g).length ≤ 7 := by
  unfold tstL
  rw [List.length_append, List.length_append, fldL_len, sgnL_len]
  have := numL_len _ h
  omega
theorem txtTo_len (gs : List (Int × Int × Int)) (h : ∀ g ∈ gs, 0 ≤ g.2.2 ∧ g.2.2 ≤ 99) : ∀ k, k ≤ gs.length → (txtTo gs k).length ≤ 8 * k := by
  intro k
  induction k with
  | zero => intro _; simp [txtTo]
  | succ k ih =>
    intro hk
    have h1 := ih (by omega)
    have h2 := tstL_len (gs.getD k (0, 0, 0)) (h _ (getD_mem (by omega)))
    unfold txtTo
    rw [List.length_append]
    split
    · rw [List.length_append, List.length_cons, List.length_nil]; omega
    · omega

theorem l07Field_any (x : Int) (w : World) : Calls Tryd.prog 30 #[.int .i64 x] w (RetS w (.string (ofL (fldL x)))) := by
  by_cases h0 : x = 0
  · subst h0
    go_enter Tryd.func30, Tryd.ntmps30
    go_wp2
    go_ret
    exact ⟨rfl, rfl⟩
  · by_cases h1 : x = 1
    · subst h1
      go_enter Tryd.func30, Tryd.ntmps30
      go_wp2
      go_ret
      exact ⟨rfl, rfl⟩
    · have H : Hid (fldL x = [99, 97, 114, 100]) := by show _ = _; unfold fldL; rw [if_neg h0, if_neg h1]
      go_enter Tryd.func30, Tryd.ntmps30
      go_wp2
      go_ret
      exact ⟨by rw [H.out]; rfl, rfl⟩

theorem newOne {B : Nat} {w W : World} (hB : Below B w W) (v : Value) (T : TypeId) : (W.alloc (.cells #[v] T)).cell? ⟨W.heap.size, 0, none⟩ = some v := by go_simp
set_option maxHeartbeats 800000 in
set_option maxRecDepth 100000 in
theorem num1_any (n : Nat) (w : World) (hn : n < 10) : Calls Tryd.prog 42 #[.int .i64 n] w (Ret w (.string (decB n))) := by
  have H : Hid (decB n = ofL [UInt8.ofNat (48 + n)]) := by show _ = _; unfold decB; rw [decDigits_eq, if_pos hn]
  have hb : ((UInt8.ofNat (48 + n)).toNat : Int) = 48 + (n : Int) := by
    have : (UInt8.ofNat (48 + n)).toNat = 48 + n := by rw [UInt8.toNat_ofNat']; omega
    omega
  have hw1 : IntKind.i64.wrap (48 + (n : Int)) = 48 + (n : Int) := IntWalk.i64_in _ (by omega)
  have hw2 : IntKind.u8.wrap (48 + (n : Int)) = ((UInt8.ofNat (48 + n)).toNat : Int) := by rw [IntKind.wrap_u8, hb]; omega
  generalize UInt8.ofNat (48 + n) = b at *
  have qc := conv1 (w.alloc (.cells #[.int .u8 (b.toNat : Int)] 5)) w.heap.size b (by go_simp)
  have HB : Hid (Below w.heap.size w (w.alloc (.cells #[.int .u8 (b.toNat : Int)] 5))) := (Below.refl _ _).alloc (Nat.le_refl _) _
  clear hb
  go_enter Tryd.func42, Tryd.ntmps42
  go_wp2
  go_ret
  exact ⟨by rw [H.out]; rfl, HB.out⟩

set_option maxHeartbeats 800000 in
set_option maxRecDepth 100000 in
theorem l07Number_any (n : Nat) (w : World) (hn : n < 100) : Calls Tryd.prog 42 #[.int .i64 n] w (Ret w (.string (decB n))) := by
  by_cases h : n < 10
  · exact num1_any n w h
  · have H : Hid (decB n = decB (n / 10) ++ ofL [UInt8.ofNat (48 + n % 10)]) := by show _ = _; unfold decB; rw [decDigits_eq n, if_neg h, ofL_app]
    have hb : ((UInt8.ofNat (48 + n % 10)).toNat : Int) = 48 + ((n % 10 : Nat) : Int) := by
      have : (UInt8.ofNat (48 + n % 10)).toNat = 48 + n % 10 := by rw [UInt8.toNat_ofNat']; omega
      omega
    have hw1 : IntKind.i64.wrap (48 + (n : Int) % 10) = 48 + (n : Int) % 10 := IntWalk.i64_in _ (by omega)
    have hw2 : IntKind.u8.wrap (48 + (n : Int) % 10) = ((UInt8.ofNat (48 + n % 10)).toNat : Int) := by rw [IntKind.wrap_u8, hb]; omega
    have hq : (n : Int) / 10 = ((n / 10 : Nat) : Int) := by omega
    have hq0 : IntKind.i64.wrap ((n : Int) / 10) = ((n / 10 : Nat) : Int) := by rw [IntWalk.i64_in _ (by omega)]; omega
    have ht : (n : Int).tmod 10 = (n : Int) % 10 := Int.tmod_eq_emod_of_nonneg (by omega)
    have hlt : ¬ (n : Int) < 10 := by omega
    have hlt2 : decide ((n : Int) < 10) = false := decide_eq_false hlt
    have C1 : Hid (∀ W, Calls Tryd.prog 42 #[.int .i64 ((n / 10 : Nat) : Int)] W (Ret W (.string (decB (n / 10))))) := fun W => num1_any (n / 10) W (by omega)
    have hsz : (decB (n / 10)).size ≤ 2 := by unfold decB; rw [ofL_sz]; exact dec_len2 _ (by omega)
    generalize UInt8.ofNat (48 + n % 10) = b at *
    generalize decB (n / 10) = dq at *
    have hz : ¬ 9223372036854775807 < dq.size + (ofL [b]).size := by rw [ofL_sz]; simp; omega
    clear hb hq
    have hw0 := Nat.le_refl w.heap.size
    go_enter Tryd.func42, Tryd.ntmps42
    go_wp2
    have hB : Below w.heap.size w w.drew := (Below.refl _ _).drew
    refine wp_region_held_drew (S := fun _ => True) (by kernel_rfl) trivial (fun _ => ?_)
    generalize w.drew = W0 at *
    refine wpAnyH_take (i := 0) (v := ?_) rfl (by kernel_rfl) (by kernel_rfl) (by kernel_rfl) (fun _ _ _ h => h) (Or.inl ⟨by rfl, ?_⟩) trivial ?_
    rotate_left 1
    · intro w hSw; go_simp; try with_reducible rfl
    try simp only [Act.put, List.setIfInBounds_toArray, List.set_cons_zero, List.set_cons_succ]
    refine wpAnyH_take (i := 1) (v := ?_) rfl (by kernel_rfl) (by kernel_rfl) (by kernel_rfl) (fun _ _ _ h => h) (Or.inl ⟨by rfl, ?_⟩) trivial ?_
    rotate_left 1
    · intro w hSw; go_simp; try with_reducible rfl
    try simp only [Act.put, List.setIfInBounds_toArray, List.set_cons_zero, List.set_cons_succ]
    refine wpAnyH_take (i := 3) (v := ?_) rfl (by kernel_rfl) (by kernel_rfl) (by kernel_rfl) (fun _ _ _ h => h) (Or.inl ⟨by rfl, ?_⟩) trivial ?_
    rotate_left 1
    · intro w hSw; go_simp; try with_reducible rfl
    try simp only [Act.put, List.setIfInBounds_toArray, List.set_cons_zero, List.set_cons_succ]
    refine wpAnyH_take (i := 4) (v := ?_) rfl (by kernel_rfl) (by kernel_rfl) (by kernel_rfl) (fun _ _ _ h => h) (Or.inl ⟨by rfl, ?_⟩) trivial ?_
    rotate_left 1
    · intro w hSw; go_simp; try with_reducible rfl
    try simp only [Act.put, List.setIfInBounds_toArray, List.set_cons_zero, List.set_cons_succ]
    refine wpAnyH_take (i := 5) (v := ?_) rfl (by kernel_rfl) (by kernel_rfl) (by kernel_rfl) (fun _ _ _ h => h) (Or.inl ⟨by rfl, ?_⟩) trivial ?_
    rotate_left 1
    · intro w hSw; go_simp; try with_reducible rfl
    try simp only [Act.put, List.setIfInBounds_toArray, List.set_cons_zero, List.set_cons_succ]
    refine wpAnyH_take (i := 6) (v := ?_) rfl (by kernel_rfl) (by kernel_rfl) (by kernel_rfl) (fun _ _ _ h => h) (Or.inl ⟨by rfl, ?_⟩) trivial ?_
    rotate_left 1
    · intro w hSw; go_simp; try with_reducible rfl
    try simp only [Act.put, List.setIfInBounds_toArray, List.set_cons_zero, List.set_cons_succ]
    refine wpAnyH_ready (rs := [2, 7]) (by kernel_rfl) (by simp) ?_
    refine AllReadyH.cons rfl (fun K hK => ?_) ?_
    · skip
      go_simp
      try simp only [hq0, ht, hw1, hw2]
      go_at_call 42
      refine (C1.out _).mono ?_
      rintro e wc ⟨rfl, hbc⟩
      try have kb := cell_on hbc kb
      have hB := hB.trans (hbc.mono (by have := hB.size; omega))
      clear hbc
      refine hK.out _ _ trivial (fun _ => ?_)
      clear hK K
      try simp only [Act.put, List.setIfInBounds_toArray, List.set_cons_zero, List.set_cons_succ]
      refine wpAnyH_ready (rs := [7]) (by kernel_rfl) (by simp) ?_
      refine AllReadyH.cons rfl (fun K hK => ?_) ?_
      · skip
        go_simp
        try simp only [hq0, ht, hw1, hw2]
        have kb := newOne hB (.int .u8 (b.toNat : Int)) 5
        have hB := hB.alloc hB.size (.cells #[.int .u8 (b.toNat : Int)] 5)
        generalize wc.alloc (.cells #[.int .u8 (b.toNat : Int)] 5) = Wb at *
        refine hK.out _ _ trivial (fun _ => ?_)
        clear hK K
        try simp only [Act.put, List.setIfInBounds_toArray, List.set_cons_zero, List.set_cons_succ]
        refine wpAnyH_ready (rs := [8]) (by kernel_rfl) (by simp) ?_
        refine AllReadyH.cons rfl (fun K hK => ?_) ?_
        · skip
          have cv := conv1 _ _ b kb
          go_simp
          refine hK.out _ _ trivial (fun _ => ?_)
          clear hK K
          try simp only [Act.put, List.setIfInBounds_toArray, List.set_cons_zero, List.set_cons_succ]
          refine wpAnyH_ready (rs := [9]) (by kernel_rfl) (by simp) ?_
          refine AllReadyH.cons rfl (fun K hK => ?_) ?_
          · skip
            go_simp
            refine hK.out _ _ trivial (fun _ => ?_)
            clear hK K
            try simp only [Act.put, List.setIfInBounds_toArray, List.set_cons_zero, List.set_cons_succ]
            refine wpAnyH_ready (rs := [10]) (by kernel_rfl) (by simp) ?_
            refine AllReadyH.cons rfl (fun K hK => ?_) ?_
            · skip
              go_simp
              refine hK.out _ _ trivial (fun _ => ?_)
              clear hK K
              try simp only [Act.put, List.setIfInBounds_toArray, List.set_cons_zero, List.set_cons_succ]
              refine wpAnyH_done (by kernel_rfl) ?_ _
              go_wp2
              go_ret
              exact ⟨by rw [H.out]; rfl, hB⟩
            exact AllReadyH.nil
          exact AllReadyH.nil
        exact AllReadyH.nil
      exact AllReadyH.nil
    refine AllReadyH.cons rfl (fun K hK => ?_) ?_
    · skip
      go_simp
      try simp only [hq0, ht, hw1, hw2]
      have kb := newOne hB (.int .u8 (b.toNat : Int)) 5
      have hB := hB.alloc hB.size (.cells #[.int .u8 (b.toNat : Int)] 5)
      generalize W0.alloc (.cells #[.int .u8 (b.toNat : Int)] 5) = Wb at *
      refine hK.out _ _ trivial (fun _ => ?_)
      clear hK K
      try simp only [Act.put, List.setIfInBounds_toArray, List.set_cons_zero, List.set_cons_succ]
      refine wpAnyH_ready (rs := [2, 8]) (by kernel_rfl) (by simp) ?_
      refine AllReadyH.cons rfl (fun K hK => ?_) ?_
      · skip
        go_simp
        try simp only [hq0, ht, hw1, hw2]
        go_at_call 42
        refine (C1.out _).mono ?_
        rintro e wc ⟨rfl, hbc⟩
        try have kb := cell_on hbc kb
        have hB := hB.trans (hbc.mono (by have := hB.size; omega))
        clear hbc
        refine hK.out _ _ trivial (fun _ => ?_)
        clear hK K
        try simp only [Act.put, List.setIfInBounds_toArray, List.set_cons_zero, List.set_cons_succ]
        refine wpAnyH_ready (rs := [8]) (by kernel_rfl) (by simp) ?_
        refine AllReadyH.cons rfl (fun K hK => ?_) ?_
        · skip
          have cv := conv1 _ _ b kb
          go_simp
          refine hK.out _ _ trivial (fun _ => ?_)
          clear hK K
          try simp only [Act.put, List.setIfInBounds_toArray, List.set_cons_zero, List.set_cons_succ]
          refine wpAnyH_ready (rs := [9]) (by kernel_rfl) (by simp) ?_
          refine AllReadyH.cons rfl (fun K hK => ?_) ?_
          · skip
            go_simp
            refine hK.out _ _ trivial (fun _ => ?_)
            clear hK K
            try simp only [Act.put, List.setIfInBounds_toArray, List.set_cons_zero, List.set_cons_succ]
            refine wpAnyH_ready (rs := [10]) (by kernel_rfl) (by simp) ?_
            refine AllReadyH.cons rfl (fun K hK => ?_) ?_
            · skip
              go_simp
              refine hK.out _ _ trivial (fun _ => ?_)
              clear hK K
              try simp only [Act.put, List.setIfInBounds_toArray, List.set_cons_zero, List.set_cons_succ]
              refine wpAnyH_done (by kernel_rfl) ?_ _
              go_wp2
              go_ret
              exact ⟨by rw [H.out]; rfl, hB⟩
            exact AllReadyH.nil
          exact AllReadyH.nil
        exact AllReadyH.nil
      refine AllReadyH.cons rfl (fun K hK => ?_) ?_
      · skip
        have cv := conv1 _ _ b kb
        go_simp
        refine hK.out _ _ trivial (fun _ => ?_)
        clear hK K
        try simp only [Act.put, List.setIfInBounds_toArray, List.set_cons_zero, List.set_cons_succ]
        refine wpAnyH_ready (rs := [2]) (by kernel_rfl) (by simp) ?_
        refine AllReadyH.cons rfl (fun K hK => ?_) ?_
        · skip
          go_simp
          try simp only [hq0, ht, hw1, hw2]
          go_at_call 42
          refine (C1.out _).mono ?_
          rintro e wc ⟨rfl, hbc⟩
          try have kb := cell_on hbc kb
          have hB := hB.trans (hbc.mono (by have := hB.size; omega))
          clear hbc
          refine hK.out _ _ trivial (fun _ => ?_)
          clear hK K
          try simp only [Act.put, List.setIfInBounds_toArray, List.set_cons_zero, List.set_cons_succ]
          refine wpAnyH_ready (rs := [9]) (by kernel_rfl) (by simp) ?_
          refine AllReadyH.cons rfl (fun K hK => ?_) ?_
          · skip
            go_simp
            refine hK.out _ _ trivial (fun _ => ?_)
            clear hK K
            try simp only [Act.put, List.setIfInBounds_toArray, List.set_cons_zero, List.set_cons_succ]
            refine wpAnyH_ready (rs := [10]) (by kernel_rfl) (by simp) ?_
            refine AllReadyH.cons rfl (fun K hK => ?_) ?_
            · skip
              go_simp
              refine hK.out _ _ trivial (fun _ => ?_)
              clear hK K
              try simp only [Act.put, List.setIfInBounds_toArray, List.set_cons_zero, List.set_cons_succ]
              refine wpAnyH_done (by kernel_rfl) ?_ _
              go_wp2
              go_ret
              exact ⟨by rw [H.out]; rfl, hB⟩
            exact AllReadyH.nil
          exact AllReadyH.nil
        exact AllReadyH.nil
      exact AllReadyH.nil
    exact AllReadyH.nil

end Go.Proofs.YtmijfieiebnbfaaDoor
