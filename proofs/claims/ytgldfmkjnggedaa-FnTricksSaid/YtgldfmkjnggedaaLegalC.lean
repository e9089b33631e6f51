/- Cards that may be played, impl: isHand, slices.Sort, legal, LegalPlays. -/
import Derived.Test.YtgldfmkjnggedaaLegalB
import Derived.Test.YtgldfmkjnggedaaPutRow
import Derived.Test.YtgldfmkjnggedaaShelf
import Derived.Test.YtgldfmkjnggedaaIndex
import Derived.Sort.Grow
namespace Go.Proofs.Ytgldfmkjnggedaa
open Go.RowKit Go.Sort
set_option linter.unusedVariables false

theorem sortI64_any (g n c B : Nat) (xs : List Int) (w : World) (h : w.ownsRow B 2 1 (.slice (some ⟨g, 0, none⟩) n c) n (intCells xs)) (hn : n ≤ 1048576) :
    Calls Try.prog 38 #[.slice (some ⟨g, 0, none⟩) n c] w fun e w' => e = .returned (.tuple #[]) ∧ Chg g (g + 1) w w' ∧ w'.ownsRow B 2 1 (.slice (some ⟨g, 0, none⟩) n c) n (intCells (isort xs)) := by
  have hl : xs.length = n := by have := h.1; rw [intCells_len] at this; omega
  have C := Try.slices_Sort_int g 0 c xs w (own_holds h) (own_block h).2 (by omega)
  rw [hl] at C
  refine C.mono ?_
  rintro e w' ⟨rfl, q, os, rfl⟩
  have h2 := own_putRow h q (ys := isort xs) (by rw [isort_len, hl])
  have c2 : Chg g (g + 1) w (putRow (Value.int .i64) (Sort.ahead w q) g 0 (isort xs).toArray) := by
    have c3 := Chg.putRow (Value.int .i64) (Sort.ahead w q) g 0 (isort xs).toArray
    exact ⟨rfl, rfl, rfl, by simp, c3.block⟩
  have hb : Below (putRow (Value.int .i64) (Sort.ahead w q) g 0 (isort xs).toArray).heap.size (putRow (Value.int .i64) (Sort.ahead w q) g 0 (isort xs).toArray) (grow (putRow (Value.int .i64) (Sort.ahead w q) g 0 (isort xs).toArray) os) :=
    ⟨rfl, rfl, rfl, by simp, fun k hk => heap_grow_old _ os hk⟩
  exact ⟨rfl, c2.trans ⟨hb.os, hb.tape, hb.output, hb.size, fun k hk _ => hb.block k hk⟩, ownsRow_below h2 hb⟩

theorem isHand_any (a : Option Addr) (n c : Nat) (xs : List Int) (lo hi : Nat) (w : World) (h : Ints w a n c xs) (hl2 : lo ≤ 100) (hh2 : hi ≤ 100) :
    Calls Try.prog 31 #[.slice a n c, .int .i64 lo, .int .i64 hi] w (RetS w (.bool (decide (lo ≤ n) && decide (n ≤ hi) && okCards xs))) := by
  obtain ⟨hc, hb, hcell⟩ := h.at
  have hl := Lib.hid h.len
  have HH := Lib.hid h
  clear h
  have HR : ∀ r, Hid ((decide (lo ≤ n) && decide (n ≤ hi) && okCards xs) = r) → (decide (lo ≤ n) && decide (n ≤ hi) && okCards xs) = r := fun r h => h
  by_cases h1 : lo ≤ n
  case neg =>
    have HE : Hid ((decide (lo ≤ n) && decide (n ≤ hi) && okCards xs) = false) := by show _ = _; simp [h1]
    clear HR hcell
    generalize (decide (lo ≤ n) && decide (n ≤ hi) && okCards xs) = r at *
    go_enter Try.func31, Try.ntmps31
    go_wp2
    go_ret
    exact ⟨ret_bool HE.out.symm, rfl⟩
  by_cases h2 : n ≤ hi
  case neg =>
    have HE : Hid ((decide (lo ≤ n) && decide (n ≤ hi) && okCards xs) = false) := by show _ = _; simp [h2]
    clear HR hcell
    generalize (decide (lo ≤ n) && decide (n ≤ hi) && okCards xs) = r at *
    go_enter Try.func31, Try.ntmps31
    go_wp2
    go_ret
    exact ⟨ret_bool HE.out.symm, rfl⟩
  have HE : Hid ((decide (lo ≤ n) && decide (n ≤ hi) && okCards xs) = okCards xs) := by show _ = _; simp [h1, h2]
  clear HR
  generalize (decide (lo ≤ n) && decide (n ≤ hi) && okCards xs) = r at *
  have d1 : decide (n < lo) = false := decide_eq_false (by omega)
  have d2 : decide (hi < n) = false := decide_eq_false (by omega)
  go_enter Try.func31, Try.ntmps31
  go_wp2
  go_loop [21] (fun i => ∃ k : Nat, k ≤ n ∧ i = .int .i64 k ∧ (∀ j, j < k → cardAt xs j = true)) (fun i => n - (intOf i).toNat)
  case atStart => exact ⟨0, by omega, rfl, fun j hj => by omega⟩
  case round =>
    obtain ⟨k, hk, rfl, hto⟩ := hrel
    have HT := Lib.hid hto
    clear hto
    by_cases hlt : k < n
    · obtain ⟨b, off, rfl, hlb, hx⟩ := hcell k hlt
      have h0 := hx k hlt
      have HI : Hid (Ints w (some ⟨b, off, none⟩) k c (xs.take k)) := HH.out.take k hk
      have HS : Hid (cardAt xs k = true → ∀ j, j < k + 1 → cardAt xs j = true) := fun e j hj => by
        by_cases e2 : j = k
        · subst e2; exact e
        · exact HT.out j (by omega)
      have HN : Hid (cardAt xs k = false → okCards xs = false) := fun e => okCards_not (by rw [hl.out]; exact hlt) e
      have HG : Hid (cardAt xs k = (inB (xs.getD k 0) 0 51 && !(xs.take k).any fun y => xs.getD k 0 == y)) := rfl
      clear hcell hx
      generalize xs.getD k 0 = y at *
      have CC := Lib.hid (containsI64_any (some ⟨b, off, none⟩) k c (xs.take k) y _ rfl w HI.out)
      generalize ((xs.take k).any fun z => y == z) = cb at *
      rcases Bool.eq_false_or_eq_true (inB y 0 51) with e | e
      · cases cb
        · have HG2 := Lib.hid (HS.out (by rw [HG.out, e]; rfl))
          clear HS HN HG
          go_wp2_with (first | (go_at_call 33; refine (within_any _ _ _ _).mono ?_; rintro e w' ⟨rfl, rfl⟩))
          refine CC.out.mono ?_
          rintro e w' ⟨rfl, rfl⟩
          go_wp2
          go_round
          case rel => exact ⟨k + 1, by omega, by go_num, HG2.out⟩
          case measure => simp [intOf]; omega
        · have HG2 := Lib.hid (HN.out (by rw [HG.out, e]; rfl))
          clear HS HN HG
          go_wp2_with (first | (go_at_call 33; refine (within_any _ _ _ _).mono ?_; rintro e w' ⟨rfl, rfl⟩))
          refine CC.out.mono ?_
          rintro e w' ⟨rfl, rfl⟩
          go_wp2
          go_ret
          exact ⟨ret_bool (HE.out.trans HG2.out).symm, rfl⟩
      · have HG2 := Lib.hid (HN.out (by rw [HG.out, e]; rfl))
        clear HS HN HG
        go_wp2_with (first | (go_at_call 33; refine (within_any _ _ _ _).mono ?_; rintro e w' ⟨rfl, rfl⟩))
        go_ret
        exact ⟨ret_bool (HE.out.trans HG2.out).symm, rfl⟩
    · obtain rfl : k = n := by omega
      clear hcell
      go_wp2
      go_ret
      exact ⟨ret_bool (HE.out.trans ((okCards_iff xs).2 (by rw [hl.out]; exact HT.out))).symm, rfl⟩

set_option maxHeartbeats 1600000 in
set_option maxRecDepth 100000 in
theorem legal_any (a : Option Addr) (n c : Nat) (xs : List Int) (led : Int) (w : World) (h : Ints w a n c xs) (h1 : 1 ≤ n) (hn : n ≤ 16) (hx : ∀ x ∈ xs, 0 ≤ x ∧ x ≤ 51) (hl0 : 0 ≤ led) (hl1 : led ≤ 51) :
    Calls Try.prog 24 #[.slice a n c, .int .i64 led] w (RetL w (legalL xs led)) := by
  obtain ⟨i0, hi, hz0, hz1, hz2⟩ := info_parts infoI64
  have hl := Lib.hid h.len
  obtain ⟨hc, hb, hcell⟩ := h.at
  have HH := Lib.hid h
  have HX := Lib.hid hx
  have HR : Hid (legalL xs led = if (xs.filter (suit led)).isEmpty then isort xs else isort (xs.filter (suit led))) := rfl
  clear h hx
  go_enter Try.func24, Try.ntmps24
  go_wp2
  go_loopw [5, 11] (fun vo vi wr => ∃ (k : Nat) (oa : Option Addr) (oc : Nat), k ≤ n ∧ vi = .int .i64 k ∧ vo = .slice oa ((xs.take k).filter (suit led)).length oc ∧ Below w.heap.size w wr ∧ wr.ownsRow w.heap.size 2 1 (.slice oa ((xs.take k).filter (suit led)).length oc) ((xs.take k).filter (suit led)).length (intCells ((xs.take k).filter (suit led)))) (fun _ vi _ => n - (intOf vi).toNat)
  case atStart => exact ⟨0, _, _, by omega, rfl, rfl, (Below.refl _ _).alloc (Nat.le_refl _) _, World.ownsRow_made w #[] 0 (Nat.le_refl _) (by unfold maxLen; omega) rfl⟩
  case round =>
    obtain ⟨k, oa, oc, hk, rfl, rfl, hbel, hown⟩ := hrel
    have HB := Lib.hid hbel
    have HO := Lib.hid hown
    clear hbel
    by_cases hlt : k < n
    · obtain ⟨b, off, rfl, hlb, hy⟩ := hcell k hlt
      have c0 := cell_on HB.out (hy k hlt)
      have hmx := HX.out (xs.getD k 0) (getD_mem (by rw [hl.out]; exact hlt))
      have HF := Lib.hid (filter_take_succ (suit led) xs k (by rw [hl.out]; exact hlt))
      have hfl : ((xs.take k).filter (suit led)).length ≤ 16 := by have h1 := List.length_filter_le (suit led) (xs.take k); have h2 := List.length_take_le k xs; omega
      have HSu : Hid (suit led (xs.getD k 0) = (xs.getD k 0 / 13 == led / 13)) := rfl
      clear hcell hy
      generalize xs.getD k 0 = y at *
      generalize hF : (xs.take k).filter (suit led) = F at *
      clear hF
      rcases Bool.eq_false_or_eq_true (y / 13 == led / 13) with e | e
      · have HF2 : Hid ((xs.take (k + 1)).filter (suit led) = F ++ [y]) := by show _ = _; rw [HF.out, if_pos (by rw [HSu.out, e])]
        clear HF HSu
        go_wp2_with (first | (at_builtin; go_must (refine wpList_append_own _ rfl _ _ 25 rfl w.heap.size 2 i0 (.int .i64 0) 1 8 Try.underlying25 hi hz0 hz1 hz2 rfl (by decide) _ _ _ rfl (hown.alloc _) ⟨wr.heap.size, 0, none⟩ 1 1 [.int .i64 y] rfl rfl (new1 _ _ _) (one1 rfl) (by unfold maxLen; omega) (by omega) (by have := HB.out.size; simp; omega) ?_); intro v' w5 hown1 hg1 _))
        have HB5 := Lib.hid (below_app HB.out HB.out.size hg1 hown)
        obtain ⟨a5, c5, rfl⟩ := own_form hown1
        have HO5 : Hid (w5.ownsRow w.heap.size 2 1 (.slice a5 (F.length + 1) c5) (F.length + 1) (intCells (F ++ [y]))) := by
          show w5.ownsRow _ _ _ _ _ _
          rw [intCells_snoc]
          exact hown1
        clear hown1 hg1 hown c0
        go_wp2
        go_roundw
        case rel =>
          have e2 := HF2.out
          refine ⟨k + 1, a5, c5, by omega, by go_num, ?_, HB5.out, ?_⟩
          · rw [e2]; simp
          · rw [e2, List.length_append]; exact HO5.out
        case measure => simp [intOf]; omega
      · have HF2 : Hid ((xs.take (k + 1)).filter (suit led) = F) := by show _ = _; rw [HF.out, if_neg (by rw [HSu.out, e]; exact Bool.false_ne_true)]
        clear HF HSu hown
        go_wp2
        go_roundw
        case rel =>
          have e2 := HF2.out
          refine ⟨k + 1, oa, oc, by omega, by go_num, ?_, HB.out, ?_⟩
          · rw [e2]
          · rw [e2]; exact HO.out
        case measure => simp [intOf]; omega
    · obtain rfl : k = n := by omega
      have e0 : xs.take k = xs := List.take_of_length_le (by rw [hl.out]; exact Nat.le_refl _)
      have HR2 := HR.out
      clear HR
      rw [e0] at HO hown ⊢
      generalize hF : xs.filter (suit led) = F at *
      have hfl : F.length ≤ k := by rw [← hF, ← hl.out]; exact List.length_filter_le _ _
      clear hF e0 hcell
      by_cases hz : F.length = 0
      · rw [if_pos (by simpa using hz)] at HR2
        have HR3 := Lib.hid HR2
        have hz' : ((F.length : Int) == 0) = true := by simp [hz]
        clear HR2 hz hown
        go_wp2_with (fail)
        refine (cloneI64_any _ _ _ _ _ (HH.out.mono HB.out) (by omega)).mono ?_
        rintro e w2 ⟨ca, cc, rfl, hb2, ho2⟩
        obtain ⟨g, rfl⟩ := own_some ho2 (by omega)
        have hgb := (own_block ho2).1
        have HB2 := Lib.hid (HB.out.trans (hb2.mono HB.out.size))
        have hs2 := HB.out.size
        have CS := Lib.hid (sortI64_any _ _ _ _ _ _ ho2 (by omega))
        clear hb2 ho2
        go_wp2_with (fail)
        refine CS.out.mono ?_
        rintro e w3 ⟨rfl, hc3, ho3⟩
        have HB3 := Lib.hid (below_chg HB2.out HB2.out.size (by omega) hc3)
        have HO3 := Lib.hid ho3
        clear hc3 ho3
        go_wp2
        go_ret
        exact ⟨_, _, _, rfl, HB3.out, by rw [HR3.out]; exact ownsRow_low HO3.out hs2⟩
      · rw [if_neg (by simpa using hz)] at HR2
        have HR3 := Lib.hid HR2
        have hz' : ((F.length : Int) == 0) = false := by simp only [beq_eq_false_iff_ne]; omega
        obtain ⟨g, rfl⟩ := own_some hown (by omega)
        have hgb := (own_block hown).1
        have CS := Lib.hid (sortI64_any _ _ _ _ _ _ hown (by omega))
        clear HR2 hz hown
        go_wp2_with (fail)
        refine CS.out.mono ?_
        rintro e w3 ⟨rfl, hc3, ho3⟩
        have HB3 := Lib.hid (below_chg HB.out HB.out.size (by omega) hc3)
        have HO3 := Lib.hid ho3
        clear hc3 ho3
        go_wp2
        go_ret
        exact ⟨_, _, _, rfl, HB3.out, by rw [HR3.out]; exact HO3.out⟩

theorem implLegalPlays_any (a : Option Addr) (n c : Nat) (xs : List Int) (led : Int) (w : World) (h : Ints w a n c xs) :
    Calls Try.prog 13 #[.slice a n c, .int .i64 led] w (RetI 2 w (legalRes xs led)) := by
  obtain ⟨hc, hb, _⟩ := h.at
  have hl := Lib.hid h.len
  have HRn : Hid (¬ (1 ≤ n ∧ n ≤ 6 ∧ okCards xs = true ∧ inB led 0 51 = true) → legalRes xs led = ([], false)) := fun hno => by unfold legalRes; rw [hl.out, if_neg hno]
  have HC := Lib.hid (isHand_any a n c xs 1 6 w h (by omega) (by omega))
  by_cases hok : 1 ≤ n ∧ n ≤ 6 ∧ okCards xs = true
  case neg =>
    have HR := Lib.hid (HRn.out (fun e => hok ⟨e.1, e.2.1, e.2.2.1⟩))
    have HF : Hid ((decide (1 ≤ n) && decide (n ≤ 6) && okCards xs) = false) := by
      show _ = _
      rw [← Bool.not_eq_true]
      simp only [Bool.and_eq_true, decide_eq_true_eq]
      exact fun e => hok ⟨e.1.1, e.1.2, e.2⟩
    clear h HRn hok
    generalize (decide (1 ≤ n) && decide (n ≤ 6) && okCards xs) = r at *
    obtain rfl := HF.out
    go_enter Try.func13, Try.ntmps13
    go_wp2_with (fail)
    refine HC.out.mono ?_
    rintro e w1 ⟨rfl, rfl⟩
    go_wp2
    go_ret2
    exact RetI.nil HR.out (Below.refl _ _)
  obtain ⟨h1, h6, ho⟩ := hok
  have HT : Hid ((decide (1 ≤ n) && decide (n ≤ 6) && okCards xs) = true) := by show _ = _; simp [h1, h6, ho]
  generalize (decide (1 ≤ n) && decide (n ≤ 6) && okCards xs) = r at *
  obtain rfl := HT.out
  rcases Bool.eq_false_or_eq_true (inB led 0 51) with e | e
  case inr =>
    have HR := Lib.hid (HRn.out (by rw [e]; simp))
    clear h HRn
    go_enter Try.func13, Try.ntmps13
    go_wp2_with (fail)
    refine HC.out.mono ?_
    rintro e w1 ⟨rfl, rfl⟩
    go_wp2_with (first | (go_at_call 33; refine (within_any _ _ _ _).mono ?_; rintro e w' ⟨rfl, rfl⟩))
    go_ret2
    exact RetI.nil HR.out (Below.refl _ _)
  have HR : Hid (legalRes xs led = (legalL xs led, true)) := by
    show _ = _
    unfold legalRes
    rw [hl.out, if_pos ⟨h1, h6, ho, e⟩]
  have hin := (inB_iff _ _ _).1 e
  have CL := Lib.hid (legal_any a n c xs led w h h1 (by omega) (okCards_rng ho) hin.1 hin.2)
  clear h HRn hin
  go_enter Try.func13, Try.ntmps13
  go_wp2_with (fail)
  refine HC.out.mono ?_
  rintro e w1 ⟨rfl, rfl⟩
  go_wp2_with (first | (go_at_call 33; refine (within_any _ _ _ _).mono ?_; rintro e w' ⟨rfl, rfl⟩))
  refine CL.out.mono ?_
  rintro e w2 ⟨la, ln, lc, rfl, hb2, ho2⟩
  have HB := Lib.hid hb2
  have HO := Lib.hid ho2
  clear hb2 ho2
  go_wp2
  go_ret2
  exact RetI.ok HR.out HB.out HO.out

end Go.Proofs.Ytgldfmkjnggedaa
