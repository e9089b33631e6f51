/- Cards that may be played, spec: l06Cards, l06Sorted, l06Legal, LegalPlays. -/
import Derived.Test.YtaeabngamnkgjaaSortA
import Derived.Test.YtaeabngamnkgjaaBasic
import Derived.Test.YtaeabngamnkgjaaClone
import Derived.Test.YtaeabngamnkgjaaOrderB
import Derived.Test.YtaeabngamnkgjaaChgC
import Derived.IntWalk
namespace Go.Proofs.Ytaeabngamnkgjaa
open Go.RowKit
set_option linter.unusedVariables false

theorem l06Cards_any (a : Option Addr) (n c : Nat) (xs : List Int) (w : World) (h : Ints w a n c xs) :
    Calls Try.prog 55 #[.slice a n c] w (RetQ w (.bool (okCards xs))) := by
  obtain ⟨hc, hb, hcell⟩ := h.at
  have hl := Lib.hid h.len
  have HH := Lib.hid h
  clear h
  go_enter Try.func55, Try.ntmps55
  go_wp2
  go_loopw [3] (fun i wr => ∃ k : Nat, k ≤ n ∧ i = .int .i64 k ∧ (∀ j, j < k → cardAt xs j = true) ∧ Quiet w wr) (fun i _ => n - (intOf i).toNat)
  case atStart => exact ⟨0, by omega, rfl, fun j hj => by omega, Quiet.refl _⟩
  case round =>
    obtain ⟨k, hk, rfl, hto, hq⟩ := hrel
    have HT := Lib.hid hto
    have HQ := Lib.hid hq
    clear hto hq
    by_cases hlt : k < n
    · obtain ⟨b, off, rfl, hlb, hx⟩ := hcell k hlt
      have h0 := cell_on (HQ.out.below _) (hx k hlt)
      have HI : Hid (Ints wr (some ⟨b, off, none⟩) k c (xs.take k)) := (HH.out.mono (HQ.out.below _)).take k hk
      have HS : Hid (cardAt xs k = true → ∀ j, j < k + 1 → cardAt xs j = true) := fun e j hj => by
        by_cases e2 : j = k
        · subst e2; exact e
        · exact HT.out j (by omega)
      have HN : Hid (cardAt xs k = false → okCards xs = false) := fun e => okCards_not (by rw [hl.out]; exact hlt) e
      have HG : Hid (cardAt xs k = (inB (xs.getD k 0) 0 51 && !(xs.take k).contains (xs.getD k 0))) := by
        show cardAt xs k = _
        rw [cardAt, List.contains_eq_any_beq]
      clear hcell hx
      generalize xs.getD k 0 = y at *
      have HHas := Lib.hid (fun q => l02Has_any (some ⟨b, off, none⟩) k c (xs.take k) y (wr.drewN q) HI.out)
      generalize (xs.take k).contains y = cb at *
      rcases Bool.eq_false_or_eq_true (inB y 0 51) with e | e
      · cases cb
        · go_wp2
          go_quiet (first | (go_at_call 56; exact qS (l00In_any _ _ _ _)) | (go_at_call 75; exact qS (HHas.out _)))
          go_wp2
          go_roundw
          case rel => exact ⟨k + 1, by omega, by go_num, HS.out (by rw [HG.out, e]; rfl), HQ.out.trans ⟨_, rfl⟩⟩
          case measure => simp [intOf]; omega
        · go_wp2
          go_quiet (first | (go_at_call 56; exact qS (l00In_any _ _ _ _)) | (go_at_call 75; exact qS (HHas.out _)))
          go_wp2
          go_ret
          exact ⟨ret_bool (HN.out (by rw [HG.out, e]; rfl)).symm, HQ.out.trans ⟨_, rfl⟩⟩
      · go_wp2
        go_quiet (first | (go_at_call 56; exact qS (l00In_any _ _ _ _)) | (go_at_call 75; exact qS (HHas.out _)))
        go_wp2
        go_ret
        exact ⟨ret_bool (HN.out (by rw [HG.out, e]; rfl)).symm, HQ.out.trans ⟨_, rfl⟩⟩
    · obtain rfl : k = n := by omega
      clear hcell
      go_wp2
      go_ret
      exact ⟨ret_bool ((okCards_iff xs).2 (by rw [hl.out]; exact HT.out)).symm, HQ.out⟩

/-- It returns a list of numbers of its own. -/
def RetL (w : World) (xs : List Int) (e : Ending) (w' : World) : Prop :=
  ∃ a n c, e = .returned (.slice a n c) ∧ Below w.heap.size w w' ∧ w'.ownsRow w.heap.size 2 1 (.slice a n c) n (intCells xs)

set_option maxHeartbeats 1600000 in
set_option maxRecDepth 100000 in
theorem l06Sorted_any (a : Option Addr) (n c : Nat) (xs : List Int) (w : World) (h : Ints w a n c xs) (h1 : 1 ≤ n) (hn : n ≤ 16) :
    Calls Try.prog 76 #[.slice a n c] w (RetL w (isort xs)) := by
  obtain ⟨i0, hi, hz0, hz1, hz2⟩ := info_parts infoI64
  have hl := Lib.hid h.len
  obtain ⟨hc, hb, hcell⟩ := h.at
  obtain ⟨b, off, rfl, _⟩ := hcell 0 (by omega)
  have hN' := Lib.hid h.news
  have hL : Hid ((intCells xs).length = n * 1) := h.1
  clear h hcell
  go_enter Try.func76, Try.ntmps76
  go_wp2_with (first | (at_builtin; go_must (refine wpList_append_own _ rfl _ _ 25 rfl w.heap.size 2 i0 (.int .i64 0) 1 8 Try.underlying25 hi hz0 hz1 hz2 rfl (by decide) _ _ _ rfl (World.ownsRow_made w #[] 0 (Nat.le_refl _) (Nat.zero_le _) (by simp)) ⟨b, off, none⟩ n c (intCells xs) rfl hL.out (fun j u hu => cell_on ((Below.refl _ _).alloc (Nat.le_refl _) _) (hN'.out j u hu)) (intCells_one xs) (by unfold maxLen; omega) (by omega) (by simp) ?_); intro v' w1 hown1 hg1 _))
  have M : (w.alloc (.cells #[] 2)).ownsRow w.heap.size 2 1 (.slice (some ⟨w.heap.size, 0, none⟩) 0 0) 0 [] := World.ownsRow_made w #[] 0 (Nat.le_refl _) (Nat.zero_le _) (by simp)
  have HB := Lib.hid (below_grown ((Below.refl w.heap.size w).alloc (Nat.le_refl _) _) (by simp) hg1 M)
  simp only [Nat.zero_add, List.nil_append] at hown1
  obtain ⟨a', c', rfl⟩ := own_form hown1
  obtain ⟨g, rfl⟩ := own_some hown1 (by omega)
  have hgb := (own_block hown1).1
  have HO := Lib.hid hown1
  have hcap : n ≤ c' ∧ c' ≤ 9223372036854775807 := by have := Rd.own hown1; exact ⟨this.2.1, this.2.2.1⟩
  clear hown1 hg1 M hN' hL
  go_wp2
  go_loopw [4] (fun vi wr => ∃ (i : Nat) (L : List Int), vi = .int .i64 i ∧ 1 ≤ i ∧ i ≤ n ∧ ISrt xs i L ∧ Below w.heap.size w wr ∧ wr.ownsRow w.heap.size 2 1 (.slice (some ⟨g, 0, none⟩) n c') n (intCells L)) (fun vi _ => n + 1 - (intOf vi).toNat)
  case atStart => exact ⟨1, xs, rfl, by omega, by omega, ISrt.one _ _ (Nat.le_refl _), HB.out, HO.out⟩
  case round =>
    clear HB HO
    obtain ⟨i, L, rfl, hi1, hin, hsrt, hbel, hown⟩ := hrel
    have HR := Lib.hid hsrt
    have HC := Lib.hid hbel
    have HO := Lib.hid hown
    clear hsrt hbel hown
    by_cases hlt : i < n
    · go_wp2
      obtain ⟨wo, rfl⟩ : ∃ wo : World, wo = wr := ⟨_, rfl⟩
      go_loopw [5] (fun vj w2 => ∃ (j : Nat) (L : List Int), vj = .int .i64 j ∧ j ≤ i ∧ IIns xs i j L ∧ Below w.heap.size w w2 ∧ w2.ownsRow w.heap.size 2 1 (.slice (some ⟨g, 0, none⟩) n c') n (intCells L)) (fun vj _ => (intOf vj).toNat)
      case atStart => exact ⟨i, L, rfl, Nat.le_refl _, HR.out.begin (by rw [hl.out]; exact hlt), HC.out, HO.out⟩
      case round =>
        clear HR HC HO L
        obtain ⟨j, L, rfl, hji, hins, hbel, hown⟩ := hrel
        have hI := Lib.hid hins
        have hC := Lib.hid hbel
        have hO := Lib.hid hown
        have HL := Lib.hid hins.len
        clear hins hbel
        by_cases hj0 : 0 < j
        · have c0 := own_get hown j (by omega)
          have c1 := own_get hown (j - 1) (by omega)
          have f := fun q => hown.frozenAt q
          clear hown
          generalize hx : L.getD j 0 = x at *
          generalize hy : L.getD (j - 1) 0 = y at *
          have HX := Lib.hid hx
          have HY := Lib.hid hy
          clear hx hy
          by_cases hcv : x < y
          · have HCv := Lib.hid hcv
            go_wp2
            go_quiet (fail)
            have c0' : (wr.drewN nq).cell? ⟨g, j, none⟩ = some (.int .i64 x) := c0
            have c1' : (wr.drewN nq).cell? ⟨g, j - 1, none⟩ = some (.int .i64 y) := c1
            have f' : ∀ q, (wr.drewN nq).frozen? ⟨g, q, none⟩ = false := f
            clear c0 c1 f
            have HW0 : Hid (Below w.heap.size w (wr.drewN nq)) := below_drewN hC.out _
            have HW1 : Hid ((wr.drewN nq).ownsRow w.heap.size 2 1 (.slice (some ⟨g, 0, none⟩) n c') n (intCells L)) := ownsRow_drewN hO.out _
            generalize wr.drewN nq = wq at *
            go_wp2
            go_roundw
            case rel =>
              refine ⟨j - 1, swapAt L j, by congr 1; omega, by omega, hI.out.step (by rw [hl.out]; exact hlt) hji hj0 (by rw [HX.out, HY.out]; exact HCv.out), ?_, ?_⟩
              · exact (HW0.out.setCell (p := ⟨g, j, none⟩) hgb (.int .i64 y)).setCell (p := ⟨g, j - 1, none⟩) hgb (.int .i64 x)
              · have e1 := HX.out
                have e2 := HY.out
                unfold swapAt
                rw [e1, e2]
                exact own_put (own_put HW1.out j y) (j - 1) x
            case measure => simp [intOf]; omega
          · have d1 : decide (x < y) = false := decide_eq_false hcv
            have HCv := Lib.hid hcv
            clear hcv
            go_wp2
            go_quiet (fail)
            go_wp2
            go_roundw
            case rel => exact ⟨i + 1, L, by go_num, by omega, by omega, hI.out.done hji (.inr (by rw [HX.out, HY.out]; have := HCv.out; omega)), below_drewN hC.out _, ownsRow_drewN hO.out _⟩
            case measure => simp [intOf]; omega
        · obtain rfl : j = 0 := by omega
          clear hown
          go_wp2
          go_quiet (fail)
          go_wp2
          go_roundw
          case rel => exact ⟨i + 1, L, by go_num, by omega, by omega, hI.out.done hji (.inl rfl), below_drewN hC.out _, ownsRow_drewN hO.out _⟩
          case measure => simp [intOf]; omega
    · obtain rfl : i = n := by omega
      go_wp2
      go_ret
      exact ⟨_, _, _, rfl, HC.out, by rw [← HR.out.full (by rw [hl.out]; exact Nat.le_refl _)]; exact HO.out⟩

theorem filter_take_succ (p : Int → Bool) (xs : List Int) (k : Nat) (h : k < xs.length) : (xs.take (k + 1)).filter p = if p (xs.getD k 0) = true then (xs.take k).filter p ++ [xs.getD k 0] else (xs.take k).filter p := by
  rw [List.take_succ_eq_append_getElem h, List.filter_append]
  have e : xs.getD k 0 = xs[k] := by simp [h]
  rw [e]
  split
  · rename_i hp
    rw [List.filter_cons_of_pos hp]
    rfl
  · rename_i hp
    rw [List.filter_cons_of_neg hp, List.filter_nil, List.append_nil]
theorem ne_ownB {lo g n c on oc : Nat} {oa : Option Addr} (hI : ∀ x, oa = some x → lo ≤ x.block) (hg : g < lo) : (Value.slice (some ⟨g, 0, none⟩) n c).ownBlock ≠ (Value.slice oa on oc).ownBlock := by
  cases oa with
  | none => simp [Value.ownBlock]
  | some x => have := hI x rfl; simp only [Value.ownBlock]; intro e; have := Option.some_inj.1 e; omega

set_option maxHeartbeats 1600000 in
set_option maxRecDepth 100000 in
theorem l06Legal_any (a : Option Addr) (n c : Nat) (xs : List Int) (led : Int) (w : World) (h : Ints w a n c xs) (h1 : 1 ≤ n) (hn : n ≤ 16) (hx : ∀ x ∈ xs, 0 ≤ x ∧ x ≤ 51) (hl0 : 0 ≤ led) (hl1 : led ≤ 51) :
    Calls Try.prog 57 #[.slice a n c, .int .i64 led] w (RetL w (legalL xs led)) := by
  obtain ⟨i0, hi, hz0, hz1, hz2⟩ := info_parts infoI64
  have hl := Lib.hid h.len
  have C1 := Lib.hid (l06Sorted_any a n c xs w h h1 hn)
  have HSl : Hid ((isort xs).length = n) := by show _ = _; rw [isort_len, hl.out]
  have HX : Hid (∀ x ∈ isort xs, 0 ≤ x ∧ x ≤ 51) := fun x hx' => hx x ((isort_perm xs).mem_iff.1 hx')
  have HR := Lib.hid (legalL_spec xs led)
  clear h hx
  generalize isort xs = L at *
  go_enter Try.func57, Try.ntmps57
  go_wp2_with (fail)
  refine C1.out.mono ?_
  rintro e w1 ⟨la, ln, lc, rfl, hb1, ho1⟩
  have hln : ln = n := by have := ho1.1; rw [intCells_len] at this; have := HSl.out; omega
  subst hln
  obtain ⟨g, rfl⟩ := own_some ho1 (by omega)
  have hg := own_block ho1
  have HB1 := Lib.hid hb1
  have HO1 := Lib.hid ho1
  have hs1 := hb1.size
  have hcap : ln ≤ lc ∧ lc ≤ 9223372036854775807 := by have := Rd.own ho1; exact ⟨this.2.1, this.2.2.1⟩
  clear hb1 ho1 C1
  go_wp2
  go_loopw [6, 7] (fun vo vi wr => ∃ (k : Nat) (oa : Option Addr) (oc : Nat), k ≤ ln ∧ vi = .int .i64 k ∧ vo = .slice oa ((L.take k).filter (suit led)).length oc ∧ Below w.heap.size w wr ∧ wr.ownsRow w1.heap.size 2 1 (.slice oa ((L.take k).filter (suit led)).length oc) ((L.take k).filter (suit led)).length (intCells ((L.take k).filter (suit led))) ∧ wr.ownsRow w.heap.size 2 1 (.slice (some ⟨g, 0, none⟩) ln lc) ln (intCells L) ∧ w1.heap.size ≤ wr.heap.size) (fun _ vi _ => ln - (intOf vi).toNat)
  case atStart => exact ⟨0, _, _, by omega, rfl, rfl, HB1.out.alloc hs1 _, World.ownsRow_made w1 #[] 0 (Nat.le_refl _) (by unfold maxLen; omega) rfl, HO1.out.alloc _, by simp⟩
  case round =>
    obtain ⟨k, oa, oc, hk, rfl, rfl, hbel, hown, hlist, hsz⟩ := hrel
    have HB := Lib.hid hbel
    have HO := Lib.hid hown
    have HLi := Lib.hid hlist
    clear hbel HO1 HB1
    by_cases hlt : k < ln
    · have c0 := own_get hlist k hlt
      have hmx := HX.out (L.getD k 0) (getD_mem (by rw [HSl.out]; exact hlt))
      have HF := Lib.hid (filter_take_succ (suit led) L k (by rw [HSl.out]; exact hlt))
      have hfl : ((L.take k).filter (suit led)).length ≤ 16 := by have h1 := List.length_filter_le (suit led) (L.take k); have h2 := List.length_take_le k L; omega
      have HSu : Hid (suit led (L.getD k 0) = (L.getD k 0 / 13 == led / 13)) := rfl
      clear hlist
      generalize L.getD k 0 = y at *
      generalize hF : (L.take k).filter (suit led) = F at *
      clear hF
      rcases Bool.eq_false_or_eq_true (y / 13 == led / 13) with e | e
      · have HF2 : Hid ((L.take (k + 1)).filter (suit led) = F ++ [y]) := by show _ = _; rw [HF.out, if_pos (by rw [HSu.out, e])]
        clear HF HSu
        have HNe := Lib.hid (ne_ownB (g := g) (n := ln) (c := lc) (on := F.length) (oc := oc) (fun x hx => (own_in HO.out x hx).1) hg.2)
        go_wp2_with (first | (at_builtin; go_must (refine wpList_append_own _ rfl _ _ 25 rfl w1.heap.size 2 i0 (.int .i64 0) 1 8 Try.underlying25 hi hz0 hz1 hz2 rfl (by decide) _ _ _ rfl (hown.alloc _) ⟨wr.heap.size, 0, none⟩ 1 1 [.int .i64 y] rfl rfl (new1 _ _ _) (one1 rfl) (by unfold maxLen; omega) (by omega) (by simp; omega) ?_); intro v' w5 hown1 hg1 _))
        have HB5 := Lib.hid (below_app HB.out HB.out.size hg1 (ownsRow_low hown hs1))
        have HL5 := Lib.hid ((HLi.out.alloc _).kept hg1 (.inr HNe.out))
        obtain ⟨a5, c5, rfl⟩ := own_form hown1
        have HO5 : Hid (w5.ownsRow w1.heap.size 2 1 (.slice a5 (F.length + 1) c5) (F.length + 1) (intCells (F ++ [y]))) := by
          show w5.ownsRow _ _ _ _ _ _
          rw [intCells_snoc]
          exact hown1
        have hs5 : wr.heap.size ≤ w5.heap.size := by have := hg1.size; simp at this; omega
        clear hown1 hg1 hown c0
        go_wp2
        go_roundw
        case rel =>
          have e2 := HF2.out
          refine ⟨k + 1, a5, c5, by omega, by go_num, ?_, HB5.out, ?_, HL5.out, by omega⟩
          · rw [e2]; simp
          · rw [e2, List.length_append]; exact HO5.out
        case measure => simp [intOf]; omega
      · have HF2 : Hid ((L.take (k + 1)).filter (suit led) = F) := by show _ = _; rw [HF.out, if_neg (by rw [HSu.out, e]; exact Bool.false_ne_true)]
        clear HF HSu hown
        go_wp2
        go_roundw
        case rel =>
          have e2 := HF2.out
          refine ⟨k + 1, oa, oc, by omega, by go_num, ?_, HB.out, ?_, HLi.out, hsz⟩
          · rw [e2]
          · rw [e2]; exact HO.out
        case measure => simp [intOf]; omega
    · obtain rfl : k = ln := by omega
      have e0 : L.take k = L := List.take_of_length_le (by rw [HSl.out]; exact Nat.le_refl _)
      have HR2 := HR.out
      clear HR
      rw [e0] at HO hown ⊢
      generalize hF : L.filter (suit led) = F at *
      have hfl : F.length ≤ k := by rw [← hF, ← HSl.out]; exact List.length_filter_le _ _
      clear hF e0 hlist hown
      by_cases hz : F.length = 0
      · rw [if_pos hz] at HR2
        have HR3 := Lib.hid HR2
        have hz' : ((F.length : Int) == 0) = true := by simp [hz]
        clear HR2 hz
        go_wp2
        go_ret
        exact ⟨_, _, _, rfl, HB.out, by rw [HR3.out]; exact HLi.out⟩
      · rw [if_neg hz] at HR2
        have HR3 := Lib.hid HR2
        have hz' : ((F.length : Int) == 0) = false := by simp only [beq_eq_false_iff_ne]; omega
        clear HR2 hz
        go_wp2
        go_ret
        exact ⟨_, _, _, rfl, HB.out, by rw [HR3.out]; exact ownsRow_low HO.out hs1⟩

theorem specLegalPlays_any (a : Option Addr) (n c : Nat) (xs : List Int) (led : Int) (w : World) (h : Ints w a n c xs) :
    Calls Try.prog 23 #[.slice a n c, .int .i64 led] w (RetI 2 w (legalRes xs led)) := by
  obtain ⟨hc, hb, _⟩ := h.at
  have hl := Lib.hid h.len
  have HRn : Hid (¬ (1 ≤ n ∧ n ≤ 6 ∧ okCards xs = true ∧ inB led 0 51 = true) → legalRes xs led = ([], false)) := fun hno => by unfold legalRes; rw [hl.out, if_neg hno]
  have HC := Lib.hid (l06Cards_any a n c xs w h)
  by_cases h1 : 1 ≤ n
  case neg =>
    have HR := Lib.hid (HRn.out (by omega))
    clear h HRn
    go_enter Try.func23, Try.ntmps23
    go_wp2
    go_ret2
    exact RetI.nil HR.out (Below.refl _ _)
  by_cases h6 : n ≤ 6
  case neg =>
    have HR := Lib.hid (HRn.out (by omega))
    clear h HRn
    go_enter Try.func23, Try.ntmps23
    go_wp2
    go_ret2
    exact RetI.nil HR.out (Below.refl _ _)
  rcases Bool.eq_false_or_eq_true (okCards xs) with ho | ho
  case inr =>
    have HR := Lib.hid (HRn.out (by rw [ho]; simp))
    clear h HRn
    go_enter Try.func23, Try.ntmps23
    go_wp2_with (fail)
    refine HC.out.mono ?_
    rintro e w1 ⟨rfl, hq⟩
    have HQ := Lib.hid hq
    clear hq
    go_wp2
    go_ret2
    exact RetI.nil HR.out (HQ.out.below _)
  rcases Bool.eq_false_or_eq_true (inB led 0 51) with e | e
  case inr =>
    have HR := Lib.hid (HRn.out (by rw [e]; simp))
    clear h HRn
    go_enter Try.func23, Try.ntmps23
    go_wp2_with (fail)
    refine HC.out.mono ?_
    rintro e w1 ⟨rfl, hq⟩
    have HQ := Lib.hid hq
    clear hq
    go_wp2_with (first | (go_at_call 56; refine (l00In_any _ _ _ _).mono ?_; rintro e w' ⟨rfl, rfl⟩))
    go_ret2
    exact RetI.nil HR.out (HQ.out.below _)
  have HR : Hid (legalRes xs led = (legalL xs led, true)) := by
    show _ = _
    unfold legalRes
    rw [hl.out, if_pos ⟨h1, h6, ho, e⟩]
  have hin := (inB_iff _ _ _).1 e
  have CL := Lib.hid (fun W (hW : Below w.heap.size w W) => l06Legal_any a n c xs led W (h.mono hW) h1 (by omega) (okCards_rng ho) hin.1 hin.2)
  clear h HRn hin
  go_enter Try.func23, Try.ntmps23
  go_wp2_with (fail)
  refine HC.out.mono ?_
  rintro e w1 ⟨rfl, hq⟩
  have HQ := Lib.hid hq
  have hs1 := hq.b.size
  clear hq
  go_wp2_with (first | (go_at_call 56; refine (l00In_any _ _ _ _).mono ?_; rintro e w' ⟨rfl, rfl⟩))
  refine (CL.out _ HQ.out.b).mono ?_
  rintro e w2 ⟨la, ln, lc, rfl, hb2, ho2⟩
  have HB := Lib.hid ((HQ.out.below w.heap.size).trans (hb2.mono hs1))
  have HO := Lib.hid ho2
  clear hb2 ho2
  go_wp2
  go_ret2
  exact RetI.ok HR.out HB.out (ownsRow_low HO.out hs1)

end Go.Proofs.Ytaeabngamnkgjaa
