/- SwissPairs, impl: whole. -/
import Derived.Test.YthakjkhceeocfaaSwissC
import Derived.Deep.RegionHeld3
import Derived.Deep.AppendLies
namespace Go.Proofs.Ythakjkhceeocfaa
open Go.RowKit Go.Shelf Go.Sort
set_option linter.unusedVariables false

theorem SwissPairs1_any (met : List Int) (n an x b1 b2 b3 : Nat) (a' : Option Addr) (n' c' : Nat) (w : World) (h : Ints w a' n' c' met) (hn' : n' = n * n) (h16 : n ≤ 16) (hx : x < n) (han : an < n)
    (e1 : w.cell? ⟨b1, 0, none⟩ = some (.slice a' n' c')) (e2 : w.cell? ⟨b2, 0, none⟩ = some (.int .i64 an)) (e3 : w.cell? ⟨b3, 0, none⟩ = some (.int .i64 n)) :
    Calls Try.prog 39 #[.int .i64 x, .pointer (some ⟨b1, 0, none⟩), .pointer (some ⟨b2, 0, none⟩), .pointer (some ⟨b3, 0, none⟩)] w (Ret w (.bool (freeOf met n an x))) := by
  obtain ⟨hc, hb, hcell⟩ := h.at
  clear h
  have hm : an * n + x < n' := by
    rw [hn']
    have : (an + 1) * n ≤ n * n := Nat.mul_le_mul_right n han
    rw [Nat.succ_mul] at this
    omega
  have hn2 : n' ≤ 256 := by rw [hn']; have := Nat.mul_le_mul h16 h16; omega
  obtain ⟨b, off, rfl, hlb, hy⟩ := hcell (an * n + x) hm
  have y0 := hy (an * n + x) hm
  have HF : Hid (freeOf met n (an : Int) (x : Int) = (met.getD (an * n + x) 0 == 0)) := by
    show freeOf met n (an : Int) (x : Int) = _
    unfold freeOf
    rw [show ((an : Int) * (n : Int) + (x : Int)).toNat = an * n + x by rw [← Int.natCast_mul, ← Int.natCast_add, Int.toNat_natCast]]
  generalize hq : an * n + x = m at *
  have cm : (an : Int) * n + (x : Int) = (m : Int) := by rw [← hq]; simp
  have b3' : 0 ≤ (an : Int) * n := Int.mul_nonneg (by omega) (by omega)
  clear hcell hy hn' hq
  generalize met.getD m 0 = y at *
  have W1 : IntKind.i64.wrap ((an : Int) * n) = (an : Int) * n := IntWalk.i64_in _ (by omega)
  have W2 : IntKind.i64.wrap (m : Int) = m := IntWalk.i64_in _ (by omega)
  go_enter Try.func39, Try.ntmps39
  go_wp2
  go_ret
  exact ⟨ret_bool HF.out.symm, Below.refl _ _⟩

set_option maxHeartbeats 2000000 in
set_option maxRecDepth 100000 in
theorem implSwissPairs_any (a : Option Addr) (n c : Nat) (sc : List Int) (a' : Option Addr) (n' c' : Nat) (met : List Int) (w : World) (h : Ints w a n c sc) (h' : Ints w a' n' c' met) :
    Calls Try.prog 17 #[.slice a n c, .slice a' n' c'] w (RetI 2 w (swRes sc met)) := by
  have hl := Lib.hid h.len
  have hl' := Lib.hid h'.len
  obtain ⟨hc, hb, _⟩ := h.at
  obtain ⟨hc', hb', _⟩ := h'.at
  have HB0 : Hid (Below w.heap.size w ((w.alloc (.cells #[.slice a' n' c'] 24)).alloc (.cells #[.int .i64 n] 3))) := ((Below.refl _ _).alloc (Nat.le_refl _) _).alloc (by simp) _
  have C1 := Lib.hid (fun W (hW : Below w.heap.size w W) => arePlayers_any a n c sc W (h.mono hW))
  have HRn : Hid (¬ (okScores sc = true ∧ sc.length % 2 = 0 ∧ met.length = sc.length * sc.length ∧ metOks met sc.length = true) → swRes sc met = ([], false)) := fun hno => by unfold swRes; rw [if_neg hno]
  rcases Bool.eq_false_or_eq_true (okScores sc) with hok | hok
  case inr =>
    have HR := Lib.hid (HRn.out (by rw [hok]; simp))
    clear h h' HRn
    go_enter Try.func17, Try.ntmps17
    go_wp2_with (fail)
    refine (C1.out _ HB0.out).mono ?_
    rintro e w1 ⟨rfl, hb1⟩
    have HB1 := Lib.hid (HB0.out.trans (hb1.mono HB0.out.size))
    clear hb1
    go_wp2
    go_ret2
    exact RetI.nil HR.out HB1.out
  have hln := okScores_len hok
  rw [hl.out] at hln
  by_cases he : n % 2 = 0
  case neg =>
    have HR := Lib.hid (HRn.out (by rw [hl.out]; exact fun e => he e.2.1))
    have hT : (n : Int).tmod 2 = 1 := by rw [Int.tmod_eq_emod_of_nonneg (by omega)]; omega
    clear h h' HRn
    go_enter Try.func17, Try.ntmps17
    go_wp2_with (fail)
    refine (C1.out _ HB0.out).mono ?_
    rintro e w1 ⟨rfl, hb1⟩
    have HB1 := Lib.hid (HB0.out.trans (hb1.mono HB0.out.size))
    have x0 := cell_on hb1 (p := ⟨w.heap.size, 0, none⟩) (v := .slice a' n' c') (by simp)
    have x1 := cell_on hb1 (p := ⟨w.heap.size + 1, 0, none⟩) (v := .int .i64 n) (by simp)
    clear hb1
    go_wp2
    go_ret2
    exact RetI.nil HR.out HB1.out
  have hT : (n : Int).tmod 2 = 0 := by rw [Int.tmod_eq_emod_of_nonneg (by omega)]; omega
  have C2 := Lib.hid (fun W (hW : Below w.heap.size w W) => areMet_any n a' n' c' met W (h'.mono hW) hln.2 (by omega))
  by_cases hmt : n' = n * n ∧ metOks met n = true
  case neg =>
    have HR := Lib.hid (HRn.out (by rw [hl.out, hl'.out]; exact fun e => hmt e.2.2))
    have HF : Hid ((decide (n' = n * n) && metOks met n) = false) := by
      show _ = _
      rw [← Bool.not_eq_true, Bool.and_eq_true, decide_eq_true_eq]
      exact hmt
    clear h h' HRn hmt
    go_enter Try.func17, Try.ntmps17
    go_wp2_with (fail)
    refine (C1.out _ HB0.out).mono ?_
    rintro e w1 ⟨rfl, hb1⟩
    have HB1 := Lib.hid (HB0.out.trans (hb1.mono HB0.out.size))
    have x0 := cell_on hb1 (p := ⟨w.heap.size, 0, none⟩) (v := .slice a' n' c') (by simp)
    have x1 := cell_on hb1 (p := ⟨w.heap.size + 1, 0, none⟩) (v := .int .i64 n) (by simp)
    clear hb1
    go_wp2_with (fail)
    refine (C2.out _ HB1.out).mono ?_
    rintro e w2 ⟨rfl, rfl⟩
    have ef := HF.out
    go_wp2
    go_ret2
    exact RetI.nil HR.out HB1.out
  obtain ⟨hnn, hmk⟩ := hmt
  have HNN := Lib.hid hnn
  have HF : Hid ((decide (n' = n * n) && metOks met n) = true) := by show _ = _; simp [hnn, hmk]
  have HR : Hid (swRes sc met = swF met n n (tieList sc (zeros n)) []) := by
    show swRes sc met = _
    unfold swRes
    rw [hl.out, hl'.out, if_pos ⟨hok, he, hnn, hmk⟩]
  have HTi : Hid (tieRes sc (zeros n) = (tieList sc (zeros n), true)) := by
    show tieRes sc (zeros n) = _
    unfold tieRes
    rw [if_pos]
    refine ⟨hok, by simp [zeros, hl.out], ?_⟩
    rw [List.all_eq_true]
    intro x hx
    simp only [zeros, List.mem_replicate] at hx
    rw [hx.2]
    rfl
  have HLf := Lib.hid (Left.all sc n hl.out)
  have HTl : Hid ((tieList sc (zeros n)).length = n) := by show _ = _; rw [tieList_len, hl.out]
  have C3 := Lib.hid (fun (za : Option Addr) (zc : Nat) W (hW : Below w.heap.size w W) hz => implTieOrder_any a n c sc za n zc (zeros n) W (h.mono hW) hz)
  have HI := Lib.hid h'
  generalize hS0 : tieList sc (zeros n) = S0 at *
  generalize hT0 : swF met n n S0 [] = T at *
  have HT0 := Lib.hid hT0
  obtain ⟨i0, hi, hz0, hz1, hz2⟩ := info_parts infoI64
  clear h h' HRn hnn hmk hS0 hT0
  go_enter Try.func17, Try.ntmps17
  go_wp2_with (fail)
  refine (C1.out _ HB0.out).mono ?_
  rintro e w1 ⟨rfl, hb1⟩
  have HB1 := Lib.hid (HB0.out.trans (hb1.mono HB0.out.size))
  have x0 := cell_on hb1 (p := ⟨w.heap.size, 0, none⟩) (v := .slice a' n' c') (by simp)
  have x1 := cell_on hb1 (p := ⟨w.heap.size + 1, 0, none⟩) (v := .int .i64 n) (by simp)
  have hs1 : w.heap.size + 2 ≤ w1.heap.size := by have := hb1.size; simp at this; omega
  clear hb1
  go_wp2_with (fail)
  refine (C2.out _ HB1.out).mono ?_
  rintro e w2 ⟨rfl, rfl⟩
  have ef := HF.out
  go_wp2_with (first | (at_make; go_must (refine wpList_make_full _ rfl _ _ 24 rfl w1.heap.size 2 i0 _ 1 Try.underlying24 hi hz0 hz1 _ _ _ _ n rfl rfl rfl rfl (by rw [hz2]; omega) (by unfold maxLen; omega) (by simp) ?_; intro w2 hown2 hg2)))
  have HBz := Lib.hid (below_made HB1.out HB1.out.size hg2)
  have y0 := hg2.cell x0 (by simp)
  have y1 := hg2.cell x1 (by simp)
  have hs2 := hg2.size
  have hz : w2.ownsRow w1.heap.size 2 1 (.slice (some ⟨w1.heap.size, 0, none⟩) n n) n (intCells (zeros n)) := by
    have := hown2
    rw [made_const _ (.int .i64 0) (by decide) (by intro i hi; match i, hi with | 0, _ => rfl), Nat.mul_one] at this
    rw [zeros, intCells_zero]
    exact this
  have C4 := C3.out _ _ _ HBz.out (Rd.own hz)
  rw [HTi.out] at C4
  have HC4 := Lib.hid C4
  clear x0 x1 hown2 hg2 hz C4
  go_wp2_with (fail)
  refine HC4.out.mono ?_
  rintro e w3 ⟨da, dn, dc, rfl, hb3, ho3⟩
  have HB3 := Lib.hid (HBz.out.trans (hb3.mono HBz.out.size))
  have x0 := cell_on hb3 y0
  have x1 := cell_on hb3 y1
  have hs3 := hb3.size
  have hdn : dn = n := by have := ho3.1; rw [intCells_len] at this; dsimp only at this; have := HTl.out; omega
  subst hdn
  obtain ⟨g, rfl⟩ := own_some ho3 (by omega)
  have hg := own_block ho3
  have HA0 : Hid (At w3 g 0 dc S0) := ⟨own_holds ho3, by rw [HTl.out]; exact (Rd.own ho3).2.1, (Rd.own ho3).2.2.1, hg.2⟩
  have HX0 := Lib.hid x0
  have HX1 := Lib.hid x1
  clear y0 y1 hb3 ho3 x0 x1 HC4
  go_wp2
  have HAl := Lib.hid ((Below.refl w3.heap.size w3).alloc (Nat.le_refl _) (.cells #[] 2))
  go_loopw [7, 9] (fun vo vr wr => ∃ (S O : List Int) (off c2 f oc : Nat) (oa : Option Addr), vo = .slice (some ⟨g, off, none⟩) S.length c2 ∧ vr = .slice oa O.length oc ∧ O.length + S.length = dn ∧ S.length % 2 = 0 ∧ S.length ≤ f ∧ Left sc dn S ∧ swF met dn f S O = T ∧ At wr g off c2 S ∧ Below w.heap.size w wr ∧ wr.ownsRow w3.heap.size 2 1 (.slice oa O.length oc) O.length (intCells O) ∧ wr.cell? ⟨w.heap.size, 0, none⟩ = some (.slice a' n' c') ∧ wr.cell? ⟨w.heap.size + 1, 0, none⟩ = some (.int .i64 dn) ∧ w3.heap.size ≤ wr.heap.size) (fun vo _ _ => lenV vo)
  case atStart => exact ⟨S0, [], 0, dc, dn, 0, _, by rw [HTl.out], rfl, by rw [HTl.out]; simp, by rw [HTl.out]; exact he, by rw [HTl.out]; exact Nat.le_refl _, HLf.out, HT0.out, HA0.out.below HAl.out, HB3.out.trans (HAl.out.mono HB3.out.size), World.ownsRow_made w3 #[] 0 (Nat.le_refl _) (by unfold maxLen; omega) rfl, cell_on HAl.out HX0.out, cell_on HAl.out HX1.out, by simp⟩
  case round =>
    obtain ⟨S, O, off, c2, f, oc, oa, rfl, rfl, eLen, ePar, hf, hleft, eT, hat, hbel, hown, z0, z1, hsz⟩ := hrel
    have HLen := Lib.hid eLen
    have HPar := Lib.hid ePar
    have HLe := Lib.hid hleft
    have HTq := Lib.hid eT
    have HA := Lib.hid hat
    have HB := Lib.hid hbel
    generalize hol : O.length = ol at *
    have HOl := Lib.hid hol
    have HO := Lib.hid hown
    clear eLen ePar hleft eT hbel hol hown HA0 HX0 HX1 HAl HLf HT0 HTi HTl
    cases S with
    | nil =>
      have e := HTq.out
      rw [swF_nil] at e
      have HE := Lib.hid e
      have h0 : decide ((0 : Int) < (([] : List Int).length : Int)) = false := rfl
      clear e hat
      simp only [List.length_nil] at *
      go_wp2
      go_ret2
      exact RetI.ok (HR.out.trans HE.out.symm) HB.out (ownsRow_low HO.out (by omega))
    | cons a0 rest =>
      have hra := HLe.out.rng a0 List.mem_cons_self
      obtain ⟨an, rfl⟩ : ∃ an : Nat, a0 = (an : Int) := ⟨a0.toNat, by omega⟩
      have hank : an < dn := by omega
      obtain ⟨f, rfl⟩ : ∃ f', f = f' + 1 := ⟨f - 1, by simp at hf; omega⟩
      have HF1 : Hid (rest.length ≤ f) := by show _ ≤ _; simp at hf; omega
      have hpar : (rest.length + 1) % 2 = 0 := HPar.out
      have hrl : 1 ≤ rest.length := by omega
      have hcap : rest.length + 1 ≤ c2 ∧ c2 ≤ 9223372036854775807 := ⟨hat.2.1, hat.2.2.1⟩
      have y0 : wr.cell? ⟨g, off, none⟩ = some (.int .i64 an) := by have := (hat.1 0 (by simp)).1; simpa using this
      have hlen : ((((an : Int) :: rest).length : Nat) : Int) = (rest.length : Int) + 1 := by simp
      clear hf hra hat HPar
      simp only [List.length_cons] at *
      have HAl := Lib.hid ((Below.refl wr.heap.size wr).alloc (Nat.le_refl _) (.cells #[.int .i64 an] 2))
      have HAt := Lib.hid ((HA.out.below HAl.out).tail)
      have q0 := cell_on HAl.out z0
      have q1 := cell_on HAl.out z1
      have q2 : (wr.alloc (.cells #[.int .i64 an] 2)).cell? ⟨wr.heap.size, 0, none⟩ = some (.int .i64 an) := by simp
      have CI := Lib.hid (indexFuncI64_any (freeOf met dn (an : Int)) 39 #[.pointer (some ⟨w.heap.size, 0, none⟩), .pointer (some ⟨wr.heap.size, 0, none⟩), .pointer (some ⟨w.heap.size + 1, 0, none⟩)] (enters_of Try.func39 (by kernel_rfl) rfl) _ _ _ rest _ HAt.out.ints
        (fun W hW x hx => by
          have hrx := HLe.out.tail.rng x hx
          obtain ⟨xn, rfl⟩ : ∃ xn : Nat, x = (xn : Int) := ⟨x.toNat, by omega⟩
          exact SwissPairs1_any met dn an xn _ _ _ a' n' c' W (HI.out.mono ((HB.out.trans (HAl.out.mono HB.out.size)).trans (hW.mono (by simp; have := HB.out.size; omega)))) HNN.out hln.2 (by omega) hank (cell_on hW q0) (cell_on hW q2) (cell_on hW q1)))
      have HSec := Lib.hid (firstIdx_range (freeOf met dn (an : Int)) rest)
      have HT2 := Lib.hid ((swF_cons met dn f (an : Int) rest O).symm.trans HTq.out)
      generalize firstIdx (freeOf met dn (an : Int)) rest = ix at *
      go_wp2_with (fail)
      refine CI.out.mono ?_
      rintro e w5 ⟨rfl, hb5⟩
      have HB5 := Lib.hid (HAl.out.trans (hb5.mono HAl.out.size))
      have r2 := cell_on hb5 q2
      have hs5 := HB5.out.size
      have hs5' : wr.heap.size + 1 ≤ w5.heap.size := by have := hb5.size; simp at this; omega
      clear hb5 q0 q1 q2 CI
      by_cases hix : ix < 0
      · have e2 := HT2.out
        rw [if_pos hix] at e2
        have HE := Lib.hid e2
        clear e2
        go_wp2
        go_ret2
        exact RetI.nil (HR.out.trans HE.out.symm) (HB.out.trans (HB5.out.mono HB.out.size))
      · obtain ⟨i, rfl⟩ : ∃ i : Nat, ix = (i : Int) := ⟨ix.toNat, by omega⟩
        have hil : i < rest.length := by have := HSec.out; omega
        have e2 := HT2.out
        rw [if_neg hix, Int.toNat_natCast] at e2
        have HE := Lib.hid e2
        have HA5 := Lib.hid ((HA.out.below HB5.out).tail)
        have hm := HLe.out.tail.rng (rest.getD i 0) (getD_mem hil)
        obtain ⟨bn, hbn⟩ : ∃ bn : Nat, rest.getD i 0 = (bn : Int) := ⟨(rest.getD i 0).toNat, by omega⟩
        have r3 : w5.cell? ⟨g, off + 1 + i, none⟩ = some (.int .i64 bn) := by
          rw [← hbn]
          have := (HA5.out.1 i (by simpa using hil)).1
          rw [this]
          simp [hil]
        have HBn := Lib.hid hbn
        have hO5 := ownsRow_below HO.out HB5.out
        have hol16 : ol ≤ 16 := by have := HLen.out; omega
        clear e2 hm hbn HSec HT2
        have hIo := own_in HO.out
        have ag : (Value.slice oa ol oc).ownBlock ≠ some wr.heap.size := by
          cases oa with
          | none => simp [Value.ownBlock]
          | some y => have := hIo y rfl; simp only [Value.ownBlock]; intro e; have := Option.some_inj.1 e; omega
        have ak : (Value.slice oa ol oc).ownBlock ≠ some g := by
          cases oa with
          | none => simp [Value.ownBlock]
          | some y => have := hIo y rfl; simp only [Value.ownBlock]; intro e; have := Option.some_inj.1 e; omega
        clear hIo
        have lb : wr.heap.size < w5.heap.size := by omega
        have lg : g < w5.heap.size := by omega
        go_wp2
        go_region_held3 (fun W => W.cell? ⟨wr.heap.size, 0, none⟩ = some (.int .i64 an) ∧ W.cell? ⟨g, off + 1 + i, none⟩ = some (.int .i64 bn))
          (first
            | go_keep
            | (go_split_ands
               refine ⟨?_, ?_⟩
               · (rw [hg1.cell_far _ (by simp; omega) (Ne.symm ag)]; assumption)
               · (rw [hg1.cell_far _ (by simp; omega) (Ne.symm ak)]; assumption)))
          ((refine step_append_lies _ (by rfl) _ _ _ (by rfl) w3.heap.size 2 i0 _ 1 8 Try.underlying24 hi hz0 hz1 hz2 rfl (by omega) (.slice oa ol oc) ol (intCells O) (by rfl) ((hO5.alloc _).drew)
                ⟨w5.heap.size, 0, none⟩ 2 2 [.int .i64 an, .int .i64 bn] (by rfl) (by rfl) (new2S _ _ _ _ _ (by simp)) (one2 rfl rfl) (by omega) (by unfold maxLen; omega) (by omega) (by simp; omega) (w5.heap.size + 1) (by simp) ?_; intro gg cap w6 hown1 hg1 hat hlt))
        have hg2 : (w5.alloc (.cells #[.int .i64 an, .int .i64 bn] 2)).grownBy w6 (Value.slice oa ol oc).ownBlock := ⟨hg1.os, hg1.tape, hg1.output, hg1.size, hg1.block⟩
        have HC6 := Lib.hid ((Chg.of_below (lo := w3.heap.size) (hi := w5.heap.size) ((Below.refl w5.heap.size w5).alloc (Nat.le_refl _) (.cells #[.int .i64 an, .int .i64 bn] 2)) (Nat.le_refl _)).trans (Chg.of_grown (own_in hO5) hg2))
        have HB6 := Lib.hid (below_chg (HB.out.trans (HB5.out.mono HB.out.size)) (by have := HB.out.size; omega) (by omega) HC6.out)
        have HA6 := Lib.hid (HA5.out.chg HC6.out (.inl (by omega)))
        have z6 := HC6.out.cell (cell_on HB5.out z0) (.inl (by dsimp only; omega))
        have z7 := HC6.out.cell (cell_on HB5.out z1) (.inl (by dsimp only; omega))
        have hs6 := HC6.out.size
        have HO6 : Hid (w6.ownsRow w3.heap.size 2 1 (.slice (some ⟨gg, 0, none⟩) (ol + 2) cap) (ol + 2) (intCells (O ++ [(an : Int), (bn : Int)]))) := by
          show w6.ownsRow _ _ _ _ _ _
          rw [show intCells (O ++ [(an : Int), (bn : Int)]) = intCells O ++ intCells [(an : Int), (bn : Int)] from List.map_append]
          exact hown1
        have HI9 := Lib.hid (own_in HO6.out)
        have HOl2 : Hid ((O ++ [(an : Int), (bn : Int)]).length = ol + 2) := by show _ = _; rw [List.length_append, HOl.out]; rfl
        have CD := Lib.hid (deleteAt g (off + 1) (c2 - 1) i rest w6 HA6.out hil)
        have hW1 : IntKind.i64.wrap ((i : Int) + 1) = (i : Int) + 1 := IntWalk.i64_in _ (by omega)
        clear hown1 hg1 hg2 hO5 z0 z1 r2 r3 hat hlt ag ak
        go_wp2_with (fail)
        refine CD.out.mono ?_
        rintro e w7 ⟨rfl, hc7, ha7⟩
        clear hW1
        have HA7 := Lib.hid ha7
        have z8 := hc7.cell z6 (.inl (by dsimp only; omega))
        have z9 := hc7.cell z7 (.inl (by dsimp only; omega))
        have HB7 := Lib.hid (below_chg HB6.out HB6.out.size (by omega) hc7)
        have HO7 : Hid (w7.ownsRow w3.heap.size 2 1 (.slice (some ⟨gg, 0, none⟩) (ol + 2) cap) (ol + 2) (intCells (O ++ [(an : Int), (bn : Int)]))) := own_chg HO6.out hc7 HI9.out (.inr (by omega))
        have hs7 := hc7.size
        have HEl := Lib.hid (List.length_eraseIdx_of_lt hil)
        have HE2 : Hid (swF met dn f (rest.eraseIdx i) (O ++ [(an : Int), (bn : Int)]) = T) := by have := HE.out; rw [HBn.out] at this; exact this
        clear hc7 ha7 z6 z7 CD
        go_wp2
        go_roundw
        case rel =>
          refine ⟨rest.eraseIdx i, O ++ [(an : Int), (bn : Int)], off + 1, c2 - 1, f, cap, some ⟨gg, 0, none⟩, rfl, by rw [HOl2.out], ?_, ?_, ?_, HLe.out.tail.erase i, HE2.out, HA7.out, HB7.out, ?_, z8, z9, by omega⟩
          · rw [HOl2.out, HEl.out]; have := HLen.out; omega
          · rw [HEl.out]; omega
          · rw [HEl.out]; have := HF1.out; omega
          · rw [HOl2.out]; exact HO7.out
        case measure => simp [lenV]; have := HEl.out; omega

end Go.Proofs.Ythakjkhceeocfaa
