/- LongestLine, spec: l06Longer, l06Search. -/
import Derived.Test.YtnlcgkfdpaffaaaLongB
import Derived.Test.YtnlcgkfdpaffaaaOrderB
import Derived.Test.YtnlcgkfdpaffaaaClone
import Derived.Test.YtnlcgkfdpaffaaaTally
import Derived.Test.YtnlcgkfdpaffaaaI64
import Derived.Deep.Cut
import Derived.Deep.CutRange
namespace Go.Proofs.Ytnlcgkfdpaffaaa
open Go.RowKit Go.Shelf
set_option linter.unusedVariables false

theorem lexle_at : ∀ (xs ys : List Int) (k : Nat), xs.take k = ys.take k → k < xs.length → k < ys.length → xs.getD k 0 ≠ ys.getD k 0 → lexle xs ys = decide (xs.getD k 0 < ys.getD k 0) := by
  intro xs
  induction xs with
  | nil => intro ys k _ h; simp at h
  | cons x xs ih =>
    intro ys k ht h1 h2 hne
    cases ys with
    | nil => simp at h2
    | cons y ys =>
      cases k with
      | zero =>
        simp only [List.getD_cons_zero] at hne ⊢
        simp [lexle, hne]
      | succ k =>
        simp only [List.take_succ_cons, List.cons.injEq] at ht
        simp only [List.getD_cons_succ] at hne ⊢
        simp only [List.length_cons] at h1 h2
        rw [← ih ys k ht.2 (by omega) (by omega) hne]
        simp [lexle, ht.1]
theorem take_step {xs ys : List Int} {k : Nat} (h : xs.take k = ys.take k) (h1 : k < xs.length) (h2 : k < ys.length) (e : xs.getD k 0 = ys.getD k 0) : xs.take (k + 1) = ys.take (k + 1) := by
  rw [List.take_succ_eq_append_getElem h1, List.take_succ_eq_append_getElem h2, h]
  simp [h1, h2] at e
  rw [e]

set_option maxRecDepth 100000 in
theorem l06Longer_any (a : Option Addr) (n c : Nat) (xs : List Int) (a' : Option Addr) (n' c' : Nat) (ys : List Int) (w : World) (h : Ints w a n c xs) (h' : Ints w a' n' c' ys) (V : Value) (hV1 : good xs ys = true → V = .slice a n c) (hV2 : good xs ys = false → V = .slice a' n' c') :
    Calls Try.prog 92 #[.slice a n c, .slice a' n' c'] w (RetQ w V) := by
  have HV1 := Lib.hid hV1
  have HV2 := Lib.hid hV2
  clear hV1 hV2
  obtain ⟨hc, hb, hcell⟩ := h.at
  obtain ⟨hc', hb', hcell'⟩ := h'.at
  have hl := Lib.hid h.len
  have hl' := Lib.hid h'.len
  have HG := Lib.hid (good_iff xs ys)
  clear h h'
  by_cases hne : n = n'
  case neg =>
    have e1 : ((n : Int) != n') = true := by simp; omega
    by_cases hlt : n' < n
    · have HV : Hid (V = .slice a n c) := HV1.out (HG.out.2 (.inl (by rw [hl.out, hl'.out]; exact hlt)))
      clear hcell hcell'
      go_enter Try.func92, Try.ntmps92
      go_wp2
      go_ret
      exact ⟨ret_eq HV.out.symm, Quiet.refl _⟩
    · have HV : Hid (V = .slice a' n' c') := by
        rcases Bool.eq_false_or_eq_true (good xs ys) with e | e
        · exfalso
          rcases HG.out.1 e with q | q
          · rw [hl.out, hl'.out] at q; omega
          · have := q.1; rw [hl.out, hl'.out] at this; omega
        · exact HV2.out e
      clear hcell hcell'
      go_enter Try.func92, Try.ntmps92
      go_wp2
      go_ret
      exact ⟨ret_eq HV.out.symm, Quiet.refl _⟩
  subst hne
  have HLx : Hid (good xs ys = lexle xs ys) := by
    show _ = _
    unfold good
    rw [hl.out, hl'.out]
    simp
  have e1 : ((n : Int) != n) = false := by simp
  go_enter Try.func92, Try.ntmps92
  go_wp2
  go_loopw [5] (fun vi wr => ∃ k : Nat, k ≤ n ∧ vi = .int .i64 k ∧ xs.take k = ys.take k ∧ Quiet w wr) (fun vi _ => n - (intOf vi).toNat)
  case atStart => exact ⟨0, by omega, rfl, rfl, Quiet.refl _⟩
  case round =>
    obtain ⟨k, hk, rfl, ht, hq⟩ := hrel
    have HT := Lib.hid ht
    have HQ := Lib.hid hq
    clear ht hq
    by_cases hlt : k < n
    · obtain ⟨b, off, rfl, hlb, hx⟩ := hcell k hlt
      obtain ⟨b', off', rfl, hlb', hy⟩ := hcell' k hlt
      have x0 := cell_on HQ.out.b (hx k hlt)
      have y0 := cell_on HQ.out.b (hy k hlt)
      have HS : Hid (xs.getD k 0 = ys.getD k 0 → xs.take (k + 1) = ys.take (k + 1)) := fun e => take_step HT.out (by rw [hl.out]; exact hlt) (by rw [hl'.out]; exact hlt) e
      have HN : Hid (xs.getD k 0 ≠ ys.getD k 0 → lexle xs ys = decide (xs.getD k 0 < ys.getD k 0)) := fun e => lexle_at xs ys k HT.out (by rw [hl.out]; exact hlt) (by rw [hl'.out]; exact hlt) e
      clear hcell hcell' hx hy
      generalize xs.getD k 0 = x at *
      generalize ys.getD k 0 = y at *
      by_cases e : x = y
      · have HS2 := Lib.hid (HS.out e)
        have e1 : (x != y) = false := by simp [e]
        clear HS HN e
        go_wp2
        go_quiet (fail)
        go_wp2
        go_roundw
        case rel => exact ⟨k + 1, by omega, by go_num, HS2.out, HQ.out.trans ⟨_, rfl⟩⟩
        case measure => simp [intOf]; omega
      · have HN2 := Lib.hid (HN.out e)
        have e1 : (x != y) = true := by simp [e]
        clear HS HN e
        by_cases hxy : x < y
        · have HV : Hid (V = .slice (some ⟨b, off, none⟩) n c) := HV1.out (by rw [HLx.out, HN2.out]; simpa using hxy)
          go_wp2
          go_quiet (fail)
          go_wp2
          go_quiet (fail)
          go_wp2
          go_ret
          exact ⟨ret_eq HV.out.symm, (HQ.out.trans ⟨_, rfl⟩).trans ⟨_, rfl⟩⟩
        · have HV : Hid (V = .slice (some ⟨b', off', none⟩) n c') := HV2.out (by rw [HLx.out, HN2.out]; simpa using hxy)
          have d1 : decide (x < y) = false := decide_eq_false hxy
          go_wp2
          go_quiet (fail)
          go_wp2
          go_quiet (fail)
          go_wp2
          go_ret
          exact ⟨ret_eq HV.out.symm, (HQ.out.trans ⟨_, rfl⟩).trans ⟨_, rfl⟩⟩
    · obtain rfl : k = n := by omega
      have HV : Hid (V = .slice a k c) := by
        show _ = _
        have e : xs = ys := by
          have := HT.out
          rwa [List.take_of_length_le (by rw [hl.out]; exact Nat.le_refl _), List.take_of_length_le (by rw [hl'.out]; exact Nat.le_refl _)] at this
        exact HV1.out (by rw [HLx.out, e]; exact lexle_refl _)
      clear hcell hcell'
      go_wp2
      go_ret
      exact ⟨ret_eq HV.out.symm, HQ.out⟩

/-- how many tiles are not in a line -/
def cnt (n : Nat) (L : List Int) : Nat := (List.range n).countP fun (i : Nat) => decide ((i : Int) ∉ L)
theorem cnt_zero {n : Nat} {L : List Int} (h : cnt n L = 0) {i : Nat} (hi : i < n) : (i : Int) ∈ L := by
  have := List.countP_eq_zero.1 h i (List.mem_range.2 hi)
  simpa using this
theorem countP_lt {α : Type} (p q : α → Bool) : ∀ (l : List α) (x : α), x ∈ l → p x = true → q x = false → (∀ y, q y = true → p y = true) → l.countP q < l.countP p := by
  intro l
  induction l with
  | nil => intro x hx; cases hx
  | cons y l ih =>
    intro x hx hp hq hi
    have hle : l.countP q ≤ l.countP p := List.countP_mono_left fun z _ hz => hi z hz
    rw [List.countP_cons, List.countP_cons]
    rcases List.mem_cons.1 hx with e | e
    · subst e
      rw [hp, hq]
      simp
      omega
    · have := ih x e hp hq hi
      by_cases hy : q y = true
      · rw [hy, hi y hy]; simp; omega
      · have hy2 : q y = false := by simpa using hy
        rw [hy2]
        simp
        split <;> omega
theorem cnt_more {n : Nat} {L : List Int} {i : Nat} (hi : i < n) (hn : (i : Int) ∉ L) : cnt n (L ++ [(i : Int)]) < cnt n L := by
  refine countP_lt _ _ _ i (List.mem_range.2 hi) (by simpa using hn) (by simp) fun y hy => ?_
  simp at hy ⊢
  exact hy.1
theorem cnt_nil (n : Nat) : cnt n [] = n := by
  unfold cnt
  rw [List.countP_eq_length.2 (by intro a _; simp), List.length_range]
/-- the reference's choice up to tile k -/
def srchTo (ts : List (Int × Int)) (f : Nat) (L : List Int) (e : Int) (k : Nat) : List Int := (List.range k).foldl (fun best (i : Nat) => if (i : Int) ∈ L then best else
      let b1 := if e < 0 ∨ (tA ts i : Int) = e then longer best (srchL ts f (L ++ [(i : Int)]) (tB ts i)) else best
      if e < 0 ∨ (tB ts i : Int) = e then longer b1 (srchL ts f (L ++ [(i : Int)]) (tA ts i)) else b1) L
theorem srchTo_succ (ts : List (Int × Int)) (f : Nat) (L : List Int) (e : Int) (k : Nat) : srchTo ts f L e (k + 1) = if (k : Int) ∈ L then srchTo ts f L e k else
      let b1 := if e < 0 ∨ (tA ts k : Int) = e then longer (srchTo ts f L e k) (srchL ts f (L ++ [(k : Int)]) (tB ts k)) else srchTo ts f L e k
      if e < 0 ∨ (tB ts k : Int) = e then longer b1 (srchL ts f (L ++ [(k : Int)]) (tA ts k)) else b1 := by
  unfold srchTo
  rw [List.range_succ, List.foldl_append]
  rfl
theorem srchTo_full (ts : List (Int × Int)) (f : Nat) (L : List Int) (e : Int) : srchTo ts f L e ts.length = srchL ts (f + 1) L e := rfl
/-- More fuel tells no more, once all tiles are in the line. -/
theorem srchL_in (ts : List (Int × Int)) (f : Nat) (L : List Int) (e : Int) (h : cnt ts.length L = 0) : srchL ts (f + 1) L e = L := by
  rw [← srchTo_full]
  have : ∀ k, k ≤ ts.length → srchTo ts f L e k = L := by
    intro k
    induction k with
    | zero => intro _; rfl
    | succ k ih => intro hk; rw [srchTo_succ, if_pos (cnt_zero h (by omega)), ih (by omega)]
  exact this _ (Nat.le_refl _)

theorem longer_own {w : World} {B0 n n' c c' : Nat} {a a' : Option Addr} {xs ys : List Int} (h : w.ownsRow B0 2 1 (.slice a n c) n (intCells xs)) (h' : w.ownsRow B0 2 1 (.slice a' n' c') n' (intCells ys)) (hn : n ≤ 1000) (hn' : n' ≤ 1000) :
    ∃ va vn vc, (good xs ys = true → Value.slice va vn vc = .slice a n c) ∧ (good xs ys = false → Value.slice va vn vc = .slice a' n' c') ∧ w.ownsRow B0 2 1 (.slice va vn vc) vn (intCells (longer xs ys)) ∧ vn ≤ 1000 := by
  rcases Bool.eq_false_or_eq_true (good xs ys) with e | e
  · exact ⟨a, n, c, fun _ => rfl, fun q => (by rw [e] at q; cases q), by unfold longer; rw [if_pos e]; exact h, hn⟩
  · exact ⟨a', n', c', fun q => (by rw [e] at q; cases q), fun _ => rfl, by unfold longer; rw [if_neg (by rw [e]; exact Bool.false_ne_true)]; exact h', hn'⟩

/-- What a search tells. -/
def SrchOk (ts : List (Int × Int)) (f : Nat) : Prop := ∀ (ta : Option Addr) (tc : Nat) (B0 : Nat) (ad : Addr) (m lc : Nat) (L : List Int) (e : Int) (w : World), Duos w ta ts.length tc ts → w.ownsRow B0 2 1 (.slice (some ad) m lc) m (intCells L) → B0 ≤ w.heap.size → cnt ts.length L ≤ f → m + f ≤ 1000 → e ≤ 6 → -1 ≤ e →
    Calls Try.prog 75 #[.slice ta ts.length tc, .slice (some ad) m lc, .int .i64 e] w fun e' w' => ∃ a n c, e' = .returned (.slice a n c) ∧ Below w.heap.size w w' ∧ w'.ownsRow B0 2 1 (.slice a n c) n (intCells (srchL ts (f + 1) L e)) ∧ n ≤ 1000

set_option maxHeartbeats 1600000 in
set_option maxRecDepth 100000 in
theorem l06Search_any (ts : List (Int × Int)) (hts : ∀ g ∈ ts, okTile2 g = true) (hn8 : ts.length ≤ 8) : ∀ f, SrchOk ts f := by
  obtain ⟨i0, hi, hz0, hz1, hz2⟩ := info_parts infoI64
  intro f
  induction f using Nat.strongRecOn with
  | ind f IH =>
  intro ta tc B0 ad m lc L e w hD hown hB0 hcnt hmf he6 he1
  have HIH := Lib.hid IH
  have HDu := Lib.hid hD
  have HOw := Lib.hid hown
  have hLL0 : L.length = m := by have := hown.1; rw [intCells_len] at this; omega
  have hLL : Hid ((intCells L).length = m * 1) := by show _ = _; rw [intCells_len]; omega
  have HTs := Lib.hid hts
  have HCn := Lib.hid hcnt
  have HF := Lib.hid (srchTo_full ts f L e)
  have HS0 : Hid (srchTo ts f L e 0 = L) := rfl
  obtain ⟨hc, hb, hcell⟩ := hD.at
  have hcap : m ≤ lc ∧ lc ≤ 9223372036854775807 := by have := Rd.own hown; exact ⟨this.2.1, this.2.2.1⟩
  clear hD hown IH hts hcnt
  generalize hn : ts.length = n at *
  have Hn := Lib.hid hn
  clear hn
  go_enter Try.func75, Try.ntmps75
  go_wp2
  go_loopw [7, 8] (fun vb vi wr => ∃ (k : Nat) (ba : Option Addr) (bn bc : Nat), k ≤ n ∧ vi = .int .i64 k ∧ vb = .slice ba bn bc ∧ bn ≤ 1000 ∧ Below w.heap.size w wr ∧ wr.ownsRow B0 2 1 (.slice ba bn bc) bn (intCells (srchTo ts f L e k))) (fun _ vi _ => n - (intOf vi).toNat)
  case atStart => exact ⟨0, some ad, m, lc, by omega, rfl, rfl, by omega, Below.refl _ _, by rw [HS0.out]; exact HOw.out⟩
  case round =>
    obtain ⟨k, ba, bn, bc, hk, rfl, rfl, hbn, hbel, hbo⟩ := hrel
    have HB := Lib.hid hbel
    have HBo := Lib.hid hbo
    have hbs := hbel.size
    have hbcap : bn ≤ bc ∧ bc ≤ 9223372036854775807 := by have := Rd.own hbo; exact ⟨this.2.1, this.2.2.1⟩
    clear hbel hbo
    by_cases hlt : k < n
    · have HSu := Lib.hid (srchTo_succ ts f L e k)
      have CH := l02Has_any (some ad) m lc L (k : Int) wr (Rd.own (ownsRow_below HOw.out HB.out))
      by_cases hin : (k : Int) ∈ L
      · have e1 : L.contains (k : Int) = true := by simpa using hin
        rw [e1] at CH
        have CH := Lib.hid CH
        have HS2 := HSu.out
        rw [if_pos hin] at HS2
        have HS2 := Lib.hid HS2
        clear hcell HSu hin e1
        go_wp2_with (fail)
        refine CH.out.mono ?_
        rintro e' w' ⟨rfl, rfl⟩
        go_wp2
        go_roundw
        case rel => exact ⟨k + 1, ba, bn, bc, by omega, by go_num, rfl, hbn, HB.out, by rw [HS2.out]; exact HBo.out⟩
        case measure => simp [intOf]; omega
      · have e1 : L.contains (k : Int) = false := by simpa using hin
        rw [e1] at CH
        have CH := Lib.hid CH
        have hmore := cnt_more (n := n) hlt hin
        obtain ⟨f', rfl⟩ : ∃ f', f = f' + 1 := ⟨f - 1, by have := HCn.out; omega⟩
        have hcn' : Hid (cnt n (L ++ [(k : Int)]) ≤ f') := by show _ ≤ _; have := HCn.out; omega
        have HS2 := HSu.out
        rw [if_neg hin] at HS2
        obtain ⟨b, off, rfl, hlb, hx⟩ := hcell k hlt
        obtain ⟨x0', x1'⟩ := hx k hlt
        obtain ⟨hA7, hB7, eA, eB⟩ := tA_lt HTs.out (show k < ts.length by rw [Hn.out]; exact hlt)
        rw [eA] at x0'
        rw [eB] at x1'
        have HDr := Lib.hid (HDu.out.mono HB.out)
        have HOr := Lib.hid (ownsRow_below HOw.out HB.out)
        clear hcell hx HSu hin e1 hmore eA eB
        generalize hA : tA ts k = A at *
        generalize hBb : tB ts k = Bb at *
        clear hA hBb
        have x0 := cell_on HB.out x0'
        have x1 := cell_on HB.out x1'
        clear x0' x1'
        -- MID
        have HS2 := Lib.hid HS2
        have HNw := Lib.hid (Ints.news (w := wr) (Rd.own HOr.out))
        have hBr : B0 ≤ wr.heap.size := Nat.le_trans hB0 hbs
        go_wp2_with (fail)
        refine CH.out.mono ?_
        rintro e' w' ⟨rfl, rfl⟩
        go_upto_region 7 with (first
          | (at_builtin
             refine wpList_append_own _ rfl _ _ 24 rfl wr.heap.size 2 i0 (.int .i64 0) 1 8 Try.underlying24 hi hz0 hz1 hz2 rfl (by decide) _ _ _ rfl (World.ownsRow_made wr #[] 0 (Nat.le_refl _) (Nat.zero_le _) (by simp)) ad m lc (intCells L) rfl hLL.out (fun j u hu => cell_on ((Below.refl _ _).alloc (Nat.le_refl _) _) (HNw.out j u hu)) (intCells_one L) (by unfold maxLen; omega) (by omega) (by simp) ?_
             intro vw2 w2 hown2 hg2 _
             have M2 : (wr.alloc (.cells #[] 2)).ownsRow wr.heap.size 2 1 (.slice (some ⟨wr.heap.size, 0, none⟩) 0 0) 0 [] := World.ownsRow_made wr #[] 0 (Nat.le_refl _) (Nat.zero_le _) (by simp)
             have HB2 := Lib.hid (below_grown ((Below.refl wr.heap.size wr).alloc (Nat.le_refl _) _) (by simp) hg2 M2)
             simp only [Nat.zero_add, List.nil_append] at hown2
             have hs2 := HB2.out.size
             clear hg2 M2)
          | (at_builtin
             refine wpList_append_own _ rfl _ _ 24 rfl wr.heap.size 2 i0 (.int .i64 0) 1 8 Try.underlying24 hi hz0 hz1 hz2 rfl (by decide) _ _ _ rfl (hown2.alloc _) ⟨w2.heap.size, 0, none⟩ 1 1 [.int .i64 (k : Int)] rfl rfl (new1 _ _ _) (one1 rfl) (by unfold maxLen; omega) (by omega) (by simp; omega) ?_
             intro vw3 w3 hown3 hg3 _
             have HB3 := Lib.hid (below_app HB2.out HB2.out.size hg3 hown2)
             clear hg3 hown2))
        obtain ⟨na0, nc, rfl⟩ := own_form hown3
        obtain ⟨ng, rfl⟩ := own_some hown3 (by omega)
        have HNo : Hid (w3.ownsRow wr.heap.size 2 1 (.slice (some ⟨ng, 0, none⟩) (m + 1) nc) (m + 1) (intCells (L ++ [(k : Int)]))) := by
          show w3.ownsRow _ _ _ _ _ _
          rw [intCells_snoc]
          exact hown3
        have hk3 : m + 1 ≤ nc ∧ nc ≤ 9223372036854775807 := by have := Rd.own hown3; exact ⟨this.2.1, this.2.2.1⟩
        have HNs : Hid (wr.heap.size ≤ w3.heap.size) := HB3.out.size
        have HDn := Lib.hid (HDr.out.mono HB3.out)
        have HBn := Lib.hid (ownsRow_below HBo.out HB3.out)
        have HBw := Lib.hid (HB.out.trans (HB3.out.mono HB.out.size))
        have x0 := cell_on HB3.out x0
        have x1 := cell_on HB3.out x1
        clear hown3 HB2 HNw
        generalize hW : w3 = W at *
        clear hW
        by_cases he : e < 0
        · have HS3 := HS2.out
          clear HS2
          rw [if_pos (Or.inl he : e < 0 ∨ (Bb : Int) = e), if_pos (Or.inl he : e < 0 ∨ (A : Int) = e)] at HS3
          have HS3 := Lib.hid HS3
          have CS1 := Lib.hid (HIH.out f' (by omega) (some ⟨b, off, none⟩) tc wr.heap.size ⟨ng, 0, none⟩ (m + 1) nc (L ++ [(k : Int)]) (Bb : Nat) W (by rw [Hn.out]; exact HDn.out) HNo.out HNs.out (by rw [Hn.out]; exact hcn'.out) (by omega) (by omega) (by omega))
          rw [Hn.out] at CS1
          go_wp2_with (fail)
          refine CS1.out.mono ?_
          rintro e' xw1 ⟨sa1, sn1, sc1, rfl, hbx1, hox1, hsn1⟩
          have HX1 := Lib.hid (hbx1)
          have HOb1 := Lib.hid (ownsRow_below HBn.out hbx1)
          have HOs1 := Lib.hid (ownsRow_low hox1 hBr)
          obtain ⟨va1, vn1, vc1, hv1, hv2, hv3, hv4⟩ := longer_own HOb1.out HOs1.out hbn hsn1
          have CL1 := Lib.hid (l06Longer_any _ _ _ _ _ _ _ _ xw1 (Rd.own HOb1.out) (Rd.own HOs1.out) (.slice va1 vn1 vc1) hv1 hv2)
          have HOv1 := Lib.hid hv3
          have hvn1 : vn1 ≤ 1000 := hv4
          clear hbx1 hox1 hv1 hv2 hv3 hv4
          go_wp2_with (fail)
          refine CL1.out.mono ?_
          rintro e' y1 ⟨rfl, hq1⟩
          have HY1 : Hid (Below W.heap.size W y1) := HX1.out.trans (hq1.b.mono HX1.out.size)
          have HO1 := Lib.hid (ownsRow_below HOv1.out hq1.b)
          have x0 := cell_on (w := W) HY1.out x0
          have x1 := cell_on (w := W) HY1.out x1
          clear hq1 CL1
          have CS2 := Lib.hid (HIH.out f' (by omega) (some ⟨b, off, none⟩) tc wr.heap.size ⟨ng, 0, none⟩ (m + 1) nc (L ++ [(k : Int)]) (A : Nat) y1 (by rw [Hn.out]; exact HDn.out.mono HY1.out) (ownsRow_below HNo.out HY1.out) (Nat.le_trans HNs.out HY1.out.size) (by rw [Hn.out]; exact hcn'.out) (by omega) (by omega) (by omega))
          rw [Hn.out] at CS2
          go_wp2_with (fail)
          refine CS2.out.mono ?_
          rintro e' xw2 ⟨sa2, sn2, sc2, rfl, hbx2, hox2, hsn2⟩
          have HX2 := Lib.hid (HY1.out.trans (hbx2.mono HY1.out.size))
          have HOb2 := Lib.hid (ownsRow_below HO1.out hbx2)
          have HOs2 := Lib.hid (ownsRow_low hox2 hBr)
          obtain ⟨va2, vn2, vc2, hv1, hv2, hv3, hv4⟩ := longer_own HOb2.out HOs2.out hvn1 hsn2
          have CL2 := Lib.hid (l06Longer_any _ _ _ _ _ _ _ _ xw2 (Rd.own HOb2.out) (Rd.own HOs2.out) (.slice va2 vn2 vc2) hv1 hv2)
          have HOv2 := Lib.hid hv3
          have hvn2 : vn2 ≤ 1000 := hv4
          clear hbx2 hox2 hv1 hv2 hv3 hv4
          go_wp2_with (fail)
          refine CL2.out.mono ?_
          rintro e' y2 ⟨rfl, hq2⟩
          have HY2 : Hid (Below W.heap.size W y2) := HX2.out.trans (hq2.b.mono HX2.out.size)
          have HO2 := Lib.hid (ownsRow_below HOv2.out hq2.b)
          clear hq2 CL2
          go_wp2
          go_roundw
          case rel => exact ⟨k + 1, va2, vn2, vc2, by omega, by go_num, rfl, hvn2, HBw.out.trans (HY2.out.mono HBw.out.size), by rw [HS3.out]; exact HO2.out⟩
          case measure => simp [intOf]; omega
        · have d0 : decide (e < 0) = false := decide_eq_false he
          by_cases hA : (A : Int) = e
          · by_cases hB : (Bb : Int) = e
            · have HS3 := HS2.out
              clear HS2
              rw [if_pos (Or.inr hA : e < 0 ∨ (A : Int) = e)] at HS3
              rw [if_pos (Or.inr hB : e < 0 ∨ (Bb : Int) = e)] at HS3
              have HS3 := Lib.hid HS3
              have dA : ((A : Int) == e) = true := by simp; omega
              have dB : ((Bb : Int) == e) = true := by simp; omega
              clear hA hB
              have CS1 := Lib.hid (HIH.out f' (by omega) (some ⟨b, off, none⟩) tc wr.heap.size ⟨ng, 0, none⟩ (m + 1) nc (L ++ [(k : Int)]) (Bb : Nat) W (by rw [Hn.out]; exact HDn.out) HNo.out HNs.out (by rw [Hn.out]; exact hcn'.out) (by omega) (by omega) (by omega))
              rw [Hn.out] at CS1
              go_wp2_with (fail)
              refine CS1.out.mono ?_
              rintro e' xw1 ⟨sa1, sn1, sc1, rfl, hbx1, hox1, hsn1⟩
              have HX1 := Lib.hid (hbx1)
              have HOb1 := Lib.hid (ownsRow_below HBn.out hbx1)
              have HOs1 := Lib.hid (ownsRow_low hox1 hBr)
              obtain ⟨va1, vn1, vc1, hv1, hv2, hv3, hv4⟩ := longer_own HOb1.out HOs1.out hbn hsn1
              have CL1 := Lib.hid (l06Longer_any _ _ _ _ _ _ _ _ xw1 (Rd.own HOb1.out) (Rd.own HOs1.out) (.slice va1 vn1 vc1) hv1 hv2)
              have HOv1 := Lib.hid hv3
              have hvn1 : vn1 ≤ 1000 := hv4
              clear hbx1 hox1 hv1 hv2 hv3 hv4
              go_wp2_with (fail)
              refine CL1.out.mono ?_
              rintro e' y1 ⟨rfl, hq1⟩
              have HY1 : Hid (Below W.heap.size W y1) := HX1.out.trans (hq1.b.mono HX1.out.size)
              have HO1 := Lib.hid (ownsRow_below HOv1.out hq1.b)
              have x0 := cell_on (w := W) HY1.out x0
              have x1 := cell_on (w := W) HY1.out x1
              clear hq1 CL1
              have CS2 := Lib.hid (HIH.out f' (by omega) (some ⟨b, off, none⟩) tc wr.heap.size ⟨ng, 0, none⟩ (m + 1) nc (L ++ [(k : Int)]) (A : Nat) y1 (by rw [Hn.out]; exact HDn.out.mono HY1.out) (ownsRow_below HNo.out HY1.out) (Nat.le_trans HNs.out HY1.out.size) (by rw [Hn.out]; exact hcn'.out) (by omega) (by omega) (by omega))
              rw [Hn.out] at CS2
              go_wp2_with (fail)
              refine CS2.out.mono ?_
              rintro e' xw2 ⟨sa2, sn2, sc2, rfl, hbx2, hox2, hsn2⟩
              have HX2 := Lib.hid (HY1.out.trans (hbx2.mono HY1.out.size))
              have HOb2 := Lib.hid (ownsRow_below HO1.out hbx2)
              have HOs2 := Lib.hid (ownsRow_low hox2 hBr)
              obtain ⟨va2, vn2, vc2, hv1, hv2, hv3, hv4⟩ := longer_own HOb2.out HOs2.out hvn1 hsn2
              have CL2 := Lib.hid (l06Longer_any _ _ _ _ _ _ _ _ xw2 (Rd.own HOb2.out) (Rd.own HOs2.out) (.slice va2 vn2 vc2) hv1 hv2)
              have HOv2 := Lib.hid hv3
              have hvn2 : vn2 ≤ 1000 := hv4
              clear hbx2 hox2 hv1 hv2 hv3 hv4
              go_wp2_with (fail)
              refine CL2.out.mono ?_
              rintro e' y2 ⟨rfl, hq2⟩
              have HY2 : Hid (Below W.heap.size W y2) := HX2.out.trans (hq2.b.mono HX2.out.size)
              have HO2 := Lib.hid (ownsRow_below HOv2.out hq2.b)
              clear hq2 CL2
              go_wp2
              go_roundw
              case rel => exact ⟨k + 1, va2, vn2, vc2, by omega, by go_num, rfl, hvn2, HBw.out.trans (HY2.out.mono HBw.out.size), by rw [HS3.out]; exact HO2.out⟩
              case measure => simp [intOf]; omega
            · have HS3 := HS2.out
              clear HS2
              rw [if_pos (Or.inr hA : e < 0 ∨ (A : Int) = e)] at HS3
              rw [if_neg (show ¬ (e < 0 ∨ (Bb : Int) = e) by omega)] at HS3
              have HS3 := Lib.hid HS3
              have dA : ((A : Int) == e) = true := by simp; omega
              have dB : ((Bb : Int) == e) = false := by simp; omega
              clear hA hB
              have CS1 := Lib.hid (HIH.out f' (by omega) (some ⟨b, off, none⟩) tc wr.heap.size ⟨ng, 0, none⟩ (m + 1) nc (L ++ [(k : Int)]) (Bb : Nat) W (by rw [Hn.out]; exact HDn.out) HNo.out HNs.out (by rw [Hn.out]; exact hcn'.out) (by omega) (by omega) (by omega))
              rw [Hn.out] at CS1
              go_wp2_with (fail)
              refine CS1.out.mono ?_
              rintro e' xw1 ⟨sa1, sn1, sc1, rfl, hbx1, hox1, hsn1⟩
              have HX1 := Lib.hid (hbx1)
              have HOb1 := Lib.hid (ownsRow_below HBn.out hbx1)
              have HOs1 := Lib.hid (ownsRow_low hox1 hBr)
              obtain ⟨va1, vn1, vc1, hv1, hv2, hv3, hv4⟩ := longer_own HOb1.out HOs1.out hbn hsn1
              have CL1 := Lib.hid (l06Longer_any _ _ _ _ _ _ _ _ xw1 (Rd.own HOb1.out) (Rd.own HOs1.out) (.slice va1 vn1 vc1) hv1 hv2)
              have HOv1 := Lib.hid hv3
              have hvn1 : vn1 ≤ 1000 := hv4
              clear hbx1 hox1 hv1 hv2 hv3 hv4
              go_wp2_with (fail)
              refine CL1.out.mono ?_
              rintro e' y1 ⟨rfl, hq1⟩
              have HY1 : Hid (Below W.heap.size W y1) := HX1.out.trans (hq1.b.mono HX1.out.size)
              have HO1 := Lib.hid (ownsRow_below HOv1.out hq1.b)
              have x0 := cell_on (w := W) HY1.out x0
              have x1 := cell_on (w := W) HY1.out x1
              clear hq1 CL1
              go_wp2
              go_roundw
              case rel => exact ⟨k + 1, va1, vn1, vc1, by omega, by go_num, rfl, hvn1, HBw.out.trans (HY1.out.mono HBw.out.size), by rw [HS3.out]; exact HO1.out⟩
              case measure => simp [intOf]; omega
          · by_cases hB : (Bb : Int) = e
            · have HS3 := HS2.out
              clear HS2
              rw [if_neg (show ¬ (e < 0 ∨ (A : Int) = e) by omega)] at HS3
              rw [if_pos (Or.inr hB : e < 0 ∨ (Bb : Int) = e)] at HS3
              have HS3 := Lib.hid HS3
              have dA : ((A : Int) == e) = false := by simp; omega
              have dB : ((Bb : Int) == e) = true := by simp; omega
              clear hA hB
              have CS1 := Lib.hid (HIH.out f' (by omega) (some ⟨b, off, none⟩) tc wr.heap.size ⟨ng, 0, none⟩ (m + 1) nc (L ++ [(k : Int)]) (A : Nat) W (by rw [Hn.out]; exact HDn.out) HNo.out HNs.out (by rw [Hn.out]; exact hcn'.out) (by omega) (by omega) (by omega))
              rw [Hn.out] at CS1
              go_wp2_with (fail)
              refine CS1.out.mono ?_
              rintro e' xw1 ⟨sa1, sn1, sc1, rfl, hbx1, hox1, hsn1⟩
              have HX1 := Lib.hid (hbx1)
              have HOb1 := Lib.hid (ownsRow_below HBn.out hbx1)
              have HOs1 := Lib.hid (ownsRow_low hox1 hBr)
              obtain ⟨va1, vn1, vc1, hv1, hv2, hv3, hv4⟩ := longer_own HOb1.out HOs1.out hbn hsn1
              have CL1 := Lib.hid (l06Longer_any _ _ _ _ _ _ _ _ xw1 (Rd.own HOb1.out) (Rd.own HOs1.out) (.slice va1 vn1 vc1) hv1 hv2)
              have HOv1 := Lib.hid hv3
              have hvn1 : vn1 ≤ 1000 := hv4
              clear hbx1 hox1 hv1 hv2 hv3 hv4
              go_wp2_with (fail)
              refine CL1.out.mono ?_
              rintro e' y1 ⟨rfl, hq1⟩
              have HY1 : Hid (Below W.heap.size W y1) := HX1.out.trans (hq1.b.mono HX1.out.size)
              have HO1 := Lib.hid (ownsRow_below HOv1.out hq1.b)
              have x0 := cell_on (w := W) HY1.out x0
              have x1 := cell_on (w := W) HY1.out x1
              clear hq1 CL1
              go_wp2
              go_roundw
              case rel => exact ⟨k + 1, va1, vn1, vc1, by omega, by go_num, rfl, hvn1, HBw.out.trans (HY1.out.mono HBw.out.size), by rw [HS3.out]; exact HO1.out⟩
              case measure => simp [intOf]; omega
            · have HS3 := HS2.out
              clear HS2
              rw [if_neg (show ¬ (e < 0 ∨ (A : Int) = e) by omega)] at HS3
              rw [if_neg (show ¬ (e < 0 ∨ (Bb : Int) = e) by omega)] at HS3
              have HS3 := Lib.hid HS3
              have dA : ((A : Int) == e) = false := by simp; omega
              have dB : ((Bb : Int) == e) = false := by simp; omega
              clear hA hB
              go_wp2
              go_roundw
              case rel => exact ⟨k + 1, ba, bn, bc, by omega, by go_num, rfl, hbn, HBw.out, by rw [HS3.out]; exact HBn.out⟩
              case measure => simp [intOf]; omega
    · obtain rfl : k = n := by omega
      have HBo2 : Hid (wr.ownsRow B0 2 1 (.slice ba bn bc) bn (intCells (srchL ts (f + 1) L e))) := by
        show wr.ownsRow _ _ _ _ _ _
        rw [← HF.out]
        exact HBo.out
      clear hcell
      go_wp2
      go_ret
      exact ⟨_, _, _, rfl, HB.out, HBo2.out, hbn⟩

end Go.Proofs.Ytnlcgkfdpaffaaa
