/- Reading tests: plain terms. -/
import Derived.Test.YtmijfieiebnbfaaDoorTxC
namespace Go.Proofs.YtmijfieiebnbfaaDoor
open Go.RowKit
set_option linter.unusedVariables false
set_option linter.unusedSimpArgs false

abbrev T3 := Int × Int × Int
def fIdx (l : List UInt8) : Int := if l = fldL 0 then 0 else if l = fldL 1 then 1 else if l = fldL 2 then 2 else -1
def sIdx (b : UInt8) : Int := if b = 61 then 0 else if b = 60 then 1 else if b = 62 then 2 else -1
/-- a decimal -/
def rdD (l : List UInt8) : Int × Bool := match Lib.parseIntB 64 l with
  | .ok n => if (-1000000000000000 ≤ n ∧ n ≤ 1000000000000000) ∧ Lib.itoa n = l then (n, true) else (0, false)
  | _ => (0, false)
/-- a word as a test -/
def wordR (l : List UInt8) : T3 := (fIdx (l.take 4), sIdx (l.getD 4 0), (rdD (l.drop 5)).1)
def wordOk (l : List UInt8) : Bool := decide (6 ≤ l.length) && ((rdD (l.drop 5)).2 && okTest3 (wordR l))

theorem fIdx_fld (x : Nat) (h : x < 3) : fIdx (fldL (x : Int)) = x := by
  match x, h with
  | 0, _ => decide
  | 1, _ => decide
  | 2, _ => decide
theorem fIdx_inv {l : List UInt8} (h : 0 ≤ fIdx l) : fldL (fIdx l) = l := by
  unfold fIdx at h ⊢
  split
  · rename_i e; exact e.symm
  · split
    · rename_i e; exact e.symm
    · split
      · rename_i e; exact e.symm
      · rename_i h1 h2 h3; rw [if_neg h1, if_neg h2, if_neg h3] at h; omega
theorem sIdx_sgn (y : Nat) (h : y < 3) : sIdx ((sgnL (y : Int)).getD 0 0) = y := by
  match y, h with
  | 0, _ => decide
  | 1, _ => decide
  | 2, _ => decide
theorem sIdx_inv {b : UInt8} (h : 0 ≤ sIdx b) : sgnL (sIdx b) = [b] := by
  unfold sIdx at h ⊢
  split
  · rename_i e; rw [e]; rfl
  · split
    · rename_i e; rw [e]; rfl
    · split
      · rename_i e; rw [e]; rfl
      · rename_i h1 h2 h3; rw [if_neg h1, if_neg h2, if_neg h3] at h; omega
theorem num_parse (z : Nat) (h : z < 52) : Lib.parseIntB 64 (numL (z : Int)) = .ok (z : Int) := by
  have key : ∀ q : Fin 52, Lib.parseIntB 64 (if q.val < 10 then [UInt8.ofNat (48 + q.val)] else [UInt8.ofNat (48 + q.val / 10), UInt8.ofNat (48 + q.val % 10)]) = .ok (q.val : Int) := by decide +kernel
  have e : numL (z : Int) = (if z < 10 then [UInt8.ofNat (48 + z)] else [UInt8.ofNat (48 + z / 10), UInt8.ofNat (48 + z % 10)]) := by
    show Lib.decDigits z = _
    by_cases q : z < 10
    · rw [if_pos q, Lib.decDigits_one q]
    · rw [if_neg q, Lib.decDigits_two q (by omega)]
  rw [e]
  exact key ⟨z, h⟩
theorem itoa_num (z : Nat) : Lib.itoa (z : Int) = numL (z : Int) := by unfold Lib.itoa; rw [if_neg (by omega)]; rfl
theorem rdD_num (z : Nat) (h : z < 52) : rdD (numL (z : Int)) = ((z : Int), true) := by
  unfold rdD
  rw [num_parse z h]
  dsimp only
  rw [if_pos ⟨by omega, itoa_num z⟩]
theorem numL_pos (z : Nat) : 1 ≤ (numL (z : Int)).length := by
  show 1 ≤ (Lib.decDigits z).length
  rw [decDigits_eq]
  split
  · simp
  · simp
theorem word_split {l : List UInt8} (h : 5 ≤ l.length) : (l.take 4 ++ [l.getD 4 0]) ++ l.drop 5 = l := by
  match l, h with
  | a :: b :: c :: d :: e :: r, _ => rfl
theorem word_text {l : List UInt8} (h : wordOk l = true) : okTest3 (wordR l) = true ∧ tstL (wordR l) = l := by
  unfold wordOk at h
  simp only [Bool.and_eq_true, decide_eq_true_eq] at h
  obtain ⟨h1, h2, h3⟩ := h
  refine ⟨h3, ?_⟩
  obtain ⟨c1, c2, c3, c4⟩ := okTest3_cases h3
  unfold wordR at c1 c2 c3 c4
  dsimp only at c1 c2 c3 c4
  have hd : numL (rdD (l.drop 5)).1 = l.drop 5 := by
    unfold rdD at h2 c3 ⊢
    generalize Lib.parseIntB 64 (l.drop 5) = p at *
    rcases p with n | _ | _
    ·
      dsimp only at h2 c3 ⊢
      by_cases q : (-1000000000000000 ≤ n ∧ n ≤ 1000000000000000) ∧ Lib.itoa n = l.drop 5
      · rw [if_pos q] at c3 ⊢
        dsimp only at c3 ⊢
        rw [← q.2]
        obtain ⟨m, rfl⟩ : ∃ m : Nat, n = m := ⟨n.toNat, by omega⟩
        exact (itoa_num m).symm
      · rw [if_neg q] at h2; cases h2
    · cases h2
    · cases h2
  unfold tstL wordR
  dsimp only
  rw [fIdx_inv (by omega), sIdx_inv (by omega), hd]
  exact word_split (by omega)
theorem tst_parts (x y : Int) (z : Nat) : (tstL (x, y, (z : Int))).take 4 = fldL x ∧ (tstL (x, y, (z : Int))).getD 4 0 = (sgnL y).getD 0 0 ∧ (tstL (x, y, (z : Int))).drop 5 = numL (z : Int) ∧ 6 ≤ (tstL (x, y, (z : Int))).length := by
  have h4 := fldL_len x
  have h1 := sgnL_len y
  have hz := numL_pos z
  unfold tstL
  dsimp only
  generalize fldL x = F at *
  generalize sgnL y = G at *
  generalize numL (z : Int) = N at *
  match F, h4, G, h1 with
  | [a, b, c, d], _, [e], _ => exact ⟨rfl, rfl, rfl, by simp; omega⟩
theorem word_yes {g : T3} (h : okTest3 g = true) : wordOk (tstL g) = true ∧ wordR (tstL g) = g := by
  obtain ⟨x, y, z, rfl, hx, hy, hz⟩ := test_nat h
  obtain ⟨p1, p2, p3, p4⟩ := tst_parts (x : Int) (y : Int) z
  have e : wordR (tstL ((x : Int), (y : Int), (z : Int))) = ((x : Int), (y : Int), (z : Int)) := by
    unfold wordR
    rw [p1, p2, p3, fIdx_fld x hx, sIdx_sgn y hy, rdD_num z hz]
  refine ⟨?_, e⟩
  unfold wordOk
  rw [e, h, p3, rdD_num z hz, decide_eq_true p4]
  rfl
theorem fld_no (x : Int) : (38 : UInt8) ∉ fldL x := by unfold fldL; split; decide; split <;> decide
theorem sgn_no (x : Int) : (38 : UInt8) ∉ sgnL x := by unfold sgnL; split; decide; split <;> decide
theorem num_no (z : Nat) (h : z < 52) : (38 : UInt8) ∉ numL (z : Int) := by
  have key : ∀ q : Fin 52, (38 : UInt8) ∉ (if q.val < 10 then [UInt8.ofNat (48 + q.val)] else [UInt8.ofNat (48 + q.val / 10), UInt8.ofNat (48 + q.val % 10)]) := by decide +kernel
  have e : numL (z : Int) = (if z < 10 then [UInt8.ofNat (48 + z)] else [UInt8.ofNat (48 + z / 10), UInt8.ofNat (48 + z % 10)]) := by
    show Lib.decDigits z = _
    by_cases q : z < 10
    · rw [if_pos q, Lib.decDigits_one q]
    · rw [if_neg q, Lib.decDigits_two q (by omega)]
  rw [e]
  exact key ⟨z, h⟩
theorem tst_no {g : T3} (h : okTest3 g = true) : (38 : UInt8) ∉ tstL g := by
  obtain ⟨x, y, z, rfl, hx, hy, hz⟩ := test_nat h
  unfold tstL
  intro hm
  rcases List.mem_append.1 hm with hm | hm
  · rcases List.mem_append.1 hm with hm | hm
    · exact fld_no _ hm
    · exact sgn_no _ hm
  · exact num_no z hz hm

theorem join_two (x y : List UInt8) (r : List (List UInt8)) : Lib.join (x :: y :: r) [38] = x ++ 38 :: Lib.join (y :: r) [38] := by
  rw [Lib.join_cons, Lib.join_cons]
  unfold Lib.joinTail
  simp
theorem cutR_single (w : List UInt8) (h : (38 : UInt8) ∉ w) : cutR 38 w = [w] := by
  induction w with
  | nil => rfl
  | cons b w ih =>
    have hb : ¬ b = 38 := fun e => h (by rw [e]; exact List.mem_cons_self ..)
    rw [cutR_other w hb, ih (fun q => h (List.mem_cons_of_mem _ q))]
theorem cutR_app (w r : List UInt8) (h : (38 : UInt8) ∉ w) : cutR 38 (w ++ 38 :: r) = w :: cutR 38 r := by
  induction w with
  | nil => exact cutR_eq 38 r
  | cons b w ih =>
    have hb : ¬ b = 38 := fun e => h (by rw [e]; exact List.mem_cons_self ..)
    rw [List.cons_append, cutR_other _ hb, ih (fun q => h (List.mem_cons_of_mem _ q))]
theorem cutR_mem_len (l : List UInt8) : ∀ w ∈ cutR 38 l, w.length ≤ l.length := by
  induction l with
  | nil => intro w hw; rw [List.mem_singleton.1 hw]; exact Nat.le_refl _
  | cons b l ih =>
    obtain ⟨p, ps, e⟩ := cutR_ne 38 l
    rw [e] at ih
    intro w hw
    by_cases hb : b = 38
    · rw [hb, cutR_eq, e] at hw
      rcases List.mem_cons.1 hw with rfl | hw
      · exact Nat.zero_le _
      · have := ih w hw; simp; omega
    · rw [cutR_other l hb, e] at hw
      rcases List.mem_cons.1 hw with rfl | hw
      · have := ih p (List.mem_cons_self ..); simp; omega
      · have := ih w (List.mem_cons_of_mem _ hw); simp; omega
theorem cut_join (l : List UInt8) : Lib.join (cutR 38 l) [38] = l := by
  induction l with
  | nil => exact Lib.join_one _ _
  | cons b l ih =>
    obtain ⟨p, ps, e⟩ := cutR_ne 38 l
    rw [e] at ih
    by_cases hb : b = 38
    · rw [hb, cutR_eq, e, join_two, ih]
      rfl
    · rw [cutR_other l hb, e]
      show Lib.join ((b :: p) :: ps) [38] = _
      rw [Lib.join_cons] at ih ⊢
      rw [List.cons_append, ih]
theorem join_cut : ∀ ws : List (List UInt8), ws ≠ [] → (∀ w ∈ ws, (38 : UInt8) ∉ w) → cutR 38 (Lib.join ws [38]) = ws
  | [], h, _ => absurd rfl h
  | [w], _, h => by rw [Lib.join_one]; exact cutR_single w (h w (List.mem_cons_self ..))
  | w :: v :: r, _, h => by
    rw [join_two, cutR_app _ _ (h w (List.mem_cons_self ..)), join_cut (v :: r) (by simp) (fun x hx => h x (List.mem_cons_of_mem _ hx))]

/-- the tests that a text tells -/
def RdOk (l : List UInt8) (gs : List T3) : Prop := okTests gs = true ∧ txtL gs = l
theorem txtL_join (gs : List T3) : txtL gs = Lib.join (gs.map tstL) [38] := by
  unfold txtL
  rw [txtTo_join gs _ (Nat.le_refl _), List.take_length]
theorem rd_words {l : List UInt8} {gs : List T3} (h : RdOk l gs) : cutR 38 l = gs.map tstL := by
  obtain ⟨h1, h2⟩ := h
  have hl := okTests_len h1
  rw [← h2, txtL_join]
  refine join_cut _ (fun e => ?_) (fun w hw => ?_)
  · have := congrArg List.length e
    simp at this
    rw [this] at hl
    simp at hl
  · obtain ⟨g, hg, rfl⟩ := List.mem_map.1 hw
    exact tst_no (okTests_all h1 g hg)
theorem ok_of_all {gs : List T3} (h1 : 1 ≤ gs.length) (h2 : gs.length ≤ 6) (h : ∀ g ∈ gs, okTest3 g = true) : okTests gs = true := by
  unfold okTests
  rw [decide_eq_true h1, decide_eq_true h2, List.all_eq_true.2 h]
  rfl
theorem rd_of_words {l : List UInt8} (hn : (cutR 38 l).length ≤ 6) (h : ∀ i, i < (cutR 38 l).length → wordOk ((cutR 38 l).getD i []) = true) : RdOk l ((cutR 38 l).map wordR) := by
  have hp : ∀ w ∈ cutR 38 l, wordOk w = true := fun w hw => by
    obtain ⟨i, hi, rfl⟩ := List.getElem_of_mem hw
    have := h i hi
    simpa [hi] using this
  have h1 : 1 ≤ (cutR 38 l).length := by obtain ⟨p, ps, e⟩ := cutR_ne 38 l; rw [e]; simp
  refine ⟨ok_of_all (by rw [List.length_map]; exact h1) (by rw [List.length_map]; exact hn) (fun g hg => ?_), ?_⟩
  · obtain ⟨w, hw, rfl⟩ := List.mem_map.1 hg
    exact (word_text (hp w hw)).1
  · rw [txtL_join, List.map_map]
    have e : (cutR 38 l).map (tstL ∘ wordR) = cutR 38 l := by
      conv => rhs; rw [← List.map_id (cutR 38 l)]
      exact List.map_congr_left fun w hw => (word_text (hp w hw)).2
    rw [e, cut_join]
theorem rd_unique {l : List UInt8} {gs gs' : List T3} (h : RdOk l gs) (h' : RdOk l gs') : gs = gs' := by
  have e := (rd_words h).symm.trans (rd_words h')
  have k : ∀ hs : List T3, (∀ g ∈ hs, okTest3 g = true) → (hs.map tstL).map wordR = hs := fun hs hh => by
    rw [List.map_map]
    conv => rhs; rw [← List.map_id hs]
    exact List.map_congr_left fun g hg => (word_yes (hh g hg)).2
  rw [← k gs (okTests_all h.1), ← k gs' (okTests_all h'.1), e]
theorem rd_no_word {l : List UInt8} {k : Nat} (hk : k < (cutR 38 l).length) (h : wordOk ((cutR 38 l).getD k []) = false) : ∀ gs, ¬ RdOk l gs := fun gs hr => by
  have e := rd_words hr
  rw [e] at hk h
  rw [List.length_map] at hk
  have e2 : (gs.map tstL).getD k [] = tstL (gs.getD k (0, 0, 0)) := by simp [hk]
  rw [e2, (word_yes (okTests_all hr.1 _ (getD_mem hk))).1] at h
  cases h
theorem rd_many {l : List UInt8} (h : 6 < (cutR 38 l).length) : ∀ gs, ¬ RdOk l gs := fun gs hr => by
  rw [rd_words hr, List.length_map] at h
  have := okTests_len hr.1
  omega

/-- how the reference reads on -/
def fsF (l : List UInt8) : Int := if 5 < l.length then fIdx (l.take 4) else -1
def fsS (l : List UInt8) : Int := if 5 < l.length then sIdx (l.getD 4 0) else -1
def isDg (b : UInt8) : Bool := decide (48 ≤ b.toNat) && decide (b.toNat ≤ 57)
def dgs : Nat → List UInt8 → Int → Int × Nat
  | 0, _, a => (a, 0)
  | _ + 1, [], a => (a, 0)
  | k + 1, b :: l, a => if isDg b = true then ((dgs k l (10 * a + ((b.toNat : Int) - 48))).1, (dgs k l (10 * a + ((b.toNat : Int) - 48))).2 + 1) else (a, 0)
def spR : Nat → List UInt8 → Option (List T3)
  | 0, _ => some []
  | k + 1, l => if fsF l < 0 ∨ fsS l < 0 then none else
      match (l.drop 5).drop (dgs 2 (l.drop 5) 0).2 with
      | [] => some [(fsF l, fsS l, (dgs 2 (l.drop 5) 0).1)]
      | b :: r => if b = 38 then (spR k r).map ((fsF l, fsS l, (dgs 2 (l.drop 5) 0).1) :: ·) else none
theorem dgs_num (z : Nat) (h : z < 52) (r : List UInt8) (hr : r = [] ∨ ∃ t, r = 38 :: t) : dgs 2 (numL (z : Int) ++ r) 0 = ((z : Int), (numL (z : Int)).length) := by
  have key : ∀ q : Fin 52, (∀ b ∈ (if q.val < 10 then [UInt8.ofNat (48 + q.val)] else [UInt8.ofNat (48 + q.val / 10), UInt8.ofNat (48 + q.val % 10)]), isDg b = true) ∧ ((UInt8.ofNat (48 + q.val / 10)).toNat : Int) - 48 = (q.val / 10 : Nat) ∧ ((UInt8.ofNat (48 + q.val % 10)).toNat : Int) - 48 = (q.val % 10 : Nat) := by decide +kernel
  obtain ⟨k1, k2, k3⟩ := key ⟨z, h⟩
  dsimp only at k1 k2 k3
  have hn : isDg 38 = false := by decide
  by_cases q : z < 10
  · rw [if_pos q] at k1
    have hd := k1 _ (List.mem_cons_self ..)
    have e : numL (z : Int) = [UInt8.ofNat (48 + z)] := by show Lib.decDigits z = _; rw [Lib.decDigits_one q]
    have k4 : ((UInt8.ofNat (48 + z)).toNat : Int) - 48 = z := by rw [Nat.mod_eq_of_lt q] at k3; exact k3
    rw [e, List.cons_append, List.nil_append]
    unfold dgs
    rw [if_pos hd]
    rcases hr with rfl | ⟨t, rfl⟩
    · unfold dgs; simp [k4]; omega
    · unfold dgs; rw [if_neg (by rw [hn]; exact Bool.false_ne_true)]; simp [k4]; omega
  · rw [if_neg q] at k1
    have hd1 := k1 _ (List.mem_cons_self ..)
    have hd2 := k1 _ (List.mem_cons_of_mem _ (List.mem_cons_self ..))
    have e : numL (z : Int) = [UInt8.ofNat (48 + z / 10), UInt8.ofNat (48 + z % 10)] := by show Lib.decDigits z = _; rw [Lib.decDigits_two q (by omega)]
    rw [e]
    show dgs 2 (UInt8.ofNat (48 + z / 10) :: UInt8.ofNat (48 + z % 10) :: r) 0 = _
    unfold dgs
    rw [if_pos hd1]
    unfold dgs
    rw [if_pos hd2]
    unfold dgs
    rw [k2, k3]
    refine Prod.ext ?_ rfl
    dsimp only
    omega
theorem sp_yes : ∀ (gs : List T3) (k : Nat), (∀ g ∈ gs, okTest3 g = true) → 1 ≤ gs.length → gs.length ≤ k → spR k (Lib.join (gs.map tstL) [38]) = some gs := by
  intro gs
  induction gs with
  | nil => intro k _ h; simp at h
  | cons g r ih =>
    intro k h h1 hk
    obtain ⟨k, rfl⟩ : ∃ q, k = q + 1 := ⟨k - 1, by simp at hk; omega⟩
    obtain ⟨x, y, z, rfl, hx, hy, hz⟩ := test_nat (h g (List.mem_cons_self ..))
    obtain ⟨p1, p2, p3, p4⟩ := tst_parts (x : Int) (y : Int) z
    obtain ⟨tl, htl, htl2⟩ : ∃ tl, Lib.join ((((x : Int), (y : Int), (z : Int)) :: r).map tstL) [38] = tstL ((x : Int), (y : Int), (z : Int)) ++ tl ∧ ((r = [] ∧ tl = []) ∨ (r ≠ [] ∧ tl = 38 :: Lib.join (r.map tstL) [38])) := by
      cases r with
      | nil => exact ⟨[], by rw [List.map_cons, List.map_nil, Lib.join_one]; simp, .inl ⟨rfl, rfl⟩⟩
      | cons g2 r2 => exact ⟨_, by rw [List.map_cons, List.map_cons, join_two], .inr ⟨by simp, rfl⟩⟩
    rw [htl]
    generalize tstL ((x : Int), (y : Int), (z : Int)) = W at *
    have hlen : 5 < (W ++ tl).length := by rw [List.length_append]; omega
    have e1 : fsF (W ++ tl) = x := by unfold fsF; rw [if_pos hlen, List.take_append_of_le_length (by omega), p1]; exact fIdx_fld x hx
    have e2 : fsS (W ++ tl) = y := by
      unfold fsS
      rw [if_pos hlen]
      have : (W ++ tl).getD 4 0 = W.getD 4 0 := by rw [List.getD_eq_getElem?_getD, List.getD_eq_getElem?_getD, List.getElem?_append_left (by omega)]
      rw [this, p2]
      exact sIdx_sgn y hy
    have e3 : (W ++ tl).drop 5 = numL (z : Int) ++ tl := by rw [List.drop_append_of_le_length (by omega), p3]
    have e4 := dgs_num z hz tl (by rcases htl2 with ⟨_, q⟩ | ⟨_, q⟩; exact .inl q; exact .inr ⟨_, q⟩)
    unfold spR
    rw [e1, e2, e3, e4, if_neg (by omega)]
    dsimp only
    rw [List.drop_left]
    rcases htl2 with ⟨rfl, rfl⟩ | ⟨hne, rfl⟩
    · rfl
    · dsimp only
      rw [if_pos rfl, ih k (fun g hg => h g (List.mem_cons_of_mem _ hg)) (by cases r with | nil => exact absurd rfl hne | cons _ _ => simp) (by simp at hk; omega)]
      rfl
theorem rd_sp {l : List UInt8} {gs : List T3} (h : RdOk l gs) : spR 6 l = some gs := by
  obtain ⟨h1, h2⟩ := h
  have := okTests_len h1
  rw [← h2, txtL_join]
  exact sp_yes gs 6 (okTests_all h1) this.1 this.2

end Go.Proofs.YtmijfieiebnbfaaDoor
