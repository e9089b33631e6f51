/- What is stored is read back: plain terms. -/
import Derived.Test.YtnoageckldilnaaDoorRcC
import Derived.Test.YtnoageckldilnaaDoorDeckOk
namespace Go.Proofs.YtnoageckldilnaaDoor
open Go.RowKit
set_option linter.unusedVariables false

theorem tk_app (a rest : List UInt8) (b : Bool) (m : Nat) (h : a.length = m) : tk (a ++ rest, b) m = (a, (rest, b)) := by
  subst h
  rw [tk_ok (by simp)]
  simp
theorem byteOf_small (x : Int) (h : 0 ≤ x ∧ x ≤ 255) : ((byteOf x).toNat : Int) = x := by rw [byteOf_nat]; omega
theorem byteOf_smallN (n : Nat) (h : n ≤ 255) : (byteOf (n : Int)).toNat = n := by have := byteOf_small (n : Int) (by omega); omega
theorem map_byteOf (xs : List Int) (h : ∀ x ∈ xs, 0 ≤ x ∧ x ≤ 255) : (xs.map byteOf).map (fun b => (b.toNat : Int)) = xs := by
  rw [List.map_map]
  conv => rhs; rw [← List.map_id xs]
  apply List.map_congr_left
  intro x hx
  exact byteOf_small x (h x hx)
theorem cnt_bList (xs : List Int) (rest : List UInt8) (b : Bool) (h : ∀ x ∈ xs, 0 ≤ x ∧ x ≤ 255) (hl : xs.length ≤ 255) : cnt (bList xs ++ rest, b) = (xs, (rest, b)) := by
  have e : bList xs ++ rest = [byteOf (xs.length : Int)] ++ (xs.map byteOf ++ rest) := by simp [bList]
  have t1 : tk (bList xs ++ rest, b) 1 = ([byteOf (xs.length : Int)], (xs.map byteOf ++ rest, b)) := by rw [e]; exact tk_app _ _ _ _ rfl
  have t2 : tk (xs.map byteOf ++ rest, b) xs.length = (xs.map byteOf, (rest, b)) := tk_app _ _ _ _ (by simp)
  unfold cnt
  rw [t1]
  dsimp only [hd0, List.headD_cons]
  rw [byteOf_smallN _ hl, t2]
  dsimp only
  rw [map_byteOf xs h]
/-- all are bytes -/
def Bts (xs : List Int) : Prop := xs.length ≤ 255 ∧ ∀ x ∈ xs, 0 ≤ x ∧ x ≤ 255
theorem dce_bList (xss : List (List Int)) (rest : List UInt8) (b : Bool) (h : ∀ i, i < xss.length → Bts (xss.getD i [])) : ∀ k, k ≤ xss.length → dce k (xss.flatMap bList ++ rest, b) = (xss.take k, ((xss.drop k).flatMap bList ++ rest, b)) := by
  intro k
  induction k with
  | zero => intro _; simp [dce]
  | succ k ih =>
    intro hk
    have hk' : k < xss.length := by omega
    have e : xss.drop k = xss.getD k [] :: xss.drop (k + 1) := by
      rw [List.drop_eq_getElem_cons hk']; simp [hk']
    have hb := h k hk'
    have t : cnt ((xss.drop k).flatMap bList ++ rest, b) = (xss.getD k [], ((xss.drop (k + 1)).flatMap bList ++ rest, b)) := by
      rw [e, List.flatMap_cons, List.append_assoc]
      exact cnt_bList _ _ _ hb.2 hb.1
    unfold dce
    rw [ih (by omega), t, List.take_add_one]
    simp [hk']

theorem inB_bd {x lo hi : Int} (h : inB x lo hi = true) : lo ≤ x ∧ x ≤ hi := by
  unfold inB at h
  simpa using h
theorem mem_getD {xs : List Int} {x : Int} (h : x ∈ xs) : ∃ j, j < xs.length ∧ xs.getD j 0 = x := by
  obtain ⟨j, hj, rfl⟩ := List.getElem_of_mem h
  exact ⟨j, hj, by simp [hj]⟩
theorem deck_bts {xs : List Int} (h : okDeck xs = true) : Bts xs := by
  unfold okDeck okOrder at h
  simp only [Bool.and_eq_true, decide_eq_true_eq] at h
  obtain ⟨_, h2, h3⟩ := h
  refine ⟨by omega, fun x hx => ?_⟩
  obtain ⟨j, hj, rfl⟩ := mem_getD hx
  have := List.all_eq_true.1 h3 j (List.mem_range.2 hj)
  unfold goodAt at this
  rw [Bool.and_eq_true] at this
  have := inB_bd this.1
  omega
theorem die_bts {xs : List Int} (h : okDie xs = true) : Bts xs := by
  unfold okDie at h
  simp only [Bool.and_eq_true, decide_eq_true_eq] at h
  obtain ⟨_, h2, h3⟩ := h
  refine ⟨by omega, fun x hx => ?_⟩
  obtain ⟨j, hj, rfl⟩ := mem_getD hx
  have := List.all_eq_true.1 h3 j (List.mem_range.2 hj)
  unfold okFace at this
  rw [Bool.and_eq_true] at this
  have := inB_bd this.1
  omega
theorem dice_bts {nm : ByteArray} {x0 : List Int} {xss : List (List Int)} (h : okSaved nm x0 xss = true) : Bts x0 ∧ ∀ i, i < xss.length → Bts (xss.getD i []) := by
  unfold okSaved at h
  simp only [Bool.and_eq_true] at h
  obtain ⟨_, h1, _, h2⟩ := h
  refine ⟨deck_bts h1, fun i hi => die_bts (List.all_eq_true.1 h2 _ (getD_mem hi))⟩

/-- what is stored, whatever follows, is read back -/
theorem ld_store (nm : ByteArray) (x0 : List Int) (xss : List (List Int)) (rest : List UInt8) (h : okSaved nm x0 xss = true) :
    ldX (storeL nm x0 xss ++ rest) = (nm, x0, xss) ∧ ldN (storeL nm x0 xss ++ rest) = (storeL nm x0 xss).length := by
  obtain ⟨b1, b2, b3, b4, b5⟩ := ok_bounds h
  obtain ⟨q1, q2⟩ := dice_bts h
  generalize hC : [byteOf (storeC nm x0 xss), byteOf (storeC nm x0 xss / 256)] ++ rest = tl
  have hdice : diceTo xss xss.length = xss.flatMap bList := by unfold diceTo; rw [List.take_length]
  have hL : storeL nm x0 xss ++ rest = [68, 67, 75, 49] ++ ([byteOf (nm.size : Int)] ++ (nm.data.toList ++ (bList x0 ++ ([byteOf (xss.length : Int)] ++ (xss.flatMap bList ++ tl))))) := by
    rw [← hC]
    unfold storeL storeB headB
    rw [hdice]
    simp only [List.append_assoc]
  have e1 : ld1 (storeL nm x0 xss ++ rest) = ([byteOf (nm.size : Int)] ++ (nm.data.toList ++ (bList x0 ++ ([byteOf (xss.length : Int)] ++ (xss.flatMap bList ++ tl)))), false) := by
    unfold ld1; rw [hL, tk_app _ _ _ 4 rfl]
  have e2 : ld2 (storeL nm x0 xss ++ rest) = (nm.data.toList, (bList x0 ++ ([byteOf (xss.length : Int)] ++ (xss.flatMap bList ++ tl)), false)) := by
    unfold ld2
    rw [e1, tk_app _ _ _ 1 rfl]
    dsimp only [hd0, List.headD_cons]
    rw [byteOf_smallN _ (by omega)]
    exact tk_app _ _ _ _ rfl
  have e3 : ld3 (storeL nm x0 xss ++ rest) = (x0, ([byteOf (xss.length : Int)] ++ (xss.flatMap bList ++ tl), false)) := by
    unfold ld3; rw [e2]; exact cnt_bList _ _ _ q1.2 q1.1
  have e4 : ld4 (storeL nm x0 xss ++ rest) = ([byteOf (xss.length : Int)], (xss.flatMap bList ++ tl, false)) := by
    unfold ld4; rw [e3]; exact tk_app _ _ _ 1 rfl
  have e5 : ld5 (storeL nm x0 xss ++ rest) = (xss, (tl, false)) := by
    unfold ld5
    rw [e4]
    dsimp only [hd0, List.headD_cons]
    rw [byteOf_smallN _ (by omega), dce_bList xss tl false q2 _ (Nat.le_refl _)]
    simp
  have eX : ldX (storeL nm x0 xss ++ rest) = (nm, x0, xss) := by
    rw [ldX_eq, e2, e3, e5]
    dsimp only
    rw [ofL_data]
  refine ⟨eX, ?_⟩
  rw [ldN_eq, e2, e3, e5]
  dsimp only
  rw [ofL_data, if_pos ⟨rfl, h, List.isPrefixOf_iff_prefix.2 ⟨rest, rfl⟩⟩]

/-- one's bytes -/
def stL (x : AS) : List UInt8 := storeL x.1 x.2.1 x.2.2
def okS (x : AS) : Bool := okSaved x.1 x.2.1 x.2.2
theorem stL_pos (x : AS) : 2 ≤ (stL x).length := by unfold stL; rw [storeL_len]; omega
theorem ld_stL (x : AS) (rest : List UInt8) (h : okS x = true) : ldX (stL x ++ rest) = x ∧ ldN (stL x ++ rest) = (stL x).length := ld_store x.1 x.2.1 x.2.2 rest h
/-- whatever is read is what is stored -/
theorem ldN_pos (l : List UInt8) (h : ldN l ≠ 0) : okS (ldX l) = true ∧ ldN l = (stL (ldX l)).length ∧ ∃ rest, l = stL (ldX l) ++ rest := by
  unfold ldN at h ⊢
  by_cases hg : ldBad l = false ∧ okSaved (ldX l).1 (ldX l).2.1 (ldX l).2.2 = true ∧ (storeL (ldX l).1 (ldX l).2.1 (ldX l).2.2).isPrefixOf l = true
  · rw [if_pos hg]
    refine ⟨hg.2.1, rfl, ?_⟩
    obtain ⟨rest, hr⟩ := List.isPrefixOf_iff_prefix.1 hg.2.2
    exact ⟨rest, hr.symm⟩
  · rw [if_neg hg] at h; exact absurd rfl h
/-- of a part of what is stored nothing is read -/
theorem ldN_cut (x : AS) (h : okS x = true) (l m : List UInt8) (e : stL x = l ++ m) (hm : m ≠ []) : ldN l = 0 := by
  by_cases h0 : ldN l = 0
  · exact h0
  · exfalso
    obtain ⟨h1, h2, rest, h3⟩ := ldN_pos l h0
    have a1 := ld_stL x [] h
    have a2 := ld_stL (ldX l) (rest ++ m) h1
    rw [List.append_nil, e] at a1
    have e2 : stL (ldX l) ++ (rest ++ m) = l ++ m := by rw [← List.append_assoc, ← h3]
    rw [e2] at a2
    have : x = ldX l := a1.1.symm.trans a2.1
    rw [← this] at h3
    have q : stL x = stL x ++ (rest ++ m) := by conv => lhs; rw [e, h3]
                                                simp
    have := congrArg List.length q
    rw [List.length_append, List.length_append] at this
    have : 0 < m.length := List.length_pos_iff.2 hm
    omega

/-- all, one behind the other -/
def allL (xs : List AS) : List UInt8 := xs.flatMap stL
def endN (xs : List AS) (k : Nat) : Nat := (allL (xs.take k)).length
theorem endN_zero (xs : List AS) : endN xs 0 = 0 := rfl
theorem endN_succ (xs : List AS) (k : Nat) (h : k < xs.length) : endN xs (k + 1) = endN xs k + (stL (xs.getD k as0)).length := by
  unfold endN allL
  rw [List.take_add_one, List.getElem?_eq_getElem h, List.flatMap_append, List.length_append]
  simp [h]
theorem endN_all (xs : List AS) : endN xs xs.length = (allL xs).length := by unfold endN; rw [List.take_length]
theorem endN_le (xs : List AS) : ∀ k, endN xs k ≤ (allL xs).length := by
  intro k
  have : allL xs = allL (xs.take k) ++ allL (xs.drop k) := by unfold allL; rw [← List.flatMap_append, List.take_append_drop]
  unfold endN
  rw [this, List.length_append]
  omega
theorem allL_app (a b : List AS) : allL (a ++ b) = allL a ++ allL b := by simp [allL]
theorem allL_split (xs : List AS) (k : Nat) : allL xs = allL (xs.take k) ++ allL (xs.drop k) := by rw [← allL_app, List.take_append_drop]
theorem allL_at (xs : List AS) (k : Nat) (hk : k < xs.length) : allL (xs.drop k) = stL (xs.getD k as0) ++ allL (xs.drop (k + 1)) := by
  have e : xs.drop k = xs.getD k as0 :: xs.drop (k + 1) := by rw [List.drop_eq_getElem_cons hk]; simp [hk]
  rw [e]
  exact Eq.refl _
/-- reading what was stored of some, whatever follows -/
theorem rcv_all : ∀ (xs : List AS) (k : Nat) (rest : List UInt8), (∀ x ∈ xs, okS x = true) → rcv (xs.length + k) (allL xs ++ rest) = (xs ++ (rcv k rest).1, (allL xs).length + (rcv k rest).2) := by
  intro xs
  induction xs with
  | nil => intro k rest _; simp [allL]
  | cons x xs ih =>
    intro k rest h
    have h0 := h x (List.mem_cons_self ..)
    have e : allL (x :: xs) ++ rest = stL x ++ (allL xs ++ rest) := by simp [allL]
    obtain ⟨a1, a2⟩ := ld_stL x (allL xs ++ rest) h0
    have hp := stL_pos x
    have e2 : (x :: xs).length + k = (xs.length + k) + 1 := by simp; omega
    rw [e, e2, rcv_some _ _ (by rw [a2]; omega), a1, a2, List.drop_left, ih k rest (fun y hy => h y (List.mem_cons_of_mem _ hy))]
    simp [allL]
    omega
theorem ldN_nil : ldN [] = 0 := by
  by_cases h : ldN [] = 0
  · exact h
  · obtain ⟨_, h2, rest, h3⟩ := ldN_pos [] h
    have q := congrArg List.length h3
    rw [List.length_append, List.length_nil] at q
    have := stL_pos (ldX [])
    omega
/-- of all that was stored, all is read -/
theorem rcv_whole (xs : List AS) (h : ∀ x ∈ xs, okS x = true) (hn : xs.length ≤ 8) : rcv 8 (allL xs) = (xs, (allL xs).length) := by
  have := rcv_all xs (8 - xs.length) [] h
  rw [List.append_nil, show xs.length + (8 - xs.length) = 8 by omega, rcv_none _ _ ldN_nil] at this
  simpa using this
/-- cut behind some and a part of the next one -/
theorem rcv_cut (xs : List AS) (h : ∀ x ∈ xs, okS x = true) (hn : xs.length ≤ 8) (k cut : Nat) (hk : k < xs.length) (h1 : endN xs k ≤ cut) (h2 : cut < endN xs (k + 1)) : rcv 8 ((allL xs).take cut) = (xs.take k, endN xs k) := by
  rw [endN_succ xs k hk] at h2
  have e : allL xs = allL (xs.take k) ++ (stL (xs.getD k as0) ++ allL (xs.drop (k + 1))) := by rw [← allL_at xs k hk]; exact allL_split xs k
  have ek : endN xs k = (allL (xs.take k)).length := rfl
  have e2 : (allL xs).take cut = allL (xs.take k) ++ (stL (xs.getD k as0)).take (cut - endN xs k) := by
    rw [e, List.take_append, ← ek, List.take_of_length_le (by rw [← ek]; exact h1), List.take_append_of_le_length (by omega)]
  have hz : ldN ((stL (xs.getD k as0)).take (cut - endN xs k)) = 0 := by
    refine ldN_cut (xs.getD k as0) (h _ (getD_mem hk)) _ ((stL (xs.getD k as0)).drop (cut - endN xs k)) (List.take_append_drop _ _).symm ?_
    intro e0
    have := congrArg List.length e0
    rw [List.length_drop, List.length_nil] at this
    omega
  have hl : (xs.take k).length = k := by rw [List.length_take]; omega
  have := rcv_all (xs.take k) (8 - k) ((stL (xs.getD k as0)).take (cut - endN xs k)) (fun x hx => h x (List.mem_of_mem_take hx))
  rw [hl, show k + (8 - k) = 8 by omega, rcv_none _ _ hz, ← e2] at this
  rw [this, ek, List.append_nil]
  rfl
/-- what follows behind some cannot hinder that they are read -/
theorem rcv_bent (xs : List AS) (h : ∀ x ∈ xs, okS x = true) (k : Nat) (hk : k ≤ xs.length) (hn : xs.length ≤ 8) (l : List UInt8) (e : l.take (endN xs k) = (allL xs).take (endN xs k)) : k ≤ (rcv 8 l).1.length := by
  have hl : (xs.take k).length = k := by rw [List.length_take]; omega
  have e1 : (allL xs).take (endN xs k) = allL (xs.take k) := by
    rw [allL_split xs k]
    exact List.take_left' rfl
  have e2 : l = allL (xs.take k) ++ l.drop (endN xs k) := by rw [← e1, ← e, List.take_append_drop]
  have := rcv_all (xs.take k) (8 - k) (l.drop (endN xs k)) (fun x hx => h x (List.mem_of_mem_take hx))
  rw [hl, show k + (8 - k) = 8 by omega, ← e2] at this
  rw [this, List.length_append, hl]
  omega
/-- what is read, stored again, is the text's beginning -/
theorem rcv_store : ∀ (k : Nat) (l : List UInt8), (∀ x ∈ (rcv k l).1, okS x = true) ∧ (rcv k l).2 ≤ l.length ∧ allL (rcv k l).1 = l.take (rcv k l).2 := by
  intro k
  induction k with
  | zero => intro l; rw [rcv_zero]; exact ⟨fun x hx => (by cases hx), Nat.zero_le _, by simp [allL]⟩
  | succ k ih =>
    intro l
    by_cases h : ldN l = 0
    · rw [rcv_none _ l h]; exact ⟨fun x hx => (by cases hx), Nat.zero_le _, by simp [allL]⟩
    · obtain ⟨g1, g2, rest, g3⟩ := ldN_pos l h
      rw [rcv_some k l h]
      obtain ⟨i1, i2, i3⟩ := ih (l.drop (ldN l))
      have hle := ldN_le l
      generalize ldX l = X at *
      generalize ldN l = N at *
      generalize rcv k (l.drop N) = r at *
      refine ⟨fun x hx => ?_, ?_, ?_⟩
      · rcases List.mem_cons.1 hx with e | hx
        · rw [e]; exact g1
        · exact i1 x hx
      · dsimp only; rw [List.length_drop] at i2; omega
      · dsimp only
        have e0 : allL (X :: r.1) = stL X ++ allL r.1 := by simp [allL]
        rw [e0, i3, List.take_add]
        congr 1
        rw [g2, g3]
        exact (List.take_left' rfl).symm

set_option maxHeartbeats 1600000 in
theorem text_any (g k b n c : Nat) (xs : List ByteArray) (w : World) (h : Src g k w) (hk : k < 1000000) (hx : ∀ j, j < n → w.cell? ⟨b, j, none⟩ = some (.string (xs.getD j ⟨#[]⟩))) (hb : b ≠ g) (hn : 1 ≤ n) (hn2 : n ≤ 200) (hnc : n ≤ c) (hc : c ≤ 1000) :
    Calls Tryd.prog 49 #[.pointer (some ⟨g, 0, none⟩), .slice (some ⟨b, 0, none⟩) n c] w fun e w' => ∃ j, j < n ∧ e = .returned (.string (xs.getD j ⟨#[]⟩)) ∧ Chg g (g + 1) w w' ∧ Src g (k + 1) w' := by
  have C := Lib.hid (pick_any g k (n : Int) w h (by omega) (by omega) (by omega))
  have HX := Lib.hid hx
  clear h hx
  go_enter Tryd.func49, Tryd.ntmps49
  go_wp2_with (fail)
  refine C.out.mono ?_
  rintro e w1 ⟨x, rfl, hx0, hx1, hch, hs⟩
  obtain ⟨j, rfl⟩ : ∃ j : Nat, x = j := ⟨x.toNat, by omega⟩
  have hj : j < n := by omega
  have z := hch.cell (HX.out j hj) (by dsimp only; omega)
  have HC := Lib.hid hch
  have HS := Lib.hid hs
  clear hch hs C HX
  generalize hy : xs.getD j ⟨#[]⟩ = y at *
  have HY := Lib.hid hy
  clear hy
  go_wp2
  go_ret
  exact ⟨j, hj, by rw [HY.out]; rfl, HC.out, HS.out⟩

theorem ret_i {a b : Int} (h : a = b) : Ending.returned (.int .i64 a) = Ending.returned (.int .i64 b) := by rw [h]
theorem l00Min_any (x y : Int) (w : World) : Calls Tryd.prog 82 #[.int .i64 x, .int .i64 y] w (RetS w (.int .i64 (min x y))) := by
  by_cases h : x < y
  · have H : Hid (min x y = x) := by show _ = _; omega
    go_enter Tryd.func82, Tryd.ntmps82
    go_wp2
    go_ret
    exact ⟨ret_i H.out.symm, rfl⟩
  · have H : Hid (min x y = y) := by show _ = _; omega
    go_enter Tryd.func82, Tryd.ntmps82
    go_wp2
    go_ret
    exact ⟨ret_i H.out.symm, rfl⟩

/-- faces that ascend, all of them x at most -/
def Fc (xs : List Int) (x : Int) : Prop := (∀ j, j < xs.length → okFace xs j = true) ∧ ∀ j, j < xs.length → xs.getD j 0 ≤ x
theorem Fc.nil (x : Int) : Fc [] x := ⟨fun j hj => absurd hj (Nat.not_lt_zero _), fun j hj => absurd hj (Nat.not_lt_zero _)⟩
theorem Fc.more {xs : List Int} {x y : Int} (h : Fc xs x) (hy : x ≤ y) : Fc xs y := ⟨h.1, fun j hj => by have := h.2 j hj; omega⟩
theorem Fc.snoc {xs : List Int} {x : Int} (h : Fc xs x) (h0 : 0 ≤ x) (h1 : x ≤ 20) : Fc (xs ++ [x]) x := by
  have hl : (xs ++ [x]).length = xs.length + 1 := by simp
  refine ⟨fun j hj => ?_, fun j hj => ?_⟩
  · by_cases q : j = xs.length
    · unfold okFace inB
      rw [getD_snoc_self xs x 0 j q.symm, decide_eq_true h0, decide_eq_true h1]
      by_cases q0 : 0 < j
      · have hp := h.2 (j - 1) (by omega)
        rw [getD_snoc_lt xs x 0 (j - 1) (by omega), decide_eq_false (by omega : ¬ x < xs.getD (j - 1) 0)]
        simp
      · rw [decide_eq_false q0]; simp
    · have := h.1 j (by omega)
      unfold okFace at this ⊢
      rw [getD_snoc_lt xs x 0 j (by omega), getD_snoc_lt xs x 0 (j - 1) (by omega)]
      exact this
  · by_cases q : j = xs.length
    · rw [getD_snoc_self xs x 0 j q.symm]; omega
    · rw [getD_snoc_lt xs x 0 j (by omega)]
      exact h.2 j (by omega)
theorem Fc.die {xs : List Int} {x : Int} (h : Fc xs x) (h1 : 1 ≤ xs.length) (h2 : xs.length ≤ 12) : okDie xs = true := by
  unfold okDie
  rw [decide_eq_true h1, decide_eq_true h2, Bool.true_and, Bool.true_and, List.all_eq_true]
  intro j hj
  exact h.1 j (List.mem_range.1 hj)

/-- the two cells of a die that is drawn -/
structure DrD (b gs : Nat) (a : Option Addr) (m c : Nat) (xs : List Int) (w : World) : Prop where
  z0 : ∃ v, w.cell? ⟨b, 0, none⟩ = some v
  z1 : w.cell? ⟨b + 1, 0, none⟩ = some (.slice a m c)
  f0 : w.frozen? ⟨b, 0, none⟩ = false
  f1 : w.frozen? ⟨b + 1, 0, none⟩ = false
  own : w.ownsRow (b + 2) 2 1 (.slice a m c) m (intCells xs)
theorem DrD.chg {b gs m c : Nat} {a : Option Addr} {xs : List Int} {w w' : World} (h : DrD b gs a m c xs w) (hc : Chg gs (gs + 1) w w') (hg : gs < b) : DrD b gs a m c xs w' := by
  obtain ⟨⟨v, h0⟩, h1, h2, h3, h4⟩ := h
  exact ⟨⟨v, hc.cell h0 (.inr (by dsimp only; omega))⟩, hc.cell h1 (.inr (by dsimp only; omega)), (World.frozen?_of_block (hc.block b (cell_lt h0) (.inr (by omega)))).trans h2, (World.frozen?_of_block (hc.block (b + 1) (cell_lt h1) (.inr (by omega)))).trans h3, own_chg h4 hc (own_in h4) (.inr (by omega))⟩
/-- behind an append and the store of what it gave -/
theorem DrD.step {b gs m c g cap : Nat} {a : Option Addr} {xs : List Int} {x : Int} {w w' : World} {o : Obj} (h : DrD b gs a m c xs w) (hg : (w.alloc o).grownBy w' (Value.slice a m c).ownBlock) (ho : w'.ownsRow (b + 2) 2 1 (.slice (some ⟨g, 0, none⟩) (m + 1) cap) (m + 1) (intCells xs ++ [.int .i64 x])) :
    DrD b gs (some ⟨g, 0, none⟩) (m + 1) cap (xs ++ [x]) (w'.setCell ⟨b + 1, 0, none⟩ (.slice (some ⟨g, 0, none⟩) (m + 1) cap)) := by
  obtain ⟨⟨v, h0⟩, h1, h2, h3, h4⟩ := h
  have hA : Below w.heap.size w (w.alloc o) := (Below.refl _ _).alloc (Nat.le_refl _) _
  have hin : In (b + 2) w.heap.size a := own_in h4
  have hc := Chg.of_grown (n := m) (c := c) hin hg
  have l0 := cell_lt h0
  have l1 := cell_lt h1
  dsimp only at l0 l1
  have hgb := (ho.lt g rfl).1
  have k0 : w'.cell? ⟨b, 0, none⟩ = some v := hc.cell (cell_on hA h0) (.inl (by dsimp only; omega))
  have k1 : w'.cell? ⟨b + 1, 0, none⟩ = some (.slice a m c) := hc.cell (cell_on hA h1) (.inl (by dsimp only; omega))
  have q0 : w'.frozen? ⟨b, 0, none⟩ = false := (World.frozen?_of_block (hc.block b (by simp; omega) (.inl (by omega)))).trans (frozen_on hA (p := ⟨b, 0, none⟩) l0 h2)
  have q1 : w'.frozen? ⟨b + 1, 0, none⟩ = false := (World.frozen?_of_block (hc.block (b + 1) (by simp; omega) (.inl (by omega)))).trans (frozen_on hA (p := ⟨b + 1, 0, none⟩) l1 h3)
  refine ⟨⟨v, ?_⟩, ?_, ?_, ?_, ?_⟩
  · rw [World.cell?_setCell_other _ _ _ _ (by simp)]; exact k0
  · exact World.cell?_setCell_same _ _ _ k1
  · rw [World.frozen?_setCell]; exact q0
  · rw [World.frozen?_setCell]; exact q1
  · rw [intCells_snoc]
    exact ownsRow_setCell_other ho (fun y hy => by obtain rfl := Option.some.inj hy; dsimp only; omega) _

set_option maxHeartbeats 3200000 in
set_option maxRecDepth 100000 in
theorem l05DrawOk_any (gs k : Nat) (w : World) (h : Src gs k w) (hk : k < 1000000) : Calls Tryd.prog 51 #[.pointer (some ⟨gs, 0, none⟩), .int .i64 4] w fun e w' => ∃ d n c xs, e = .returned (.agg #[.slice (some ⟨d, 0, none⟩) n c]) ∧ xs.length = n ∧ Chg gs (gs + 1) w w' ∧ Src gs (k + 8) w' ∧ w'.ownsRow w.heap.size 2 1 (.slice (some ⟨d, 0, none⟩) n c) n (intCells xs) ∧ okDie xs = true := by
  have hlt : gs < w.heap.size := h.lt
  have hA : Below w.heap.size w ((w.alloc (.cells #[.slice none 0 0] 82)).alloc (.cells #[.slice none 0 0] 82)) := ((Below.refl _ _).alloc (Nat.le_refl _) _).alloc (by simp) _
  have HA := Lib.hid hA
  have HS0 := Lib.hid (h.on hA)
  have hz0 : ((w.alloc (.cells #[.slice none 0 0] 82)).alloc (.cells #[.slice none 0 0] 82)).heap.size = w.heap.size + 2 := by simp
  have HD0 : Hid (DrD w.heap.size gs none 0 0 [] ((w.alloc (.cells #[.slice none 0 0] 82)).alloc (.cells #[.slice none 0 0] 82))) := ⟨⟨.slice none 0 0, by go_simp⟩, by go_simp, by go_simp, by go_simp, World.ownsRow_nil _ _ _ _⟩
  clear h hA
  obtain ⟨i0, hii, hq0, hq1, hq2⟩ := info_parts infoI64
  go_enter Tryd.func51, Tryd.ntmps51
  go_wp2_with (fail)
  generalize (w.alloc (.cells #[.slice none 0 0] 82)).alloc (.cells #[.slice none 0 0] 82) = W0 at *
  refine (pick_any gs k 3 W0 HS0.out (by omega) (by omega) (by omega)).mono ?_
  rintro e w1 ⟨x, rfl, hx0, hx1, hc1, hs1⟩
  obtain ⟨x, rfl⟩ : ∃ q : Nat, x = q := ⟨x.toNat, by omega⟩
  have HC1 := Lib.hid hc1
  have HS1 := Lib.hid hs1
  clear hc1 hs1
  go_wp2_with (fail)
  refine (pick_any gs (k + 1) 4 w1 HS1.out (by omega) (by omega) (by omega)).mono ?_
  rintro e w2 ⟨n, rfl, hn0, hn1, hc2, hs2⟩
  obtain ⟨n, rfl⟩ : ∃ q : Nat, n = q := ⟨n.toNat, by omega⟩
  have HC2 := Lib.hid (HC1.out.trans hc2)
  have HS2 := Lib.hid hs2
  have HD2 := Lib.hid (HD0.out.chg HC2.out hlt)
  have hz2 := HC2.out.size
  have hw0 : IntKind.i64.wrap (1 + (n : Int)) = ((n + 1 : Nat) : Int) := by rw [IntWalk.i64_in _ (by omega)]; omega
  have HB2 : Hid (Chg gs (gs + 1) w w2) := (Chg.of_below (HA.out) (Nat.le_refl _)).trans HC2.out
  clear hc2 hs2 HC1 HS1 HS0 HD0 HC2 HA
  go_wp2
  go_loopw [6, 7] (fun v6 v7 wr => ∃ (x j : Nat) (a : Option Addr) (m c : Nat) (xs : List Int), j + m = n + 1 ∧ xs.length = m ∧ v6 = .int .i64 x ∧ v7 = .int .i64 j ∧ x ≤ 9 ∧ Hid (Fc xs x) ∧ Src gs (k + 2 + m) wr ∧ DrD w.heap.size gs a m c xs wr ∧ Chg gs (gs + 1) w wr) (fun _ v7 _ => (intOf v7).toNat)
  case atStart => exact ⟨x, n + 1, none, 0, 0, [], by omega, rfl, rfl, rfl, by omega, Fc.nil _, HS2.out, HD2.out, HB2.out⟩
  case round =>
    obtain ⟨x, j, a, m, c, xs, hj, hxl, rfl, rfl, hx9, HF, hs, hd, hc⟩ := hrel
    have HS := Lib.hid hs
    have HD := Lib.hid hd
    have HC := Lib.hid hc
    have hsz := hc.size
    clear hs hd hc HS2 HD2 HB2
    by_cases hj0 : 0 < j
    · have z1 := HD.out.z1
      have f1 := HD.out.f1
      have hj1 : IntKind.i64.wrap ((j : Int) - 1) = ((j - 1 : Nat) : Int) := by rw [IntWalk.i64_in _ (by omega)]; omega
      have lz := cell_lt z1
      dsimp only at lz
      have hdo := HD.out.own
      have HDo := Lib.hid hdo
      clear hdo
      go_wp2_with (first | (at_builtin; go_must (refine wpList_append_lies _ rfl _ _ 22 rfl (w.heap.size + 2) 2 i0 _ 1 8 Tryd.underlying22 hii hq0 hq1 hq2 rfl (by omega) (.slice a m c) m (intCells xs) rfl (HDo.out.alloc _) ⟨wr.heap.size, 0, none⟩ 1 1 [.int .i64 (x : Int)] rfl rfl (new1 _ _ _) (one1 rfl) (by omega) (by unfold maxLen; omega) (by omega) (by simp; omega) (wr.heap.size + 1) (by simp) ?_); intro gg cap w5 hown1 hg1 hat hlt5; have HDn := Lib.hid (HD.out.step hg1 hown1); have HCg := Lib.hid (Chg.of_grown (n := m) (c := c) (own_in HDo.out) hg1); have y1 := HCg.out.cell (cell_on ((Below.refl _ _).alloc (Nat.le_refl _) _) z1) (.inl (by dsimp only; omega)); have yf : w5.frozen? ⟨w.heap.size + 1, 0, none⟩ = false := (World.frozen?_of_block (HCg.out.block (w.heap.size + 1) (by simp; omega) (.inl (by omega)))).trans (frozen_on ((Below.refl _ _).alloc (Nat.le_refl _) _) (p := ⟨w.heap.size + 1, 0, none⟩) lz f1); clear hown1 hg1 hat z1 f1))
      have hbA : Below wr.heap.size wr (wr.alloc (.cells #[.int .i64 (x : Int)] 2)) := (Below.refl _ _).alloc (Nat.le_refl _) _
      have HS5 := Lib.hid (((HS.out.on hbA).chg HCg.out (by omega)).chg (Chg.of_set2 (b := w.heap.size + 1) (j := 0) (v := .slice (some ⟨gg, 0, none⟩) (m + 1) cap)) (by omega))
      have HC5 : Hid (Chg gs (gs + 1) w (w5.setCell ⟨w.heap.size + 1, 0, none⟩ (.slice (some ⟨gg, 0, none⟩) (m + 1) cap))) := (((HC.out.trans (Chg.of_below hbA (Nat.le_refl _))).outer HCg.out (by omega))).setNewS _ (by dsimp only; omega)
      clear y1 yf hbA HCg HDo HD HS HC
      generalize w5.setCell ⟨w.heap.size + 1, 0, none⟩ (.slice (some ⟨gg, 0, none⟩) (m + 1) cap) = w6 at *
      refine (pick_any gs (k + 2 + m) 3 w6 HS5.out (by omega) (by omega) (by omega)).mono ?_
      rintro e w7 ⟨y, rfl, hy0, hy1, hc7, hs7⟩
      obtain ⟨y, rfl⟩ : ∃ q : Nat, y = q := ⟨y.toNat, by omega⟩
      have HD7 := Lib.hid (HDn.out.chg hc7 hlt)
      have HC7 := Lib.hid (HC5.out.trans hc7)
      have HS7 := Lib.hid hs7
      clear hc7 hs7 HDn HC5 HS5
      have hw1 : IntKind.i64.wrap ((x : Int) + (y : Int)) = (x : Int) + (y : Int) := IntWalk.i64_in _ (by omega)
      go_wp2_with (fail)
      refine (l00Min_any _ _ w7).mono ?_
      rintro e w8 ⟨rfl, rfl⟩
      have hmn : min ((x : Int) + (y : Int)) 9 = ((min (x + y) 9 : Nat) : Int) := by omega
      rw [hmn]
      have hge : x ≤ min (x + y) 9 := by omega
      have hle : min (x + y) 9 ≤ 9 := by omega
      generalize min (x + y) 9 = x2 at *
      have HF2 : Hid (Fc (xs ++ [(x : Int)]) x2) := (HF.out.snoc (by omega) (by omega)).more (by omega)
      go_wp2
      go_roundw
      case rel => exact ⟨x2, j - 1, some ⟨gg, 0, none⟩, m + 1, cap, xs ++ [(x : Int)], by omega, by simp [hxl], rfl, rfl, hle, HF2.out, HS7.out, HD7.out, HC7.out⟩
      case measure => simp [intOf]; omega
    · obtain rfl : j = 0 := by omega
      obtain ⟨d, rfl⟩ := own_at0 HD.out.own (by omega)
      obtain ⟨v, z0⟩ := HD.out.z0
      have z1 := HD.out.z1
      have f0 := HD.out.f0
      have HR : Hid (okDie xs = true) := HF.out.die (by omega) (by omega)
      have HO := Lib.hid HD.out.own
      go_wp2
      refine bodyPost_ret (v := .agg #[.slice (some ⟨d, 0, none⟩) m c]) (by simp [results, Tryd.results51, go_sem, z0]) rfl ⟨d, m, c, xs, rfl, hxl, ?_, ?_, ?_, HR.out⟩
      · exact HC.out.setNewS _ (Nat.le_refl _)
      · exact ((HS.out.more (show k + 2 + m ≤ k + 8 by omega)).chg (Chg.of_set2 (b := w.heap.size)) (by omega))
      · refine ownsRow_setCell_other (ownsRow_low HO.out (by omega)) (fun y hy => ?_) _
        obtain rfl := Option.some.inj hy
        have := (HO.out.lt d rfl).1
        dsimp only
        omega

theorem perm_deck {xs : List Int} {N : Nat} (h : xs.Perm (upto N)) (h1 : 1 ≤ N) (h2 : N ≤ 52) : okDeck xs = true := by
  obtain ⟨hl, hn, hr⟩ := upto_ok N h
  unfold okDeck okOrder
  rw [decide_eq_true (by omega), decide_eq_true (by omega), Bool.true_and, Bool.true_and, List.all_eq_true]
  intro j hj
  have hj := List.mem_range.1 hj
  have hg : xs.getD j 0 = xs[j] := by simp [hj]
  have hb := hr (xs.getD j 0) (by rw [hg]; exact List.getElem_mem hj)
  unfold goodAt inB
  rw [decide_eq_true hb.1, decide_eq_true (by omega)]
  have hc : (xs.take j).contains (xs.getD j 0) = false := by
    rw [Bool.eq_false_iff]
    intro hc
    obtain ⟨i, hi, e⟩ := List.getElem_of_mem (List.contains_iff_mem.1 hc)
    rw [List.length_take] at hi
    rw [List.getElem_take, hg] at e
    exact List.pairwise_iff_getElem.1 (List.nodup_iff_pairwise_ne.1 hn) i j (by omega) hj (by omega) e
  rw [hc]
  rfl
def T4 : List ByteArray := [⟨#[97]⟩, ⟨#[112, 111, 107, 101, 114]⟩, ⟨#[99, 114, 97, 112, 115]⟩, ⟨#[122, 122]⟩]
theorem t4_ok (j : Nat) (h : j < 4) : nameOk (T4.getD j ⟨#[]⟩).data.toList = true := by
  match j, h with
  | 0, _ => decide
  | 1, _ => decide
  | 2, _ => decide
  | 3, _ => decide
theorem all_snoc {xss : List (List Int)} {ys : List Int} (h : ∀ x ∈ xss, okDie x = true) (h2 : okDie ys = true) : ∀ x ∈ xss ++ [ys], okDie x = true := fun x hx => by
  rcases List.mem_append.1 hx with hx | hx
  · exact h x hx
  · rw [List.mem_singleton.1 hx]; exact h2

theorem okS_mk {nm : ByteArray} {deck : List Int} {xss : List (List Int)} (h1 : nameOk nm.data.toList = true) (h2 : okDeck deck = true) (h3 : xss.length ≤ 6) (h4 : ∀ x ∈ xss, okDie x = true) : okS (nm, deck, xss) = true := by
  show okSaved nm deck xss = true
  unfold okSaved
  rw [h1, h2, decide_eq_true h3, List.all_eq_true.2 h4]
  rfl
theorem all_snocS {xs : List AS} {y : AS} (h : ∀ x ∈ xs, okS x = true) (h2 : okS y = true) : ∀ x ∈ xs ++ [y], okS x = true := fun x hx => by
  rcases List.mem_append.1 hx with hx | hx
  · exact h x hx
  · rw [List.mem_singleton.1 hx]; exact h2

/-- one that is being drawn, and those before it -/
structure SvIn (gs X l1 hi0 : Nat) (nm : ByteArray) (gd dl cd : Nat) (deck : List Int) (a : Option Addr) (m c : Nat) (ss : List Spot) (xss : List (List Int)) (go no co : Nat) (L : Nat → Nat × Nat × Nat) (ms : List MS) (xs : List AS) (w0 wr : World) : Prop where
  p0 : wr.cell? ⟨X, 0, none⟩ = some (.string nm)
  p1 : wr.cell? ⟨X, 1, none⟩ = some (.slice (some ⟨gd, 0, none⟩) dl cd)
  p2 : wr.cell? ⟨X, 2, none⟩ = some (.slice a m c)
  pf : ∀ j, wr.frozen? ⟨X, j, none⟩ = false
  own : wr.ownsRow (X + 1) 2 1 (.slice (some ⟨gd, 0, none⟩) dl cd) dl (intCells deck)
  gdl : gd < l1
  dice : OwnDS l1 wr.heap.size wr a m c ss xss
  out : OwnSv (gs + 1) hi0 wr (some ⟨go, 0, none⟩) no co L ms xs
  ord : gs < hi0 ∧ hi0 ≤ X ∧ X < l1 ∧ l1 ≤ wr.heap.size ∧ w0.heap.size ≤ gs
  bel : Below w0.heap.size w0 wr
section
variable {gs X l1 hi0 : Nat} {nm : ByteArray} {gd dl cd : Nat} {deck : List Int} {a : Option Addr} {m c : Nat} {ss : List Spot} {xss : List (List Int)} {go no co : Nat} {L : Nat → Nat × Nat × Nat} {ms : List MS} {xs : List AS} {w0 wr w9 w10 : World}
theorem SvIn.gdx (h : SvIn gs X l1 hi0 nm gd dl cd deck a m c ss xss go no co L ms xs w0 wr) : X + 1 ≤ gd := (h.own.lt gd rfl).1
theorem SvIn.draw (h : SvIn gs X l1 hi0 nm gd dl cd deck a m c ss xss go no co L ms xs w0 wr) (hc : Chg gs (gs + 1) wr w9) : SvIn gs X l1 hi0 nm gd dl cd deck a m c ss xss go no co L ms xs w0 w9 := by
  obtain ⟨o1, o2, o3, o4, o5⟩ := h.ord
  have hs := hc.size
  have hgx := h.gdx
  refine ⟨hc.cell h.p0 (.inr (by dsimp only; omega)), hc.cell h.p1 (.inr (by dsimp only; omega)), hc.cell h.p2 (.inr (by dsimp only; omega)), fun j => (World.frozen?_of_block (hc.block X (by omega) (.inr (by omega)))).trans (h.pf j), ?_, h.gdl, ?_, ?_, ⟨o1, o2, o3, by omega, o5⟩, below_chg h.bel (by omega) o5 hc⟩
  · exact own_chg h.own hc (fun x hx => by cases hx; exact ⟨Nat.le_refl _, Nat.lt_succ_self _⟩ : In gd (gd + 1) _) (.inr (by omega))
  · exact (h.dice.chg hc (.inr (by omega))).wide hs
  · exact h.out.chg hc (.inr (Nat.le_refl _))
theorem SvIn.step {K g9 n9 c9 gg cap : Nat} {ys : List Int} (h : SvIn gs X l1 hi0 nm gd dl cd deck a m c ss xss go no co L ms xs w0 wr) (hc : Chg gs (gs + 1) wr w9) (ho9 : w9.ownsRow wr.heap.size 2 1 (.slice (some ⟨g9, 0, none⟩) n9 c9) n9 (intCells ys)) (hyl : ys.length = n9)
    (hown : w10.ownsRow l1 82 1 (.slice (some ⟨gg, 0, none⟩) (m + 1) cap) (m + 1) (spotCells ss ++ [.slice (some ⟨g9, 0, none⟩) n9 c9])) (hg : (w9.alloc (.cells #[.slice (some ⟨g9, 0, none⟩) n9 c9] 82)).grownBy w10 (Value.slice a m c).ownBlock) (hat : (Value.slice a m c).ownBlock = some gg ∨ gg = w9.heap.size + 1) (hsrc : Src gs K w9) :
    SvIn gs X l1 hi0 nm gd dl cd deck (some ⟨gg, 0, none⟩) (m + 1) cap (ss ++ [(some ⟨g9, 0, none⟩, n9, c9)]) (xss ++ [ys]) go no co L ms xs w0 (w10.setCell ⟨X, 2, none⟩ (.slice (some ⟨gg, 0, none⟩) (m + 1) cap)) ∧ Src gs K (w10.setCell ⟨X, 2, none⟩ (.slice (some ⟨gg, 0, none⟩) (m + 1) cap)) := by
  have h9 := h.draw hc
  obtain ⟨o1, o2, o3, o4, o5⟩ := h.ord
  have hgx := h.gdx
  have hgl := h.gdl
  have hs9 := hc.size
  have hA : Below w9.heap.size w9 (w9.alloc (.cells #[.slice (some ⟨g9, 0, none⟩) n9 c9] 82)) := (Below.refl _ _).alloc (Nat.le_refl _) _
  have hAs : (w9.alloc (.cells #[.slice (some ⟨g9, 0, none⟩) n9 c9] 82)).heap.size = w9.heap.size + 1 := by simp
  have hIn : In l1 wr.heap.size a := fun x hx => by subst hx; exact h.dice.p.out.lt _ rfl
  have hcg := Chg.of_grown (n := m) (c := c) hIn hg
  have hs10 := hcg.size
  have cc : ∀ j v, w9.cell? ⟨X, j, none⟩ = some v → w10.cell? ⟨X, j, none⟩ = some v := fun j v q => hcg.cell (cell_on hA q) (.inl (by dsimp only; omega))
  have cf : ∀ j, w10.frozen? ⟨X, j, none⟩ = false := fun j => (World.frozen?_of_block (hcg.block X (by omega) (.inl (by omega)))).trans (frozen_on hA (p := ⟨X, j, none⟩) (by dsimp only; omega) (h9.pf j))
  have c0 := cc 0 _ h9.p0
  have c1 := cc 1 _ h9.p1
  have c2 := cc 2 _ h9.p2
  have hS := OwnDS.snoc (s := (some ⟨g9, 0, none⟩, n9, c9)) (lo2 := wr.heap.size) (hi' := w10.heap.size) (h.dice.chg hc (.inr (by omega))) (by rw [hyl]; exact ho9) o4 (Nat.le_refl _) (by omega) (by omega) hown hg hat (Nat.le_refl _)
  have hdeck : w10.ownsRow (X + 1) 2 1 (.slice (some ⟨gd, 0, none⟩) dl cd) dl (intCells deck) :=
    own_chg (ownsRow_below h9.own hA) hcg (fun x hx => by cases hx; exact ⟨Nat.le_refl _, Nat.lt_succ_self _⟩ : In gd (gd + 1) _) (.inl (by omega))
  have hset : Chg X (X + 1) w10 (w10.setCell ⟨X, 2, none⟩ (.slice (some ⟨gg, 0, none⟩) (m + 1) cap)) := Chg.of_set2
  refine ⟨⟨?_, ?_, ?_, fun j => ?_, ?_, hgl, ?_, ?_, ⟨o1, o2, o3, ?_, o5⟩, ?_⟩, ?_⟩
  · clear c1 c2; go_simp
  · clear c0 c2; go_simp
  · exact World.cell?_setCell_same _ _ _ c2
  · rw [World.frozen?_setCell]; exact cf j
  · exact ownsRow_setCell_other hdeck (fun y hy => by obtain rfl := Option.some.inj hy; dsimp only; omega) _
  · exact (hS.set _ (.inl (by dsimp only; omega)) _).wide (by simp)
  · exact ((h9.out.below hA).chg hcg (.inl (by omega))).chg hset (.inl o2)
  · simp; omega
  · exact below_chg (below_chg (h9.bel.trans (hA.mono (by omega))) (by omega) (by omega) hcg) (by omega) (by omega) hset
  · exact ((hsrc.on hA).chg hcg (by omega)).chg hset (by omega)
end

set_option maxHeartbeats 6400000 in
set_option maxRecDepth 100000 in
theorem b10Saved_any (a : Option Addr) (n c : Nat) (bs : List Int) (w : World) (h : Bytes w a n c bs) (ok : okB bs) :
    Calls Tryd.prog 22 #[.slice a n c] w fun e w' => ∃ g k cc L ms xs, e = .returned (.slice (some ⟨g, 0, none⟩) k cc) ∧ Below w.heap.size w w' ∧ OwnSv (w.heap.size + 1) w'.heap.size w' (some ⟨g, 0, none⟩) k cc L ms xs ∧ k ≤ 4 ∧ ∀ x ∈ xs, okS x = true := by
  have C0 := Lib.hid (l00From_any a n c bs w h ok)
  clear h ok
  obtain ⟨i1, hv, hv0, hv1, hv2⟩ := info_parts infoSaved
  go_enter Tryd.func22, Tryd.ntmps22
  go_wp2_with (fail)
  refine C0.out.mono ?_
  rintro e w1 ⟨rfl, hb1, hs1⟩
  have hlt1 := hs1.lt
  have hO : (w1.alloc (.cells #[] 30)).ownsRow w1.heap.size 30 3 (.slice (some ⟨w1.heap.size, 0, none⟩) 0 0) 0 [] := World.ownsRow_made (e := 30) (size := 3) (base := w1.heap.size) w1 #[] 0 (by simp) (Nat.zero_le _) (by simp)
  have HO0 : Hid (OwnSv (w.heap.size + 1) (w1.alloc (.cells #[] 30)).heap.size (w1.alloc (.cells #[] 30)) (some ⟨w1.heap.size, 0, none⟩) 0 0 (fun _ => (0, 0, 0)) [] []) :=
    ⟨ownsRow_low hO (by omega), fun y hy => by obtain rfl := Option.some.inj hy; exact ⟨by dsimp only; omega, by simp⟩, rfl, fun i hi => absurd hi (Nat.not_lt_zero _), fun i hi => absurd hi (Nat.not_lt_zero _), fun i j _ hi => absurd hi (Nat.not_lt_zero _), fun i hi => absurd hi (Nat.not_lt_zero _)⟩
  have HB1 : Hid (Below w.heap.size w (w1.alloc (.cells #[] 30))) := hb1.alloc (by omega) _
  have HS1 : Hid (Src w.heap.size 0 (w1.alloc (.cells #[] 30))) := hs1.on ((Below.refl _ _).alloc (Nat.le_refl _) _)
  clear hO hb1 hs1 C0
  generalize hgs : w.heap.size = gs at *
  go_wp2_with (fail)
  generalize w1.alloc (.cells #[] 30) = w2 at *
  refine (pick_any gs 0 5 w2 HS1.out (by omega) (by omega) (by omega)).mono ?_
  rintro e w3 ⟨N, rfl, hN0, hN1, hc3, hs3⟩
  obtain ⟨N, rfl⟩ : ∃ q : Nat, N = q := ⟨N.toNat, by omega⟩
  have HS3 := Lib.hid (hs3.more (show 0 + 1 ≤ 200 - 40 * N by omega))
  have HO3 := Lib.hid ((HO0.out.chg hc3 (.inr (Nat.le_refl _))).wide (hi' := w3.heap.size) hc3.size)
  have HB3 := Lib.hid (below_chg HB1.out (by have := HB1.out.size; omega) (Nat.le_refl _) hc3)
  clear hc3 hs3 HB1 HS1 HO0
  go_wp2
  go_loopw [4, 5] (fun vo vn wr => ∃ (i m g cc : Nat) (L : Nat → Nat × Nat × Nat) (ms : List MS) (xs : List AS), i + m = N ∧ vn = .int .i64 i ∧ vo = .slice (some ⟨g, 0, none⟩) m cc ∧ Src gs (200 - 40 * i) wr ∧ OwnSv (gs + 1) wr.heap.size wr (some ⟨g, 0, none⟩) m cc L ms xs ∧ Below gs w wr ∧ Hid (∀ x ∈ xs, okS x = true)) (fun _ vn _ => (intOf vn).toNat)
  case atStart => exact ⟨N, 0, w1.heap.size, 0, _, [], [], by omega, rfl, rfl, HS3.out, HO3.out, HB3.out, fun x hx => (by cases hx)⟩
  case round =>
    obtain ⟨i, mo, go, co, L, ms, xs, him, rfl, rfl, hs, ho, hb, HAll⟩ := hrel
    have HS := Lib.hid hs
    have HO := Lib.hid ho
    have HB := Lib.hid hb
    have hsz := hb.size
    have hgl := hs.lt
    clear hs ho hb HS3 HO3 HB3
    by_cases hi0 : 0 < i
    · have hw1 : IntKind.i64.wrap ((i : Int) - 1) = ((i - 1 : Nat) : Int) := by rw [IntWalk.i64_in _ (by omega)]; omega
      have hbT : Below wr.heap.size wr (wr.alloc (.cells #[.string ⟨#[97]⟩, .string ⟨#[112, 111, 107, 101, 114]⟩, .string ⟨#[99, 114, 97, 112, 115]⟩, .string ⟨#[122, 122]⟩] 9)) := (Below.refl _ _).alloc (Nat.le_refl _) _
      have HT := Lib.hid hbT
      have hT : ∀ j, j < 4 → (wr.alloc (.cells #[.string ⟨#[97]⟩, .string ⟨#[112, 111, 107, 101, 114]⟩, .string ⟨#[99, 114, 97, 112, 115]⟩, .string ⟨#[122, 122]⟩] 9)).cell? ⟨wr.heap.size, j, none⟩ = some (.string (T4.getD j ⟨#[]⟩)) := fun j hj => by
        match j, hj with
        | 0, _ => go_simp; rfl
        | 1, _ => go_simp; rfl
        | 2, _ => go_simp; rfl
        | 3, _ => go_simp; rfl
      have HTx := Lib.hid hT
      clear hT hbT
      go_wp2_with (fail)
      refine (text_any gs (200 - 40 * i) wr.heap.size 4 4 T4 _ (HS.out.on HT.out) (by omega) HTx.out (by omega) (by omega) (by omega) (by omega) (by omega)).mono ?_
      rintro e w4 ⟨j4, hj4, rfl, hc4, hs4⟩
      have hNm : nameOk (T4.getD j4 ⟨#[]⟩).data.toList = true := t4_ok j4 hj4
      generalize T4.getD j4 ⟨#[]⟩ = nm at *
      have HNm := Lib.hid hNm
      clear hNm
      have HO4 := Lib.hid (((HO.out.below HT.out).chg hc4 (.inr (Nat.le_refl _))))
      have HB4 := Lib.hid (below_chg (HB.out.trans (HT.out.mono (by omega))) (by have := HT.out.size; omega) (Nat.le_refl _) hc4)
      have HS4 := Lib.hid hs4
      have hz4 : wr.heap.size + 1 ≤ w4.heap.size := by have := hc4.size; simpa using this
      clear hc4 hs4 HTx HT HS HO HB
      have hbX : Below w4.heap.size w4 (w4.alloc (.cells #[.string nm, .slice none 0 0, .slice none 0 0] 30)) := (Below.refl _ _).alloc (Nat.le_refl _) _
      have HX := Lib.hid hbX
      have hzX : (w4.alloc (.cells #[.string nm, .slice none 0 0, .slice none 0 0] 30)).heap.size = w4.heap.size + 1 := by simp
      have HP : Hid ((w4.alloc (.cells #[.string nm, .slice none 0 0, .slice none 0 0] 30)).cell? ⟨w4.heap.size, 0, none⟩ = some (.string nm) ∧ (w4.alloc (.cells #[.string nm, .slice none 0 0, .slice none 0 0] 30)).cell? ⟨w4.heap.size, 1, none⟩ = some (.slice none 0 0) ∧ (w4.alloc (.cells #[.string nm, .slice none 0 0, .slice none 0 0] 30)).cell? ⟨w4.heap.size, 2, none⟩ = some (.slice none 0 0) ∧ ∀ j, (w4.alloc (.cells #[.string nm, .slice none 0 0, .slice none 0 0] 30)).frozen? ⟨w4.heap.size, j, none⟩ = false) := ⟨by go_simp, by go_simp, by go_simp, fun j => by go_simp⟩
      clear hbX
      go_wp2_with (fail)
      refine (pick_any gs _ 8 _ (HS4.out.on HX.out) (by omega) (by omega) (by omega)).mono ?_
      rintro e w5 ⟨K, rfl, hK0, hK1, hc5, hs5⟩
      obtain ⟨K, rfl⟩ : ∃ q : Nat, K = q := ⟨K.toNat, by omega⟩
      have HO5 := Lib.hid ((HO4.out.below HX.out).chg hc5 (.inr (Nat.le_refl _)))
      have HB5 := Lib.hid (below_chg (HB4.out.trans (HX.out.mono (by omega))) (by omega) (Nat.le_refl _) hc5)
      have HS5 := Lib.hid hs5
      have HC5 := Lib.hid hc5
      have hz5 : w4.heap.size + 1 ≤ w5.heap.size := by have := hc5.size; omega
      clear hc5 hs5 HO4 HB4 HS4
      have hwk : IntKind.i64.wrap (1 + (K : Int)) = ((K + 1 : Nat) : Int) := by rw [IntWalk.i64_in _ (by omega)]; omega
      go_wp2_with (fail)
      refine (drawOk_any gs _ (K + 1) w5 HS5.out (by omega) (by omega) (by omega)).mono ?_
      rintro e w6 ⟨gd, cd, deck, rfl, hc6, hs6, ho6, hp6⟩
      have hz6 := hc6.size
      have hC6 := HC5.out.trans hc6
      obtain ⟨p0, p1, p2, pf⟩ := HP.out
      have c0 := hC6.cell p0 (.inr (by dsimp only; omega))
      have c1 := hC6.cell p1 (.inr (by dsimp only; omega))
      have c2 := hC6.cell p2 (.inr (by dsimp only; omega))
      have cf : ∀ j, w6.frozen? ⟨w4.heap.size, j, none⟩ = false := fun j => (World.frozen?_of_block (hC6.block w4.heap.size (by omega) (.inr (by omega)))).trans (pf j)
      have hgd := (ho6.lt gd rfl)
      have hset : Chg w4.heap.size (w4.heap.size + 1) w6 (w6.setCell ⟨w4.heap.size, 1, none⟩ (.slice (some ⟨gd, 0, none⟩) (K + 1) cd)) := Chg.of_set2
      have hzS : (w6.setCell ⟨w4.heap.size, 1, none⟩ (.slice (some ⟨gd, 0, none⟩) (K + 1) cd)).heap.size = w6.heap.size := by simp
      have HI6 : Hid (SvIn gs w4.heap.size w6.heap.size wr.heap.size nm gd (K + 1) cd deck none 0 0 [] [] go mo co L ms xs w (w6.setCell ⟨w4.heap.size, 1, none⟩ (.slice (some ⟨gd, 0, none⟩) (K + 1) cd))) := by
        refine ⟨?_, ?_, ?_, fun j => ?_, ?_, hgd.2, ownDS_nil _ _ _, ?_, ⟨hgl, by omega, by omega, by omega, by omega⟩, ?_⟩
        · clear c1 c2; go_simp
        · exact World.cell?_setCell_same _ _ _ c1
        · clear c0 c1; go_simp
        · rw [World.frozen?_setCell]; exact cf j
        · exact ownsRow_setCell_other (ownsRow_low ho6 hz5) (fun y hy => by obtain rfl := Option.some.inj hy; dsimp only; omega) _
        · exact (HO5.out.chg hc6 (.inr (Nat.le_refl _))).chg hset (.inl (by omega))
        · exact hgs.symm ▸ below_chg (below_chg HB5.out (by omega) (Nat.le_refl _) hc6) (by omega) (by omega) hset
      have HS6 := Lib.hid (hs6.chg hset (by omega))
      have HDk : Hid (okDeck deck = true) := perm_deck hp6 (by omega) (by omega)
      clear hc6 hs6 ho6 hp6 hC6 p0 p1 p2 pf c0 c2 hset HO5 HB5 HS5 HC5 HP HX
      go_wp2_with (fail)
      generalize w6.setCell ⟨w4.heap.size, 1, none⟩ (.slice (some ⟨gd, 0, none⟩) (K + 1) cd) = w7 at *
      clear c1 cf
      refine (pick_any gs _ 3 w7 HS6.out (by omega) (by omega) (by omega)).mono ?_
      rintro e w8 ⟨J, rfl, hJ0, hJ1, hc8, hs8⟩
      obtain ⟨J, rfl⟩ : ∃ q : Nat, J = q := ⟨J.toNat, by omega⟩
      have HI8 := Lib.hid (HI6.out.draw hc8)
      have HS8 := Lib.hid (hs8.more (show _ ≤ 200 - 40 * i + 38 - 8 * J by omega))
      clear hc8 hs8 HI6 HS6
      generalize hXX : w4.heap.size = X at *
      generalize hl1 : w6.heap.size = l1 at *
      clear hXX hl1 hzS
      generalize hR : wr.heap.size = hi0 at *
      go_wp2
      go_loopw [8] (fun vj wr => ∃ (j : Nat) (a : Option Addr) (m c : Nat) (ss : List Spot) (xss : List (List Int)), j + m = J ∧ vj = .int .i64 j ∧ SvIn gs X l1 hi0 nm gd (K + 1) cd deck a m c ss xss go mo co L ms xs w wr ∧ Src gs (200 - 40 * i + 38 - 8 * j) wr ∧ Hid (∀ x ∈ xss, okDie x = true)) (fun vj _ => (intOf vj).toNat)
      case atStart => exact ⟨J, none, 0, 0, [], [], by omega, rfl, HI8.out, HS8.out, fun x hx => (by cases hx)⟩
      case round => as_aux_lemma =>
        obtain ⟨j, a, m, c, ss, xss, hjm, rfl, hI, hs, HA⟩ := hrel
        have HI := Lib.hid hI
        obtain ⟨o1, o2, o3, o4, o5⟩ := hI.ord
        have p2 := hI.p2
        have pf := hI.pf
        by_cases hj0 : 0 < j
        · have hwj : IntKind.i64.wrap ((j : Int) - 1) = ((j - 1 : Nat) : Int) := by rw [IntWalk.i64_in _ (by omega)]; omega
          have C1 := Lib.hid (l05DrawOk_any gs _ wr.drew (hs.on (Below.refl _ _).drew) (by omega))
          obtain ⟨i0, hii, hq0, hq1, hq2⟩ := info_parts infoDie
          clear hI hs
          go_wp2
          refine wp_region_held_drew (S := fun _ => True) (by kernel_rfl) trivial (fun _ => ?_)
          refine wpAnyH_take (i := 0) (v := ?_) rfl (by kernel_rfl) (by kernel_rfl) (by kernel_rfl) (fun _ _ _ h => h) (Or.inl ⟨by rfl, ?_⟩) trivial ?_
          rotate_left 1
          · intro w hSw; go_simp; try with_reducible rfl
          try simp only [Act.put, List.setIfInBounds_toArray, List.set_cons_zero, List.set_cons_succ]
          refine wpAnyH_take (i := 2) (v := ?_) rfl (by kernel_rfl) (by kernel_rfl) (by kernel_rfl) (fun _ _ _ h => h) (Or.inl ⟨by rfl, ?_⟩) trivial ?_
          rotate_left 1
          · intro w hSw; go_simp; try with_reducible rfl
          try simp only [Act.put, List.setIfInBounds_toArray, List.set_cons_zero, List.set_cons_succ]
          refine wpAnyH_ready (rs := [1, 3]) (by kernel_rfl) (by simp) ?_
          refine AllReadyH.cons rfl (fun K hK => ?_) ?_
          · skip
            go_simp
            refine hK.out _ _ trivial (fun _ => ?_)
            clear hK K
            try simp only [Act.put, List.setIfInBounds_toArray, List.set_cons_zero, List.set_cons_succ]
            refine wpAnyH_ready (rs := [3]) (by kernel_rfl) (by simp) ?_
            refine AllReadyH.cons rfl (fun K hK => ?_) ?_
            · skip
              go_simp
              go_at_call 51
              refine C1.out.mono ?_
              rintro e w9 ⟨g9, n9, c9, ys, rfl, hyl, hc9, hs9, ho9, hok9⟩
              have HC9 : Hid (Chg gs (gs + 1) wr w9) := ⟨hc9.os, hc9.tape, hc9.output, hc9.size, hc9.block⟩
              have HS9 := Lib.hid hs9
              have HO9 : Hid (w9.ownsRow wr.heap.size 2 1 (.slice (some ⟨g9, 0, none⟩) n9 c9) n9 (intCells ys)) := ho9
              have HY := Lib.hid hok9
              have p2 := HC9.out.cell p2 (.inr (by dsimp only; omega))
              have pf : ∀ j, w9.frozen? ⟨X, j, none⟩ = false := fun j => (World.frozen?_of_block (HC9.out.block X (by omega) (.inr (by omega)))).trans (pf j)
              clear hc9 hs9 ho9 hok9
              refine hK.out _ _ trivial (fun _ => ?_)
              clear hK K
              try simp only [Act.put, List.setIfInBounds_toArray, List.set_cons_zero, List.set_cons_succ]
              refine wpAnyH_ready (rs := [4]) (by kernel_rfl) (by simp) ?_
              refine AllReadyH.cons rfl (fun K hK => ?_) ?_
              · skip
                go_simp
                have hA9 : Below w9.heap.size w9 (w9.alloc (.cells #[.slice (some ⟨g9, 0, none⟩) n9 c9] 82)) := (Below.refl _ _).alloc (Nat.le_refl _) _
                have p2 := cell_on hA9 p2
                have pf : ∀ j, (w9.alloc (.cells #[.slice (some ⟨g9, 0, none⟩) n9 c9] 82)).frozen? ⟨X, j, none⟩ = false := fun j => frozen_on hA9 (by have := HC9.out.size; show X < _; omega) (pf j)
                refine hK.out _ _ trivial (fun _ => ?_)
                clear hK K
                try simp only [Act.put, List.setIfInBounds_toArray, List.set_cons_zero, List.set_cons_succ]
                refine wpAnyH_ready (rs := [5]) (by kernel_rfl) (by simp) ?_
                refine AllReadyH.cons rfl (fun K hK => ?_) ?_
                · skip
                  refine step_append_lies _ (by rfl) _ _ _ (by rfl) l1 82 i0 _ 1 24 Tryd.underlying28 hii hq0 hq1 hq2 rfl (by omega) (.slice a m c) m (spotCells ss) (by rfl) (((HI.out.dice.chg HC9.out (.inr (by omega))).p.out).alloc _) ⟨w9.heap.size, 0, none⟩ 1 1 [.slice (some ⟨g9, 0, none⟩) n9 c9] (by rfl) (by rfl) (new1 _ _ _) (one1 rfl) (by omega) (by unfold maxLen; omega) (by omega) (by have := HC9.out.size; simp; omega) (w9.heap.size + 1) (by simp) ?_
                  intro gg cap w10 hown1 hg1 hat hlt10
                  have HN := Lib.hid (HI.out.step HC9.out HO9.out hyl hown1 hg1 hat HS9.out)
                  have p2 : w10.cell? ⟨X, 2, none⟩ = some (.slice a m c) := load_step_cell w9 w10 a m c _ hg1 p2 (fun x hx => by have := (HI.out.dice.p.out.lt x hx).1; omega)
                  have pf : ∀ j, w10.frozen? ⟨X, j, none⟩ = false := load_step_fr w9 w10 a m c _ hg1 pf (by have := HC9.out.size; omega) (fun x hx => by have := (HI.out.dice.p.out.lt x hx).1; omega)
                  clear hown1 hg1 hat hlt10
                  refine hK.out _ _ trivial (fun _ => ?_)
                  clear hK K
                  try simp only [Act.put, List.setIfInBounds_toArray, List.set_cons_zero, List.set_cons_succ]
                  refine wpAnyH_take (i := 6) (v := ?_) rfl (by kernel_rfl) (by kernel_rfl) (by kernel_rfl) (fun _ _ _ h => h) (Or.inl ⟨by rfl, ?_⟩) trivial ?_
                  rotate_left 1
                  · intro w hSw; go_simp; try with_reducible rfl
                  try simp only [Act.put, List.setIfInBounds_toArray, List.set_cons_zero, List.set_cons_succ]
                  refine wpAnyH_ready (rs := [7]) (by kernel_rfl) (by simp) ?_
                  refine AllReadyH.cons rfl (fun K hK => ?_) ?_
                  · skip
                    go_simp
                    refine hK.out _ _ trivial (fun _ => ?_)
                    clear hK K
                    try simp only [Act.put, List.setIfInBounds_toArray, List.set_cons_zero, List.set_cons_succ]
                    refine wpAnyH_done (by kernel_rfl) ?_ _
                    clear p2 pf
                    go_wp2
                    go_roundw
                    case rel => exact ⟨j - 1, some ⟨gg, 0, none⟩, m + 1, cap, _, _, by omega, rfl, HN.out.1, HN.out.2.more (by omega), all_snoc HA.out HY.out⟩
                    case measure => simp [intOf]; omega
                  exact AllReadyH.nil
                exact AllReadyH.nil
              exact AllReadyH.nil
            exact AllReadyH.nil
          refine AllReadyH.cons rfl (fun K hK => ?_) ?_
          · skip
            go_simp
            go_at_call 51
            refine C1.out.mono ?_
            rintro e w9 ⟨g9, n9, c9, ys, rfl, hyl, hc9, hs9, ho9, hok9⟩
            have HC9 : Hid (Chg gs (gs + 1) wr w9) := ⟨hc9.os, hc9.tape, hc9.output, hc9.size, hc9.block⟩
            have HS9 := Lib.hid hs9
            have HO9 : Hid (w9.ownsRow wr.heap.size 2 1 (.slice (some ⟨g9, 0, none⟩) n9 c9) n9 (intCells ys)) := ho9
            have HY := Lib.hid hok9
            have p2 := HC9.out.cell p2 (.inr (by dsimp only; omega))
            have pf : ∀ j, w9.frozen? ⟨X, j, none⟩ = false := fun j => (World.frozen?_of_block (HC9.out.block X (by omega) (.inr (by omega)))).trans (pf j)
            clear hc9 hs9 ho9 hok9
            refine hK.out _ _ trivial (fun _ => ?_)
            clear hK K
            try simp only [Act.put, List.setIfInBounds_toArray, List.set_cons_zero, List.set_cons_succ]
            refine wpAnyH_ready (rs := [1, 4]) (by kernel_rfl) (by simp) ?_
            refine AllReadyH.cons rfl (fun K hK => ?_) ?_
            · skip
              go_simp
              refine hK.out _ _ trivial (fun _ => ?_)
              clear hK K
              try simp only [Act.put, List.setIfInBounds_toArray, List.set_cons_zero, List.set_cons_succ]
              refine wpAnyH_ready (rs := [4]) (by kernel_rfl) (by simp) ?_
              refine AllReadyH.cons rfl (fun K hK => ?_) ?_
              · skip
                go_simp
                have hA9 : Below w9.heap.size w9 (w9.alloc (.cells #[.slice (some ⟨g9, 0, none⟩) n9 c9] 82)) := (Below.refl _ _).alloc (Nat.le_refl _) _
                have p2 := cell_on hA9 p2
                have pf : ∀ j, (w9.alloc (.cells #[.slice (some ⟨g9, 0, none⟩) n9 c9] 82)).frozen? ⟨X, j, none⟩ = false := fun j => frozen_on hA9 (by have := HC9.out.size; show X < _; omega) (pf j)
                refine hK.out _ _ trivial (fun _ => ?_)
                clear hK K
                try simp only [Act.put, List.setIfInBounds_toArray, List.set_cons_zero, List.set_cons_succ]
                refine wpAnyH_ready (rs := [5]) (by kernel_rfl) (by simp) ?_
                refine AllReadyH.cons rfl (fun K hK => ?_) ?_
                · skip
                  refine step_append_lies _ (by rfl) _ _ _ (by rfl) l1 82 i0 _ 1 24 Tryd.underlying28 hii hq0 hq1 hq2 rfl (by omega) (.slice a m c) m (spotCells ss) (by rfl) (((HI.out.dice.chg HC9.out (.inr (by omega))).p.out).alloc _) ⟨w9.heap.size, 0, none⟩ 1 1 [.slice (some ⟨g9, 0, none⟩) n9 c9] (by rfl) (by rfl) (new1 _ _ _) (one1 rfl) (by omega) (by unfold maxLen; omega) (by omega) (by have := HC9.out.size; simp; omega) (w9.heap.size + 1) (by simp) ?_
                  intro gg cap w10 hown1 hg1 hat hlt10
                  have HN := Lib.hid (HI.out.step HC9.out HO9.out hyl hown1 hg1 hat HS9.out)
                  have p2 : w10.cell? ⟨X, 2, none⟩ = some (.slice a m c) := load_step_cell w9 w10 a m c _ hg1 p2 (fun x hx => by have := (HI.out.dice.p.out.lt x hx).1; omega)
                  have pf : ∀ j, w10.frozen? ⟨X, j, none⟩ = false := load_step_fr w9 w10 a m c _ hg1 pf (by have := HC9.out.size; omega) (fun x hx => by have := (HI.out.dice.p.out.lt x hx).1; omega)
                  clear hown1 hg1 hat hlt10
                  refine hK.out _ _ trivial (fun _ => ?_)
                  clear hK K
                  try simp only [Act.put, List.setIfInBounds_toArray, List.set_cons_zero, List.set_cons_succ]
                  refine wpAnyH_take (i := 6) (v := ?_) rfl (by kernel_rfl) (by kernel_rfl) (by kernel_rfl) (fun _ _ _ h => h) (Or.inl ⟨by rfl, ?_⟩) trivial ?_
                  rotate_left 1
                  · intro w hSw; go_simp; try with_reducible rfl
                  try simp only [Act.put, List.setIfInBounds_toArray, List.set_cons_zero, List.set_cons_succ]
                  refine wpAnyH_ready (rs := [7]) (by kernel_rfl) (by simp) ?_
                  refine AllReadyH.cons rfl (fun K hK => ?_) ?_
                  · skip
                    go_simp
                    refine hK.out _ _ trivial (fun _ => ?_)
                    clear hK K
                    try simp only [Act.put, List.setIfInBounds_toArray, List.set_cons_zero, List.set_cons_succ]
                    refine wpAnyH_done (by kernel_rfl) ?_ _
                    clear p2 pf
                    go_wp2
                    go_roundw
                    case rel => exact ⟨j - 1, some ⟨gg, 0, none⟩, m + 1, cap, _, _, by omega, rfl, HN.out.1, HN.out.2.more (by omega), all_snoc HA.out HY.out⟩
                    case measure => simp [intOf]; omega
                  exact AllReadyH.nil
                exact AllReadyH.nil
              exact AllReadyH.nil
            refine AllReadyH.cons rfl (fun K hK => ?_) ?_
            · skip
              go_simp
              have hA9 : Below w9.heap.size w9 (w9.alloc (.cells #[.slice (some ⟨g9, 0, none⟩) n9 c9] 82)) := (Below.refl _ _).alloc (Nat.le_refl _) _
              have p2 := cell_on hA9 p2
              have pf : ∀ j, (w9.alloc (.cells #[.slice (some ⟨g9, 0, none⟩) n9 c9] 82)).frozen? ⟨X, j, none⟩ = false := fun j => frozen_on hA9 (by have := HC9.out.size; show X < _; omega) (pf j)
              refine hK.out _ _ trivial (fun _ => ?_)
              clear hK K
              try simp only [Act.put, List.setIfInBounds_toArray, List.set_cons_zero, List.set_cons_succ]
              refine wpAnyH_ready (rs := [1]) (by kernel_rfl) (by simp) ?_
              refine AllReadyH.cons rfl (fun K hK => ?_) ?_
              · skip
                go_simp
                refine hK.out _ _ trivial (fun _ => ?_)
                clear hK K
                try simp only [Act.put, List.setIfInBounds_toArray, List.set_cons_zero, List.set_cons_succ]
                refine wpAnyH_ready (rs := [5]) (by kernel_rfl) (by simp) ?_
                refine AllReadyH.cons rfl (fun K hK => ?_) ?_
                · skip
                  refine step_append_lies _ (by rfl) _ _ _ (by rfl) l1 82 i0 _ 1 24 Tryd.underlying28 hii hq0 hq1 hq2 rfl (by omega) (.slice a m c) m (spotCells ss) (by rfl) (((HI.out.dice.chg HC9.out (.inr (by omega))).p.out).alloc _) ⟨w9.heap.size, 0, none⟩ 1 1 [.slice (some ⟨g9, 0, none⟩) n9 c9] (by rfl) (by rfl) (new1 _ _ _) (one1 rfl) (by omega) (by unfold maxLen; omega) (by omega) (by have := HC9.out.size; simp; omega) (w9.heap.size + 1) (by simp) ?_
                  intro gg cap w10 hown1 hg1 hat hlt10
                  have HN := Lib.hid (HI.out.step HC9.out HO9.out hyl hown1 hg1 hat HS9.out)
                  have p2 : w10.cell? ⟨X, 2, none⟩ = some (.slice a m c) := load_step_cell w9 w10 a m c _ hg1 p2 (fun x hx => by have := (HI.out.dice.p.out.lt x hx).1; omega)
                  have pf : ∀ j, w10.frozen? ⟨X, j, none⟩ = false := load_step_fr w9 w10 a m c _ hg1 pf (by have := HC9.out.size; omega) (fun x hx => by have := (HI.out.dice.p.out.lt x hx).1; omega)
                  clear hown1 hg1 hat hlt10
                  refine hK.out _ _ trivial (fun _ => ?_)
                  clear hK K
                  try simp only [Act.put, List.setIfInBounds_toArray, List.set_cons_zero, List.set_cons_succ]
                  refine wpAnyH_take (i := 6) (v := ?_) rfl (by kernel_rfl) (by kernel_rfl) (by kernel_rfl) (fun _ _ _ h => h) (Or.inl ⟨by rfl, ?_⟩) trivial ?_
                  rotate_left 1
                  · intro w hSw; go_simp; try with_reducible rfl
                  try simp only [Act.put, List.setIfInBounds_toArray, List.set_cons_zero, List.set_cons_succ]
                  refine wpAnyH_ready (rs := [7]) (by kernel_rfl) (by simp) ?_
                  refine AllReadyH.cons rfl (fun K hK => ?_) ?_
                  · skip
                    go_simp
                    refine hK.out _ _ trivial (fun _ => ?_)
                    clear hK K
                    try simp only [Act.put, List.setIfInBounds_toArray, List.set_cons_zero, List.set_cons_succ]
                    refine wpAnyH_done (by kernel_rfl) ?_ _
                    clear p2 pf
                    go_wp2
                    go_roundw
                    case rel => exact ⟨j - 1, some ⟨gg, 0, none⟩, m + 1, cap, _, _, by omega, rfl, HN.out.1, HN.out.2.more (by omega), all_snoc HA.out HY.out⟩
                    case measure => simp [intOf]; omega
                  exact AllReadyH.nil
                exact AllReadyH.nil
              exact AllReadyH.nil
            exact AllReadyH.nil
          exact AllReadyH.nil
        · obtain rfl : j = 0 := by omega
          have HA' := HA
          have hzm : J = m := by omega
          subst hzm
          have p0 := hI.p0
          have p1 := hI.p1
          have hOk : okS (nm, deck, xss) = true := okS_mk HNm.out HDk.out (by rw [hI.dice.len]; omega) HA.out
          have HOk := Lib.hid hOk
          have hSR : SavR (X + 1) l1 wr.heap.size wr (nm, (some ⟨gd, 0, none⟩, K + 1, cd), (a, J, c)) (nm, deck, xss) := ⟨rfl, hI.own, fun y hy => by obtain rfl := Option.some.inj hy; exact ⟨hI.gdx, hI.gdl⟩, ⟨ss, hI.dice⟩, by omega, o4⟩
          have HSR := Lib.hid hSR
          have HSs := Lib.hid hs
          have HOw := Lib.hid hI.out
          have HBw := Lib.hid hI.bel
          have hml : ms.length = mo := hI.out.ml
          clear hI hs HI HA hOk hSR HA' pf
          go_wp2_with (at_builtin; go_must (refine wpList_append_lies _ rfl _ _ 39 rfl (gs + 1) 30 i1 _ 3 64 Tryd.underlying39 hv hv0 hv1 hv2 rfl (by omega) (.slice (some ⟨go, 0, none⟩) mo co) mo (svCells ms) rfl (HOw.out.row.alloc _) ⟨wr.heap.size, 0, none⟩ 1 1 [.string nm, .slice (some ⟨gd, 0, none⟩) (K + 1) cd, .slice a J c] rfl rfl (new3 _ _ _ _ _) (one3 rfl rfl rfl) (by omega) (by unfold maxLen; omega) (by omega) (by simp; omega) (wr.heap.size + 1) (by simp) ?_); intro gg cap w10 hown1 hg1 hat hlt10; have HOn := Lib.hid (HOw.out.snoc HSR.out (by omega) (by omega) (Nat.le_refl _) hown1 hg1 hat (Nat.le_refl _)); have HBn := Lib.hid (below_app HBw.out (by omega) hg1 (ownsRow_low HOw.out.row (by omega))); have HSn := Lib.hid ((HSs.out.on ((Below.refl _ _).alloc (Nat.le_refl _) _)).chg (Chg.of_grown (n := mo) (c := co) HOw.out.rin hg1) (Nat.lt_succ_self _)); clear hown1 hg1 hat p0 p1 p2)
          go_roundw
          case rel => exact ⟨i - 1, mo + 1, gg, cap, _, _, _, by omega, rfl, rfl, HSn.out.more (by omega), HOn.out, hgs ▸ HBn.out, all_snocS HAll.out HOk.out⟩
          case measure => simp [intOf]; omega
    · obtain rfl : i = 0 := by omega
      go_wp2
      go_ret
      exact ⟨go, mo, co, L, ms, xs, rfl, hgs.symm ▸ HB.out, hgs.symm ▸ HO.out, by omega, HAll.out⟩

end Go.Proofs.YtnoageckldilnaaDoor
