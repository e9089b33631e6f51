/- Valid dice: l05Is, ValidDie, areDice. -/
import Derived.Test.YtnoageckldilnaaDoorDieA
import Derived.Test.YtnoageckldilnaaDoorBasic
import Derived.Test.YtnoageckldilnaaDoorChecked
import Derived.Shelf.Abstract
namespace Go.Proofs.YtnoageckldilnaaDoor
open Go.RowKit
set_option linter.unusedVariables false

/-- the face at place j is as it shall be -/
def okFace (xs : List Int) (j : Nat) : Bool := inB (xs.getD j 0) 0 20 && !(decide (0 < j) && decide (xs.getD j 0 < xs.getD (j - 1) 0))
def okDie (xs : List Int) : Bool := decide (1 ≤ xs.length) && (decide (xs.length ≤ 12) && (List.range xs.length).all (okFace xs))
def FaceTo (xs : List Int) (k : Nat) : Prop := ∀ j, j < k → okFace xs j = true
theorem FaceTo.zero (xs : List Int) : FaceTo xs 0 := fun j hj => absurd hj (Nat.not_lt_zero _)
theorem FaceTo.succ {xs : List Int} {k : Nat} (h : FaceTo xs k) (e : okFace xs k = true) : FaceTo xs (k + 1) := fun j hj => by
  by_cases hjk : j = k
  · subst hjk; exact e
  · exact h j (by omega)
theorem FaceTo.die {xs : List Int} {k : Nat} (h : FaceTo xs k) (hk : xs.length = k) : okDie xs = (decide (1 ≤ k) && decide (k ≤ 12)) := by
  unfold okDie
  rw [hk, (List.all_eq_true.2 fun j hj => h j (by simpa using hj) : (List.range k).all (okFace xs) = true), Bool.and_true]
theorem face_not {xs : List Int} {k : Nat} (hk : k < xs.length) (h : okFace xs k = false) : okDie xs = false := by
  unfold okDie
  rw [(List.all_eq_false.2 ⟨k, by simpa using hk, by simp [h]⟩ : (List.range xs.length).all (okFace xs) = false)]
  simp
theorem okFace_zero (xs : List Int) (k : Nat) (hk : k = 0) : okFace xs k = inB (xs.getD k 0) 0 20 := by subst hk; simp [okFace]
theorem okFace_pos (xs : List Int) (k : Nat) (hk : 0 < k) : okFace xs k = (inB (xs.getD k 0) 0 20 && !decide (xs.getD k 0 < xs.getD (k - 1) 0)) := by simp [okFace, hk]

set_option maxHeartbeats 1600000 in
set_option maxRecDepth 100000 in
theorem l05Is_any (d : Addr) (a : Option Addr) (n c : Nat) (xs : List Int) (w : World) (hd : w.cell? d = some (.slice a n c)) (hd0 : d.spot = none) (h : Ints w a n c xs) :
    Calls Tryd.prog 65 #[.pointer (some d)] w (RetQ w (.bool (okDie xs))) := by
  obtain ⟨db, doff, ds⟩ := d
  dsimp only at hd0
  subst hd0
  obtain ⟨hc, hb, hcell⟩ := h.at
  have hl := h.len
  have HLn := Lib.hid hl
  clear h hl
  go_enter Tryd.func65, Tryd.ntmps65
  go_wp2
  go_loopw [9] (fun i wr => ∃ k : Nat, k ≤ n ∧ i = .int .i64 k ∧ FaceTo xs k ∧ Quiet w wr) (fun i _ => n - (intOf i).toNat)
  case atStart => exact ⟨0, by omega, rfl, FaceTo.zero _, Quiet.refl _⟩
  case round =>
    obtain ⟨k, hk, rfl, hto, hq⟩ := hrel
    have HT := Lib.hid hto
    have HQ := Lib.hid hq
    have hd := cell_on hq.b hd
    clear hto hq
    by_cases hlt : k < n
    · obtain ⟨b, off, rfl, hlb, hx⟩ := hcell k hlt
      have h0 := cell_on HQ.out.b (hx k hlt)
      by_cases hk0 : k = 0
      · have HS : Hid (okFace xs k = true → FaceTo xs (k + 1)) := fun e => HT.out.succ e
        have hg : decide (0 < k) = false := by simp; omega
        have HN : Hid (okFace xs k = false → okDie xs = false) := fun e => face_not (by rw [HLn.out]; exact hlt) e
        have HF := Lib.hid (okFace_zero xs k hk0)
        clear hcell hx hk0
        generalize xs.getD k 0 = x at *
        rcases Bool.eq_false_or_eq_true (inB x 0 20) with e | e
        · go_wp2
          go_quiet (first | (go_at_call 88; exact qS (l00In_any _ _ _ _)))
          go_wp2
          go_roundw
          case rel => exact ⟨k + 1, by omega, by go_num, HS.out (by rw [HF.out, e]), HQ.out.trans ⟨_, rfl⟩⟩
          case measure => simp [intOf]; omega
        · go_wp2
          go_quiet (first | (go_at_call 88; exact qS (l00In_any _ _ _ _)))
          go_wp2
          go_ret
          exact ⟨ret_bool (HN.out (by rw [HF.out, e])).symm, HQ.out.trans ⟨_, rfl⟩⟩
      · have h1 := cell_on HQ.out.b (hx (k - 1) (by omega))
        have HS : Hid (okFace xs k = true → FaceTo xs (k + 1)) := fun e => HT.out.succ e
        have HN : Hid (okFace xs k = false → okDie xs = false) := fun e => face_not (by rw [HLn.out]; exact hlt) e
        have HF := Lib.hid (okFace_pos xs k (by omega))
        clear hcell hx
        generalize xs.getD k 0 = x at *
        obtain ⟨k1, rfl⟩ : ∃ k1, k = k1 + 1 := ⟨k - 1, by omega⟩
        rw [Nat.add_sub_cancel] at h1 HF
        generalize xs.getD k1 0 = y at *
        have hw1 : IntKind.i64.wrap (((k1 + 1 : Nat) : Int) - 1) = (k1 : Int) := by rw [IntWalk.i64_in _ (by omega)]; omega
        have hg : decide ((0 : Int) < ((k1 + 1 : Nat) : Int)) = true := by first | (simp; done) | (simp; omega)
        rcases Bool.eq_false_or_eq_true (inB x 0 20) with e | e
        · rcases Bool.eq_false_or_eq_true (decide (x < y)) with e2 | e2
          · go_wp2
            go_quiet (first | (go_at_call 88; exact qS (l00In_any _ _ _ _)))
            go_wp2
            go_ret
            exact ⟨ret_bool (HN.out (by rw [HF.out, e, e2]; rfl)).symm, HQ.out.trans ⟨_, rfl⟩⟩
          · go_wp2
            go_quiet (first | (go_at_call 88; exact qS (l00In_any _ _ _ _)))
            go_wp2
            go_roundw
            case rel => exact ⟨k1 + 1 + 1, by omega, by go_num, HS.out (by rw [HF.out, e, e2]; rfl), HQ.out.trans ⟨_, rfl⟩⟩
            case measure => simp [intOf]; omega
        · go_wp2
          go_quiet (first | (go_at_call 88; exact qS (l00In_any _ _ _ _)))
          go_wp2
          go_ret
          exact ⟨ret_bool (HN.out (by rw [HF.out, e]; rfl)).symm, HQ.out.trans ⟨_, rfl⟩⟩
    · obtain rfl : k = n := by omega
      have HD := Lib.hid (HT.out.die HLn.out)
      clear hcell
      by_cases h1 : 1 ≤ k
      · by_cases h2 : k ≤ 12
        · go_wp2
          go_ret
          exact ⟨ret_bool (by rw [HD.out]; first | (simp [h1, h2]; done) | (simp [h1, h2]; omega)), HQ.out⟩
        · go_wp2
          go_ret
          exact ⟨ret_bool (by rw [HD.out]; first | (simp [h2]; done) | (simp [h2]; omega)), HQ.out⟩
      · go_wp2
        go_ret
        exact ⟨ret_bool (by rw [HD.out]; simp [h1]), HQ.out⟩

set_option maxHeartbeats 1600000 in
set_option maxRecDepth 100000 in
theorem ValidDie_any (a : Option Addr) (n c : Nat) (xs : List Int) (w : World) (h : Ints w a n c xs) :
    Calls Tryd.prog 73 #[.agg #[.slice a n c]] w (Ret w (.bool (okDie xs))) := by
  obtain ⟨hc, hb, hcell⟩ := h.at
  have hl := h.len
  have HLn := Lib.hid hl
  have HB : Hid (Below w.heap.size w (w.alloc (.cells #[.slice a n c] 82))) := (Below.refl w.heap.size w).alloc (Nat.le_refl _) (.cells #[.slice a n c] 82)
  clear h
  by_cases h1 : 1 ≤ n
  · by_cases h2 : n ≤ 12
    · clear hl
      go_enter Tryd.func73, Tryd.ntmps73
      go_wp2
      have HC : Hid ((w.alloc (.cells #[.slice a n c] 82)).cell? ⟨w.heap.size, 0, none⟩ = some (.slice a n c)) := by show _ = _; go_simp
      generalize (w.alloc (.cells #[.slice a n c] 82)) = w1 at *
      go_loop [18] (fun i => ∃ k : Nat, k ≤ n ∧ i = .int .i64 k ∧ FaceTo xs k) (fun i => n - (intOf i).toNat)
      case atStart => exact ⟨0, by omega, rfl, FaceTo.zero _⟩
      case round =>
        obtain ⟨k, hk, rfl, hto⟩ := hrel
        have HT := Lib.hid hto
        clear hto
        have hd := HC.out
        by_cases hlt : k < n
        · obtain ⟨b, off, rfl, hlb, hx⟩ := hcell k hlt
          have h0 := cell_on HB.out (hx k hlt)
          by_cases hk0 : k = 0
          · have HS : Hid (okFace xs k = true → FaceTo xs (k + 1)) := fun e => HT.out.succ e
            have hg : decide (0 < k) = false := by simp; omega
            have HN : Hid (okFace xs k = false → okDie xs = false) := fun e => face_not (by rw [HLn.out]; exact hlt) e
            have HF := Lib.hid (okFace_zero xs k hk0)
            clear hcell hx hk0
            generalize xs.getD k 0 = x at *
            rcases Bool.eq_false_or_eq_true (inB x 0 20) with e | e
            · go_wp2_with (first | (go_at_call 97; refine (within_any _ _ _ _).mono ?_; rintro e w' ⟨rfl, rfl⟩))
              go_round
              case rel => exact ⟨k + 1, by omega, by go_num, HS.out (by rw [HF.out, e])⟩
              case measure => simp [intOf]; omega
            · go_wp2_with (first | (go_at_call 97; refine (within_any _ _ _ _).mono ?_; rintro e w' ⟨rfl, rfl⟩))
              go_ret
              exact ⟨ret_bool (HN.out (by rw [HF.out, e])).symm, HB.out⟩
          · have h1 := cell_on HB.out (hx (k - 1) (by omega))
            have HS : Hid (okFace xs k = true → FaceTo xs (k + 1)) := fun e => HT.out.succ e
            have HN : Hid (okFace xs k = false → okDie xs = false) := fun e => face_not (by rw [HLn.out]; exact hlt) e
            have HF := Lib.hid (okFace_pos xs k (by omega))
            clear hcell hx
            generalize xs.getD k 0 = x at *
            obtain ⟨k1, rfl⟩ : ∃ k1, k = k1 + 1 := ⟨k - 1, by omega⟩
            rw [Nat.add_sub_cancel] at h1 HF
            generalize xs.getD k1 0 = y at *
            have hw1 : IntKind.i64.wrap (((k1 + 1 : Nat) : Int) - 1) = (k1 : Int) := by rw [IntWalk.i64_in _ (by omega)]; omega
            have hg : decide ((0 : Int) < ((k1 + 1 : Nat) : Int)) = true := by first | (simp; done) | (simp; omega)
            rcases Bool.eq_false_or_eq_true (inB x 0 20) with e | e
            · rcases Bool.eq_false_or_eq_true (decide (x < y)) with e2 | e2
              · go_wp2_with (first | (go_at_call 97; refine (within_any _ _ _ _).mono ?_; rintro e w' ⟨rfl, rfl⟩))
                go_ret
                exact ⟨ret_bool (HN.out (by rw [HF.out, e, e2]; rfl)).symm, HB.out⟩
              · go_wp2_with (first | (go_at_call 97; refine (within_any _ _ _ _).mono ?_; rintro e w' ⟨rfl, rfl⟩))
                go_round
                case rel => exact ⟨k1 + 1 + 1, by omega, by go_num, HS.out (by rw [HF.out, e, e2]; rfl)⟩
                case measure => simp [intOf]; omega
            · go_wp2_with (first | (go_at_call 97; refine (within_any _ _ _ _).mono ?_; rintro e w' ⟨rfl, rfl⟩))
              go_ret
              exact ⟨ret_bool (HN.out (by rw [HF.out, e]; rfl)).symm, HB.out⟩
        · obtain rfl : k = n := by omega
          have HD := Lib.hid (HT.out.die HLn.out)
          clear hcell
          go_wp2
          go_ret
          exact ⟨ret_bool (by rw [HD.out]; first | (simp [h1, h2]; done) | (simp [h1, h2]; omega)), HB.out⟩
    · have HD : Hid (okDie xs = false) := by show _ = _; unfold okDie; rw [hl]; simp [h2]
      clear hcell hl
      go_enter Tryd.func73, Tryd.ntmps73
      go_wp2
      go_ret
      exact ⟨ret_bool HD.out.symm, HB.out⟩
  · have HD : Hid (okDie xs = false) := by show _ = _; unfold okDie; rw [hl]; simp [h1]
    clear hcell hl
    go_enter Tryd.func73, Tryd.ntmps73
    go_wp2
    go_ret
    exact ⟨ret_bool HD.out.symm, HB.out⟩

theorem noDie_any (a : Option Addr) (n c : Nat) (xs : List Int) (w : World) (h : Ints w a n c xs) :
    Calls Tryd.prog 72 #[.agg #[.slice a n c]] w (Ret w (.bool (!okDie xs))) := by
  have hB : Below w.heap.size w (w.alloc (.cells #[.slice a n c] 82)) := (Below.refl w.heap.size w).alloc (Nat.le_refl _) (.cells #[.slice a n c] 82)
  have C := Lib.hid (ValidDie_any a n c xs _ (h.mono hB))
  go_enter Tryd.func72, Tryd.ntmps72
  go_wp2_with (fail)
  refine C.out.mono ?_
  rintro e w1 ⟨rfl, hb1⟩
  have HB1 := hB.trans (hb1.mono hB.size)
  clear hb1
  go_wp2
  go_ret
  exact ⟨rfl, HB1⟩

set_option maxHeartbeats 1600000 in
set_option maxRecDepth 100000 in
theorem indexDie_any (pr : List Int → Bool) (G : Nat) (cap : Array Value) (eg : ∀ args W, (callFunc G args).run Tryd.prog W = .ok (.enter G args) W) (a : Option Addr) (n c : Nat) (ss : List Spot) (xss : List (List Int)) (w : World) (h : IntSS w a n c ss xss)
    (hf : ∀ W, Below w.heap.size w W → ∀ A L C xs, Ints W A L C xs → Calls Tryd.prog G (#[.agg #[.slice A L C]] ++ cap) W (Ret W (.bool (pr xs)))) :
    Calls Tryd.prog 98 #[.slice a n c, .func (.func G) #[] cap] w (Ret w (.int .i64 (firstIdx pr xss))) := by
  obtain ⟨hc, hb, hcell⟩ := h.at
  have hH := Lib.hid h.len
  have HR := Lib.hid h.row
  clear h
  have hF := Lib.hid hf
  clear hf
  go_enter Tryd.func98, Tryd.ntmps98
  go_wp2
  go_loopw [8] (fun i wr => ∃ k : Nat, k ≤ n ∧ i = .int .i64 k ∧ NoneTo pr [] xss k ∧ Below w.heap.size w wr) (fun i _ => n - (intOf i).toNat)
  case atStart => exact ⟨0, by omega, rfl, fun j hj => by omega, Below.refl _ _⟩
  case round =>
    obtain ⟨k, hk, rfl, hto, hbel⟩ := hrel
    have HT := Lib.hid hto
    clear hto
    by_cases hlt : k < n
    · obtain ⟨b, off, rfl, hlb, hx⟩ := hcell k hlt
      have h0 := cell_on hbel (hx k hlt)
      have HB := Lib.hid hbel
      have HN : Hid (pr (xss.getD k []) = true → firstIdx pr xss = (k : Int)) := fun e => firstIdx_at HT.out e (by rw [hH.out]; exact hlt)
      have HS : Hid (pr (xss.getD k []) = false → NoneTo pr [] xss (k + 1)) := fun e => HT.out.succ e
      have CC := Lib.hid (hF.out wr hbel _ _ _ _ ((HR.out k hlt).mono hbel))
      clear hcell hx hbel
      generalize xss.getD k [] = x at *
      rcases hsp : ss.getD k spot0 with ⟨A, L, C⟩
      rw [hsp] at h0 CC
      dsimp only at h0 CC
      clear hsp
      go_wp2_with (fail)
      refine CC.out.mono ?_
      rintro e w2 ⟨rfl, hb2⟩
      have HB2 := Lib.hid (HB.out.trans (hb2.mono HB.out.size))
      clear hb2
      rcases Bool.eq_false_or_eq_true (pr x) with ep | ep
      · go_wp2
        go_ret
        exact ⟨ret_int (HN.out ep).symm, HB2.out⟩
      · go_wp2
        go_roundw
        case rel => exact ⟨k + 1, by omega, by go_num, HS.out ep, HB2.out⟩
        case measure => simp [intOf]; omega
    · obtain rfl : k = n := by omega
      have HB := Lib.hid hbel
      clear hcell hbel
      go_wp2
      go_ret
      exact ⟨ret_int (firstIdx_none HT.out hH.out).symm, HB.out⟩

theorem containsDie_any (pr : List Int → Bool) (G : Nat) (cap : Array Value) (eg : ∀ args W, (callFunc G args).run Tryd.prog W = .ok (.enter G args) W) (a : Option Addr) (n c : Nat) (ss : List Spot) (xss : List (List Int)) (w : World) (h : IntSS w a n c ss xss)
    (hf : ∀ W, Below w.heap.size w W → ∀ A L C xs, Ints W A L C xs → Calls Tryd.prog G (#[.agg #[.slice A L C]] ++ cap) W (Ret W (.bool (pr xs)))) :
    Calls Tryd.prog 71 #[.slice a n c, .func (.func G) #[] cap] w (Ret w (.bool (xss.any pr))) := by
  have C := indexDie_any pr G cap eg a n c ss xss w h hf
  have HA := Lib.hid (firstIdx_any pr xss)
  clear h hf
  generalize firstIdx pr xss = i at *
  rcases Bool.eq_false_or_eq_true (xss.any pr) with e | e
  · have hi := (HA.out.1 e)
    go_enter Tryd.func71, Tryd.ntmps71
    go_wp2_with (fail)
    refine C.mono ?_
    rintro e w2 ⟨rfl, hb2⟩
    have HB := Lib.hid hb2
    clear hb2
    go_wp2
    go_ret
    exact ⟨ret_bool (by first | exact e.symm | simp [e] | rfl), HB.out⟩
  · have hi := (HA.out.2 e)
    go_enter Tryd.func71, Tryd.ntmps71
    go_wp2_with (fail)
    refine C.mono ?_
    rintro e w2 ⟨rfl, hb2⟩
    have HB := Lib.hid hb2
    clear hb2
    go_wp2
    go_ret
    exact ⟨ret_bool (by first | exact e.symm | simp [e] | rfl), HB.out⟩

theorem areDice_any (a : Option Addr) (n c : Nat) (ss : List Spot) (xss : List (List Int)) (w : World) (h : IntSS w a n c ss xss) :
    Calls Tryd.prog 40 #[.slice a n c] w (Ret w (.bool (decide (1 ≤ n) && (decide (n ≤ 6) && xss.all okDie)))) := by
  obtain ⟨hc, hb, _⟩ := h.at
  have C := Lib.hid (containsDie_any (fun x => !okDie x) 72 #[] (enters_of Tryd.func72 (by kernel_rfl) rfl) a n c ss xss w h (fun W _ A L C xs hx => noDie_any A L C xs W hx))
  have e : (xss.any fun x => !okDie x) = !xss.all okDie := by rw [List.all_eq_not_any_not]; simp
  rw [e] at C
  clear e h
  generalize xss.all okDie = B at *
  obtain ⟨R, hR⟩ : ∃ R, R = (decide (1 ≤ n) && (decide (n ≤ 6) && B)) := ⟨_, rfl⟩
  rw [← hR]
  by_cases h1 : 1 ≤ n
  · by_cases h2 : n ≤ 6
    · have HR : Hid (R = !!B) := by show _ = _; rw [hR]; simp [h1, h2]
      clear hR
      go_enter Tryd.func40, Tryd.ntmps40
      go_wp2_with (fail)
      refine C.out.mono ?_
      rintro e w1 ⟨rfl, hb1⟩
      go_wp2
      go_ret
      exact ⟨ret_bool (by rw [HR.out]; simp), hb1⟩
    · have HR : Hid (R = false) := by show _ = _; rw [hR]; simp [h2]
      clear hR
      go_enter Tryd.func40, Tryd.ntmps40
      go_wp2
      go_ret
      exact ⟨ret_bool HR.out.symm, Below.refl _ _⟩
  · have HR : Hid (R = false) := by show _ = _; rw [hR]; simp [h1]
    clear hR
    go_enter Tryd.func40, Tryd.ntmps40
    go_wp2
    go_ret
    exact ⟨ret_bool HR.out.symm, Below.refl _ _⟩

end Go.Proofs.YtnoageckldilnaaDoor
