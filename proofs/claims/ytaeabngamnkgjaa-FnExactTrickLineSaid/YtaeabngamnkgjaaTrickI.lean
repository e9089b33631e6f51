/- Tricks, spec: TrickLine. -/
import Derived.Test.YtaeabngamnkgjaaTrickD
namespace Go.Proofs.Ytaeabngamnkgjaa
open Go.RowKit
set_option linter.unusedVariables false

/-- the line of best play -/
def lineF (t : Int) : Nat → List Int → List Int → List Int
  | 0, _, _ => []
  | f + 1, X, Y => leadC t f X Y :: ansC t f X Y (leadC t f X Y) :: (if winsL (leadC t f X Y) (ansC t f X Y (leadC t f X Y)) t = true then lineF t f (lessL X (leadC t f X Y)) (lessL Y (ansC t f X Y (leadC t f X Y))) else lineF t f (lessL Y (ansC t f X Y (leadC t f X Y))) (lessL X (leadC t f X Y)))
/-- what TrickLine tells -/
def lineRes (xs ys : List Int) (b : Bool) (t : Int) : List Int × Bool := if okGameB xs ys t = true then ((if b = true then lineF t xs.length xs ys else lineF t xs.length ys xs), true) else ([], false)
theorem lineF_len (t : Int) : ∀ f X Y, (lineF t f X Y).length = 2 * f := by
  intro f
  induction f with
  | zero => intro X Y; rfl
  | succ f ih =>
    intro X Y
    unfold lineF
    simp only [List.length_cons]
    split <;> rw [ih] <;> omega
theorem lineRes_len (xs ys : List Int) (b : Bool) (t : Int) : (lineRes xs ys b t).1.length ≤ 1048576 := by
  unfold lineRes
  split
  · rename_i h
    have := (okGame_hands h).2.1
    cases b <;> simp only [Bool.false_eq_true, if_true, if_false] <;> rw [lineF_len] <;> omega
  · exact Nat.zero_le _
/-- of different blocks -/
def Dj (a b : Option Addr) : Prop := ∀ x y, a = some x → b = some y → x.block ≠ y.block
theorem dj_new {w : World} {B : Nat} {e : TypeId} {sz : Nat} {a : Option Addr} {n c : Nat} {cs : List Value} {g i : Nat} (h : w.ownsRow B e sz (.slice a n c) n cs) (hg : w.heap.size ≤ g) : Dj a (some ⟨g, i, none⟩) := by
  intro x y hx hy
  have := own_in h x hx
  obtain rfl := Option.some.inj hy
  dsimp only
  omega
theorem dj_rows {w w' : World} {B B' : Nat} {e e' : TypeId} {sz sz' : Nat} {a a' : Option Addr} {n n' c c' : Nat} {cs cs' : List Value} (h : w.ownsRow B e sz (.slice a n c) n cs) (h' : w'.ownsRow B' e' sz' (.slice a' n' c') n' cs') (hg : w'.heap.size ≤ B) : Dj a a' := by
  intro x y hx hy
  have := own_in h x hx
  have := own_in h' y hy
  omega
theorem Rd.grown {w w' : World} {a : Option Addr} {n c sz : Nat} {cs : List Value} {ra : Option Addr} {k rc : Nat} (h : Rd w a n c sz cs) (hg : w.grownBy w' (Value.slice ra k rc).ownBlock) (hd : Dj a ra) : Rd w' a n c sz cs := by
  obtain ⟨h1, h2, h3, h4⟩ := h
  refine ⟨h1, h2, h3, ?_⟩
  rcases h4 with h4 | ⟨b, off, rfl, hlt, hcs⟩
  · exact .inl h4
  · refine .inr ⟨b, off, rfl, Nat.lt_of_lt_of_le hlt hg.size, fun j hj => ?_⟩
    rw [← hcs j hj]
    refine World.cell?_of_block (hg.block _ hlt ?_)
    cases ra with
    | none => simp [Value.ownBlock]
    | some y => simp only [Value.ownBlock]; intro e; exact hd _ y rfl rfl (Option.some.inj e)

set_option maxHeartbeats 3200000 in
set_option maxRecDepth 100000 in
theorem specTrickLine_any (ad : Addr) (n c : Nat) (xs : List Int) (ad' : Addr) (n' c' : Nat) (ys : List Int) (b : Bool) (t : Int) (w : World) (h : Ints w (some ad) n c xs) (h' : Ints w (some ad') n' c' ys) :
    Calls Try.prog 31 #[.slice (some ad) n c, .slice (some ad') n' c', .bool b, .int .i64 t] w (RetI 2 w (lineRes xs ys b t)) := by
  obtain ⟨i0, hi, hz0, hz1, hz2⟩ := info_parts infoI64
  have hl := Lib.hid h.len
  have hl' := Lib.hid h'.len
  obtain ⟨hc, hb, _⟩ := h.at
  obtain ⟨hc', hb', _⟩ := h'.at
  have C1 := Lib.hid (l06Hands_any ad n c xs ad' n' c' ys w h h')
  have HRn : Hid (okGameB xs ys t = false → lineRes xs ys b t = ([], false)) := fun e => by unfold lineRes; rw [if_neg (by rw [e]; exact Bool.false_ne_true)]
  have HG : Hid (okGameB xs ys t = (okHands xs ys && inB t (-1) 3)) := rfl
  rcases Bool.eq_false_or_eq_true (okHands xs ys) with e | e
  case inr =>
    have HR := Lib.hid (HRn.out (by rw [HG.out, e]; rfl))
    clear h h' HRn HG
    go_enter Try.func31, Try.ntmps31
    go_wp2_with (fail)
    refine C1.out.mono ?_
    rintro e w1 ⟨rfl, hb1⟩
    have HB1 := Lib.hid hb1
    clear hb1
    go_wp2
    go_ret2
    exact RetI.nil HR.out HB1.out
  rcases Bool.eq_false_or_eq_true (inB t (-1) 3) with e2 | e2
  case inr =>
    have HR := Lib.hid (HRn.out (by rw [HG.out, e, e2]; rfl))
    have CI : Hid (∀ W, Calls Try.prog 56 #[.int .i64 t, .int .i64 (-1), .int .i64 3] W (RetS W (.bool false))) := fun W => by rw [← e2]; exact l00In_any _ _ _ _
    clear h h' HRn HG e2
    go_enter Try.func31, Try.ntmps31
    go_wp2_with (fail)
    refine C1.out.mono ?_
    rintro e w1 ⟨rfl, hb1⟩
    have HB1 := Lib.hid hb1
    clear hb1
    go_wp2_with (fail)
    refine (CI.out _).mono ?_
    rintro e w2 ⟨rfl, rfl⟩
    go_wp2
    go_ret2
    exact RetI.nil HR.out HB1.out
  have CI : Hid (∀ W, Calls Try.prog 56 #[.int .i64 t, .int .i64 (-1), .int .i64 3] W (RetS W (.bool true))) := fun W => by rw [← e2]; exact l00In_any _ _ _ _
  have hg : okGameB xs ys t = true := by rw [HG.out, e, e2]; rfl
  obtain ⟨g1, g2, g3, g4, _⟩ := okGame_hands hg
  have hnn : n' = n := by rw [← hl.out, ← hl'.out, g1]
  subst hnn
  rw [hl.out] at g2 g3 g4
  have HX := Lib.hid g3
  have HY := Lib.hid g4
  have HR : Hid (lineRes xs ys b t = ((if b = true then lineF t n' xs ys else lineF t n' ys xs), true)) := by
    show _ = _
    unfold lineRes
    rw [if_pos hg, hl.out]
  have h1 := Lib.hid (fun W (hW : Below w.heap.size w W) => h.mono hW)
  have h2 := Lib.hid (fun W (hW : Below w.heap.size w W) => h'.mono hW)
  have hL1 : Hid ((intCells xs).length = n' * 1) := h.1
  have hL2 : Hid ((intCells ys).length = n' * 1) := h'.1
  clear h h' HRn HG hg g1 g3 g4 e2
  cases b
  case true =>
    obtain ⟨T, hT⟩ : ∃ T, lineF t n' xs ys = T := ⟨_, rfl⟩
    have HRT : Hid (lineRes xs ys true t = (T, true)) := by show _ = _; rw [← hT]; exact HR.out
    have HL : Hid ([] ++ lineF t n' xs ys = T) := hT
    clear hT HR
    go_enter Try.func31, Try.ntmps31
    go_wp2_with (fail)
    refine C1.out.mono ?_
    rintro e w1 ⟨rfl, hb1⟩
    have HB1 := Lib.hid hb1
    have N1 := Lib.hid ((h1.out _ HB1.out).news)
    clear hb1
    go_wp2_with (fail)
    refine (CI.out _).mono ?_
    rintro e w2 ⟨rfl, rfl⟩
    go_wp2_with (first
      | (at_builtin
         refine wpList_append_own _ rfl _ _ 25 rfl w1.heap.size 2 i0 (.int .i64 0) 1 8 Try.underlying25 hi hz0 hz1 hz2 rfl (by decide) _ _ _ rfl (World.ownsRow_made w1 #[] 0 (Nat.le_refl _) (Nat.zero_le _) (by simp)) ad n' c (intCells xs) rfl hL1.out (fun j u hu => cell_on ((Below.refl _ _).alloc (Nat.le_refl _) _) (N1.out j u hu)) (intCells_one xs) (by unfold maxLen; omega) (by omega) (by simp) ?_
         intro vw2 w2 hownw2 hgw2 _
         have Mw2 : (w1.alloc (.cells #[] 2)).ownsRow w1.heap.size 2 1 (.slice (some ⟨w1.heap.size, 0, none⟩) 0 0) 0 [] := World.ownsRow_made w1 #[] 0 (Nat.le_refl _) (Nat.zero_le _) (by simp)
         have Hw2 := Lib.hid (below_grown ((Below.refl w1.heap.size w1).alloc (Nat.le_refl _) _) (by simp) hgw2 Mw2)
         simp only [Nat.zero_add, List.nil_append] at hownw2
         obtain ⟨aw2, cw2, rfl⟩ := own_form hownw2
         have Ow2 := Lib.hid hownw2
         have kw2 : n' ≤ cw2 ∧ cw2 ≤ 9223372036854775807 := by have := Rd.own hownw2; exact ⟨this.2.1, this.2.2.1⟩
         clear hownw2 hgw2 Mw2
         have N2 := Lib.hid ((h2.out _ (HB1.out.trans (Hw2.out.mono HB1.out.size))).news))
      | (at_builtin
         refine wpList_append_own _ rfl _ _ 25 rfl w2.heap.size 2 i0 (.int .i64 0) 1 8 Try.underlying25 hi hz0 hz1 hz2 rfl (by decide) _ _ _ rfl (World.ownsRow_made w2 #[] 0 (Nat.le_refl _) (Nat.zero_le _) (by simp)) ad' n' c' (intCells ys) rfl hL2.out (fun j u hu => cell_on ((Below.refl _ _).alloc (Nat.le_refl _) _) (N2.out j u hu)) (intCells_one ys) (by unfold maxLen; omega) (by omega) (by simp) ?_
         intro vw3 w3 hownw3 hgw3 _
         have Mw3 : (w2.alloc (.cells #[] 2)).ownsRow w2.heap.size 2 1 (.slice (some ⟨w2.heap.size, 0, none⟩) 0 0) 0 [] := World.ownsRow_made w2 #[] 0 (Nat.le_refl _) (Nat.zero_le _) (by simp)
         have Hw3 := Lib.hid (below_grown ((Below.refl w2.heap.size w2).alloc (Nat.le_refl _) _) (by simp) hgw3 Mw3)
         simp only [Nat.zero_add, List.nil_append] at hownw3
         obtain ⟨aw3, cw3, rfl⟩ := own_form hownw3
         have Ow3 := Lib.hid hownw3
         have kw3 : n' ≤ cw3 ∧ cw3 ≤ 9223372036854775807 := by have := Rd.own hownw3; exact ⟨this.2.1, this.2.2.1⟩
         clear hownw3 hgw3 Mw3
         have HB3 := Lib.hid ((HB1.out.trans (Hw2.out.mono HB1.out.size)).trans (Hw3.out.mono (Nat.le_trans HB1.out.size Hw2.out.size))))
      )
    have hbs := HB3.out.size
    have AL := Lib.hid ((Below.refl w3.heap.size w3).alloc (Nat.le_refl _) (.cells #[] 2))
    have BW := Lib.hid (HB3.out.trans (AL.out.mono HB3.out.size))
    have IX := Lib.hid (((Rd.own Ow2.out).mono Hw3.out).mono AL.out)
    have IY := Lib.hid ((Rd.own Ow3.out).mono AL.out)
    have DX := Lib.hid (dj_new (i := 0) Ow2.out Hw3.out.size)
    have DY := Lib.hid (dj_new (i := 0) Ow3.out (Nat.le_refl _))
    clear N1 N2 h1 h2
    go_wp2
    go_loopw [10, 11, 12] (fun vl vo vu wr => ∃ (f : Nat) (la : Option Addr) (lc : Nat) (X : List Int) (oa : Option Addr) (oc : Nat) (Y : List Int) (ra : Option Addr) (rc : Nat) (O : List Int) (ol : Nat), vl = .slice la f lc ∧ vo = .slice oa f oc ∧ vu = .slice ra ol rc ∧ O.length = ol ∧ Ints wr la f lc X ∧ Ints wr oa f oc Y ∧ Hand f X ∧ Hand f Y ∧ f ≤ 6 ∧ O ++ lineF t f X Y = T ∧ ol + 2 * f ≤ 12 ∧ Dj la ra ∧ Dj oa ra ∧ Below w.heap.size w wr ∧ wr.ownsRow w.heap.size 2 1 (.slice ra ol rc) ol (intCells O)) (fun vl _ _ _ => lenV vl)
    case atStart => exact ⟨n', _, _, _, _, _, _, _, _, [], 0, rfl, rfl, rfl, rfl, IX.out, IY.out, HX.out, HY.out, g2, HL.out, by omega, DX.out, DY.out, BW.out, World.ownsRow_made _ #[] 0 hbs (by unfold maxLen; omega) rfl⟩
    case round =>
      clear HX HY HL
      obtain ⟨f, la, lc, X, oa, oc, Y, ra, rc, O, ol, rfl, rfl, rfl, hol, hi1, hi2, hX, hY, hf6, hT, hlen, hd1, hd2, hbel, hown⟩ := hrel
      have HB := Lib.hid hbel
      have HO := Lib.hid hown
      have HT := Lib.hid hT
      have HOl := Lib.hid hol
      obtain ⟨hlc, hlb, _⟩ := hi1.at
      obtain ⟨hoc, hob, _⟩ := hi2.at
      have HI1 := Lib.hid hi1
      have HI2 := Lib.hid hi2
      have HD1 := Lib.hid hd1
      have HD2 := Lib.hid hd2
      have HX := Lib.hid hX
      have HY := Lib.hid hY
      clear hbel hT hol hi1 hi2 hd1 hd2 hX hY
      cases f with
      | zero =>
        have HE : Hid (O = T) := by
          show _ = _
          rw [← HT.out]
          simp [lineF]
        clear hown
        go_wp2
        go_ret2
        exact RetI.ok (HRT.out.trans (by rw [HE.out])) HB.out HO.out
      | succ f =>
        have hf5 : f ≤ 5 := by omega
        have hlm := leadC_mem (t := t) HX.out HY.out
        have ham := ansC_mem (t := t) hf5 HX.out HY.out hlm
        have HLm := Lib.hid hlm
        have HAm := Lib.hid (legalL_mem ham)
        have hr1 := HX.out.rng _ hlm
        have hr2 := HY.out.rng _ HAm.out
        have HH1 := Lib.hid (HX.out.less hlm)
        have HH2 := Lib.hid (HY.out.less HAm.out)
        have HLf : Hid (lineF t (f + 1) X Y = leadC t f X Y :: ansC t f X Y (leadC t f X Y) :: (if winsL (leadC t f X Y) (ansC t f X Y (leadC t f X Y)) t = true then lineF t f (lessL X (leadC t f X Y)) (lessL Y (ansC t f X Y (leadC t f X Y))) else lineF t f (lessL Y (ansC t f X Y (leadC t f X Y))) (lessL X (leadC t f X Y)))) := rfl
        have CL := l06Lead_any t (f + 1) hf6 la lc X oa oc Y wr HI1.out HI2.out HX.out HY.out
        have hcf : cardF t (f + 1) X Y = leadC t f X Y := rfl
        rw [hcf] at CL
        have CL := Lib.hid CL
        have CA := Lib.hid (fun W (hW : Below wr.heap.size wr W) => l06Answer_any t f hf5 la lc X oa oc Y _ W (HI1.out.mono hW) (HI2.out.mono hW) HX.out HY.out HLm.out)
        clear hlm ham hcf
        generalize bestF t (f + 1) X Y = B at *
        generalize aftF t f X Y (leadC t f X Y) = AF at *
        generalize ansC t f X Y (leadC t f X Y) = z at *
        generalize leadC t f X Y = y at *
        generalize hX1 : lessL X y = X1 at *
        generalize hY1 : lessL Y z = Y1 at *
        have HX1 := Lib.hid hX1
        have HY1 := Lib.hid hY1
        clear hX1 hY1
        generalize hn' : f + 1 = m at *
        have hm1 : 1 ≤ m := by omega
        have HM := Lib.hid hn'
        clear hn'
        go_wp2_with (fail)
        refine CL.out.mono ?_
        rintro e w1' ⟨rfl, hb1⟩
        have HB1 := Lib.hid hb1
        have ho1 := ownsRow_below hown hb1
        clear hb1 CL hown
        go_wp2_with (fail)
        refine (CA.out _ HB1.out).mono ?_
        rintro e w2' ⟨rfl, hb2⟩
        have HB2 := Lib.hid (HB1.out.trans (hb2.mono HB1.out.size))
        have ho2 := ownsRow_below ho1 hb2
        have HO2 := Lib.hid ho2
        have hsw := HB.out.size
        have hs2 := HB2.out.size
        clear hb2 ho1 CA
        go_wp2_with (first | (at_builtin; go_must (refine wpList_append_own _ rfl _ _ 25 rfl w.heap.size 2 i0 (.int .i64 0) 1 8 Try.underlying25 hi hz0 hz1 hz2 rfl (by decide) _ _ _ rfl (ho2.alloc _) ⟨w2'.heap.size, 0, none⟩ 2 2 [.int .i64 y, .int .i64 z] rfl rfl (new2S _ _ _ _ _ rfl) (one2 rfl rfl) (by unfold maxLen; omega) (by omega) (by simp; omega) ?_); intro v' w5 hown1 hg1 _))
        have HB5 := Lib.hid (below_app (HB.out.trans (HB2.out.mono hsw)) (Nat.le_trans hsw hs2) hg1 ho2)
        obtain ⟨a5, c5, rfl⟩ := own_form hown1
        have J1 := Lib.hid (((HI1.out.mono HB2.out).mono ((Below.refl _ _).alloc (Nat.le_refl _) _)).grown hg1 HD1.out)
        have J2 := Lib.hid (((HI2.out.mono HB2.out).mono ((Below.refl _ _).alloc (Nat.le_refl _) _)).grown hg1 HD2.out)
        have hk5 : ol + 2 ≤ c5 ∧ c5 ≤ 9223372036854775807 := by have := Rd.own hown1; exact ⟨this.2.1, this.2.2.1⟩
        have HO5 : Hid (w5.ownsRow w.heap.size 2 1 (.slice a5 (ol + 2) c5) (ol + 2) (intCells (O ++ [y, z]))) := by
          show w5.ownsRow _ _ _ _ _ _
          rw [show intCells (O ++ [y, z]) = intCells O ++ intCells [y, z] from List.map_append]
          exact hown1
        have CX := Lib.hid (l06Less_any la m lc X y w5 J1.out (by omega))
        have CY := Lib.hid (fun W (hW : Below w5.heap.size w5 W) => l06Less_any oa m oc Y z W (J2.out.mono hW) (by omega))
        rw [HX1.out] at CX
        rw [HY1.out] at CY
        clear hown1 hg1 ho2
        go_wp2_with (fail)
        refine CX.out.mono ?_
        rintro e w6 ⟨la6, ln6, lc6, rfl, hb6, ho6⟩
        have hl6 : ln6 = f := by have := ho6.1; rw [intCells_len] at this; have := HH1.out.len; omega
        subst hl6
        have HB6 := Lib.hid hb6
        have HO6 := Lib.hid ho6
        have hk6 : ln6 ≤ lc6 ∧ lc6 ≤ 9223372036854775807 := by have := Rd.own ho6; exact ⟨this.2.1, this.2.2.1⟩
        clear hb6 ho6 CX
        go_wp2_with (fail)
        refine (CY.out _ HB6.out).mono ?_
        rintro e w7 ⟨la7, ln7, lc7, rfl, hb7, ho7⟩
        have hl7 : ln7 = ln6 := by have := ho7.1; rw [intCells_len] at this; have := HH2.out.len; omega
        subst hl7
        have hk7 : ln7 ≤ lc7 ∧ lc7 ≤ 9223372036854775807 := by have := Rd.own ho7; exact ⟨this.2.1, this.2.2.1⟩
        have HB7 := Lib.hid ((HB5.out.trans (HB6.out.mono HB5.out.size)).trans (hb7.mono (Nat.le_trans HB5.out.size HB6.out.size)))
        have I6 := Lib.hid (Rd.own (ownsRow_below HO6.out hb7))
        have I7 := Lib.hid (Rd.own ho7)
        have HO7 := Lib.hid (ownsRow_below (ownsRow_below HO5.out HB6.out) hb7)
        have D6 := Lib.hid (dj_rows HO6.out HO5.out (Nat.le_refl _))
        have D7 := Lib.hid (dj_rows ho7 HO5.out HB6.out.size)
        clear hb7 ho7 CY HO6 HO5
        have hT := HT.out
        rw [HLf.out] at hT
        rcases Bool.eq_false_or_eq_true (winsL y z t) with ew | ew
        · have CW : Hid (∀ W, Calls Try.prog 64 #[.int .i64 y, .int .i64 z, .int .i64 t] W (RetS W (.bool true))) := fun W => by rw [← ew]; exact l06Wins_any y z t W hr1 hr2
          rw [if_pos ew] at hT
          have HT2 : Hid ((O ++ [y, z]) ++ lineF t ln7 X1 Y1 = T) := by show _ = _; rw [← hT]; simp
          clear hT HLf ew
          go_wp2_with (fail)
          refine (CW.out _).mono ?_
          rintro e w8 ⟨rfl, rfl⟩
          go_wp2
          go_roundw
          case rel => exact ⟨ln7, _, _, X1, _, _, Y1, _, _, O ++ [y, z], ol + 2, rfl, rfl, rfl, by rw [List.length_append, HOl.out]; rfl, I6.out, I7.out, HH1.out, HH2.out, by have := HM.out; omega, HT2.out, by have := HM.out; omega, D6.out, D7.out, HB7.out, HO7.out⟩
          case measure => simp [lenV]; have := HM.out; omega
        · have CW : Hid (∀ W, Calls Try.prog 64 #[.int .i64 y, .int .i64 z, .int .i64 t] W (RetS W (.bool false))) := fun W => by rw [← ew]; exact l06Wins_any y z t W hr1 hr2
          rw [if_neg (by rw [ew]; exact Bool.false_ne_true)] at hT
          have HT2 : Hid ((O ++ [y, z]) ++ lineF t ln7 Y1 X1 = T) := by show _ = _; rw [← hT]; simp
          clear hT HLf ew
          go_wp2_with (fail)
          refine (CW.out _).mono ?_
          rintro e w8 ⟨rfl, rfl⟩
          go_wp2
          go_roundw
          case rel => exact ⟨ln7, _, _, Y1, _, _, X1, _, _, O ++ [y, z], ol + 2, rfl, rfl, rfl, by rw [List.length_append, HOl.out]; rfl, I7.out, I6.out, HH2.out, HH1.out, by have := HM.out; omega, HT2.out, by have := HM.out; omega, D7.out, D6.out, HB7.out, HO7.out⟩
          case measure => simp [lenV]; have := HM.out; omega

  case false =>
    obtain ⟨T, hT⟩ : ∃ T, lineF t n' ys xs = T := ⟨_, rfl⟩
    have HRT : Hid (lineRes xs ys false t = (T, true)) := by show _ = _; rw [← hT]; exact HR.out
    have HL : Hid ([] ++ lineF t n' ys xs = T) := hT
    clear hT HR
    have HX' := HX
    have HX := HY
    have HY := HX'
    clear HX'
    go_enter Try.func31, Try.ntmps31
    go_wp2_with (fail)
    refine C1.out.mono ?_
    rintro e w1 ⟨rfl, hb1⟩
    have HB1 := Lib.hid hb1
    have N1 := Lib.hid ((h1.out _ HB1.out).news)
    clear hb1
    go_wp2_with (fail)
    refine (CI.out _).mono ?_
    rintro e w2 ⟨rfl, rfl⟩
    go_wp2_with (first
      | (at_builtin
         refine wpList_append_own _ rfl _ _ 25 rfl w1.heap.size 2 i0 (.int .i64 0) 1 8 Try.underlying25 hi hz0 hz1 hz2 rfl (by decide) _ _ _ rfl (World.ownsRow_made w1 #[] 0 (Nat.le_refl _) (Nat.zero_le _) (by simp)) ad n' c (intCells xs) rfl hL1.out (fun j u hu => cell_on ((Below.refl _ _).alloc (Nat.le_refl _) _) (N1.out j u hu)) (intCells_one xs) (by unfold maxLen; omega) (by omega) (by simp) ?_
         intro vw2 w2 hownw2 hgw2 _
         have Mw2 : (w1.alloc (.cells #[] 2)).ownsRow w1.heap.size 2 1 (.slice (some ⟨w1.heap.size, 0, none⟩) 0 0) 0 [] := World.ownsRow_made w1 #[] 0 (Nat.le_refl _) (Nat.zero_le _) (by simp)
         have Hw2 := Lib.hid (below_grown ((Below.refl w1.heap.size w1).alloc (Nat.le_refl _) _) (by simp) hgw2 Mw2)
         simp only [Nat.zero_add, List.nil_append] at hownw2
         obtain ⟨aw2, cw2, rfl⟩ := own_form hownw2
         have Ow2 := Lib.hid hownw2
         have kw2 : n' ≤ cw2 ∧ cw2 ≤ 9223372036854775807 := by have := Rd.own hownw2; exact ⟨this.2.1, this.2.2.1⟩
         clear hownw2 hgw2 Mw2
         have N2 := Lib.hid ((h2.out _ (HB1.out.trans (Hw2.out.mono HB1.out.size))).news))
      | (at_builtin
         refine wpList_append_own _ rfl _ _ 25 rfl w2.heap.size 2 i0 (.int .i64 0) 1 8 Try.underlying25 hi hz0 hz1 hz2 rfl (by decide) _ _ _ rfl (World.ownsRow_made w2 #[] 0 (Nat.le_refl _) (Nat.zero_le _) (by simp)) ad' n' c' (intCells ys) rfl hL2.out (fun j u hu => cell_on ((Below.refl _ _).alloc (Nat.le_refl _) _) (N2.out j u hu)) (intCells_one ys) (by unfold maxLen; omega) (by omega) (by simp) ?_
         intro vw3 w3 hownw3 hgw3 _
         have Mw3 : (w2.alloc (.cells #[] 2)).ownsRow w2.heap.size 2 1 (.slice (some ⟨w2.heap.size, 0, none⟩) 0 0) 0 [] := World.ownsRow_made w2 #[] 0 (Nat.le_refl _) (Nat.zero_le _) (by simp)
         have Hw3 := Lib.hid (below_grown ((Below.refl w2.heap.size w2).alloc (Nat.le_refl _) _) (by simp) hgw3 Mw3)
         simp only [Nat.zero_add, List.nil_append] at hownw3
         obtain ⟨aw3, cw3, rfl⟩ := own_form hownw3
         have Ow3 := Lib.hid hownw3
         have kw3 : n' ≤ cw3 ∧ cw3 ≤ 9223372036854775807 := by have := Rd.own hownw3; exact ⟨this.2.1, this.2.2.1⟩
         clear hownw3 hgw3 Mw3
         have HB3 := Lib.hid ((HB1.out.trans (Hw2.out.mono HB1.out.size)).trans (Hw3.out.mono (Nat.le_trans HB1.out.size Hw2.out.size)))
         have N3 := Lib.hid ((h2.out _ HB3.out).news))
      | (at_builtin
         refine wpList_append_own _ rfl _ _ 25 rfl w3.heap.size 2 i0 (.int .i64 0) 1 8 Try.underlying25 hi hz0 hz1 hz2 rfl (by decide) _ _ _ rfl (World.ownsRow_made w3 #[] 0 (Nat.le_refl _) (Nat.zero_le _) (by simp)) ad' n' c' (intCells ys) rfl hL2.out (fun j u hu => cell_on ((Below.refl _ _).alloc (Nat.le_refl _) _) (N3.out j u hu)) (intCells_one ys) (by unfold maxLen; omega) (by omega) (by simp) ?_
         intro vw4 w4 hownw4 hgw4 _
         have Mw4 : (w3.alloc (.cells #[] 2)).ownsRow w3.heap.size 2 1 (.slice (some ⟨w3.heap.size, 0, none⟩) 0 0) 0 [] := World.ownsRow_made w3 #[] 0 (Nat.le_refl _) (Nat.zero_le _) (by simp)
         have Hw4 := Lib.hid (below_grown ((Below.refl w3.heap.size w3).alloc (Nat.le_refl _) _) (by simp) hgw4 Mw4)
         simp only [Nat.zero_add, List.nil_append] at hownw4
         obtain ⟨aw4, cw4, rfl⟩ := own_form hownw4
         have Ow4 := Lib.hid hownw4
         have kw4 : n' ≤ cw4 ∧ cw4 ≤ 9223372036854775807 := by have := Rd.own hownw4; exact ⟨this.2.1, this.2.2.1⟩
         clear hownw4 hgw4 Mw4
         have HB4 := Lib.hid (HB3.out.trans (Hw4.out.mono HB3.out.size))
         have N4 := Lib.hid ((h1.out _ HB4.out).news))
      | (at_builtin
         refine wpList_append_own _ rfl _ _ 25 rfl w4.heap.size 2 i0 (.int .i64 0) 1 8 Try.underlying25 hi hz0 hz1 hz2 rfl (by decide) _ _ _ rfl (World.ownsRow_made w4 #[] 0 (Nat.le_refl _) (Nat.zero_le _) (by simp)) ad n' c (intCells xs) rfl hL1.out (fun j u hu => cell_on ((Below.refl _ _).alloc (Nat.le_refl _) _) (N4.out j u hu)) (intCells_one xs) (by unfold maxLen; omega) (by omega) (by simp) ?_
         intro vw5 w5 hownw5 hgw5 _
         have Mw5 : (w4.alloc (.cells #[] 2)).ownsRow w4.heap.size 2 1 (.slice (some ⟨w4.heap.size, 0, none⟩) 0 0) 0 [] := World.ownsRow_made w4 #[] 0 (Nat.le_refl _) (Nat.zero_le _) (by simp)
         have Hw5 := Lib.hid (below_grown ((Below.refl w4.heap.size w4).alloc (Nat.le_refl _) _) (by simp) hgw5 Mw5)
         simp only [Nat.zero_add, List.nil_append] at hownw5
         obtain ⟨aw5, cw5, rfl⟩ := own_form hownw5
         have Ow5 := Lib.hid hownw5
         have kw5 : n' ≤ cw5 ∧ cw5 ≤ 9223372036854775807 := by have := Rd.own hownw5; exact ⟨this.2.1, this.2.2.1⟩
         clear hownw5 hgw5 Mw5
         have HB5' := Lib.hid (HB4.out.trans (Hw5.out.mono HB4.out.size)))
      )
    clear N3 N4
    have hbs := HB5'.out.size
    have AL := Lib.hid ((Below.refl w5.heap.size w5).alloc (Nat.le_refl _) (.cells #[] 2))
    have BW := Lib.hid (HB5'.out.trans (AL.out.mono HB5'.out.size))
    have IX := Lib.hid (((Rd.own Ow4.out).mono Hw5.out).mono AL.out)
    have IY := Lib.hid ((Rd.own Ow5.out).mono AL.out)
    have DX := Lib.hid (dj_new (i := 0) Ow4.out Hw5.out.size)
    have DY := Lib.hid (dj_new (i := 0) Ow5.out (Nat.le_refl _))
    clear N1 N2 h1 h2
    go_wp2
    go_loopw [10, 11, 12] (fun vl vo vu wr => ∃ (f : Nat) (la : Option Addr) (lc : Nat) (X : List Int) (oa : Option Addr) (oc : Nat) (Y : List Int) (ra : Option Addr) (rc : Nat) (O : List Int) (ol : Nat), vl = .slice la f lc ∧ vo = .slice oa f oc ∧ vu = .slice ra ol rc ∧ O.length = ol ∧ Ints wr la f lc X ∧ Ints wr oa f oc Y ∧ Hand f X ∧ Hand f Y ∧ f ≤ 6 ∧ O ++ lineF t f X Y = T ∧ ol + 2 * f ≤ 12 ∧ Dj la ra ∧ Dj oa ra ∧ Below w.heap.size w wr ∧ wr.ownsRow w.heap.size 2 1 (.slice ra ol rc) ol (intCells O)) (fun vl _ _ _ => lenV vl)
    case atStart => exact ⟨n', _, _, _, _, _, _, _, _, [], 0, rfl, rfl, rfl, rfl, IX.out, IY.out, HX.out, HY.out, g2, HL.out, by omega, DX.out, DY.out, BW.out, World.ownsRow_made _ #[] 0 hbs (by unfold maxLen; omega) rfl⟩
    case round =>
      clear HX HY HL
      obtain ⟨f, la, lc, X, oa, oc, Y, ra, rc, O, ol, rfl, rfl, rfl, hol, hi1, hi2, hX, hY, hf6, hT, hlen, hd1, hd2, hbel, hown⟩ := hrel
      have HB := Lib.hid hbel
      have HO := Lib.hid hown
      have HT := Lib.hid hT
      have HOl := Lib.hid hol
      obtain ⟨hlc, hlb, _⟩ := hi1.at
      obtain ⟨hoc, hob, _⟩ := hi2.at
      have HI1 := Lib.hid hi1
      have HI2 := Lib.hid hi2
      have HD1 := Lib.hid hd1
      have HD2 := Lib.hid hd2
      have HX := Lib.hid hX
      have HY := Lib.hid hY
      clear hbel hT hol hi1 hi2 hd1 hd2 hX hY
      cases f with
      | zero =>
        have HE : Hid (O = T) := by
          show _ = _
          rw [← HT.out]
          simp [lineF]
        clear hown
        go_wp2
        go_ret2
        exact RetI.ok (HRT.out.trans (by rw [HE.out])) HB.out HO.out
      | succ f =>
        have hf5 : f ≤ 5 := by omega
        have hlm := leadC_mem (t := t) HX.out HY.out
        have ham := ansC_mem (t := t) hf5 HX.out HY.out hlm
        have HLm := Lib.hid hlm
        have HAm := Lib.hid (legalL_mem ham)
        have hr1 := HX.out.rng _ hlm
        have hr2 := HY.out.rng _ HAm.out
        have HH1 := Lib.hid (HX.out.less hlm)
        have HH2 := Lib.hid (HY.out.less HAm.out)
        have HLf : Hid (lineF t (f + 1) X Y = leadC t f X Y :: ansC t f X Y (leadC t f X Y) :: (if winsL (leadC t f X Y) (ansC t f X Y (leadC t f X Y)) t = true then lineF t f (lessL X (leadC t f X Y)) (lessL Y (ansC t f X Y (leadC t f X Y))) else lineF t f (lessL Y (ansC t f X Y (leadC t f X Y))) (lessL X (leadC t f X Y)))) := rfl
        have CL := l06Lead_any t (f + 1) hf6 la lc X oa oc Y wr HI1.out HI2.out HX.out HY.out
        have hcf : cardF t (f + 1) X Y = leadC t f X Y := rfl
        rw [hcf] at CL
        have CL := Lib.hid CL
        have CA := Lib.hid (fun W (hW : Below wr.heap.size wr W) => l06Answer_any t f hf5 la lc X oa oc Y _ W (HI1.out.mono hW) (HI2.out.mono hW) HX.out HY.out HLm.out)
        clear hlm ham hcf
        generalize bestF t (f + 1) X Y = B at *
        generalize aftF t f X Y (leadC t f X Y) = AF at *
        generalize ansC t f X Y (leadC t f X Y) = z at *
        generalize leadC t f X Y = y at *
        generalize hX1 : lessL X y = X1 at *
        generalize hY1 : lessL Y z = Y1 at *
        have HX1 := Lib.hid hX1
        have HY1 := Lib.hid hY1
        clear hX1 hY1
        generalize hn' : f + 1 = m at *
        have hm1 : 1 ≤ m := by omega
        have HM := Lib.hid hn'
        clear hn'
        go_wp2_with (fail)
        refine CL.out.mono ?_
        rintro e w1' ⟨rfl, hb1⟩
        have HB1 := Lib.hid hb1
        have ho1 := ownsRow_below hown hb1
        clear hb1 CL hown
        go_wp2_with (fail)
        refine (CA.out _ HB1.out).mono ?_
        rintro e w2' ⟨rfl, hb2⟩
        have HB2 := Lib.hid (HB1.out.trans (hb2.mono HB1.out.size))
        have ho2 := ownsRow_below ho1 hb2
        have HO2 := Lib.hid ho2
        have hsw := HB.out.size
        have hs2 := HB2.out.size
        clear hb2 ho1 CA
        go_wp2_with (first | (at_builtin; go_must (refine wpList_append_own _ rfl _ _ 25 rfl w.heap.size 2 i0 (.int .i64 0) 1 8 Try.underlying25 hi hz0 hz1 hz2 rfl (by decide) _ _ _ rfl (ho2.alloc _) ⟨w2'.heap.size, 0, none⟩ 2 2 [.int .i64 y, .int .i64 z] rfl rfl (new2S _ _ _ _ _ rfl) (one2 rfl rfl) (by unfold maxLen; omega) (by omega) (by simp; omega) ?_); intro v' w5 hown1 hg1 _))
        have HB5 := Lib.hid (below_app (HB.out.trans (HB2.out.mono hsw)) (Nat.le_trans hsw hs2) hg1 ho2)
        obtain ⟨a5, c5, rfl⟩ := own_form hown1
        have J1 := Lib.hid (((HI1.out.mono HB2.out).mono ((Below.refl _ _).alloc (Nat.le_refl _) _)).grown hg1 HD1.out)
        have J2 := Lib.hid (((HI2.out.mono HB2.out).mono ((Below.refl _ _).alloc (Nat.le_refl _) _)).grown hg1 HD2.out)
        have hk5 : ol + 2 ≤ c5 ∧ c5 ≤ 9223372036854775807 := by have := Rd.own hown1; exact ⟨this.2.1, this.2.2.1⟩
        have HO5 : Hid (w5.ownsRow w.heap.size 2 1 (.slice a5 (ol + 2) c5) (ol + 2) (intCells (O ++ [y, z]))) := by
          show w5.ownsRow _ _ _ _ _ _
          rw [show intCells (O ++ [y, z]) = intCells O ++ intCells [y, z] from List.map_append]
          exact hown1
        have CX := Lib.hid (l06Less_any la m lc X y w5 J1.out (by omega))
        have CY := Lib.hid (fun W (hW : Below w5.heap.size w5 W) => l06Less_any oa m oc Y z W (J2.out.mono hW) (by omega))
        rw [HX1.out] at CX
        rw [HY1.out] at CY
        clear hown1 hg1 ho2
        go_wp2_with (fail)
        refine CX.out.mono ?_
        rintro e w6 ⟨la6, ln6, lc6, rfl, hb6, ho6⟩
        have hl6 : ln6 = f := by have := ho6.1; rw [intCells_len] at this; have := HH1.out.len; omega
        subst hl6
        have HB6 := Lib.hid hb6
        have HO6 := Lib.hid ho6
        have hk6 : ln6 ≤ lc6 ∧ lc6 ≤ 9223372036854775807 := by have := Rd.own ho6; exact ⟨this.2.1, this.2.2.1⟩
        clear hb6 ho6 CX
        go_wp2_with (fail)
        refine (CY.out _ HB6.out).mono ?_
        rintro e w7 ⟨la7, ln7, lc7, rfl, hb7, ho7⟩
        have hl7 : ln7 = ln6 := by have := ho7.1; rw [intCells_len] at this; have := HH2.out.len; omega
        subst hl7
        have hk7 : ln7 ≤ lc7 ∧ lc7 ≤ 9223372036854775807 := by have := Rd.own ho7; exact ⟨this.2.1, this.2.2.1⟩
        have HB7 := Lib.hid ((HB5.out.trans (HB6.out.mono HB5.out.size)).trans (hb7.mono (Nat.le_trans HB5.out.size HB6.out.size)))
        have I6 := Lib.hid (Rd.own (ownsRow_below HO6.out hb7))
        have I7 := Lib.hid (Rd.own ho7)
        have HO7 := Lib.hid (ownsRow_below (ownsRow_below HO5.out HB6.out) hb7)
        have D6 := Lib.hid (dj_rows HO6.out HO5.out (Nat.le_refl _))
        have D7 := Lib.hid (dj_rows ho7 HO5.out HB6.out.size)
        clear hb7 ho7 CY HO6 HO5
        have hT := HT.out
        rw [HLf.out] at hT
        rcases Bool.eq_false_or_eq_true (winsL y z t) with ew | ew
        · have CW : Hid (∀ W, Calls Try.prog 64 #[.int .i64 y, .int .i64 z, .int .i64 t] W (RetS W (.bool true))) := fun W => by rw [← ew]; exact l06Wins_any y z t W hr1 hr2
          rw [if_pos ew] at hT
          have HT2 : Hid ((O ++ [y, z]) ++ lineF t ln7 X1 Y1 = T) := by show _ = _; rw [← hT]; simp
          clear hT HLf ew
          go_wp2_with (fail)
          refine (CW.out _).mono ?_
          rintro e w8 ⟨rfl, rfl⟩
          go_wp2
          go_roundw
          case rel => exact ⟨ln7, _, _, X1, _, _, Y1, _, _, O ++ [y, z], ol + 2, rfl, rfl, rfl, by rw [List.length_append, HOl.out]; rfl, I6.out, I7.out, HH1.out, HH2.out, by have := HM.out; omega, HT2.out, by have := HM.out; omega, D6.out, D7.out, HB7.out, HO7.out⟩
          case measure => simp [lenV]; have := HM.out; omega
        · have CW : Hid (∀ W, Calls Try.prog 64 #[.int .i64 y, .int .i64 z, .int .i64 t] W (RetS W (.bool false))) := fun W => by rw [← ew]; exact l06Wins_any y z t W hr1 hr2
          rw [if_neg (by rw [ew]; exact Bool.false_ne_true)] at hT
          have HT2 : Hid ((O ++ [y, z]) ++ lineF t ln7 Y1 X1 = T) := by show _ = _; rw [← hT]; simp
          clear hT HLf ew
          go_wp2_with (fail)
          refine (CW.out _).mono ?_
          rintro e w8 ⟨rfl, rfl⟩
          go_wp2
          go_roundw
          case rel => exact ⟨ln7, _, _, Y1, _, _, X1, _, _, O ++ [y, z], ol + 2, rfl, rfl, rfl, by rw [List.length_append, HOl.out]; rfl, I7.out, I6.out, HH2.out, HH1.out, by have := HM.out; omega, HT2.out, by have := HM.out; omega, D7.out, D6.out, HB7.out, HO7.out⟩
          case measure => simp [lenV]; have := HM.out; omega

end Go.Proofs.Ytaeabngamnkgjaa
