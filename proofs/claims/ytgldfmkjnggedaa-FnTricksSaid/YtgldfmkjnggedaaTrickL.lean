/- Tricks, impl: TrickLine. -/
import Derived.Test.YtgldfmkjnggedaaTrickK
namespace Go.Proofs.Ytgldfmkjnggedaa
open Go.RowKit
set_option linter.unusedVariables false

set_option maxHeartbeats 8000000 in
set_option maxRecDepth 100000 in
theorem implTrickLine_any (ad : Addr) (n c : Nat) (xs : List Int) (ad' : Addr) (n' c' : Nat) (ys : List Int) (b : Bool) (t : Int) (w : World) (h : Ints w (some ad) n c xs) (h' : Ints w (some ad') n' c' ys) :
    Calls Try.prog 9 #[.slice (some ad) n c, .slice (some ad') n' c', .bool b, .int .i64 t] w (RetI 2 w (lineRes xs ys b t)) := by
  obtain ⟨i0, hi, hz0, hz1, hz2⟩ := info_parts infoI64
  have hl := Lib.hid h.len
  have hl' := Lib.hid h'.len
  have HA0 : Hid (Below w.heap.size w ((w.alloc (.cells #[.slice (some ad) n c] 25)).alloc (.cells #[.slice (some ad') n' c'] 25))) := ((Below.refl w.heap.size w).alloc (Nat.le_refl _) _).alloc (by simp) _
  have C1 := isGame_any ad n c xs ad' n' c' ys t _ (h.mono HA0.out) (h'.mono HA0.out)
  obtain ⟨hc, hb, _⟩ := h.at
  obtain ⟨hc', hb', _⟩ := h'.at
  rcases Bool.eq_false_or_eq_true (okGameB xs ys t) with e | e
  case inr =>
    have HR : Hid (lineRes xs ys b t = ([], false)) := by show _ = _; unfold lineRes; rw [if_neg (by rw [e]; exact Bool.false_ne_true)]
    rw [e] at C1
    have C1 := Lib.hid C1
    clear h h' e
    go_enter Try.func9, Try.ntmps9
    go_wp2_with (fail)
    refine C1.out.mono ?_
    rintro e w1 ⟨rfl, hb1⟩
    have HB1 := Lib.hid (HA0.out.trans (hb1.mono HA0.out.size))
    clear hb1
    go_wp2
    go_ret2
    exact RetI.nil HR.out HB1.out
  rw [e] at C1
  have C1 := Lib.hid C1
  obtain ⟨g1, g2, g3, g4, _⟩ := okGame_hands e
  have hnn : n' = n := by rw [← hl.out, ← hl'.out, g1]
  subst hnn
  rw [hl.out] at g2 g3 g4
  have HR : Hid (lineRes xs ys b t = ((if b = true then lineF t n' xs ys else lineF t n' ys xs), true)) := by
    show _ = _
    unfold lineRes
    rw [if_pos e, hl.out]
  obtain ⟨T, hT⟩ : ∃ T, (if b = true then lineF t n' xs ys else lineF t n' ys xs) = T := ⟨_, rfl⟩
  have HTb := Lib.hid hT
  have HR2 : Hid (lineRes xs ys b t = (T, true)) := by show _ = _; rw [← hT]; exact HR.out
  have CN := Lib.hid (fun W => newTable_any t W)
  have HI : Hid (∀ W, Below w.heap.size w W → Ints W (some ad) n' c xs ∧ Ints W (some ad') n' c' ys) := fun W hW => ⟨h.mono hW, h'.mono hW⟩
  have HO : Hid (0 < n' → In 0 w.heap.size (some ad) ∧ In 0 w.heap.size (some ad')) := fun hn => ⟨Rd.in_heap h hn, Rd.in_heap h' hn⟩
  have HX := Lib.hid g3
  have HY := Lib.hid g4
  clear h h' e g1 g3 g4 hT HR
  go_enter Try.func9, Try.ntmps9
  go_wp2_with (fail)
  refine C1.out.mono ?_
  rintro e w1 ⟨rfl, hb1⟩
  have HB1 := Lib.hid (HA0.out.trans (hb1.mono HA0.out.size))
  have hA1 : Below (w.alloc (.cells #[.slice (some ad) n' c] 25)).heap.size (w.alloc (.cells #[.slice (some ad) n' c] 25)) ((w.alloc (.cells #[.slice (some ad) n' c] 25)).alloc (.cells #[.slice (some ad') n' c'] 25)) := (Below.refl _ _).alloc (Nat.le_refl _) _
  have p4 := cell_on hb1 (cell_on hA1 (show (w.alloc (.cells #[.slice (some ad) n' c] 25)).cell? ⟨w.heap.size, 0, none⟩ = some (.slice (some ad) n' c) by simp))
  have p5 := cell_on hb1 (show ((w.alloc (.cells #[.slice (some ad) n' c] 25)).alloc (.cells #[.slice (some ad') n' c'] 25)).cell? ⟨w.heap.size + 1, 0, none⟩ = some (.slice (some ad') n' c') by rw [World.cell?_alloc_at _ _ _ _ (by simp)]; rfl)
  have z4 := frozen_on hb1 (by simp; omega) (frozen_on hA1 (by simp) (show (w.alloc (.cells #[.slice (some ad) n' c] 25)).frozen? ⟨w.heap.size, 0, none⟩ = false by simp))
  have z5 := frozen_on hb1 (by simp) (show ((w.alloc (.cells #[.slice (some ad) n' c] 25)).alloc (.cells #[.slice (some ad') n' c'] 25)).frozen? ⟨w.heap.size + 1, 0, none⟩ = false by rw [World.frozen?_alloc_at _ _ _ _ (by simp)])
  have hs1 : w.heap.size + 2 ≤ w1.heap.size := by have := hb1.size; simpa using this
  clear hb1 hA1 C1 HA0
  go_upto_if 22 with fail
  go_cut [] from 16 (fun wc => ∃ (a : Option Addr) (c : Nat) (a' : Option Addr) (c' : Nat) (X Y : List Int), wc.cell? ⟨w.heap.size, 0, none⟩ = some (.slice a n' c) ∧ wc.cell? ⟨w.heap.size + 1, 0, none⟩ = some (.slice a' n' c') ∧ wc.frozen? ⟨w.heap.size, 0, none⟩ = false ∧ wc.frozen? ⟨w.heap.size + 1, 0, none⟩ = false ∧ w.heap.size + 2 ≤ wc.heap.size ∧ Below w.heap.size w wc ∧ Ints wc a n' c X ∧ Ints wc a' n' c' Y ∧ (0 < n' → In 0 w.heap.size a ∧ In 0 w.heap.size a') ∧ Hand n' X ∧ Hand n' Y ∧ lineF t n' X Y = T)
  case first =>
    cases b
    · go_wp2
      go_meet
      case rel =>
        have hB : Below w.heap.size w ((w1.setCell ⟨w.heap.size, 0, none⟩ (.slice (some ad') n' c')).setCell ⟨w.heap.size + 1, 0, none⟩ (.slice (some ad) n' c)) := (HB1.out.setCell (Nat.le_refl _) _).setCell (by dsimp only; omega) _
        have hI := HI.out _ hB
        exact ⟨some ad', c', some ad, c, ys, xs, cell_set (World.cell?_setCell_same _ _ _ p4) (by dsimp only; omega), World.cell?_setCell_same _ _ _ (cell_set p5 (by dsimp only; omega)), by rw [World.frozen?_setCell, World.frozen?_setCell]; exact z4, by rw [World.frozen?_setCell, World.frozen?_setCell]; exact z5, by simpa using hs1, hB, hI.2, hI.1, fun hn => ⟨(HO.out hn).2, (HO.out hn).1⟩, HY.out, HX.out, HTb.out⟩
    · go_wp2
      go_meet
      case rel =>
        have hI := HI.out _ HB1.out
        exact ⟨some ad, c, some ad', c', xs, ys, p4, p5, z4, z5, hs1, HB1.out, hI.1, hI.2, HO.out, HX.out, HY.out, HTb.out⟩
  case rest =>
    clear p4 p5 z4 z5 hs1 HB1 HX HY HTb HI HO hc hb hc' hb' hl hl'
    obtain ⟨a, c, a', c', X, Y, p4, p5, z4, z5, hsc, hB, hI1, hI2, hIo, hX, hY, hT⟩ := hcut
    have HB := Lib.hid hB
    have HI1 := Lib.hid hI1
    have HI2 := Lib.hid hI2
    have HIo := Lib.hid hIo
    have HX := Lib.hid hX
    have HY := Lib.hid hY
    have HT := Lib.hid hT
    clear hB hI1 hI2 hIo hX hY hT
    go_wp2_with (fail)
    refine (CN.out wc).mono ?_
    rintro e w2 ⟨M, rfl, hb2, hM, ht2⟩
    have hA : Below w2.heap.size w2 ((w2.alloc (.cells #[.int .i64 t, .map (some M)] 47)).alloc (.cells #[] 2)) := ((Below.refl _ _).alloc (Nat.le_refl _) _).alloc (by simp) _
    have hs2 := hb2.size
    have hMl := ht2.lt
    have HG : Hid (Geo w w.heap.size (w.heap.size + 1) w2.heap.size M (w2.heap.size + 1)) := ⟨Nat.le_refl _, by omega, by omega, by omega, by omega, by omega, by omega, by omega, by omega, by omega, by omega, by omega, by omega⟩
    have hA1 : Below (w2.alloc (.cells #[.int .i64 t, .map (some M)] 47)).heap.size (w2.alloc (.cells #[.int .i64 t, .map (some M)] 47)) ((w2.alloc (.cells #[.int .i64 t, .map (some M)] 47)).alloc (.cells #[] 2)) := (Below.refl _ _).alloc (Nat.le_refl _) _
    have q4 := cell_on hA (cell_on hb2 p4)
    have q5 := cell_on hA (cell_on hb2 p5)
    have HBg : Hid (Bg w w.heap.size (w.heap.size + 1) w2.heap.size M (w2.heap.size + 1) t (some ⟨w2.heap.size + 1, 0, none⟩) 0 [] 0 0 ((w2.alloc (.cells #[.int .i64 t, .map (some M)] 47)).alloc (.cells #[] 2))) := {
      bel := (HB.out.trans (hb2.mono HB.out.size)).trans (hA.mono (Nat.le_trans HB.out.size hs2))
      t0 := cell_on hA1 (by simp)
      t1 := cell_on hA1 (by simp)
      z4 := frozen_on hA (by dsimp only; omega) (frozen_on hb2 (by dsimp only; omega) z4)
      z5 := frozen_on hA (by dsimp only; omega) (frozen_on hb2 (by dsimp only; omega) z5)
      tab := ht2.mono hA
      out := by
        have := World.ownsRow_made (w2.alloc (.cells #[.int .i64 t, .map (some M)] 47)) #[] 0 (base := w2.heap.size + 1) (e := 2) (size := 1) (by simp) (by unfold maxLen; omega) rfl
        simp only [World.size_alloc] at this
        exact this
      size := by simp }
    have HL1 : Hid (Ld M w.heap.size (w.heap.size + 1) (some ⟨w2.heap.size + 1, 0, none⟩) n' a c X ((w2.alloc (.cells #[.int .i64 t, .map (some M)] 47)).alloc (.cells #[] 2))) := ⟨(HI1.out.mono hb2).mono hA, HX.out, fun hn => by
      have h1 := (HIo.out hn).1
      exact ⟨fun x hx => by have := h1 x hx; omega, fun x hx => by have := h1 x hx; omega, fun x hx => by have := h1 x hx; omega, fun x y hx hy => by have := h1 x hx; obtain rfl := Option.some.inj hy; dsimp only; omega⟩⟩
    have HL2 : Hid (Ld M w.heap.size (w.heap.size + 1) (some ⟨w2.heap.size + 1, 0, none⟩) n' a' c' Y ((w2.alloc (.cells #[.int .i64 t, .map (some M)] 47)).alloc (.cells #[] 2))) := ⟨(HI2.out.mono hb2).mono hA, HY.out, fun hn => by
      have h1 := (HIo.out hn).2
      exact ⟨fun x hx => by have := h1 x hx; omega, fun x hx => by have := h1 x hx; omega, fun x hx => by have := h1 x hx; omega, fun x y hx hy => by have := h1 x hx; obtain rfl := Option.some.inj hy; dsimp only; omega⟩⟩
    clear hA hA1 hb2 ht2 p4 p5 z4 z5 HI1 HI2 HIo HX HY HB hs2 hMl hM CN
    go_wp2
    go_loopw [11] (fun vo wr => ∃ (f : Nat) (a : Option Addr) (c : Nat) (a' : Option Addr) (c' : Nat) (X Y : List Int) (ra : Option Addr) (rc : Nat) (O : List Int) (ol k : Nat), vo = .slice ra ol rc ∧ wr.cell? ⟨w.heap.size, 0, none⟩ = some (.slice a f c) ∧ wr.cell? ⟨w.heap.size + 1, 0, none⟩ = some (.slice a' f c') ∧ O.length = ol ∧ f ≤ 6 ∧ O ++ lineF t f X Y = T ∧ ol + 2 * f ≤ 12 ∧ k + f * 4000000 ≤ 24000000 ∧ Ld M w.heap.size (w.heap.size + 1) ra f a c X wr ∧ Ld M w.heap.size (w.heap.size + 1) ra f a' c' Y wr ∧ Bg w w.heap.size (w.heap.size + 1) w2.heap.size M (w2.heap.size + 1) t ra rc O ol k wr) (fun vo _ => 12 - lenV vo)
    case atStart => exact ⟨n', a, c, a', c', X, Y, _, _, [], 0, 0, rfl, q4, q5, rfl, g2, by rw [List.nil_append]; exact HT.out, by omega, by omega, HL1.out, HL2.out, HBg.out⟩
    case round =>
      clear q4 q5 HT HL1 HL2 HBg
      obtain ⟨f, a, c, a', c', X, Y, ra, rc, O, ol, k, rfl, p4, p5, hol, hf6, hT, hlen, hkk, hL1, hL2, hBg⟩ := hrel
      have HT := Lib.hid hT
      have HL1 := Lib.hid hL1
      have HL2 := Lib.hid hL2
      have HBg := Lib.hid hBg
      have HOl := Lib.hid hol
      obtain ⟨hlc, hlb, _⟩ := Ints.at hL1.rd
      obtain ⟨hoc, hob, _⟩ := Ints.at hL2.rd
      clear hT hL1 hL2 hBg hol
      cases f with
      | zero =>
        have HE : Hid (lineRes xs ys b t = (O, true)) := by
          show _ = _
          rw [HR2.out, ← HT.out]
          simp [lineF]
        go_wp2
        go_ret2
        exact RetI.ok HE.out HBg.out.bel (ownsRow_low HBg.out.out (by have := HG.out.B4; omega))
      | succ f =>
        have hf5 : f ≤ 5 := by omega
        have hcb := cb_le (show f + 1 ≤ 6 by omega)
        have hcb' : cb (f + 1) = 1 + (f + 1) * ((f + 1) * cb f) := rfl
        have hcs : (f + 1) * cb f ≤ 1000000 := by
          have h1 : (f + 1) * cb f ≤ (f + 1) * ((f + 1) * cb f) := Nat.le_mul_of_pos_left _ (by omega)
          omega
        clear hcb hcb'
        have hX := HL1.out.hd
        have hY := HL2.out.hd
        have hlm := leadC_mem (t := t) hX hY
        have ham := ansC_mem (t := t) hf5 hX hY hlm
        have HLm := Lib.hid hlm
        have HAm := Lib.hid (legalL_mem ham)
        have hr1 := hX.rng _ hlm
        have hr2 := hY.rng _ HAm.out
        have HH1 := Lib.hid (hX.less hlm)
        have HH2 := Lib.hid (hY.less HAm.out)
        have HLf : Hid (lineF t (f + 1) X Y = leadC t f X Y :: ansC t f X Y (leadC t f X Y) :: (if winsL (leadC t f X Y) (ansC t f X Y (leadC t f X Y)) t = true then lineF t f (lessL X (leadC t f X Y)) (lessL Y (ansC t f X Y (leadC t f X Y))) else lineF t f (lessL Y (ansC t f X Y (leadC t f X Y))) (lessL X (leadC t f X Y)))) := rfl
        obtain ⟨av1, a41, a51, dj1⟩ := HL1.out.av (by omega)
        obtain ⟨av2, a42, a52, dj2⟩ := HL2.out.av (by omega)
        have CL := Lib.hid (leadCard_any t M f hf5 k a c X a' c' Y wr HL1.out.rd HL2.out.rd av1 av2 hX hY HBg.out.tab (by omega))
        have CA := Lib.hid (fun (k2 : Nat) W (i1 : Ints W a (f + 1) c X) (i2 : Ints W a' (f + 1) c' Y) (hT : TabAt M k2 t W) (hk2 : k2 + (f + 1) * cb f ≤ 1099511627776) => after_of t M f hf5 (best_any t M f (by omega)) k2 a c X a' c' Y _ W i1 i2 av1 av2 hX hY hlm hT hk2)
        have CG := Lib.hid (fun W (i2 : Ints W a' (f + 1) c' Y) => legal_any a' (f + 1) c' Y (leadC t f X Y) W i2 (by omega) (by omega) hY.rng hr1.1 hr1.2)
        have CP := Lib.hid (fun (k2 : Nat) (z m : Int) W (b0 b1 b2 b3 b4 : Nat) (i1 : Ints W a (f + 1) c X) (i2 : Ints W a' (f + 1) c' Y) (hT : TabAt M k2 t W) (hk2 : k2 + cb f ≤ 1099511627776) (hzm : z ∈ Y) => TrickLine1_any t M f hf5 k2 a c X a' c' Y (leadC t f X Y) z m b0 b1 b2 b3 b4 W i1 i2 av1 av2 hX hY hlm hzm hT hk2)
        have CX := Lib.hid (fun W (i1 : Ints W a (f + 1) c X) => without_any a (f + 1) c X (leadC t f X Y) W i1 (by omega) (by omega))
        have CY := Lib.hid (fun W (i2 : Ints W a' (f + 1) c' Y) => without_any a' (f + 1) c' Y (ansC t f X Y (leadC t f X Y)) W i2 (by omega) (by omega))
        have HGm : Hid (∀ z ∈ legalL Y (leadC t f X Y), z ∈ Y) := fun z hz => legalL_mem hz
        have HGl := Lib.hid (legalL_len Y (leadC t f X Y))
        have HYl := Lib.hid hY.len
        have HFi : Hid (∃ i : Nat, firstIdx (fun a => repF t f X Y (leadC t f X Y) a == aftF t f X Y (leadC t f X Y)) (legalL Y (leadC t f X Y)) = (i : Int) ∧ i < (legalL Y (leadC t f X Y)).length ∧ ansC t f X Y (leadC t f X Y) = (legalL Y (leadC t f X Y)).getD i 0) := by
          have hm : minL ((legalL Y (leadC t f X Y)).map (repF t f X Y (leadC t f X Y))) ∈ (legalL Y (leadC t f X Y)).map (repF t f X Y (leadC t f X Y)) := minL_mem (fun x hx => by
            obtain ⟨a, ha, rfl⟩ := List.mem_map.1 hx
            have := (repF_bd (t := t) hX hY hlm ha).2
            omega) (by simpa using legalL_ne _ hY.ne)
          obtain ⟨z, hz, ez⟩ := List.mem_map.1 hm
          obtain ⟨_, _, i, hi1, hi2⟩ := firstOf_mem (g := repF t f X Y (leadC t f X Y)) (v := aftF t f X Y (leadC t f X Y)) ⟨z, hz, ez⟩
          refine ⟨i, hi1, hi2, ?_⟩
          show firstOf _ _ _ = _
          unfold firstOf
          rw [hi1]
          rfl
        clear hlm ham hX hY
        generalize aftF t f X Y (leadC t f X Y) = V at *
        generalize repF t f X Y (leadC t f X Y) = rp at *
        generalize ansC t f X Y (leadC t f X Y) = z at *
        generalize leadC t f X Y = y at *
        generalize hAn : legalL Y y = A at *
        clear hAn
        generalize hX1 : lessL X y = X1 at *
        generalize hY1 : lessL Y z = Y1 at *
        clear hX1 hY1
        generalize cb f = cf at *
        generalize hn' : f + 1 = m at *
        have hm1 : 1 ≤ m := by omega
        have HM := Lib.hid hn'
        have hmf1 : m ≤ f + 1 := by omega
        have hmf2 : f + 1 ≤ m := by omega
        clear hn'
        have t0 := HBg.out.t0
        have t1 := HBg.out.t1
        have n4M := HG.out.n4M
        have n5M := HG.out.n5M
        have nTM := HG.out.nTM
        have hBM := HG.out.BM
        have hB4 := HG.out.B4
        have hB5 := HG.out.B5
        have hsr := HBg.out.size
        go_wp2_with (fail)
        refine CL.out.mono ?_
        rintro e v1 ⟨rfl, hc1, k1, hk1, ht1⟩
        have HBg1 := Lib.hid (HBg.out.chg HG.out hc1 ht1)
        have p4 := hc1.cellNe p4 n4M
        have p5 := hc1.cellNe p5 n5M
        have hA1 : Below v1.heap.size v1 (v1.alloc (.cells #[.int .i64 y] 2)) := (Below.refl _ _).alloc (Nat.le_refl _) _
        have HsV : Hid (wr.heap.size ≤ v1.heap.size) := hc1.size
        have HC1 : Hid (Chg M (M + 1) wr (v1.alloc (.cells #[.int .i64 y] 2))) := hc1.trans (Chg.below hA1)
        have HBg2 := Lib.hid (HBg1.out.below HG.out hA1)
        have p4 := cell_on hA1 p4
        have p5 := cell_on hA1 p5
        have py : (v1.alloc (.cells #[.int .i64 y] 2)).cell? ⟨v1.heap.size, 0, none⟩ = some (.int .i64 y) := by simp
        have t0 := HBg2.out.t0
        have t1 := HBg2.out.t1
        have hs1 := HBg1.out.size
        have CA1 := Lib.hid (CA.out k1 _ (HL1.out.chg HC1.out).rd (HL2.out.chg HC1.out).rd HBg2.out.tab (by omega))
        clear hc1 ht1 hA1 CL CA
        go_wp2_with (fail)
        refine CA1.out.mono ?_
        rintro e v2 ⟨rfl, hc2, k2, hk2, ht2⟩
        have HBg3 := Lib.hid (HBg2.out.chg HG.out hc2 ht2)
        have p4 := hc2.cellNe p4 n4M
        have p5 := hc2.cellNe p5 n5M
        have py := hc2.cellNe py (by dsimp only; omega)
        have hA2 : Below v2.heap.size v2 (v2.alloc (.cells #[.int .i64 V] 2)) := (Below.refl _ _).alloc (Nat.le_refl _) _
        have HC2 : Hid (Chg M (M + 1) wr (v2.alloc (.cells #[.int .i64 V] 2))) := (HC1.out.trans hc2).trans (Chg.below hA2)
        have HBg4 := Lib.hid (HBg3.out.below HG.out hA2)
        have hs2 : v1.heap.size + 1 ≤ v2.heap.size := by have := hc2.size; simpa using this
        have p4 := cell_on hA2 p4
        have p5 := cell_on hA2 p5
        have py := cell_on hA2 py
        have pz : (v2.alloc (.cells #[.int .i64 V] 2)).cell? ⟨v2.heap.size, 0, none⟩ = some (.int .i64 V) := by simp
        have CG1 := Lib.hid (CG.out _ (HL2.out.chg HC2.out).rd)
        clear hc2 ht2 hA2 CA1 CG HC1 t0 t1
        go_wp2_with (fail)
        refine CG1.out.mono ?_
        rintro e v3 ⟨ga, gn, gc, rfl, hb3, ho3⟩
        have HBg5 := Lib.hid (HBg4.out.below HG.out hb3)
        have HC3 := Lib.hid (HC2.out.trans (Chg.below hb3))
        have hgl : A.length = gn := by have := ho3.1; rw [intCells_len] at this; omega
        have HGn := Lib.hid hgl
        have hgm : gn ≤ m := by have h1 := HGl.out; have h2 := HYl.out; omega
        obtain ⟨i, hi1, hi2, hi3⟩ := HFi.out
        have hign : i < gn := by omega
        obtain ⟨gb, rfl⟩ := own_some ho3 (by omega)
        have hgc : gn ≤ gc ∧ gc ≤ 9223372036854775807 := by have := Rd.own ho3; exact ⟨this.2.1, this.2.2.1⟩
        have p4 := cell_on hb3 p4
        have p5 := cell_on hb3 p5
        have py := cell_on hb3 py
        have pz := cell_on hb3 pz
        have hs3 : v2.heap.size + 1 ≤ v3.heap.size := by have := hb3.size; simpa using this
        have hgb : v2.heap.size + 1 ≤ gb := by have := (own_block ho3).1; simpa using this
        have AvG : Hid (Av M (some ⟨gb, 0, none⟩)) := fun x hx => by obtain rfl := Option.some.inj hx; dsimp only; omega
        have HO3 := Lib.hid ho3
        have t0 := HBg5.out.t0
        have t1 := HBg5.out.t1
        have hbd : k2 + gn * cf ≤ 1099511627776 := by
          have : gn * cf ≤ m * cf := Nat.mul_le_mul_right _ hgm
          omega
        have hbd2 : Hid (gn * cf ≤ 1000000) := Nat.le_trans (Nat.mul_le_mul_right _ hgm) hcs
        have CI := Lib.hid (indexFuncT_any (fun a => rp a == V) 26 #[.pointer (some ⟨w2.heap.size, 0, none⟩), .pointer (some ⟨w.heap.size, 0, none⟩), .pointer (some ⟨w.heap.size + 1, 0, none⟩), .pointer (some ⟨v1.heap.size, 0, none⟩), .pointer (some ⟨v2.heap.size, 0, none⟩)] (enters_of Try.func26 (by kernel_rfl) rfl) M t k2 cf (some ⟨gb, 0, none⟩) gn gc A v3 (Rd.own HO3.out) AvG.out HBg5.out.tab hbd
          (fun W k' hW hT' hk' x hx => CP.out k' x V W _ _ _ _ _ (HL1.out.chg (HC3.out.trans hW)).rd (HL2.out.chg (HC3.out.trans hW)).rd hT' hk' (HGm.out x hx) (hW.cellNe t0 nTM) (hW.cellNe t1 nTM) (hW.cellNe p4 n4M) (hW.cellNe p5 n5M) (hW.cellNe py (by dsimp only; omega)) (hW.cellNe pz (by dsimp only; omega)) nTM n4M n5M (by omega) (by omega)))
        rw [hi1] at CI
        have HZi := Lib.hid hi3
        clear hi1 hi2 hi3 hb3 ho3 CG1 CP HFi hgl hbd
        go_wp2_with (fail)
        refine CI.out.mono ?_
        rintro e v4 ⟨rfl, hc4, k4, hk4, ht4⟩
        have HBg6 := Lib.hid (HBg5.out.chg HG.out hc4 ht4)
        have x0 := own_get (own_av HO3.out hc4 AvG.out) i hign
        rw [← HZi.out] at x0
        have p4 := hc4.cellNe p4 n4M
        have p5 := hc4.cellNe p5 n5M
        have py := hc4.cellNe py (by dsimp only; omega)
        have HC4 := Lib.hid (HC3.out.trans hc4)
        have ho4 := HBg6.out.out
        have hs4 := hc4.size
        have hsw : w2.heap.size + 1 ≤ v4.heap.size := HBg6.out.size
        have hk4' : k4 ≤ k + 4000000 := by have := hbd2.out; omega
        clear hc4 ht4 CI hk1 hk2 hk4 pz t0 t1 HO3 AvG HZi HBg5 HBg4 HBg3 HBg2 HBg1
        go_wp2_with (first | (at_builtin; go_must (refine wpList_append_own _ rfl _ _ 25 rfl (w2.heap.size + 1) 2 i0 (.int .i64 0) 1 8 Try.underlying25 hi hz0 hz1 hz2 rfl (by decide) _ _ _ rfl (ho4.alloc _) ⟨v4.heap.size, 0, none⟩ 2 2 [.int .i64 y, .int .i64 z] rfl rfl (new2S _ _ _ _ _ rfl) (one2 rfl rfl) (by unfold maxLen; omega) (by omega) (by simp; omega) ?_); intro v' v5 hown1 hg1 _; obtain ⟨ra5, rc5, rfl⟩ := own_form hown1))
        have hAy : Below v4.heap.size v4 (v4.alloc (.cells #[.int .i64 y, .int .i64 z] 2)) := (Below.refl _ _).alloc (Nat.le_refl _) _
        have HBg7 : Hid (Bg w w.heap.size (w.heap.size + 1) w2.heap.size M (w2.heap.size + 1) t ra5 rc5 (O ++ [y, z]) (ol + 2) k4 v5) := (HBg6.out.below HG.out hAy).grown HG.out hg1 (by
          rw [show intCells (O ++ [y, z]) = intCells O ++ intCells [y, z] from List.map_append]
          exact hown1)
        have hc5 : Chg (w2.heap.size + 1) wr.heap.size (v4.alloc (.cells #[.int .i64 y, .int .i64 z] 2)) v5 := Chg.of_grown (own_in HBg.out.out) hg1
        have hsv : wr.heap.size ≤ v1.heap.size := HsV.out
        have JD1 : Hid (Ints v5.drew a m c X) := (((HL1.out.chg HC4.out).below hAy).grown hg1).drewN 1
        have JD2 : Hid (Ints v5.drew a' m c' Y) := (((HL2.out.chg HC4.out).below hAy).grown hg1).drewN 1
        have p4 : v5.drew.cell? ⟨w.heap.size, 0, none⟩ = some (.slice a m c) := hc5.cell (cell_on hAy p4) (.inl (by dsimp only; omega))
        have p5 : v5.drew.cell? ⟨w.heap.size + 1, 0, none⟩ = some (.slice a' m c') := hc5.cell (cell_on hAy p5) (.inl (by dsimp only; omega))
        have py : v5.drew.cell? ⟨v1.heap.size, 0, none⟩ = some (.int .i64 y) := hc5.cell (cell_on hAy py) (.inr (by dsimp only; omega))
        have z4 : v5.drew.frozen? ⟨w.heap.size, 0, none⟩ = false := HBg7.out.z4
        have z5 : v5.drew.frozen? ⟨w.heap.size + 1, 0, none⟩ = false := HBg7.out.z5
        have hl4 : w.heap.size < v5.drew.heap.size := cell_lt p4
        have hl5 : w.heap.size + 1 < v5.drew.heap.size := cell_lt p5
        have HBD : Hid (Below v5.heap.size v5 v5.drew) := (Below.refl v5.heap.size v5).drew
        have HBgd := Lib.hid HBg7.out.drew
        have hn1 : v1.heap.size ≠ w.heap.size := by omega
        have hn2 : v1.heap.size ≠ w.heap.size + 1 := by omega
        clear hown1 hg1 hAy hc5 x0 ho4 HC4 HC3 HC2
        go_cut [] from 28 to 66 (fun wc => Nx w w.heap.size (w.heap.size + 1) w2.heap.size M (w2.heap.size + 1) t ra5 rc5 (O ++ [y, z]) (ol + 2) k4 f X1 Y1 v1.heap.size y wc)
        case first =>
          go_region_with (first
            | (go_at_call_of 28 (Value.slice a m c); refine (CX.out _ ?_).mono ?_; (first | exact JD1.out | exact JD1.out.mono hb7); rintro e w6 ⟨a6, n6, c6, rfl, hb6, ho6⟩; have q4 := cell_on hb6 (show World.cell? _ ⟨w.heap.size, 0, none⟩ = _ by assumption); have q5 := cell_on hb6 (show World.cell? _ ⟨w.heap.size + 1, 0, none⟩ = _ by assumption); have qy := cell_on hb6 (show World.cell? _ ⟨v1.heap.size, 0, none⟩ = _ by assumption); have y4 := frozen_on hb6 (by first | exact hl4 | exact Nat.lt_of_lt_of_le hl4 hb7.size) (show World.frozen? _ ⟨w.heap.size, 0, none⟩ = _ by assumption); have y5 := frozen_on hb6 (by first | exact hl5 | exact Nat.lt_of_lt_of_le hl5 hb7.size) (show World.frozen? _ ⟨w.heap.size + 1, 0, none⟩ = _ by assumption); try (have NB := hb7.trans (hb6.mono hb7.size); have o6 := ho6; have o7 := ownsRow_below ho7 hb6; have e6 := hb7.size; have e7 := Nat.le_refl v5.drew.heap.size))
            | (go_at_call_of 28 (Value.slice a' m c'); refine (CY.out _ ?_).mono ?_; (first | exact JD2.out | exact JD2.out.mono hb6); rintro e w7 ⟨a7, n7, c7, rfl, hb7, ho7⟩; have r4 := cell_on hb7 (show World.cell? _ ⟨w.heap.size, 0, none⟩ = _ by assumption); have r5 := cell_on hb7 (show World.cell? _ ⟨w.heap.size + 1, 0, none⟩ = _ by assumption); have ry := cell_on hb7 (show World.cell? _ ⟨v1.heap.size, 0, none⟩ = _ by assumption); have x4 := frozen_on hb7 (by first | exact hl4 | exact Nat.lt_of_lt_of_le hl4 hb6.size) (show World.frozen? _ ⟨w.heap.size, 0, none⟩ = _ by assumption); have x5 := frozen_on hb7 (by first | exact hl5 | exact Nat.lt_of_lt_of_le hl5 hb6.size) (show World.frozen? _ ⟨w.heap.size + 1, 0, none⟩ = _ by assumption); try (have NB := hb6.trans (hb7.mono hb6.size); have o6 := ownsRow_below ho6 hb7; have o7 := ho7; have e6 := Nat.le_refl v5.drew.heap.size; have e7 := hb6.size)))
          all_goals (go_wp2_with (fail))
          all_goals go_meet
          all_goals exact Nx.of HG.out HBgd.out py hn1 hn2 NB o6 o7 e6 e7 HH1.out HH2.out p4 p5
        case rest =>
          clear p4 p5 py z4 z5 hl4 hl5 HBD JD1 JD2 CX CY
          obtain ⟨⟨a6, c6, a7, c7, p4, p5, hL6, hL7⟩, hbg, hcy⟩ := hcut
          have L6 := Lib.hid hL6
          have L7 := Lib.hid hL7
          have Bgc := Lib.hid hbg
          have z4 := hbg.z4
          have z5 := hbg.z5
          have hT := HT.out
          rw [HLf.out] at hT
          have hOl : Hid ((O ++ [y, z]).length = ol + 2) := by show _ = _; rw [List.length_append, HOl.out]; rfl
          clear hL6 hL7 hbg
          rcases Bool.eq_false_or_eq_true (winsL y z t) with ew | ew
          · have CW : Hid (∀ W, Calls Try.prog 29 #[.int .i64 y, .int .i64 z, .int .i64 t] W (RetS W (.bool true))) := fun W => by rw [← ew]; exact winsTrick_any y z t W hr1 hr2
            rw [if_pos ew] at hT
            have HT2 : Hid ((O ++ [y, z]) ++ lineF t f X1 Y1 = T) := by show _ = _; rw [← hT]; simp
            clear hT HLf ew
            go_wp2_with (fail)
            refine (CW.out _).mono ?_
            rintro e w8 ⟨rfl, rfl⟩
            go_wp2
            go_roundw
            case rel => exact ⟨f, a6, c6, a7, c7, X1, Y1, ra5, rc5, O ++ [y, z], ol + 2, k4, rfl, p4, p5, hOl.out, by omega, HT2.out, by omega, by omega, L6.out, L7.out, Bgc.out⟩
            case measure => simp [lenV]; omega
          · have CW : Hid (∀ W, Calls Try.prog 29 #[.int .i64 y, .int .i64 z, .int .i64 t] W (RetS W (.bool false))) := fun W => by rw [← ew]; exact winsTrick_any y z t W hr1 hr2
            rw [if_neg (by rw [ew]; exact Bool.false_ne_true)] at hT
            have HT2 : Hid ((O ++ [y, z]) ++ lineF t f Y1 X1 = T) := by show _ = _; rw [← hT]; simp
            clear hT HLf ew
            go_wp2_with (fail)
            refine (CW.out _).mono ?_
            rintro e w8 ⟨rfl, rfl⟩
            go_wp2
            go_roundw
            case rel => exact ⟨f, a7, c7, a6, c6, Y1, X1, ra5, rc5, O ++ [y, z], ol + 2, k4, rfl, cell_set (World.cell?_setCell_same _ _ _ p4) (by dsimp only; omega), World.cell?_setCell_same _ _ _ (cell_set p5 (by dsimp only; omega)), hOl.out, by omega, HT2.out, by omega, by omega, (L7.out.set (.inl rfl) _).set (.inr rfl) _, (L6.out.set (.inl rfl) _).set (.inr rfl) _, (Bgc.out.set HG.out (.inl rfl) _).set HG.out (.inr rfl) _⟩
            case measure => simp [lenV]; omega

end Go.Proofs.Ytgldfmkjnggedaa
