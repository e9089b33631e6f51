/- Tricks, spec: l06Answer, l06Lead. -/
import Derived.Test.YtaeabngamnkgjaaTrickB
namespace Go.Proofs.Ytaeabngamnkgjaa
open Go.RowKit
set_option linter.unusedVariables false

def cardF (t : Int) : Nat → List Int → List Int → Int
  | 0, _, _ => -1
  | f + 1, lead, other => leadC t f lead other
/-- What l06Lead tells of hands of f cards. -/
def LeadOk (t : Int) (f : Nat) : Prop := ∀ (a : Option Addr) (c : Nat) (xs : List Int) (a' : Option Addr) (c' : Nat) (ys : List Int) (w : World), Ints w a f c xs → Ints w a' f c' ys → Hand f xs → Hand f ys →
    Calls Try.prog 61 #[.slice a f c, .slice a' f c', .int .i64 t] w (Ret w (.tuple #[.int .i64 (bestF t f xs ys), .int .i64 (cardF t f xs ys)]))

set_option maxHeartbeats 3200000 in
set_option maxRecDepth 100000 in
theorem l06Answer_of (t : Int) (f : Nat) (hf : f ≤ 5) (IH : LeadOk t f) (a : Option Addr) (c : Nat) (xs : List Int) (a' : Option Addr) (c' : Nat) (ys : List Int) (y : Int) (w : World) (h : Ints w a (f + 1) c xs) (h' : Ints w a' (f + 1) c' ys) (hx : Hand (f + 1) xs) (hy : Hand (f + 1) ys) (hym : y ∈ xs) :
    Calls Try.prog 62 #[.slice a (f + 1 : Nat) c, .slice a' (f + 1 : Nat) c', .int .i64 y, .int .i64 t] w (Ret w (.tuple #[.int .i64 (aftF t f xs ys y), .int .i64 (ansC t f xs ys y)])) := by
  have HX := Lib.hid hx
  have HY := Lib.hid hy
  have H1 := Lib.hid h
  have H2 := Lib.hid h'
  have HYm := Lib.hid hym
  have hyr := hx.rng y hym
  obtain ⟨hc, hb, _⟩ := h.at
  obtain ⟨hc', hb', _⟩ := h'.at
  have HAf : Hid (aftF t f xs ys y = minL ((legalL ys y).map (repF t f xs ys y))) := rfl
  have HAn : Hid (ansC t f xs ys y = firstOf (repF t f xs ys y) (aftF t f xs ys y) (legalL ys y)) := rfl
  have HAm : Hid (∀ z ∈ legalL ys y, z ∈ ys) := fun z hz => legalL_mem hz
  have HAl := Lib.hid (legalL_len ys y)
  have HAne := Lib.hid (legalL_ne y hy.ne)
  have HAb : Hid (∀ z ∈ legalL ys y, 0 ≤ repF t f xs ys y z ∧ repF t f xs ys y z ≤ (f : Int) + 1) := fun z hz => repF_bd hx hy hym hz
  have CL := Lib.hid (l06Legal_any a' (f + 1) c' ys y w h' (by omega) (by omega) hy.rng hyr.1 hyr.2)
  generalize hn : f + 1 = n at *
  have hnf : n = f + 1 := hn.symm
  have hn1 : 1 ≤ n := by omega
  have hn6 : n ≤ 6 := by omega
  have HN := Lib.hid hn
  clear h h' hx hy hym hn hnf
  generalize aftF t f xs ys y = AF at *
  generalize ansC t f xs ys y = AN at *
  generalize legalL ys y = A at *
  go_enter Try.func62, Try.ntmps62
  go_wp2_with (fail)
  refine CL.out.mono ?_
  rintro e w1 ⟨la, ln, lc, rfl, hb1, ho1⟩
  have hln : A.length = ln := by have := ho1.1; rw [intCells_len] at this; omega
  have hln2 : ln ≤ n := by have h1 := HAl.out; have h2 := HY.out.len; omega
  have hln0 : 0 < ln := by
    rcases Nat.eq_zero_or_pos ln with e | e
    · exact absurd (List.eq_nil_of_length_eq_zero (hln.trans e)) HAne.out
    · exact e
  have HB1 := Lib.hid hb1
  have HO1 := Lib.hid ho1
  have HLn := Lib.hid hln
  have hcap : ln ≤ lc ∧ lc ≤ 9223372036854775807 := by have := Rd.own ho1; exact ⟨this.2.1, this.2.2.1⟩
  obtain ⟨g, rfl⟩ := own_some ho1 hln0
  clear hb1 ho1 hln CL HAl
  go_wp2
  go_loopw [11, 12, 13] (fun vb vc vk w2 => ∃ (k : Nat) (b cc : Int), k ≤ ln ∧ vk = .int .i64 k ∧ vb = .int .i64 b ∧ vc = .int .i64 cc ∧ FirstMin (repF t f xs ys y) A k b cc ∧ Below w1.heap.size w1 w2) (fun _ _ vk _ => ln - (intOf vk).toNat)
  case atStart => exact ⟨0, -1, -1, by omega, rfl, rfl, rfl, FirstMin.zero _ _, Below.refl _ _⟩
  case round =>
    obtain ⟨k, b, cc, hk, rfl, rfl, rfl, hfm, hbel⟩ := hrel
    have HB := Lib.hid hbel
    have HF := Lib.hid hfm
    clear hbel hfm
    by_cases hkn : k < ln
    · have HZm : Hid (A.getD k 0 ∈ A) := getD_mem (by rw [HLn.out]; exact hkn)
      have HZy := Lib.hid (HAm.out _ HZm.out)
      have hzr := HY.out.rng _ HZy.out
      have hzb := HAb.out _ HZm.out
      have z0 := own_get (ownsRow_below HO1.out HB.out) k hkn
      have HMo : Hid (b < 0 ∨ repF t f xs ys y (A.getD k 0) < b → FirstMin (repF t f xs ys y) A (k + 1) (repF t f xs ys y (A.getD k 0)) (A.getD k 0)) := fun hb => HF.out.more (by rw [HLn.out]; exact hkn) hb hzb.1 (by omega)
      have HLs : Hid (¬ (b < 0 ∨ repF t f xs ys y (A.getD k 0) < b) → FirstMin (repF t f xs ys y) A (k + 1) b cc) := fun hb => HF.out.less (by rw [HLn.out]; exact hkn) hb
      have HWA : Hid (repF t f xs ys y (A.getD k 0) = if winsL y (A.getD k 0) t = true then 1 + bestF t f (lessL xs y) (lessL ys (A.getD k 0)) else (f : Int) - bestF t f (lessL ys (A.getD k 0)) (lessL xs y)) := rfl
      generalize A.getD k 0 = z at *
      have hX := HX.out
      have hY := HY.out
      rw [← HN.out] at hX hY
      have h1 := hX.less HYm.out
      have h2 := hY.less HZy.out
      have HH1 := Lib.hid h1
      have HH2 := Lib.hid h2
      have hbb1 := bestF_bd t f _ _ h1 h2
      have hbb2 := bestF_bd t f _ _ h2 h1
      have HBw := Lib.hid (HB1.out.trans (HB.out.mono HB1.out.size))
      have CA := Lib.hid (l06Less_any _ _ _ xs y wr (H1.out.mono HBw.out) (by omega))
      have CB := Lib.hid (fun W (hW : Below w.heap.size w W) => l06Less_any _ _ _ ys z W (H2.out.mono hW) (by omega))
      clear h1 h2 hX hY HF
      generalize hV : repF t f xs ys y z = V at *
      clear hV
      generalize lessL xs y = XS at *
      generalize lessL ys z = YS at *
      go_wp2_with (fail)
      refine CA.out.mono ?_
      rintro e w3 ⟨ma, mn, mc, rfl, hb3, ho3⟩
      have hmn : mn = f := by have := ho3.1; rw [intCells_len] at this; have := HH1.out.len; omega
      subst hmn
      have z1 := cell_on hb3 z0
      have HB3 := Lib.hid (HBw.out.trans (hb3.mono HBw.out.size))
      have HB34 := Lib.hid hb3
      have HO3 := Lib.hid ho3
      clear hb3 ho3 z0 CA
      go_wp2_with (fail)
      refine (CB.out _ HB3.out).mono ?_
      rintro e w4 ⟨ta, tn, tc, rfl, hb4, ho4⟩
      have htn : tn = mn := by have := ho4.1; rw [intCells_len] at this; have := HH2.out.len; omega
      subst htn
      have z2 := cell_on hb4 z1
      have HB4 := Lib.hid (HB3.out.trans (hb4.mono HB3.out.size))
      have I3 := Lib.hid (Rd.own (ownsRow_below HO3.out hb4))
      have I4 := Lib.hid (Rd.own ho4)
      have HB14 : Hid (Below w1.heap.size w1 w4) := HB.out.trans ((HB34.out.trans (hb4.mono HB34.out.size)).mono HB.out.size)
      clear hb4 ho4 z1 CB HO3
      have hV := HWA.out
      rcases Bool.eq_false_or_eq_true (winsL y z t) with ew | ew
      · have CW : Hid (∀ W, Calls Try.prog 64 #[.int .i64 y, .int .i64 z, .int .i64 t] W (RetS W (.bool true))) := fun W => by rw [← ew]; exact l06Wins_any y z t W hyr hzr
        rw [if_pos ew] at hV
        have HVv := Lib.hid hV
        clear hV HWA ew hbb2
        go_wp2_with (fail)
        refine (CW.out _).mono ?_
        rintro e w4' ⟨rfl, rfl⟩
        go_wp2_with (fail)
        refine (IH _ _ _ _ _ _ _ I3.out I4.out HH1.out HH2.out).mono ?_
        rintro e w5 ⟨rfl, hb5⟩
        have HB5 : Hid (Below w1.heap.size w1 w5) := HB14.out.trans (hb5.mono HB14.out.size)
        have z5 := cell_on hb5 z2
        clear hb5 z2
        generalize hB : bestF t tn XS YS = B at *
        have HBB := Lib.hid hB
        clear hB
        by_cases hb0 : b < 0
        · have HG := Lib.hid (HMo.out (.inl hb0))
          clear HLs HMo
          go_wp2
          go_roundw
          case rel => exact ⟨k + 1, (1 + B), z, by omega, by go_num, by first | rfl | go_num, rfl, by rw [← HVv.out]; exact HG.out, HB5.out⟩
          case measure => simp [intOf]; omega
        · have d1 : decide (b < 0) = false := decide_eq_false hb0
          by_cases hvb : V < b
          · have HG := Lib.hid (HMo.out (.inr hvb))
            have hvb' : (1 + B) < b := by rw [← HVv.out]; exact hvb
            clear HLs HMo hvb hb0
            go_wp2
            go_roundw
            case rel => exact ⟨k + 1, (1 + B), z, by omega, by go_num, by first | rfl | go_num, rfl, by rw [← HVv.out]; exact HG.out, HB5.out⟩
            case measure => simp [intOf]; omega
          · have HG := Lib.hid (HLs.out (fun h => h.elim hb0 hvb))
            have d2 : decide ((1 + B) < b) = false := decide_eq_false (by rw [← HVv.out]; exact hvb)
            clear HLs HMo hvb hb0
            go_wp2
            go_roundw
            case rel => exact ⟨k + 1, b, cc, by omega, by go_num, rfl, rfl, HG.out, HB5.out⟩
            case measure => simp [intOf]; omega
      · have CW : Hid (∀ W, Calls Try.prog 64 #[.int .i64 y, .int .i64 z, .int .i64 t] W (RetS W (.bool false))) := fun W => by rw [← ew]; exact l06Wins_any y z t W hyr hzr
        rw [if_neg (by rw [ew]; exact Bool.false_ne_true)] at hV
        have HVv := Lib.hid hV
        clear hV HWA ew hbb1
        go_wp2_with (fail)
        refine (CW.out _).mono ?_
        rintro e w4' ⟨rfl, rfl⟩
        go_wp2_with (fail)
        refine (IH _ _ _ _ _ _ _ I4.out I3.out HH2.out HH1.out).mono ?_
        rintro e w5 ⟨rfl, hb5⟩
        have HB5 : Hid (Below w1.heap.size w1 w5) := HB14.out.trans (hb5.mono HB14.out.size)
        have z5 := cell_on hb5 z2
        clear hb5 z2
        generalize hB : bestF t tn YS XS = B at *
        have HBB := Lib.hid hB
        clear hB
        by_cases hb0 : b < 0
        · have HG := Lib.hid (HMo.out (.inl hb0))
          clear HLs HMo
          go_wp2
          go_roundw
          case rel => exact ⟨k + 1, ((tn : Int) - B), z, by omega, by go_num, by first | rfl | go_num, rfl, by rw [← HVv.out]; exact HG.out, HB5.out⟩
          case measure => simp [intOf]; omega
        · have d1 : decide (b < 0) = false := decide_eq_false hb0
          by_cases hvb : V < b
          · have HG := Lib.hid (HMo.out (.inr hvb))
            have hvb' : ((tn : Int) - B) < b := by rw [← HVv.out]; exact hvb
            clear HLs HMo hvb hb0
            go_wp2
            go_roundw
            case rel => exact ⟨k + 1, ((tn : Int) - B), z, by omega, by go_num, by first | rfl | go_num, rfl, by rw [← HVv.out]; exact HG.out, HB5.out⟩
            case measure => simp [intOf]; omega
          · have HG := Lib.hid (HLs.out (fun h => h.elim hb0 hvb))
            have d2 : decide (((tn : Int) - B) < b) = false := decide_eq_false (by rw [← HVv.out]; exact hvb)
            clear HLs HMo hvb hb0
            go_wp2
            go_roundw
            case rel => exact ⟨k + 1, b, cc, by omega, by go_num, rfl, rfl, HG.out, HB5.out⟩
            case measure => simp [intOf]; omega
    · obtain rfl : k = ln := by omega
      have hd := HF.out
      rw [← HLn.out] at hd
      obtain ⟨e1, e2⟩ := hd.done (by rw [HLn.out]; exact hln0)
      have E1 : Hid (b = AF) := by show _ = _; rw [e1, HAf.out]
      have E2 : Hid (cc = AN) := by show _ = _; rw [e2, HAn.out, E1.out]
      have HBw := Lib.hid (HB1.out.trans (HB.out.mono HB1.out.size))
      clear e1 e2 hd HF
      go_wp2
      go_ret2
      exact ⟨by rw [E1.out, E2.out]; rfl, HBw.out⟩

set_option maxHeartbeats 3200000 in
set_option maxRecDepth 100000 in
theorem l06Lead_any (t : Int) : ∀ (f : Nat), f ≤ 6 → LeadOk t f := by
  intro f
  induction f with
  | zero =>
    intro hf a c xs a' c' ys w h h' hx hy
    obtain ⟨hc, hb, _⟩ := h.at
    obtain ⟨hc', hb', _⟩ := h'.at
    clear h h'
    go_enter Try.func61, Try.ntmps61
    go_wp2
    go_ret2
    exact ⟨rfl, Below.refl _ _⟩
  | succ f ih =>
    intro hf a c xs a' c' ys w h h' hx hy
    have HA := Lib.hid (l06Answer_of t f (by omega) (ih (by omega)))
    have HX := Lib.hid hx
    have HY := Lib.hid hy
    have H1 := Lib.hid h
    have H2 := Lib.hid h'
    have HBe := Lib.hid (bestF_isort t f xs ys)
    have HCf : Hid (cardF t (f + 1) xs ys = firstOf (aftF t f xs ys) (bestF t (f + 1) xs ys) (isort xs)) := rfl
    have HSl : Hid ((isort xs).length = f + 1) := by show _ = _; rw [isort_len, hx.len]
    have HSm : Hid (∀ y ∈ isort xs, y ∈ xs) := fun y hy => (isort_perm xs).mem_iff.1 hy
    have HAb : Hid (∀ y ∈ isort xs, 0 ≤ aftF t f xs ys y ∧ aftF t f xs ys y ≤ (f : Int) + 1) := fun y hy' => aftF_bd hx hy ((isort_perm xs).mem_iff.1 hy')
    obtain ⟨hc, hb, _⟩ := h.at
    obtain ⟨hc', hb', _⟩ := h'.at
    have CS := Lib.hid (l06Sorted_any a (f + 1) c xs w h (by omega) (by omega))
    generalize bestF t (f + 1) xs ys = BF at *
    generalize cardF t (f + 1) xs ys = CF at *
    generalize isort xs = L at *
    have HA' : Hid (∀ (y : Int) (W : World), Below w.heap.size w W → y ∈ xs → Calls Try.prog 62 #[.slice a (f + 1 : Nat) c, .slice a' (f + 1 : Nat) c', .int .i64 y, .int .i64 t] W (Ret W (.tuple #[.int .i64 (aftF t f xs ys y), .int .i64 (ansC t f xs ys y)]))) := fun y W hW hym => HA.out a c xs a' c' ys y W (H1.out.mono hW) (H2.out.mono hW) HX.out HY.out hym
    have hn0 : (((f : Int) + 1) == 0) = false := by simp only [beq_eq_false_iff_ne]; omega
    clear h h' ih hx hy HA
    generalize hn : f + 1 = n at *
    have hnf : (n : Int) = (f : Int) + 1 := by omega
    have hn0' : ((n : Int) == 0) = false := by simp only [beq_eq_false_iff_ne]; omega
    have hn1 : 1 ≤ n := by omega
    have HN := Lib.hid hn
    clear hn hnf hn0
    go_enter Try.func61, Try.ntmps61
    go_wp2_with (fail)
    refine CS.out.mono ?_
    rintro e w1 ⟨la, ln, lc, rfl, hb1, ho1⟩
    have hln : ln = n := by have := ho1.1; rw [intCells_len] at this; have := HSl.out; omega
    subst hln
    have HB1 := Lib.hid hb1
    have HO1 := Lib.hid ho1
    have hcap : ln ≤ lc ∧ lc ≤ 9223372036854775807 := by have := Rd.own ho1; exact ⟨this.2.1, this.2.2.1⟩
    obtain ⟨g, rfl⟩ := own_some ho1 (by omega)
    clear hb1 ho1 CS
    go_wp2
    go_loopw [9, 10, 11] (fun vb vc vk w2 => ∃ (k : Nat) (b cc : Int), k ≤ ln ∧ vk = .int .i64 k ∧ vb = .int .i64 b ∧ vc = .int .i64 cc ∧ FirstMax (aftF t f xs ys) L k b cc ∧ Below w1.heap.size w1 w2) (fun _ _ vk _ => ln - (intOf vk).toNat)
    case atStart => exact ⟨0, -1, -1, by omega, rfl, rfl, rfl, FirstMax.zero _ _, Below.refl _ _⟩
    case round =>
      obtain ⟨k, b, cc, hk, rfl, rfl, rfl, hfm, hbel⟩ := hrel
      have HB := Lib.hid hbel
      have HF := Lib.hid hfm
      clear hbel hfm
      by_cases hkn : k < ln
      · have HYm : Hid (L.getD k 0 ∈ L) := getD_mem (by rw [HSl.out]; exact hkn)
        have hzb := HAb.out _ HYm.out
        have z0 := own_get (ownsRow_below HO1.out HB.out) k hkn
        have HMo : Hid (b < aftF t f xs ys (L.getD k 0) → FirstMax (aftF t f xs ys) L (k + 1) (aftF t f xs ys (L.getD k 0)) (L.getD k 0)) := fun hb => HF.out.more (by rw [HSl.out]; exact hkn) hb
        have HLs : Hid (¬ b < aftF t f xs ys (L.getD k 0) → FirstMax (aftF t f xs ys) L (k + 1) b cc) := fun hb => HF.out.less (by rw [HSl.out]; exact hkn) hb hzb.1
        have HBw := Lib.hid (HB1.out.trans (HB.out.mono HB1.out.size))
        have CA := Lib.hid (HA'.out (L.getD k 0) wr HBw.out (HSm.out _ HYm.out))
        generalize ansC t f xs ys (L.getD k 0) = AN at *
        generalize aftF t f xs ys (L.getD k 0) = V at *
        generalize L.getD k 0 = y at *
        clear HF
        go_wp2_with (fail)
        refine CA.out.mono ?_
        rintro e w3 ⟨rfl, hb3⟩
        have HB3 := Lib.hid (HB.out.trans (hb3.mono HB.out.size))
        have z1 := cell_on hb3 z0
        clear hb3 z0 CA
        by_cases hv : b < V
        · have HG := Lib.hid (HMo.out hv)
          clear HLs HMo
          go_wp2
          go_roundw
          case rel => exact ⟨k + 1, V, y, by omega, by go_num, rfl, rfl, HG.out, HB3.out⟩
          case measure => simp [intOf]; omega
        · have HG := Lib.hid (HLs.out (by omega))
          have d1 : decide (b < V) = false := decide_eq_false hv
          clear HLs HMo hv
          go_wp2
          go_roundw
          case rel => exact ⟨k + 1, b, cc, by omega, by go_num, rfl, rfl, HG.out, HB3.out⟩
          case measure => simp [intOf]; omega
      · obtain rfl : k = ln := by omega
        have hd := HF.out
        have e0 : L.length = k := by rw [HSl.out]
        rw [← e0] at hd
        obtain ⟨e1, e2⟩ := hd.done (by omega)
        have E1 : Hid (b = BF) := by show _ = _; rw [e1, HBe.out]
        have E2 : Hid (cc = CF) := by show _ = _; rw [e2, HCf.out, E1.out]
        have HBw := Lib.hid (HB1.out.trans (HB.out.mono HB1.out.size))
        clear e1 e2 hd HF e0
        go_wp2
        go_ret2
        exact ⟨by rw [E1.out, E2.out]; rfl, HBw.out⟩

theorem l06Answer_any (t : Int) (f : Nat) (hf : f ≤ 5) (a : Option Addr) (c : Nat) (xs : List Int) (a' : Option Addr) (c' : Nat) (ys : List Int) (y : Int) (w : World) (h : Ints w a (f + 1) c xs) (h' : Ints w a' (f + 1) c' ys) (hx : Hand (f + 1) xs) (hy : Hand (f + 1) ys) (hym : y ∈ xs) :
    Calls Try.prog 62 #[.slice a (f + 1 : Nat) c, .slice a' (f + 1 : Nat) c', .int .i64 y, .int .i64 t] w (Ret w (.tuple #[.int .i64 (aftF t f xs ys y), .int .i64 (ansC t f xs ys y)])) :=
  l06Answer_of t f hf (l06Lead_any t f (by omega)) a c xs a' c' ys y w h h' hx hy hym

end Go.Proofs.Ytaeabngamnkgjaa
