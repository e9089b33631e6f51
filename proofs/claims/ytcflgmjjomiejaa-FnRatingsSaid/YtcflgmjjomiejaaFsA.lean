/- Strengths fitted: plain terms; sums and what is finite, as the program and the reference tell it. -/
import Derived.Test.YtcflgmjjomiejaaFoA
import Derived.Test.YtcflgmjjomiejaaKcC
import Derived.Test.YtcflgmjjomiejaaScM
import Derived.Test.YtcflgmjjomiejaaMtM
import Derived.Test.YtcflgmjjomiejaaL7GamesB
namespace Go.Proofs.Ytcflgmjjomiejaa
open Go.RowKit
set_option linter.unusedVariables false
set_option linter.unusedSimpArgs false

def fOne : Nat := 1065353216
def fHalf : Nat := 1056964608
def belO (mt : List Int) (p : Nat) (S : List (Option Nat)) (i : Nat) : Nat → Option Nat
  | 0 => some 0
  | k + 1 => if k = i then belO mt p S i k else opO .add (belO mt p S i k) (opO .quo (some (fI (mt.getD (i * p + k) 0))) (opO .add (S.getD i none) (S.getD k none)))
theorem belO_same (mt : List Int) (p : Nat) (S : List (Option Nat)) (i : Nat) : belO mt p S i (i + 1) = belO mt p S i i := if_pos rfl
theorem belO_step (mt : List Int) (p : Nat) (S : List (Option Nat)) (i k : Nat) (h : k ≠ i) : belO mt p S i (k + 1) = opO .add (belO mt p S i k) (opO .quo (some (fI (mt.getD (i * p + k) 0))) (opO .add (S.getD i none) (S.getD k none))) := if_neg h
def lowO (mt : List Int) (p : Nat) (S : List (Option Nat)) (i : Nat) : Option Nat := opO .add (belO mt p S i p) (opO .quo (some fOne) (opO .add (S.getD i none) (some fOne)))
def nxO (mt sc : List Int) (p : Nat) (S : List (Option Nat)) (i : Nat) : Option Nat := opO .quo (opO .add (opO .mul (some fHalf) (some (fI (sc.getD i 0)))) (some fHalf)) (lowO mt p S i)
def nxL (mt sc : List Int) (p : Nat) (S : List (Option Nat)) : List (Option Nat) := (List.range p).map (nxO mt sc p S)
def sumO (L : List (Option Nat)) : Nat → Option Nat
  | 0 => some 0
  | k + 1 => opO .add (sumO L k) (L.getD k none)
def byO (L : List (Option Nat)) (p : Nat) : Option Nat := opO .quo (some (fI (p : Int))) (sumO L p)
def stepO (mt sc : List Int) (p : Nat) (S : List (Option Nat)) : List (Option Nat) := (nxL mt sc p S).map fun x => opO .mul x (byO (nxL mt sc p S) p)
def fitO (mt sc : List Int) (p : Nat) : Nat → List (Option Nat)
  | 0 => List.replicate p (some fOne)
  | r + 1 => stepO mt sc p (fitO mt sc p r)
theorem nxL_len (mt sc : List Int) (p : Nat) (S : List (Option Nat)) : (nxL mt sc p S).length = p := by simp [nxL]
theorem fitO_len (mt sc : List Int) (p r : Nat) : (fitO mt sc p r).length = p := by
  cases r with
  | zero => simp [fitO]
  | succ r => simp [fitO, stepO, nxL]
theorem nxL_take {mt sc : List Int} {p : Nat} {S : List (Option Nat)} {i : Nat} (hi : i < p) : (nxL mt sc p S).take (i + 1) = (nxL mt sc p S).take i ++ [nxO mt sc p S i] := by
  unfold nxL
  rw [List.take_add_one, List.getElem?_eq_getElem (by simp; exact hi)]
  simp
theorem nxL_get {mt sc : List Int} {p : Nat} {S : List (Option Nat)} {i : Nat} (hi : i < p) : (nxL mt sc p S).getD i none = nxO mt sc p S i := by simp [nxL, hi]
/-- a row of numbers, and what is multiplied yet -/
def mulTo (L : List (Option Nat)) (b : Option Nat) (k : Nat) : List (Option Nat) := (L.take k).map (fun x => opO .mul x b) ++ L.drop k
theorem mulTo_zero (L : List (Option Nat)) (b : Option Nat) : mulTo L b 0 = L := by simp [mulTo]
theorem mulTo_full (L : List (Option Nat)) (b : Option Nat) : mulTo L b L.length = L.map fun x => opO .mul x b := by simp [mulTo]
theorem mulTo_len (L : List (Option Nat)) (b : Option Nat) (k : Nat) : (mulTo L b k).length = L.length := by
  unfold mulTo
  rw [List.length_append, List.length_map, List.length_take, List.length_drop]
  omega
theorem mulTo_get (L : List (Option Nat)) (b : Option Nat) {k : Nat} (h : k < L.length) : (mulTo L b k).getD k none = L.getD k none := by
  unfold mulTo
  rw [List.getD_eq_getElem?_getD, List.getD_eq_getElem?_getD, List.getElem?_append_right (by rw [List.length_map, List.length_take]; omega), List.length_map, List.length_take, Nat.min_eq_left (by omega), List.getElem?_drop]
  simp
theorem mulTo_set (L : List (Option Nat)) (b : Option Nat) {k : Nat} (h : k < L.length) : (mulTo L b k).set k (opO .mul (L.getD k none) b) = mulTo L b (k + 1) := by
  apply List.ext_getElem?
  intro j
  unfold mulTo
  rw [List.getElem?_set, List.length_append, List.length_map, List.length_take, List.length_drop, Nat.min_eq_left (by omega)]
  have e : L.getD k none = L[k] := by simp [h]
  by_cases hj : k = j
  · subst hj
    rw [if_pos rfl, if_pos (by omega), List.getElem?_append_left (by rw [List.length_map, List.length_take]; omega), List.getElem?_map, List.getElem?_take_of_lt (by omega), List.getElem?_eq_getElem h, e]
    rfl
  · rw [if_neg hj]
    by_cases hlt : j < k
    · rw [List.getElem?_append_left (by rw [List.length_map, List.length_take]; omega), List.getElem?_append_left (by rw [List.length_map, List.length_take]; omega), List.getElem?_map, List.getElem?_map, List.getElem?_take_of_lt hlt, List.getElem?_take_of_lt (by omega)]
    · rw [List.getElem?_append_right (by rw [List.length_map, List.length_take]; omega), List.getElem?_append_right (by rw [List.length_map, List.length_take]; omega), List.length_map, List.length_take, List.length_map, List.length_take, Nat.min_eq_left (by omega), Nat.min_eq_left (by omega), List.getElem?_drop, List.getElem?_drop]
      congr 1
      omega
/-- the answer -/
def fitRes (p : Int) (gs : List (Int × Int × Int)) (r : Int) : List Nat × Bool :=
  if (okGames p gs && inB r 1 64) = true then
    if (fitO (tally (metPs p.toNat) (p.toNat * p.toNat) gs) (tally scorePs p.toNat gs) p.toNat r.toNat).all finO = true then ((fitO (tally (metPs p.toNat) (p.toNat * p.toNat) gs) (tally scorePs p.toNat gs) p.toNat r.toNat).map (·.getD 0), true) else ([], false)
  else ([], false)
theorem fitRes_len (p : Int) (gs : List (Int × Int × Int)) (r : Int) : (fitRes p gs r).1.length ≤ 16 := by
  unfold fitRes
  split
  · rename_i h
    rw [Bool.and_eq_true] at h
    obtain ⟨⟨_, h1⟩, _⟩ := okGames_all h.1
    split
    · rw [List.length_map, fitO_len]; omega
    · simp
  · simp
/-- on the bits -/
def finB (b : Nat) : Bool := finO (some b)
theorem finB_is {r : Option Nat} {b : Nat} (h : Is r b) : finB b = finO r := by
  have w : World := default
  rw [← fin_is h w]
  exact (fin_is (r := some b) rfl w).symm
theorem all_fin {R : List (Option Nat)} {B : List Nat} (h : IsL R B) : B.all finB = R.all finO := by
  rw [Bool.eq_iff_iff, List.all_eq_true, List.all_eq_true]
  constructor
  · intro q x hx
    obtain ⟨i, hi, rfl⟩ := List.getElem_of_mem hx
    have hB : i < B.length := by rw [← h.1]; exact hi
    have h3 := h.2 i hB
    have e1 : R.getD i none = R[i] := by simp [hi]
    have e2 : B.getD i 0 = B[i] := by simp [hB]
    rw [e1, e2] at h3
    rw [← finB_is h3]
    exact q _ (List.getElem_mem hB)
  · intro q x hx
    obtain ⟨i, hB, rfl⟩ := List.getElem_of_mem hx
    have hi : i < R.length := by rw [h.1]; exact hB
    have h3 := h.2 i hB
    have e1 : R.getD i none = R[i] := by simp [hi]
    have e2 : B.getD i 0 = B[i] := by simp [hB]
    rw [e1, e2] at h3
    rw [finB_is h3]
    exact q _ (List.getElem_mem hi)

theorem IsFinite_any (b : Nat) (w : World) : Calls Try.prog 30 #[.float .f32 b] w (Ret w (.bool (finB b))) := by
  have hfm : FloatKind.f32.format = Ieee.single := rfl
  have hop : ∀ t W, (binOp .sub t (.float .f32 b) (.float .f32 b)).run Try.prog W = .ok (.float .f32 (fo .sub b b W)) (W.drewN (fd .sub b b)) := fun t W => run_fop (by unfold isArith; simp) t b b W
  have HF := Lib.hid (fun W => fin_is (r := some b) rfl W)
  go_enter Try.func30, Try.ntmps30
  go_wp2_with (simp only [hop])
  go_ret
  exact ⟨congrArg (fun v => Ending.returned (.bool v)) (HF.out _), (Quiet.below ⟨_, rfl⟩ _)⟩

theorem l01Finite_any (b : Nat) (w : World) : Calls Try.prog 35 #[.float .f32 b] w (Ret w (.bool (finB b))) := by
  have hfm : FloatKind.f32.format = Ieee.single := rfl
  have hop : ∀ t W, (binOp .sub t (.float .f32 b) (.float .f32 b)).run Try.prog W = .ok (.float .f32 (fo .sub b b W)) (W.drewN (fd .sub b b)) := fun t W => run_fop (by unfold isArith; simp) t b b W
  have HF := Lib.hid (fun W => fin_is (r := some b) rfl W)
  go_enter Try.func35, Try.ntmps35
  go_wp2_with (simp only [hop])
  go_ret
  exact ⟨congrArg (fun v => Ending.returned (.bool v)) (HF.out _), (Quiet.below ⟨_, rfl⟩ _)⟩

theorem areFinite1_any (b : Nat) (w : World) : Calls Try.prog 60 #[.float .f32 b] w (Ret w (.bool (!finB b))) := by
  have C := Lib.hid (IsFinite_any b w)
  generalize finB b = v at *
  go_enter Try.func60, Try.ntmps60
  go_wp2_with (fail)
  refine C.out.mono ?_
  rintro e w1 ⟨rfl, hb⟩
  have HB := Lib.hid hb
  clear hb
  go_wp2
  go_ret
  exact ⟨rfl, HB.out⟩

theorem areFinite_any (a : Option Addr) (n c : Nat) (xs : List Nat) (w : World) (h : Floats w a n c xs) : Calls Try.prog 28 #[.slice a n c] w (Ret w (.bool (xs.all finB))) := by
  have C := containsFuncF32_any (fun x => !finB x) 60 #[] (enters_of Try.func60 (by kernel_rfl) rfl) a n c xs w h (fun W _ x hm => areFinite1_any x W)
  have e0 : xs.any (fun x => !finB x) = !xs.all finB := by rw [List.not_all_eq_any_not]
  rw [e0] at C
  have C := Lib.hid C
  clear h e0
  generalize xs.all finB = v at *
  go_enter Try.func28, Try.ntmps28
  go_wp2_with (fail)
  refine C.out.mono ?_
  rintro e w1 ⟨rfl, hb⟩
  have HB := Lib.hid hb
  clear hb
  go_wp2
  go_ret
  exact ⟨by simp, HB.out⟩

theorem checkedNumbers_any (a : Option Addr) (n c : Nat) (xs : List Nat) (w : World) (h : Floats w a n c xs) : Calls Try.prog 47 #[.slice a n c] w (Ret w (.tuple #[if xs.all finB = true then .slice a n c else .slice none 0 0, .bool (xs.all finB)])) := by
  have C := Lib.hid (areFinite_any a n c xs w h)
  clear h
  generalize xs.all finB = v at *
  cases v
  all_goals
    go_enter Try.func47, Try.ntmps47
    go_wp2_with (fail)
    refine C.out.mono ?_
    rintro e w1 ⟨rfl, hb⟩
    have HB := Lib.hid hb
    clear hb
    go_wp2
    go_ret2
    exact ⟨rfl, HB.out⟩

theorem l02Finite_any (a : Option Addr) (n c : Nat) (xs : List Nat) (w : World) (h : Floats w a n c xs) : Calls Try.prog 33 #[.slice a n c] w (Ret w (.bool (xs.all finB))) := by
  obtain ⟨hc, hb, hcell⟩ := h.at 0
  have hl := Lib.hid h.len
  have HC := Lib.hid hcell
  clear h hcell
  go_enter Try.func33, Try.ntmps33
  go_wp2
  go_loopw [3] (fun i wr => ∃ k : Nat, k ≤ n ∧ i = .int .i64 k ∧ Hid (∀ j, j < k → finB (xs.getD j 0) = true) ∧ Below w.heap.size w wr) (fun i _ => n - (intOf i).toNat)
  case atStart => exact ⟨0, by omega, rfl, fun j hj => absurd hj (Nat.not_lt_zero _), Below.refl _ _⟩
  case round =>
    obtain ⟨k, hk, rfl, HA, hbel⟩ := hrel
    have HB := Lib.hid hbel
    have hsz := hbel.size
    by_cases hlt : k < n
    · obtain ⟨b, off, rfl, hlb, hx⟩ := HC.out k hlt
      have z0 := cell_on hbel (hx k hlt)
      have HS : Hid (finB (xs.getD k 0) = true → ∀ j, j < k + 1 → finB (xs.getD j 0) = true) := fun e j hj => by
        by_cases q : j = k
        · subst q; exact e
        · exact HA.out j (by omega)
      have HN : Hid (finB (xs.getD k 0) = false → xs.all finB = false) := fun e => by
        rw [List.all_eq_false]
        have hk' : k < xs.length := by rw [hl.out]; exact hlt
        refine ⟨xs[k], List.getElem_mem hk', ?_⟩
        have e2 : xs.getD k 0 = xs[k] := by simp [hk']
        rw [e2] at e
        simp [e]
      have C := Lib.hid (fun W => l01Finite_any (xs.getD k 0) W)
      clear hx hbel
      generalize xs.getD k 0 = x at *
      rcases Bool.eq_false_or_eq_true (finB x) with e | e
      · rw [e] at C
        go_wp2_with (fail)
        refine (C.out _).mono ?_
        rintro e2 w2 ⟨rfl, hb2⟩
        have HB2 := Lib.hid (HB.out.trans (hb2.mono hsz))
        clear hb2
        go_wp2
        go_roundw
        case rel => exact ⟨k + 1, by omega, by go_num, HS.out e, HB2.out⟩
        case measure => simp [intOf]; omega
      · rw [e] at C
        have hno := HN.out e
        go_wp2_with (fail)
        refine (C.out _).mono ?_
        rintro e2 w2 ⟨rfl, hb2⟩
        have HB2 := Lib.hid (HB.out.trans (hb2.mono hsz))
        clear hb2
        go_wp2
        go_ret
        exact ⟨ret_bool hno.symm, HB2.out⟩
    · obtain rfl : k = n := by omega
      have hyes : xs.all finB = true := by
        rw [List.all_eq_true]
        intro x hx
        obtain ⟨j, hj, rfl⟩ := List.getElem_of_mem hx
        have := HA.out j (by rw [← hl.out]; exact hj)
        have e2 : xs.getD j 0 = xs[j] := by simp [hj]
        rw [e2] at this
        exact this
      clear hbel
      go_wp2
      go_ret
      exact ⟨ret_bool hyes.symm, HB.out⟩

theorem sum_any (a : Option Addr) (n c : Nat) (R : List (Option Nat)) (B : List Nat) (w : World) (h : Floats w a n c B) (hi : IsL R B) :
    Calls Try.prog 46 #[.slice a n c] w fun e w' => ∃ b, e = .returned (.float .f32 b) ∧ Below w.heap.size w w' ∧ Is (sumO R n) b := by
  obtain ⟨hc, hb, hcell⟩ := h.at 0
  have hl := h.len
  have HI := Lib.hid hi
  have HL := Lib.hid hl
  clear h hi hl
  have hop : ∀ t a b W, (binOp .add t (.float .f32 a) (.float .f32 b)).run Try.prog W = .ok (.float .f32 (fo .add a b W)) (W.drewN (fd .add a b)) := fun t a b W => run_fop (by unfold isArith; simp) t a b W
  go_enter Try.func46, Try.ntmps46
  go_wp2
  go_loopw [3, 8] (fun v i wr => ∃ (k b : Nat), k ≤ n ∧ i = .int .i64 k ∧ v = .float .f32 b ∧ Hid (Is (sumO R k) b) ∧ Below w.heap.size w wr) (fun _ i _ => n - (intOf i).toNat)
  case atStart => exact ⟨0, 0, by omega, rfl, rfl, rfl, Below.refl _ _⟩
  case round =>
    obtain ⟨k, b, hk, rfl, rfl, HIs, hbel⟩ := hrel
    have HB := Lib.hid hbel
    by_cases hlt : k < n
    · obtain ⟨ab, off, rfl, hlb, hx⟩ := hcell k hlt
      have z0 := cell_on hbel (hx k hlt)
      have HIk := Lib.hid (HI.out.2 k (by rw [HL.out]; exact hlt))
      clear hx hbel hcell
      generalize B.getD k 0 = x at *
      go_wp2_with (simp only [hop])
      go_roundw
      case rel => exact ⟨k + 1, _, by omega, by go_num, rfl, fo_is HIs.out HIk.out _, HB.out.trans (Quiet.below ⟨_, rfl⟩ _)⟩
      case measure => simp [intOf]; omega
    · obtain rfl : k = n := by omega
      clear hcell hbel
      go_wp2
      go_ret
      exact ⟨b, rfl, HB.out, HIs.out⟩

end Go.Proofs.Ytcflgmjjomiejaa
