/- The law on ratings: lists alike, gaps, sums. -/
import Derived.Test.YtcflgmjjomiejaaPfM
import Derived.Test.YtcflgmjjomiejaaChgC
import Derived.Deep.RegionHeld3
import Derived.Test.YtcflgmjjomiejaaLmM
import Derived.Test.YtcflgmjjomiejaaB1
import Derived.Test.YtcflgmjjomiejaaTouC
import Derived.Test.YtcflgmjjomiejaaScoresOf
import Derived.Test.YtcflgmjjomiejaaMetOf
import Derived.Test.YtcflgmjjomiejaaSameGames
import Derived.Test.YtcflgmjjomiejaaFsC
import Derived.Test.YtcflgmjjomiejaaLkM
import Derived.Test.YtcflgmjjomiejaaRrM
namespace Go.Proofs.Ytcflgmjjomiejaa
open Go.RowKit
set_option linter.unusedVariables false
set_option linter.unusedSimpArgs false

theorem float32bits_run' (x : Nat) (W : World) : (callFunc 74 #[.float .f32 x]).run Try.prog W = .ok (.value (.int .u32 x)) W := by
  rw [run_callFunc_extern Try.func74 (by kernel_rfl) (by kernel_rfl) (by kernel_rfl) (e := Extern.MathFloatBits.float32bits) (by kernel_rfl)]
  rfl
/-- no NaN -/
def Num (x : Nat) : Prop := Ieee.single.order x x = some .eq
theorem vr_num {x : Nat} {v : Rat} (h : Vr Ieee.single x v) : Num x := vr_eq h h rfl
theorem l01Bits_num {x : Nat} (hs : Num x) (w : World) : Calls Try.prog 63 #[.float .f32 x] w (RetS w (.int .i64 (wrap64 x))) := by
  have hcf := float32bits_run'
  have hfm : FloatKind.f32.format = Ieee.single := rfl
  unfold Num at hs
  go_enter Try.func63, Try.ntmps63
  go_wp2
  go_ret
  exact ⟨rfl, rfl⟩
theorem l01Same_num {x : Nat} (h : Num x) (w : World) : Calls Try.prog 43 #[.float .f32 x, .float .f32 x] w (RetS w (.bool true)) := by
  have C := Lib.hid (fun W => l01Bits_num h W)
  clear h
  generalize wrap64 (x : Int) = z at *
  go_enter Try.func43, Try.ntmps43
  go_wp2_with (fail)
  refine (C.out _).mono ?_
  rintro e w1 ⟨rfl, rfl⟩
  go_wp2_with (fail)
  refine (C.out _).mono ?_
  rintro e w1 ⟨rfl, rfl⟩
  go_wp2
  go_ret
  exact ⟨ret_bool (by simp), rfl⟩
theorem sameNumber_num {x : Nat} (h : Num x) (w : World) : Calls Try.prog 15 #[.float .f32 x, .float .f32 x] w (RetS w (.bool true)) := by
  have C := Lib.hid (fun W => l01Same_num h W)
  clear h
  go_enter Try.func15, Try.ntmps15
  go_wp2_with (fail)
  refine (C.out _).mono ?_
  rintro e w1 ⟨rfl, rfl⟩
  go_wp2
  go_ret
  exact ⟨rfl, rfl⟩
theorem b10List_num (a : Option Addr) (n c : Nat) (xs : List Nat) (a' : Option Addr) (n' c' : Nat) (w : World) (h : Floats w a n c xs) (h' : Floats w a' n' c' xs) (hv : ∀ i, i < n → Num (xs.getD i 0)) :
    Calls Try.prog 13 #[.slice a n c, .slice a' n' c'] w (RetQ w (.bool true)) := by
  obtain ⟨hc, hb, hcell⟩ := h.at 0
  obtain ⟨hc', hb', hcell'⟩ := h'.at 0
  obtain rfl : n = n' := by rw [← h.len, ← h'.len]
  clear h h'
  have HV := Lib.hid hv
  clear hv
  go_enter Try.func13, Try.ntmps13
  go_wp2
  go_loopw [13] (fun i wr => ∃ k : Nat, k ≤ n ∧ i = .int .i64 k ∧ Quiet w wr) (fun i _ => n - (intOf i).toNat)
  case atStart => exact ⟨0, by omega, rfl, Quiet.refl _⟩
  case round =>
    obtain ⟨k, hk, rfl, hq⟩ := hrel
    have HW := Lib.hid hq
    clear hq
    by_cases hlt : k < n
    · obtain ⟨b, off, rfl, hlb, hx⟩ := hcell k hlt
      obtain ⟨b', off', rfl, hlb', hy⟩ := hcell' k hlt
      have hxk := cell_on (HW.out.below _) (hx k hlt)
      have hyk := cell_on (HW.out.below _) (hy k hlt)
      have hv := HV.out k hlt
      clear hcell hcell' hx hy HV
      generalize xs.getD k 0 = x at *
      have C := Lib.hid (fun W => sameNumber_num hv W)
      clear hv
      go_wp2
      go_quiet (first | (go_at_call 15; exact qS (C.out _)))
      go_wp2
      go_roundw
      case rel => exact ⟨k + 1, by omega, by go_num, HW.out.trans ⟨_, rfl⟩⟩
      case measure => simp [intOf]; omega
    · obtain rfl : k = n := by omega
      clear hcell hcell' HV
      go_wp2
      go_ret
      exact ⟨rfl, HW.out⟩

theorem sum_nn {l : List Int} (h : ∀ x ∈ l, 0 ≤ x) : 0 ≤ l.sum := by
  induction l with
  | nil => simp
  | cons a l ih =>
    have h1 := ih fun x hx => h x (List.mem_cons_of_mem _ hx)
    have h2 := h a (List.mem_cons_self)
    rw [List.sum_cons]; omega
theorem take_le {l : List Int} (h : ∀ x ∈ l, 0 ≤ x) (k : Nat) : 0 ≤ (l.take k).sum ∧ (l.take k).sum ≤ l.sum := by
  have h1 : (l.take k).sum + (l.drop k).sum = l.sum := by rw [← List.sum_append, List.take_append_drop]
  have h2 := sum_nn fun x hx => h x (List.mem_of_mem_take (i := k) hx)
  have h3 := sum_nn fun x hx => h x (List.mem_of_mem_drop (i := k) hx)
  omega
theorem getD_nn {l : List Int} (h : ∀ j, 0 ≤ l.getD j 0) : ∀ x ∈ l, 0 ≤ x := by
  intro x hx
  obtain ⟨i, hi, rfl⟩ := List.getElem_of_mem hx
  have := h i
  rw [List.getD_eq_getElem?_getD, List.getElem?_eq_getElem hi] at this
  exact this
/-- the sum of small integers that are not negative -/
theorem b10Sum_any (a : Option Addr) (n c : Nat) (xs : List Int) (w : World) (h : Ints w a n c xs) (hx : ∀ j, 0 ≤ xs.getD j 0) (hs : xs.sum ≤ 1000) :
    Calls Try.prog 22 #[.slice a n c] w (RetS w (.int .i64 xs.sum)) := by
  obtain ⟨hc, hb, hcell⟩ := h.at
  have hl : xs.length = n := h.len
  have HB := Lib.hid (fun k => take_le (getD_nn hx) k)
  have HS : Hid (∀ k, k < n → (xs.take (k + 1)).sum = (xs.take k).sum + xs.getD k 0) := by
    show ∀ k, _
    intro k hk
    have hk' : k < xs.length := by omega
    rw [List.take_succ_eq_append_getElem hk', List.sum_append, List.getD_eq_getElem?_getD, List.getElem?_eq_getElem hk']
    simp
  have HL : Hid ((xs.take n).sum = xs.sum) := by show _ = _; rw [List.take_of_length_le (by omega)]
  have HC := Lib.hid hcell
  clear h hx hcell hl
  go_enter Try.func22, Try.ntmps22
  go_wp2
  go_loopw [3, 7] (fun vs vi wr => ∃ k : Nat, k ≤ n ∧ vi = .int .i64 k ∧ vs = .int .i64 (xs.take k).sum ∧ wr = w) (fun _ vi _ => n - (intOf vi).toNat)
  case atStart => exact ⟨0, by omega, rfl, rfl, rfl⟩
  case round =>
    obtain ⟨k, hk, rfl, rfl, rfl⟩ := hrel
    by_cases hlt : k < n
    · obtain ⟨b, off, rfl, hlb, hx⟩ := HC.out k hlt
      have h0 := hx k hlt
      have hS := HS.out k hlt
      obtain ⟨b1, b2⟩ := HB.out (k + 1)
      have hw : IntKind.i64.wrap ((xs.take k).sum + xs.getD k 0) = (xs.take (k + 1)).sum := by rw [IntWalk.i64_in _ (by omega), hS]
      clear hx hS b1 b2
      generalize xs.getD k 0 = x at *
      have HW := Lib.hid hw
      clear hw HB HS HL
      go_wp2
      go_roundw
      case rel => exact ⟨k + 1, by omega, by go_num, by rw [← HW.out, IntWalk.i64_left], trivial⟩
      case measure => simp [intOf]; omega
    · obtain rfl : k = n := by omega
      clear HS HB HC
      go_wp2
      go_ret
      exact ⟨ret_int HL.out, rfl⟩

/-- the gap of two words -/
theorem gap_run {x y r : Nat} (h : (Ieee.double.order x y = some .lt ∧ floatBits .sub .f64 y x = some r) ∨ (Ieee.double.order x y = some .eq ∧ floatBits .sub .f64 x y = some r) ∨ (Ieee.double.order x y = some .gt ∧ floatBits .sub .f64 x y = some r)) (w : World) :
    Calls Try.prog 14 #[.float .f64 x, .float .f64 y] w (RetS w (.float .f64 r)) := by
  have hfm : FloatKind.f64.format = Ieee.double := rfl
  rcases h with ⟨ho, h1⟩ | ⟨ho, h1⟩ | ⟨ho, h1⟩
  · have hop : ∀ t W, (binOp .sub t (.float .f64 y) (.float .f64 x)).run Try.prog W = .ok (.float .f64 r) W := fun t W => run_float_arith W .sub t .f64 _ _ _ h1
    clear h1
    go_enter Try.func14, Try.ntmps14
    go_wp2_with (simp only [hop])
    go_ret
    exact ⟨rfl, rfl⟩
  · have hop : ∀ t W, (binOp .sub t (.float .f64 x) (.float .f64 y)).run Try.prog W = .ok (.float .f64 r) W := fun t W => run_float_arith W .sub t .f64 _ _ _ h1
    clear h1
    go_enter Try.func14, Try.ntmps14
    go_wp2_with (simp only [hop])
    go_ret
    exact ⟨rfl, rfl⟩
  · have hop : ∀ t W, (binOp .sub t (.float .f64 x) (.float .f64 y)).run Try.prog W = .ok (.float .f64 r) W := fun t W => run_float_arith W .sub t .f64 _ _ _ h1
    clear h1
    go_enter Try.func14, Try.ntmps14
    go_wp2_with (simp only [hop])
    go_ret
    exact ⟨rfl, rfl⟩
/-- the gap is told, and is less than k -/
def GapLt (x y k : Nat) : Prop := ∃ r, (∀ w, Calls Try.prog 14 #[.float .f64 x, .float .f64 y] w (RetS w (.float .f64 r))) ∧ Ieee.double.order r k = some .lt
theorem sub_op {x y : Nat} {a b : Rat} (hx : Vr Ieee.double x a) (hy : Vr Ieee.double y b) (h1 : a - b ≤ 100000) (h2 : -(a - b) ≤ 100000) :
    ∃ r v, floatBits .sub .f64 x y = some r ∧ Vr Ieee.double r v ∧ v ≤ (a - b) + 1 / 1000000 := by
  obtain ⟨r, v, g1, g2, g3⟩ := vr_sub roomy2 hx hy (le125 (Rat.le_trans h1 (by decide +kernel))) (le125 (Rat.le_trans h2 (by decide +kernel)))
  obtain ⟨n1, n2⟩ := g3.near2 100000 h1 h2
  exact ⟨r, v, g1, g2, by grind⟩
theorem gap_lt {x y k : Nat} {a b c : Rat} (hx : Vr Ieee.double x a) (hy : Vr Ieee.double y b) (hk : Vr Ieee.double k c) (h1 : a - b ≤ 100000) (h2 : b - a ≤ 100000) (h3 : a - b + 1 / 1000000 < c) (h4 : b - a + 1 / 1000000 < c) : GapLt x y k := by
  by_cases e1 : a < b
  · obtain ⟨r, v, g1, g2, g3⟩ := sub_op hy hx h2 (by grind)
    exact ⟨r, fun w => gap_run (.inl ⟨vr_lt hx hy e1, g1⟩) w, vr_lt g2 hk (by grind)⟩
  · obtain ⟨r, v, g1, g2, g3⟩ := sub_op hx hy h1 (by grind)
    by_cases e2 : a = b
    · exact ⟨r, fun w => gap_run (.inr (.inl ⟨vr_eq hx hy e2, g1⟩)) w, vr_lt g2 hk (by grind)⟩
    · exact ⟨r, fun w => gap_run (.inr (.inr ⟨vr_gt hx hy (by grind), g1⟩)) w, vr_lt g2 hk (by grind)⟩

/-- sums in 64 bits of numbers of 32 -/
def sumW (L : List Nat) : Nat → Nat
  | 0 => 0
  | k + 1 => aW (sumW L k) (cW (L.getD k 0))
structure SumWOps (L : List Nat) (n : Nat) : Prop where
  cv : ∀ k, k < n → floatToFloatBits .f32 (L.getD k 0) .f64 = some (cW (L.getD k 0))
  ad : ∀ k, k < n → floatBits .add .f64 (sumW L k) (cW (L.getD k 0)) = some (sumW L (k + 1))
theorem sumW_ok {n : Nat} {L : List Nat} {v : Nat → Rat} (h : ∀ i, i < n → Vr Ieee.single (L.getD i 0) (v i)) (h1 : ∀ i, i < n → v i ≤ 1000) (h2 : ∀ i, i < n → -v i ≤ 1000) (hn : n ≤ 6) :
    SumWOps L n ∧ ∃ S, Vr Ieee.double (sumW L n) S ∧ S ≤ 7000 ∧ -S ≤ 7000 ∧ Nr S (ratSum v n) (1 / 1000000) := by
  have hC : ∀ k, k < n → floatToFloatBits .f32 (L.getD k 0) .f64 = some (cW (L.getD k 0)) ∧ Vr Ieee.double (cW (L.getD k 0)) (v k) := fun k hk => by
    have a1 := h1 k hk
    have a2 := h2 k hk
    exact cW_ok (h k hk) (by unfold big; grind) (by unfold big; grind)
  have hS : ∀ k, k ≤ n → ∃ S, Vr Ieee.double (sumW L k) S ∧ S ≤ 1001 * (k : Rat) ∧ -S ≤ 1001 * (k : Rat) ∧ Nr S (ratSum v k) ((k : Rat) / 10000000) := by
    intro k
    induction k with
    | zero => intro _; have h0 : ((0 : Nat) : Rat) = 0 := rfl; rw [h0]; exact ⟨0, zero64, by grind, by grind, ⟨by show (0 : Rat) ≤ 0 + 0 / 10000000; grind, by show (0 : Rat) ≤ 0 + 0 / 10000000; grind⟩⟩
    | succ k ih =>
      intro hk
      obtain ⟨S, g, s0, s1, n1, n2⟩ := ih (by omega)
      obtain ⟨_, ge⟩ := hC k (by omega)
      have a1 := h1 k (by omega)
      have a2 := h2 k (by omega)
      have k6 : (k : Rat) ≤ ((6 : Nat) : Rat) := nat_le_rat (by omega)
      have e6 : ((6 : Nat) : Rat) = 6 := rfl
      rw [e6] at k6
      obtain ⟨_, S', g', F⟩ := aW_ok g ge (by unfold big; grind) (by unfold big; grind)
      obtain ⟨m1, m2⟩ := F.near2 10000 (by grind) (by grind)
      have ek : ((k + 1 : Nat) : Rat) = (k : Rat) + 1 := by grind
      have eSg : ratSum v (k + 1) = ratSum v k + v k := rfl
      exact ⟨S', g', by rw [ek]; grind, by rw [ek]; grind, ⟨by rw [ek, eSg]; grind, by rw [ek, eSg]; grind⟩⟩
  refine ⟨⟨fun k hk => (hC k hk).1, fun k hk => ?_⟩, ?_⟩
  · obtain ⟨S, g, s0, s1, _⟩ := hS k (by omega)
    obtain ⟨_, ge⟩ := hC k hk
    have a1 := h1 k hk
    have a2 := h2 k hk
    have k6 : (k : Rat) ≤ ((6 : Nat) : Rat) := nat_le_rat (by omega)
    have e6 : ((6 : Nat) : Rat) = 6 := rfl
    rw [e6] at k6
    exact (aW_ok g ge (by unfold big; grind) (by unfold big; grind)).1
  · obtain ⟨S, g, s0, s1, n1, n2⟩ := hS n (Nat.le_refl _)
    have k6 : (n : Rat) ≤ ((6 : Nat) : Rat) := nat_le_rat hn
    have e6 : ((6 : Nat) : Rat) = 6 := rfl
    rw [e6] at k6
    exact ⟨S, g, by grind, by grind, ⟨by grind, by grind⟩⟩

theorem k0001 : Vr Ieee.double 4562254508917369340 (4611686018427388 / 4611686018427387904) := vr_of false 4611686018427388 (-62) (by decide) (by decide) (by decide +kernel)
theorem k001 : Vr Ieee.double 4576918229304087675 (5764607523034235 / 576460752303423488) := vr_of false 5764607523034235 (-59) (by decide) (by decide) (by decide +kernel)
theorem k002 : Vr Ieee.double 4581421828931458171 (5764607523034235 / 288230376151711744) := vr_of false 5764607523034235 (-58) (by decide) (by decide) (by decide +kernel)
theorem k6931 : Vr Ieee.double 13827790146203513206 (-(6242889803460982 / 9007199254740992)) := vr_of true 6242889803460982 (-53) (by decide) (by decide) (by decide +kernel)
theorem kS001 : Vr Ieee.single 981668463 (8589935 / 8589934592) := vr_of false 8589935 (-33) (by decide) (by decide) (by decide +kernel)
theorem four32 : Vr Ieee.single 1082130432 4 := vr_of false 8388608 (-21) (by decide) (by decide) (by decide +kernel)

open Ieee

/-- a rating in quarters -/
def qR (i : Nat) : Nat := dS (fI ((i : Int) - 8)) 1082130432
def gapBit (x : Nat) : Bool :=
  match double.order x 4607182418800017408 with
  | some .lt => match floatBits .sub .f64 4607182418800017408 x with
    | some r => double.order r 4562254508917369340 == some .lt
    | none => false
  | some _ => match floatBits .sub .f64 x 4607182418800017408 with
    | some r => double.order r 4562254508917369340 == some .lt
    | none => false
  | none => false
def flipBit (i j : Nat) : Bool := gapBit (aW (cW (eW (qR i) (qR j))) (cW (eW (qR j) (qR i))))
set_option maxRecDepth 100000 in
theorem flip_tab : ∀ i j : Fin 17, flipBit i.1 j.1 = true := by decide +kernel
theorem flip_all {i j : Nat} (hi : i < 17) (hj : j < 17) : flipBit i j = true := flip_tab ⟨i, hi⟩ ⟨j, hj⟩

theorem sumW_congr {L M : List Nat} : ∀ k, (∀ i, i < k → L.getD i 0 = M.getD i 0) → sumW L k = sumW M k := by
  intro k
  induction k with
  | zero => intro _; rfl
  | succ k ih =>
    intro h
    show aW (sumW L k) (cW (L.getD k 0)) = aW (sumW M k) (cW (M.getD k 0))
    rw [ih fun i hi => h i (by omega), h k (by omega)]
theorem qR_ok {i : Nat} (hi : i < 17) : floatBits .quo .f32 (fI ((i : Int) - 8)) 1082130432 = some (qR i) ∧ ∃ v, Vr single (qR i) v ∧ v ≤ 2 ∧ -v ≤ 2 := by
  have g := vr_int1 ((i : Int) - 8) (by omega)
  have h1 : (((i : Int) - 8 : Int) : Rat) ≤ 8 := by exact_mod_cast (by omega : (i : Int) - 8 ≤ 8)
  have h2 : -(((i : Int) - 8 : Int) : Rat) ≤ 8 := by exact_mod_cast (by omega : -((i : Int) - 8) ≤ 8)
  have hq1 : (((i : Int) - 8 : Int) : Rat) / 4 ≤ 2 := by grind
  have hq2 : -2 ≤ (((i : Int) - 8 : Int) : Rat) / 4 := by grind
  obtain ⟨e, v, gv, F⟩ := dS_ok g four32 (by grind) (by unfold big; grind) (by unfold big; grind)
  refine ⟨e, v, gv, F.le 2 (rep1 2 (by decide) 0 (by omega) (by decide +kernel)) hq1, ?_⟩
  have := F.ge (-2) (rep1 (-2) (by decide) 0 (by omega) (by decide +kernel)) hq2
  grind
theorem qR_rv {I : List Nat} (h : ∀ b ∈ I, b < 17) : ∃ v, RV I.length 2 (I.map qR) v := by
  have hE : ∀ k, k < I.length → ∃ e, Vr single ((I.map qR).getD k 0) e ∧ e ≤ 2 ∧ -e ≤ 2 := fun k hk => by
    rw [List.getD_eq_getElem?_getD, List.getElem?_map, List.getElem?_eq_getElem hk]
    exact (qR_ok (h _ (List.getElem_mem hk))).2
  obtain ⟨v, hv⟩ := choose_rat hE
  exact ⟨v, by simp, fun i hi => (hv i hi).1, fun i hi => (hv i hi).2.1, fun i hi => (hv i hi).2.2⟩
/-- one more rating -/
theorem sumW_snoc {I : List Nat} {b : Nat} (h : ∀ x ∈ I, x < 17) (hb : b < 17) (hl : I.length < 6) :
    floatToFloatBits .f32 (qR b) .f64 = some (cW (qR b)) ∧ floatBits .add .f64 (sumW (I.map qR) I.length) (cW (qR b)) = some (sumW ((I ++ [b]).map qR) (I.length + 1)) := by
  obtain ⟨v, hv⟩ := qR_rv (I := I ++ [b]) fun x hx => by
    rcases List.mem_append.1 hx with h1 | h1
    · exact h x h1
    · rw [List.mem_singleton.1 h1]; exact hb
  rw [List.length_append] at hv
  have hn : I.length + [b].length = I.length + 1 := rfl
  rw [hn] at hv
  obtain ⟨ho, _⟩ := sumW_ok hv.vr (fun i hi => by have := hv.hi i hi; grind) (fun i hi => by have := hv.lo i hi; grind) (by omega)
  have e1 : ((I ++ [b]).map qR).getD I.length 0 = qR b := by simp
  have e2 : sumW ((I ++ [b]).map qR) I.length = sumW (I.map qR) I.length := sumW_congr _ fun i hi => by
    simp [List.getElem?_append, hi]
  have c := ho.cv I.length (by omega)
  have d := ho.ad I.length (by omega)
  rw [e1] at c d
  rw [e2] at d
  exact ⟨c, d⟩
theorem sum_rv {n : Nat} {B : Rat} {R : List Nat} {v : Nat → Rat} (hR : RV n B R v) (hB : B ≤ 1000) (hn : n ≤ 6) : SumWOps R n ∧ ∃ S, Vr double (sumW R n) S ∧ S ≤ 7000 ∧ -S ≤ 7000 ∧ Nr S (ratSum v n) (1 / 1000000) :=
  sumW_ok hR.vr (fun i hi => by have := hR.hi i hi; grind) (fun i hi => by have := hR.lo i hi; grind) hn
theorem law_total {p : Nat} {R : List Nat} {v : Nat → Rat} {gs : List (Int × Int × Int)} (hR : RV p 2 R v) (hg : ∀ g ∈ gs, okGame (p : Int) g = true) (hl : gs.length ≤ 8) (h6 : p ≤ 6) :
    SumWOps (rateL R gs gs.length) p ∧ GapLt (sumW (rateL R gs gs.length) p) (sumW R p) 4576918229304087675 := by
  obtain ⟨v', h1, h2, h3⟩ := rateL_rv hR hg hl gs.length (Nat.le_refl _)
  have hk8 : (gs.length : Rat) ≤ 8 := by exact_mod_cast hl
  have hk0 : (0 : Rat) ≤ (gs.length : Rat) := by exact_mod_cast Nat.zero_le _
  obtain ⟨ho, S, g, b1, b2, n1, n2⟩ := sum_rv h1 (by grind) h6
  obtain ⟨_, T, g', c1, c2, m1, m2⟩ := sum_rv hR (by grind) h6
  exact ⟨ho, gap_lt g g' k001 (by grind) (by grind) (by grind) (by grind)⟩
theorem rated_num {p : Nat} {R : List Nat} {v : Nat → Rat} {gs : List (Int × Int × Int)} (hR : RV p 2 R v) (hg : ∀ g ∈ gs, okGame (p : Int) g = true) (hl : gs.length ≤ 8) : ∀ i, i < p → Num ((rateL R gs gs.length).getD i 0) := fun i hi => by
  obtain ⟨v', h1, _⟩ := rateL_rv hR hg hl gs.length (Nat.le_refl _)
  exact vr_num (h1.vr i hi)
theorem law_flip {i j : Nat} (hi : i < 17) (hj : j < 17) :
    ExpectOps (qR i) (qR j) ∧ floatToFloatBits .f32 (eW (qR i) (qR j)) .f64 = some (cW (eW (qR i) (qR j))) ∧
    floatToFloatBits .f32 (eW (qR j) (qR i)) .f64 = some (cW (eW (qR j) (qR i))) ∧ floatBits .add .f64 (cW (eW (qR i) (qR j))) (cW (eW (qR j) (qR i))) = some (aW (cW (eW (qR i) (qR j))) (cW (eW (qR j) (qR i)))) ∧
    GapLt (aW (cW (eW (qR i) (qR j))) (cW (eW (qR j) (qR i)))) 4607182418800017408 4562254508917369340 := by
  obtain ⟨_, a, ga, a1, a2⟩ := qR_ok hi
  obtain ⟨_, b, gb, b1, b2⟩ := qR_ok hj
  obtain ⟨ho, _, e, _, _, _, ge, e0, e1, _⟩ := eW_ok ga gb (by grind) (by grind) (by unfold big; grind) (by unfold big; grind) (by unfold big; grind) (by unfold big; grind)
  obtain ⟨_, _, f, _, _, _, gf, f0, f1, _⟩ := eW_ok gb ga (by grind) (by grind) (by unfold big; grind) (by unfold big; grind) (by unfold big; grind) (by unfold big; grind)
  obtain ⟨c1, ce⟩ := cW_ok ge (by unfold big; grind) (by unfold big; grind)
  obtain ⟨c2, cf⟩ := cW_ok gf (by unfold big; grind) (by unfold big; grind)
  refine ⟨ho, c1, c2, (aW_ok ce cf (by unfold big; grind) (by unfold big; grind)).1, ?_⟩
  have hb := flip_all hi hj
  unfold flipBit at hb
  generalize aW (cW (eW (qR i) (qR j))) (cW (eW (qR j) (qR i))) = x at hb
  unfold gapBit at hb
  split at hb
  · rename_i h1
    split at hb
    · rename_i r h2
      exact ⟨r, fun w => gap_run (.inl ⟨h1, h2⟩) w, by simpa using hb⟩
    · cases hb
  · rename_i o hne h1
    split at hb
    · rename_i r h2
      refine ⟨r, fun w => gap_run ?_ w, by simpa using hb⟩
      cases o with
      | lt => exact (hne rfl).elim
      | eq => exact .inr (.inl ⟨h1, h2⟩)
      | gt => exact .inr (.inr ⟨h1, h2⟩)
    · cases hb
  · cases hb
theorem law_all {p : Nat} {L : List Nat} {s : Nat → Rat} (h : StrV p L s) (h2 : 2 ≤ p) (h6 : p ≤ 6) :
    SumWOps L p ∧ ∃ B, floatBits .mul .f64 4576918229304087675 (floatOfInt .f64 p) = some B ∧ GapLt (sumW L p) (floatOfInt .f64 p) B := by
  obtain ⟨ho, S, g, b1, b2, n1, n2⟩ := sumW_ok h.vr h.top (fun i hi => by have := h.pos i hi; grind) h6
  have gp := vr_int2 (p : Int) (by omega)
  rw [show (((p : Int)) : Rat) = (p : Rat) from rfl] at gp
  have p6 : (p : Rat) ≤ 6 := by exact_mod_cast h6
  have p2 : (2 : Rat) ≤ (p : Rat) := by exact_mod_cast h2
  have q1 := h.s1
  have q2 := h.s2
  have hm1 : (5764607523034235 / 576460752303423488 : Rat) * (p : Rat) ≤ 100 := by grind
  have hm2 : -((5764607523034235 / 576460752303423488 : Rat) * (p : Rat)) ≤ 100 := by grind
  obtain ⟨e, B, gB, F⟩ := mW_ok k001 gp (by unfold big; grind) (by unfold big; grind)
  obtain ⟨m1, m2⟩ := F.near2 100 hm1 hm2
  exact ⟨ho, _, e, gap_lt g gp gB (by grind) (by grind) (by grind) (by grind)⟩
theorem law_flat {k x : Nat} {l : Rat} (hx : Vr single x l) (hk : k ≤ 8) (h1 : l ≤ (k : Rat) * -(11629080 / 16777216) + (k : Rat) / 10000) (h2 : (k : Rat) * -(11629080 / 16777216) ≤ l + (k : Rat) / 10000) :
    floatToFloatBits .f32 x .f64 = some (cW x) ∧ ∃ M A B, floatBits .mul .f64 13827790146203513206 (floatOfInt .f64 k) = some M ∧ floatBits .add .f64 4607182418800017408 (floatOfInt .f64 k) = some A ∧ floatBits .mul .f64 4576918229304087675 A = some B ∧ GapLt (cW x) M B := by
  have gk := vr_int2 (k : Int) (by omega)
  rw [show (((k : Int)) : Rat) = (k : Rat) from rfl] at gk
  have k8 : (k : Rat) ≤ 8 := by exact_mod_cast hk
  have k0 : (0 : Rat) ≤ (k : Rat) := by exact_mod_cast Nat.zero_le _
  obtain ⟨c1, gx⟩ := cW_ok hx (by unfold big; grind) (by unfold big; grind)
  obtain ⟨e1, m, gm, F1⟩ := mW_ok k6931 gk (by unfold big; grind) (by unfold big; grind)
  obtain ⟨a1, a2⟩ := F1.near2 100 (by grind) (by grind)
  obtain ⟨e2, a, ga, F2⟩ := aW_ok one64 gk (by unfold big; grind) (by unfold big; grind)
  obtain ⟨a3, a4⟩ := F2.near2 100 (by grind) (by grind)
  obtain ⟨e3, b, gb, F3⟩ := mW_ok k001 ga (by unfold big; grind) (by unfold big; grind)
  obtain ⟨a5, a6⟩ := F3.near2 100 (by grind) (by grind)
  exact ⟨c1, _, _, _, e1, e2, e3, gap_lt gx gm gb (by grind) (by grind) (by grind) (by grind)⟩
/-- the score -/
def scW (y : Nat) : Nat := dS (fI (1 + (y : Int))) 1073741824
theorem scW_ok {p y : Nat} (h6 : p ≤ 6) (hy : y < 2 * p - 1) : floatBits .quo .f32 (fI (1 + (y : Int))) 1073741824 = some (scW y) ∧ ∃ q, Vr single (scW y) q ∧ 1 / 2 ≤ q ∧ q ≤ (p : Rat) - 1 / 2 := by
  have g := vr_int1 (1 + (y : Int)) (by omega)
  have h1 : (1 : Rat) ≤ ((1 + (y : Int) : Int) : Rat) := by exact_mod_cast (by omega : (1 : Int) ≤ 1 + (y : Int))
  have h2 : ((1 + (y : Int) : Int) : Rat) ≤ ((2 * (p : Int) - 1 : Int) : Rat) := by exact_mod_cast (by omega : 1 + (y : Int) ≤ 2 * (p : Int) - 1)
  have h3 : ((2 * (p : Int) - 1 : Int) : Rat) = 2 * (p : Rat) - 1 := by
    rw [show ((p : Rat)) = (((p : Int)) : Rat) from rfl]; simp [Rat.intCast_sub, Rat.intCast_mul]
  have p6 : (p : Rat) ≤ 6 := by exact_mod_cast h6
  obtain ⟨e, v, gv, F⟩ := dS_ok g two32 (by grind) (by unfold big; grind) (by unfold big; grind)
  refine ⟨e, v, gv, F.ge (1 / 2) (rep1 1 (by decide) 1 (by omega) (by decide +kernel)) (by grind), F.le ((p : Rat) - 1 / 2) (rep1 (2 * (p : Int) - 1) (by omega) 1 (by omega) ?_) (by grind)⟩
  rw [h3]; grind
/-- what is expected -/
def eL (R : List Nat) (m : Nat) : List Nat := R.map (eW m)
theorem law_exp {p score : Nat} {R : List Nat} {v : Nat → Rat} {q : Rat} (hR : RV p 2 R v) (h2 : 2 ≤ p) (h6 : p ≤ 6) (hq : Vr single score q) (q1 : 1 / 2 ≤ q) (q2 : q ≤ (p : Rat) - 1 / 2) :
    Num (midB R score 24) ∧ (∀ k, k < p → ExpectOps (midB R score 24) (R.getD k 0)) ∧ (∀ k, k < p → (eL R (midB R score 24)).getD k 0 = eW (midB R score 24) (R.getD k 0)) ∧ SumWOps (eL R (midB R score 24)) p ∧ floatToFloatBits .f32 score .f64 = some (cW score) ∧
    ∃ B, floatBits .mul .f64 4581421828931458171 (floatOfInt .f64 p) = some B ∧ GapLt (sumW (eL R (midB R score 24)) p) (cW score) B := by
  obtain ⟨m, e, S, gm, _, _, so, sv, n1, n2⟩ := perf_near hR (by omega) h6 hq q1 q2
  have hE : ∀ k, k < p → (eL R (midB R score 24)).getD k 0 = eW (midB R score 24) (R.getD k 0) := fun k hk => by
    have hl : k < R.length := by rw [hR.len]; exact hk
    simp [eL, hl]
  have p6 : (p : Rat) ≤ 6 := by exact_mod_cast h6
  have p2 : (2 : Rat) ≤ (p : Rat) := by exact_mod_cast h2
  have gp := vr_int2 (p : Int) (by omega)
  rw [show (((p : Int)) : Rat) = (p : Rat) from rfl] at gp
  obtain ⟨ho, T, g, b1, b2, m1, m2⟩ := sumW_ok (L := eL R (midB R score 24)) (v := e) (fun i hi => by rw [hE i hi]; exact sv.ev i hi) (fun i hi => by have := sv.e1 i hi; grind) (fun i hi => by have := sv.e0 i hi; grind) h6
  obtain ⟨c1, gs⟩ := cW_ok hq (by unfold big; grind) (by unfold big; grind)
  obtain ⟨e3, b, gb, F3⟩ := mW_ok k002 gp (by unfold big; grind) (by unfold big; grind)
  obtain ⟨a5, a6⟩ := F3.near2 100 (by grind) (by grind)
  exact ⟨vr_num gm, so.ex, hE, ho, c1, _, e3, gap_lt g gs gb (by grind) (by grind) (by grind) (by grind)⟩

theorem okGames_of {p : Nat} {gs : List (Int × Int × Int)} (h2 : 2 ≤ p) (h16 : p ≤ 16) (hl : gs.length ≤ 128) (hg : ∀ g ∈ gs, okGame p g = true) : okGames p gs = true := by
  simp only [okGames, Bool.and_eq_true, inB_iff, decide_eq_true_eq, List.all_eq_true]
  exact ⟨⟨⟨by omega, by omega⟩, hl⟩, hg⟩
theorem scoresRes_ok {p : Nat} {gs : List (Int × Int × Int)} (h : okGames p gs = true) : scoresRes p gs = (tally scorePs p gs, true) := by
  unfold scoresRes
  rw [if_pos h, Int.toNat_natCast]
theorem metRes_ok {p : Nat} {gs : List (Int × Int × Int)} (h : okGames p gs = true) : metRes p gs = (tally (metPs p) (p * p) gs, true) := by
  unfold metRes
  rw [if_pos h, Int.toNat_natCast]
theorem ownNe {g g' n c n' c' : Nat} (h : g ≠ g') : (Value.slice (some ⟨g, 0, none⟩) n c).ownBlock ≠ (Value.slice (some ⟨g', 0, none⟩) n' c').ownBlock := by
  simp only [Value.ownBlock]; intro e; exact h (Option.some.inj e)
theorem blockNe {g n c : Nat} {gg H g' : Nat} (h : (Value.slice (some ⟨g, 0, none⟩) n c).ownBlock = some gg ∨ gg = H) (h1 : g ≠ g') (h2 : g' < H) : gg ≠ g' := by
  rcases h with h | h
  · simp only [Value.ownBlock, Option.some.injEq] at h; omega
  · omega
theorem qR_two {I : List Nat} {p : Nat} (hl : I.length = p) (h2 : 2 ≤ p) (h : ∀ b ∈ I, b < 17) : ∃ i j, i < 17 ∧ j < 17 ∧ (I.map qR).getD 0 0 = qR i ∧ (I.map qR).getD 1 0 = qR j := by
  match I, hl, h with
  | a :: b :: l, _, h => exact ⟨a, b, h a (by simp), h b (by simp), by simp, by simp⟩
  | [a], hl, _ => simp at hl; omega
  | [], hl, _ => simp at hl; omega
theorem floats_cell {w : World} {g n c : Nat} {xs : List Nat} (h : Floats w (some ⟨g, 0, none⟩) n c xs) (i : Nat) (hi : i < n) : w.cell? ⟨g, i, none⟩ = some (.float .f32 (xs.getD i 0)) := by
  obtain ⟨_, _, hc⟩ := h.at 0
  obtain ⟨b, o, e, _, hx⟩ := hc i hi
  cases e
  have := hx i hi
  simpa only [Nat.zero_add] using this
theorem snocF (L : List Nat) (x : Nat) : (L ++ [x]).map (Value.float .f32) = L.map (Value.float .f32) ++ [.float .f32 x] := by simp
theorem hop_conv {x y : Nat} (h : floatToFloatBits .f32 x .f64 = some y) (W : World) : (convert 29 28 (.float .f32 x)).run Try.prog W = .ok (.float .f64 y) W :=
  run_convert_float_float W _ _ .f32 .f64 _ _ rfl Try.underlying28 h
theorem hop_add {x y z : Nat} (h : floatBits .add .f64 x y = some z) (t : TypeId) (W : World) : (binOp .add t (.float .f64 x) (.float .f64 y)).run Try.prog W = .ok (.float .f64 z) W := run_float_arith W .add t .f64 _ _ _ h
theorem hop_mul {x y z : Nat} (h : floatBits .mul .f64 x y = some z) (t : TypeId) (W : World) : (binOp .mul t (.float .f64 x) (.float .f64 y)).run Try.prog W = .ok (.float .f64 z) W := run_float_arith W .mul t .f64 _ _ _ h
theorem hop_quo {x y z : Nat} (h : floatBits .quo .f32 x y = some z) (t : TypeId) (W : World) : (binOp .quo t (.float .f32 x) (.float .f32 y)).run Try.prog W = .ok (.float .f32 z) W := run_float_arith W .quo t .f32 _ _ _ h

end Go.Proofs.Ytcflgmjjomiejaa
