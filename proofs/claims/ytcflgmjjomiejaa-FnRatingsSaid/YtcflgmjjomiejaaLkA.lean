/- Likelihoods: plain terms; what is positive; quotients of shares. -/
import Derived.Test.YtcflgmjjomiejaaLgM
import Derived.Test.YtcflgmjjomiejaaFsA
namespace Go.Proofs.Ytcflgmjjomiejaa
open Go.RowKit
set_option linter.unusedVariables false
set_option linter.unusedSimpArgs false

/-- finite and greater than 0 -/
def posB (x : Nat) : Bool := finB x && (Ieee.single.order x 0 == some .gt)
theorem fin_number {x : Nat} (h : finB x = true) : ∃ s m i, Ieee.single.read x = .number s m i := by
  rcases hr : Ieee.single.read x with ⟨s, m, i⟩ | s | ⟨s, t⟩
  · exact ⟨s, m, i, rfl⟩
  · exfalso
    have e : opO .sub (some x) (some x) = none := by
      show Ieee.single.sub x x = none
      unfold Ieee.Format.sub
      rw [hr]
      cases s <;> rfl
    unfold finB finO at h
    rw [e] at h
    exact Bool.false_ne_true h
  · exfalso
    have e : opO .sub (some x) (some x) = none := by
      show Ieee.single.sub x x = none
      unfold Ieee.Format.sub
      rw [hr]
      rfl
    unfold finB finO at h
    rw [e] at h
    exact Bool.false_ne_true h
theorem zero_read : Ieee.single.read 0 = .number false 0 (-149) := by decide
theorem pos_number {x : Nat} (h : posB x = true) : ∃ m i, Ieee.single.read x = .number false m i ∧ m ≠ 0 := by
  unfold posB at h
  rw [Bool.and_eq_true] at h
  obtain ⟨h1, h2⟩ := h
  obtain ⟨s, m, i, hr⟩ := fin_number h1
  have h3 : Ieee.single.order x 0 = some .gt := by simpa using h2
  unfold Ieee.Format.order at h3
  rw [hr, zero_read] at h3
  have h4 : some (compare (Ieee.signed s m (i - min i (-149)).toNat) (Ieee.signed false 0 (-149 - min i (-149)).toNat)) = some .gt := h3
  have e2 : Ieee.signed false 0 (-149 - min i (-149)).toNat = 0 := by simp [Ieee.signed]
  rw [e2] at h4
  have h5 := cmpI_gt.1 (Option.some.inj h4)
  cases s
  · refine ⟨m, i, hr, fun e => ?_⟩
    subst e
    have : Ieee.signed false 0 (i - min i (-149)).toNat = 0 := by simp [Ieee.signed]
    omega
  · exfalso
    have : Ieee.signed true m (i - min i (-149)).toNat = -((m <<< (i - min i (-149)).toNat : Nat) : Int) := rfl
    generalize m <<< (i - min i (-149)).toNat = M at *
    omega
/-- a finite number stands somehow to 0 -/
theorem fin_order {x : Nat} (h : finB x = true) : ∃ o, Ieee.single.order x 0 = some o := by
  obtain ⟨s, m, i, hr⟩ := fin_number h
  unfold Ieee.Format.order
  rw [hr, zero_read]
  exact ⟨_, rfl⟩

/-- what a quotient of a share may be -/
def LogX (x : Nat) : Prop := x = 0 ∨ (∃ m i, Ieee.single.read x = .number false m i ∧ m ≠ 0) ∨ x = 2139095040
theorem add_pos {a b ma mb : Nat} {ia ib : Int} (ha : Ieee.single.read a = .number false ma ia) (hb : Ieee.single.read b = .number false mb ib) : ∃ r, Ieee.single.add a b = some r ∧ LogX r := by
  refine ⟨_, by unfold Ieee.Format.add; rw [ha, hb]; rfl, ?_⟩
  have e1 : Ieee.signed false ma (ia - min ia ib).toNat = ((ma <<< (ia - min ia ib).toNat : Nat) : Int) := rfl
  have e2 : Ieee.signed false mb (ib - min ia ib).toNat = ((mb <<< (ib - min ia ib).toNat : Nat) : Int) := rfl
  have e3 : (if Ieee.signed false ma (ia - min ia ib).toNat + Ieee.signed false mb (ib - min ia ib).toNat = 0 then (false && false) else decide (Ieee.signed false ma (ia - min ia ib).toNat + Ieee.signed false mb (ib - min ia ib).toNat < 0)) = false := by
    split
    · rfl
    · rw [decide_eq_false]
      rw [e1, e2]
      generalize ma <<< (ia - min ia ib).toNat = M at *
      generalize mb <<< (ib - min ia ib).toNat = N at *
      omega
  show LogX (Ieee.single.nearest (if Ieee.signed false ma (ia - min ia ib).toNat + Ieee.signed false mb (ib - min ia ib).toNat = 0 then (false && false) else decide (Ieee.signed false ma (ia - min ia ib).toNat + Ieee.signed false mb (ib - min ia ib).toNat < 0)) (Ieee.signed false ma (ia - min ia ib).toNat + Ieee.signed false mb (ib - min ia ib).toNat).natAbs (min ia ib))
  rw [e3]
  exact nearest_cases _ _
theorem inf_read : Ieee.single.read 2139095040 = .infinity false := by decide
theorem div_pos {a r m : Nat} {i : Int} (ha : Ieee.single.read a = .number false m i) (hm : m ≠ 0) (hr : LogX r) : ∃ x, Ieee.single.div a r = some x ∧ LogX x := by
  rcases hr with rfl | ⟨n, j, hr, hn⟩ | rfl
  · refine ⟨2139095040, ?_, .inr (.inr rfl)⟩
    unfold Ieee.Format.div
    rw [ha, zero_read]
    unfold Ieee.Datum.quotient
    simp only [if_neg hm, if_true]
    decide
  · refine ⟨_, by unfold Ieee.Format.div; rw [ha, hr]; unfold Ieee.Datum.quotient; simp only [if_neg hn]; rfl, ?_⟩
    exact nearest_cases _ _
  · refine ⟨0, ?_, .inl rfl⟩
    unfold Ieee.Format.div
    rw [ha, inf_read]
    show (some (Ieee.Datum.number (false ^^ false) 0 0)).map Ieee.single.write = _
    decide
/-- the quotients of two positive numbers by their sum -/
theorem shares {a b : Nat} (ha : posB a = true) (hb : posB b = true) : ∃ r x y, floatBits .add .f32 a b = some r ∧ floatBits .quo .f32 a r = some x ∧ floatBits .quo .f32 b r = some y ∧ LogX x ∧ LogX y := by
  obtain ⟨ma, ia, ra, na⟩ := pos_number ha
  obtain ⟨mb, ib, rb, nb⟩ := pos_number hb
  obtain ⟨r, h1, h2⟩ := add_pos ra rb
  obtain ⟨x, h3, h4⟩ := div_pos ra na h2
  obtain ⟨y, h5, h6⟩ := div_pos rb nb h2
  exact ⟨r, x, y, h1, h3, h5, h4, h6⟩

/-- both logarithms of x are b -/
def LogB (x b : Nat) : Prop := (∀ w, Calls Try.prog 52 #[.float .f32 x] w (Ret w (.float .f32 b))) ∧ (∀ w, Calls Try.prog 53 #[.float .f32 x] w (RetS w (.float .f32 b)))
theorem logX {x : Nat} (h : LogX x) : ∃ b, LogB x b ∧ LogP x b := by
  rcases h with rfl | ⟨m, i, h, hm⟩ | rfl
  · exact ⟨_, ⟨fun w => (log_zero_impl w).mono (fun e w' q => by obtain ⟨rfl, rfl⟩ := q; exact ⟨rfl, Below.refl _ _⟩), log_zero_spec⟩, fun m i h hm => absurd (by rw [zero_read] at h; cases h; rfl) hm⟩
  · obtain ⟨b, h1, h2, h3⟩ := log_both h hm
    exact ⟨b, ⟨h1, h2⟩, h3⟩
  · exact ⟨_, ⟨log_inf_impl, log_inf_spec⟩, fun m i h hm => by rw [inf_read] at h; cases h⟩
open Classical in
noncomputable def logN (x : Nat) : Nat := if h : ∃ b, LogB x b ∧ LogP x b then h.choose else 0
theorem logN_ok {x : Nat} (h : LogX x) : LogB x (logN x) := by
  have h1 := logX h
  unfold logN
  rw [dif_pos h1]
  exact h1.choose_spec.1
theorem logN_p {x : Nat} (h : LogX x) : LogP x (logN x) := by
  have h1 := logX h
  unfold logN
  rw [dif_pos h1]
  exact h1.choose_spec.2

/-- one game's part -/
noncomputable def oneO (S : List Nat) (g : Int × Int × Int) : Option Nat :=
  opO .add (opO .mul (opO .mul (some fHalf) (some (fI g.2.2))) ((opO .quo (some (S.getD g.1.toNat 0)) (opO .add (some (S.getD g.1.toNat 0)) (some (S.getD g.2.1.toNat 0)))).map logN))
    (opO .mul (opO .sub (some fOne) (opO .mul (some fHalf) (some (fI g.2.2)))) ((opO .quo (some (S.getD g.2.1.toNat 0)) (opO .add (some (S.getD g.1.toNat 0)) (some (S.getD g.2.1.toNat 0)))).map logN))
noncomputable def likO (S : List Nat) (gs : List (Int × Int × Int)) : Nat → Option Nat
  | 0 => some 0
  | k + 1 => opO .add (likO S gs k) (oneO S (gs.getD k (0, 0, 0)))
/-- the answer -/
noncomputable def likRes (S : List Nat) (gs : List (Int × Int × Int)) : Nat × Bool :=
  if (okGames (S.length : Int) gs && S.all posB) = true then
    if finO (likO S gs gs.length) = true then ((likO S gs gs.length).getD 0, true) else (0, false)
  else (0, false)
theorem likRes_num (S : List Nat) (gs : List (Int × Int × Int)) : ∃ s m i, Ieee.single.read (likRes S gs).1 = .number s m i := by
  unfold likRes
  split
  · split
    · rename_i h
      obtain ⟨x, hx⟩ := fin_some h
      rw [hx] at h ⊢
      exact fin_number (x := x) h
    · exact ⟨_, _, _, zero_read⟩
  · exact ⟨_, _, _, zero_read⟩

theorem halfs {r : Int} (h0 : 0 ≤ r) (h2 : r ≤ 2) : ∃ hv ov, floatBits .mul .f32 fHalf (fI r) = some hv ∧ floatBits .sub .f32 fOne hv = some ov := by
  rcases (show r = 0 ∨ r = 1 ∨ r = 2 by omega) with rfl | rfl | rfl
  · exact ⟨0, fOne, by decide +kernel, by decide +kernel⟩
  · exact ⟨fHalf, fHalf, by decide +kernel, by decide +kernel⟩
  · exact ⟨fOne, 0, by decide +kernel, by decide +kernel⟩

theorem arePositive1_any (b : Nat) (w : World) : Calls Try.prog 64 #[.float .f32 b] w (Ret w (.bool (!posB b))) := by
  have hfm : FloatKind.f32.format = Ieee.single := rfl
  have C := Lib.hid (IsFinite_any b w)
  have HP : Hid (posB b = (finB b && (Ieee.single.order b 0 == some .gt))) := rfl
  have HO := Lib.hid (fun e => fin_order (x := b) e)
  generalize posB b = p at *
  generalize finB b = v at *
  cases v
  · have hp := HP.out
    rw [Bool.false_and] at hp
    subst hp
    clear HO
    go_enter Try.func64, Try.ntmps64
    go_wp2_with (fail)
    refine C.out.mono ?_
    rintro e w1 ⟨rfl, hb⟩
    have HB := Lib.hid hb
    clear hb
    go_wp2
    go_ret
    exact ⟨rfl, HB.out⟩
  · obtain ⟨o, ho⟩ := HO.out rfl
    rw [ho, Bool.true_and] at HP
    have hp := HP.out
    subst hp
    clear HO
    rcases o with _ | _ | _
    all_goals
      go_enter Try.func64, Try.ntmps64
      go_wp2_with (fail)
      refine C.out.mono ?_
      rintro e w1 ⟨rfl, hb⟩
      have HB := Lib.hid hb
      clear hb
      go_wp2
      go_ret
      exact ⟨rfl, HB.out⟩

theorem arePositive_any (a : Option Addr) (n c : Nat) (xs : List Nat) (w : World) (h : Floats w a n c xs) : Calls Try.prog 51 #[.slice a n c] w (Ret w (.bool (xs.all posB))) := by
  have C := containsFuncF32_any (fun x => !posB x) 64 #[] (enters_of Try.func64 (by kernel_rfl) rfl) a n c xs w h (fun W _ x hm => arePositive1_any x W)
  have e0 : xs.any (fun x => !posB x) = !xs.all posB := by rw [List.not_all_eq_any_not]
  rw [e0] at C
  have C := Lib.hid C
  clear h e0
  generalize xs.all posB = v at *
  go_enter Try.func51, Try.ntmps51
  go_wp2_with (fail)
  refine C.out.mono ?_
  rintro e w1 ⟨rfl, hb⟩
  have HB := Lib.hid hb
  clear hb
  go_wp2
  go_ret
  exact ⟨by simp, HB.out⟩

theorem l02Above_any (b : Nat) (w : World) : Calls Try.prog 34 #[.float .f32 b] w (Ret w (.bool (posB b))) := by
  have hfm : FloatKind.f32.format = Ieee.single := rfl
  have C := Lib.hid (l01Finite_any b w)
  have HP : Hid (posB b = (finB b && (Ieee.single.order b 0 == some .gt))) := rfl
  have HO := Lib.hid (fun e => fin_order (x := b) e)
  generalize posB b = p at *
  generalize finB b = v at *
  cases v
  · have hp := HP.out
    rw [Bool.false_and] at hp
    subst hp
    clear HO
    go_enter Try.func34, Try.ntmps34
    go_wp2_with (fail)
    refine C.out.mono ?_
    rintro e w1 ⟨rfl, hb⟩
    have HB := Lib.hid hb
    clear hb
    go_wp2
    go_ret
    exact ⟨rfl, HB.out⟩
  · obtain ⟨o, ho⟩ := HO.out rfl
    rw [ho, Bool.true_and] at HP
    have hp := HP.out
    subst hp
    clear HO
    rcases o with _ | _ | _
    all_goals
      go_enter Try.func34, Try.ntmps34
      go_wp2_with (fail)
      refine C.out.mono ?_
      rintro e w1 ⟨rfl, hb⟩
      have HB := Lib.hid hb
      clear hb
      go_wp2
      go_ret
      exact ⟨rfl, HB.out⟩

theorem checked_any (b : Nat) (w : World) : Calls Try.prog 36 #[.float .f32 b] w (Ret w (.tuple #[.float .f32 (if finB b = true then b else 0), .bool (finB b)])) := by
  have C := Lib.hid (IsFinite_any b w)
  generalize finB b = v at *
  cases v
  all_goals
    go_enter Try.func36, Try.ntmps36
    go_wp2_with (fail)
    refine C.out.mono ?_
    rintro e w1 ⟨rfl, hb⟩
    have HB := Lib.hid hb
    clear hb
    go_wp2
    go_ret2
    exact ⟨rfl, HB.out⟩

theorem l02Number_any (b : Nat) (w : World) : Calls Try.prog 54 #[.float .f32 b] w (Ret w (.tuple #[.float .f32 (if finB b = true then b else 0), .bool (finB b)])) := by
  have C := Lib.hid (l01Finite_any b w)
  generalize finB b = v at *
  cases v
  all_goals
    go_enter Try.func54, Try.ntmps54
    go_wp2_with (fail)
    refine C.out.mono ?_
    rintro e w1 ⟨rfl, hb⟩
    have HB := Lib.hid hb
    clear hb
    go_wp2
    go_ret2
    exact ⟨rfl, HB.out⟩

end Go.Proofs.Ytcflgmjjomiejaa
