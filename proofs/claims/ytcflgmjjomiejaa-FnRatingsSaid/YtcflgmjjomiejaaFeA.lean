/- From float32 to float64, and what is the same there: plain terms. -/
import Derived.Test.YtcflgmjjomiejaaFlA
namespace Go.Proofs.Ytcflgmjjomiejaa
set_option linter.unusedVariables false
set_option linter.unusedSimpArgs false
open Ieee

theorem read_bound {x : Nat} {s : Bool} {m : Nat} {i : Int} (h : single.read x = .number s m i) : m = 0 ∨ (m.log2 : Int) + i < 128 := by
  have key : ∀ (neg : Bool) (rung : Nat), (if rung < single.binade then Datum.number neg rung single.leastPlace else if rung < single.infRung then Datum.number neg (single.binade + rung % single.binade) (single.leastPlace + (rung / single.binade - 1 : Nat)) else if rung = single.infRung then .infinity neg else .nan neg (rung - single.infRung)) = .number s m i → m = 0 ∨ (m.log2 : Int) + i < 128 := by
    intro neg rung h
    have hb : single.binade = 2 ^ 23 := rfl
    have hi : single.infRung = 255 * 2 ^ 23 := rfl
    have hl : single.leastPlace = -149 := rfl
    rw [hb, hi, hl] at h
    split at h
    · rename_i hr
      injection h with h1 h2 h3
      subst h2
      by_cases hz : rung = 0
      · exact .inl hz
      · right
        have := log2_lt' hr hz
        omega
    · split at h
      · rename_i hr
        injection h with h1 h2 h3
        right
        have h4 : m < 2 ^ 24 := by
          rw [← h2]
          have := Nat.mod_lt rung (show 0 < 2 ^ 23 by decide)
          omega
        have h5 : m ≠ 0 := by rw [← h2]; exact Nat.pos_iff_ne_zero.1 (by omega)
        have := log2_lt' h4 h5
        have h6 : rung / 2 ^ 23 ≤ 254 := by omega
        omega
      · split at h <;> cases h
  exact key _ _ h
theorem double_pow : (2 : Nat) ^ double.exponentBits - 1 = 2047 := rfl
theorem double_frac : double.fractionBits = 52 := rfl
theorem double_least : double.leastPlace = -1074 := rfl
theorem nearest_fd (neg : Bool) (m : Nat) (i : Int) (e : Int) (h : m = 0 ∨ (m.log2 : Int) + i < e) (he : e ≤ 1000) (he0 : -1000 ≤ e) : FN double (e + 1) (double.nearest neg m i) :=
  nearest_fn double neg m i e h (by decide) rfl (by rw [double_pow, double_frac, double_least]; omega) (by rw [double_frac, double_least]; omega)
theorem order_zero {y : Nat} {e : Int} (h : FN double e y) (hz : double.order y 0 = some .eq) : ∃ q, double.div 4607182418800017408 y = some q := by
  obtain ⟨s, m, i, h1, _, _⟩ := h
  have e0 : double.read 0 = .number false 0 (-1074) := by decide
  have e1 : double.read 4607182418800017408 = .number false 4503599627370496 (-52) := by decide
  unfold Format.order at hz
  rw [h1, e0] at hz
  have hm : m = 0 := by
    have h2 : compare (signed s m (i - min i (-1074)).toNat) (signed false 0 (-1074 - min i (-1074)).toNat) = .eq := Option.some.inj hz
    have h3 := cmpI_eq.1 h2
    have h4 : signed false 0 (-1074 - min i (-1074)).toNat = 0 := by simp [signed]
    rw [h4] at h3
    have h5 := signed_abs s m (i - min i (-1074)).toNat
    rw [h3, Nat.shiftLeft_eq] at h5
    have h6 : m * 2 ^ (i - min i (-1074)).toNat = 0 := h5.symm
    rcases Nat.mul_eq_zero.1 h6 with h7 | h7
    · exact h7
    · exact absurd h7 (Nat.pos_iff_ne_zero.1 (Nat.two_pow_pos _))
  subst hm
  refine ⟨double.write (.infinity (false ^^ s)), ?_⟩
  unfold Format.div
  rw [h1, e1]
  rfl
theorem order_selfN {f : Format} {e : Int} {x : Nat} (h : FN f e x) : f.order x x = some .eq := by
  obtain ⟨s, m, i, h1, _, _⟩ := h
  unfold Format.order
  rw [h1]
  show some (compare _ _) = _
  rw [cmpI_eq.2 rfl]
/-- what a number of 32 bits is in 64 -/
structure Conv (x y : Nat) : Prop where
  bits : floatToFloatBits .f32 x .f64 = some y
  self : double.order y y = some .eq
  zero : double.order y 0 = some .eq → ∃ q, double.div 4607182418800017408 y = some q
theorem conv_any (x : Nat) : (∃ y, Conv x y) ∨ ∃ s t, single.read x = .nan s t := by
  rcases hr : single.read x with ⟨s, m, i⟩ | s | ⟨s, t⟩
  · left
    have hfd := nearest_fd s m i 128 (read_bound hr) (by omega) (by omega)
    refine ⟨double.nearest s m i, ?_, order_selfN hfd, order_zero hfd⟩
    obtain ⟨s', m', i', h1, _, _⟩ := hfd
    unfold floatToFloatBits
    have e1 : FloatKind.f32.decode x = .number s m i := hr
    have e2 : FloatKind.f64.decode (FloatKind.f64.encode (.number s m i)) = .number s' m' i' := h1
    rw [if_neg (by decide), e1]
    show (if (FloatKind.f64.decode (FloatKind.f64.encode (.number s m i))).isInfinity then none else some (FloatKind.f64.encode (.number s m i))) = _
    rw [e2]
    rfl
  · left
    have e1 : FloatKind.f32.decode x = .infinity s := hr
    refine ⟨double.write (.infinity s), ?_, ?_, ?_⟩
    · unfold floatToFloatBits
      rw [if_neg (by decide), e1]
      rfl
    · cases s <;> decide
    · cases s <;> (intro h; exfalso; revert h; decide)
  · exact .inr ⟨s, t, rfl⟩
/-- a NaN of 64 bits -/
def NaN64 (y : Nat) : Prop := ∃ s t, double.read y = .nan s t
theorem nan_order {y z : Nat} (h : NaN64 y) : double.order y z = none := by
  obtain ⟨s, t, e⟩ := h
  unfold Format.order
  rw [e]
  rfl
/-- the bits that are drawn for a NaN -/
def nanF (x : Nat) (w : World) : Nat := (Question.nanConv .f64 x).cut (w.tape w.drawn (.nanConv .f64 x))
theorem nanF_nan (x : Nat) (w : World) : NaN64 (nanF x w) := by
  unfold nanF
  generalize w.tape w.drawn (.nanConv .f64 x) = t
  show NaN64 ((t % 2) * 2 ^ 63 + 0x7ff0000000000000 + 1 + (t / 2) % (2 ^ 52 - 1))
  have h2 : (t / 2) % (2 ^ 52 - 1) < 2 ^ 52 - 1 := Nat.mod_lt _ (by decide)
  generalize (t / 2) % (2 ^ 52 - 1) = r at *
  have hs : double.signWeight = 2 ^ 63 := rfl
  have hb : double.binade = 2 ^ 52 := rfl
  have hi : double.infRung = 0x7ff0000000000000 := rfl
  unfold NaN64 Format.read
  rw [hs, hb, hi]
  have e1 : ((t % 2) * 2 ^ 63 + 0x7ff0000000000000 + 1 + r) % 2 ^ 63 = 0x7ff0000000000000 + 1 + r := by omega
  dsimp only
  rw [e1, if_neg (by omega), if_neg (by omega), if_neg (by omega)]
  exact ⟨_, _, rfl⟩
theorem run_conv_nan {P : Program} (src dst : TypeId) (x : Nat) {s : Bool} {t : Nat} (h : single.read x = .nan s t) (hs : (P.underlying src).isSome = true) (hd : P.underlying dst = some (.float .f64)) (w : World) :
    (convert src dst (.float .f32 x)).run P w = .ok (.float .f64 (nanF x w)) w.drew := by
  obtain ⟨u, hs'⟩ := Option.isSome_iff_exists.1 hs
  have e1 : FloatKind.f32.decode x = .nan s t := h
  cases u <;> simp [convert, run_underlying hs', run_underlying hd, Conv.floatToFloat, e1, nanF, Question.forced]

end Go.Proofs.Ytcflgmjjomiejaa
