/- Tricks, impl: isGame, newTable, TrickBest. -/
import Derived.Test.YtgldfmkjnggedaaTrickF
import Derived.Test.YtgldfmkjnggedaaTrickD
import Derived.Carry
import Derived.Deep.RegionHeld3
import Derived.Test.YtgldfmkjnggedaaSlI64
namespace Go.Proofs.Ytgldfmkjnggedaa
open Go.RowKit
set_option linter.unusedVariables false

theorem isGame_any (ad : Addr) (n c : Nat) (xs : List Int) (ad' : Addr) (n' c' : Nat) (ys : List Int) (t : Int) (w : World) (h : Ints w (some ad) n c xs) (h' : Ints w (some ad') n' c' ys) :
    Calls Try.prog 19 #[.slice (some ad) n c, .slice (some ad') n' c', .int .i64 t] w (Ret w (.bool (okGameB xs ys t))) := by
  have C1 := Lib.hid (AreHands_any ad n c xs ad' n' c' ys w h h')
  have HG : Hid (okGameB xs ys t = (okHands xs ys && inB t (-1) 3)) := rfl
  obtain ⟨hc, hb, _⟩ := h.at
  obtain ⟨hc', hb', _⟩ := h'.at
  clear h h'
  generalize okGameB xs ys t = r at *
  rcases Bool.eq_false_or_eq_true (okHands xs ys) with e | e
  · have CI := Lib.hid (fun W => within_any t (-1) 3 W)
    go_enter Try.func19, Try.ntmps19
    go_wp2_with (fail)
    refine C1.out.mono ?_
    rintro e w1 ⟨rfl, hb1⟩
    have HB1 := Lib.hid hb1
    clear hb1
    go_wp2_with (fail)
    refine (CI.out _).mono ?_
    rintro e w2 ⟨rfl, rfl⟩
    go_wp2
    go_ret
    exact ⟨ret_bool (by rw [HG.out, e]; rfl), HB1.out⟩
  · go_enter Try.func19, Try.ntmps19
    go_wp2_with (fail)
    refine C1.out.mono ?_
    rintro e w1 ⟨rfl, hb1⟩
    have HB1 := Lib.hid hb1
    clear hb1
    go_wp2
    go_ret
    exact ⟨ret_bool (by rw [HG.out, e]; rfl), HB1.out⟩

theorem TabAt.set {M k : Nat} {t : Int} {w : World} {p : Addr} (h : TabAt M k t w) (hp : p.block ≠ M) (v : Value) : TabAt M k t (w.setCell p v) := by
  obtain ⟨D, ⟨es, clock, hb, F, hs, hD⟩, h2⟩ := h
  exact ⟨D, ⟨es, clock, by rw [Below.heap_setCell w p v M (fun e => hp e.symm)]; exact hb, F, hs, hD⟩, h2⟩
theorem TabAt.drewN {M k : Nat} {t : Int} {w : World} (h : TabAt M k t w) (q : Nat) : TabAt M k t (w.drewN q) := h
theorem TabAt.new (t : Int) (w : World) : TabAt w.heap.size 0 t (w.alloc (.map #[] 0)) := ⟨.map [], World.ownsMap_made w _ _ _, Known.empty t⟩

theorem newTable_any (t : Int) (w : World) :
    Calls Try.prog 20 #[.int .i64 t] w fun e w' => ∃ M, e = .returned (.agg #[.int .i64 t, .map (some M)]) ∧ Below w.heap.size w w' ∧ w.heap.size ≤ M ∧ TabAt M 0 t w' := by
  have hmm := @run_makeMap Try.prog
  go_enter Try.func20, Try.ntmps20
  go_wp2
  refine bodyPost_ret (v := .agg #[.int .i64 t, .map (some (w.heap.size + 1))]) (by simp [results, Try.results20, go_sem]) rfl ⟨_, rfl, ?_, ?_, ?_⟩
  · exact (((Below.refl w.heap.size w).alloc (Nat.le_refl _) _).alloc (by simp) _)
  · omega
  · simpa using TabAt.new t (w.alloc (.cells #[.int .i64 t, .map (some (w.heap.size + 1))] 47))

/-- IndexFunc whose predicate may fill the table. -/
theorem indexFuncT_any (pr : Int → Bool) (G : Nat) (cap : Array Value) (eg : ∀ args W, (callFunc G args).run Try.prog W = .ok (.enter G args) W) (M : Nat) (t : Int) (k0 s : Nat) (a : Option Addr) (n c : Nat) (xs : List (Int)) (w : World) (h : Ints w a n c xs) (hv : Av M a) (ht : TabAt M k0 t w) (hk : k0 + n * s ≤ 1099511627776)
    (hf : ∀ W k', Chg M (M + 1) w W → TabAt M k' t W → k' + s ≤ 1099511627776 → ∀ x, x ∈ xs → Calls Try.prog G (#[.int .i64 x] ++ cap) W fun e w' => e = .returned (.bool (pr x)) ∧ Chg M (M + 1) W w' ∧ ∃ k'', k'' ≤ k' + s ∧ TabAt M k'' t w') :
    Calls Try.prog 25 #[.slice a n c, .func (.func G) #[] cap] w fun e w' => e = .returned (.int .i64 (firstIdx pr xs)) ∧ Chg M (M + 1) w w' ∧ ∃ k', k' ≤ k0 + n * s ∧ TabAt M k' t w' := by
  obtain ⟨hc, hb, _⟩ := h.at
  have HI := Lib.hid h
  have hl := h.len
  have hH := Lib.hid hl
  have hF := Lib.hid hf
  have HT := Lib.hid ht
  have hkk : Hid (k0 + n * s ≤ 1099511627776) := hk
  clear h hl hf ht hk
  go_enter Try.func25, Try.ntmps25
  go_wp2
  go_loopw [8] (fun i wr => ∃ k k' : Nat, k ≤ n ∧ i = .int .i64 k ∧ NoneTo pr 0 xs k ∧ Chg M (M + 1) w wr ∧ k' ≤ k0 + k * s ∧ TabAt M k' t wr) (fun i _ => n - (intOf i).toNat)
  case atStart => exact ⟨0, k0, by omega, rfl, fun j hj => by omega, Chg.refl _ _ _, by omega, HT.out⟩
  case round =>
    obtain ⟨k, k', hk, rfl, hto, hchg, hk', htab⟩ := hrel
    have HTo := Lib.hid hto
    have HC := Lib.hid hchg
    have HTb := Lib.hid htab
    clear hto hchg htab
    by_cases hlt : k < n
    · have hI2 : Ints wr a n c xs := HI.out.av HC.out hv
      obtain ⟨_, _, hcell⟩ := hI2.at
      clear hI2
      obtain ⟨b, off, rfl, hlb, hx⟩ := hcell k hlt
      have h0 := hx k hlt
      have HX : Hid (xs.getD k 0 ∈ xs) := getD_mem (by rw [hH.out]; exact hlt)
      have HN : Hid (pr (xs.getD k 0) = true → firstIdx pr xs = (k : Int)) := fun e => firstIdx_at HTo.out e (by rw [hH.out]; exact hlt)
      have HS : Hid (pr (xs.getD k 0) = false → NoneTo pr 0 xs (k + 1)) := fun e => HTo.out.succ e
      have hb2 : k' + s ≤ 1099511627776 := by
        have h1 := hkk.out
        have h2 : (k + 1) * s ≤ n * s := Nat.mul_le_mul_right _ (by omega)
        rw [Nat.succ_mul] at h2
        omega
      have hkn : k' + s ≤ k0 + (k + 1) * s := by rw [Nat.succ_mul]; omega
      have hkn2 : Hid (k' + s ≤ k0 + n * s) := by
        show _ ≤ _
        have h2 : (k + 1) * s ≤ n * s := Nat.mul_le_mul_right _ (by omega)
        omega
      have CF := Lib.hid (hF.out wr k' HC.out HTb.out hb2 _ HX.out)
      clear hcell hx
      generalize xs.getD k 0 = x at *
      go_wp2_with (fail)
      refine CF.out.mono ?_
      rintro e w2 ⟨rfl, hc2, k2, hk2, ht2⟩
      have HC2 := Lib.hid (HC.out.trans hc2)
      have HT2 := Lib.hid ht2
      clear hc2 ht2 h0 CF
      rcases Bool.eq_false_or_eq_true (pr x) with ep | ep
      · go_wp2
        go_ret
        exact ⟨ret_int (HN.out ep).symm, HC2.out, k2, Nat.le_trans hk2 hkn2.out, HT2.out⟩
      · go_wp2
        go_roundw
        case rel => exact ⟨k + 1, k2, by omega, by go_num, HS.out ep, HC2.out, by omega, HT2.out⟩
        case measure => simp [intOf]; omega
    · obtain rfl : k = n := by omega
      go_wp2
      go_ret
      exact ⟨ret_int (firstIdx_none HTo.out hH.out).symm, HC.out, k', hk', HTb.out⟩

end Go.Proofs.Ytgldfmkjnggedaa
