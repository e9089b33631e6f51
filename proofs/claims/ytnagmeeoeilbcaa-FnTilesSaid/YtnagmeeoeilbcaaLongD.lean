/- LongestLine, impl: linesFrom. -/
import Derived.Test.YtnagmeeoeilbcaaLongC
import Derived.Test.YtnagmeeoeilbcaaAv
import Derived.Test.YtnagmeeoeilbcaaIndex
import Derived.Laws.BitsLemmas
import Derived.IntWalk
namespace Go.Proofs.Ytnagmeeoeilbcaa
open Go.RowKit Go.Shelf
set_option linter.unusedVariables false

/-- what is visited behind tile i -/
def childL (ts : List (Int × Int)) (f : Nat) (L : List Int) (E : Nat) (i : Nat) : List (List Int × Nat) := if (i : Int) ∈ L ∨ nextE ts E i = 0 then [] else preL ts f (L ++ [(i : Int)]) (nextE ts E i)
def foldTo {σ : Type} (step : σ → List Int × Nat → σ) (ts : List (Int × Int)) (f : Nat) (L : List Int) (E : Nat) (s : σ) (k : Nat) : σ := ((List.range k).flatMap (childL ts f L E)).foldl step s
theorem foldTo_succ {σ : Type} (step : σ → List Int × Nat → σ) (ts : List (Int × Int)) (f : Nat) (L : List Int) (E : Nat) (s : σ) (k : Nat) : foldTo step ts f L E s (k + 1) = (childL ts f L E k).foldl step (foldTo step ts f L E s k) := by
  unfold foldTo
  rw [List.range_succ, List.flatMap_append, List.foldl_append]
  simp
theorem foldTo_full {σ : Type} (step : σ → List Int × Nat → σ) (ts : List (Int × Int)) (f : Nat) (L : List Int) (E : Nat) (s : σ) : foldTo step ts f L E (step s (L, E)) ts.length = (preL ts (f + 1) L E).foldl step s := rfl
theorem nextE_lt (ts : List (Int × Int)) (E i : Nat) (h : tA ts i < 7 ∧ tB ts i < 7) : nextE ts E i < 128 := by
  unfold nextE
  have h1 : (if E.testBit (tA ts i) then 2 ^ tB ts i else 0) < 2 ^ 7 := by
    split
    · exact Nat.pow_lt_pow_right (by omega) h.2
    · decide
  have h2 : (if E.testBit (tB ts i) then 2 ^ tA ts i else 0) < 2 ^ 7 := by
    split
    · exact Nat.pow_lt_pow_right (by omega) h.1
    · decide
  exact Nat.or_lt_two_pow h1 h2

theorem wrap_pow (k : Nat) (h : k < 7) : wrap64 (2 ^ k) = ((2 ^ k : Nat) : Int) := by
  have e : ((2 : Int) ^ k) = ((2 ^ k : Nat) : Int) := by simp
  have h1 : (2 : Nat) ^ k < 2 ^ 7 := Nat.pow_lt_pow_right (by omega) h
  rw [e]
  generalize (2 : Nat) ^ k = q at h1 ⊢
  unfold wrap64
  omega
theorem bits_or62 (a b : Nat) (ha : a < 2 ^ 62) (hb : b < 2 ^ 62) : bits .or .i64 (a : Int) (b : Int) = ((a ||| b : Nat) : Int) :=
  (bits_nat .i64 62 (by decide) (fun n h0 h1 => IntWalk.i64_in n ⟨by omega, by omega⟩) a b ha hb).2
theorem bits_zero (k : Nat) (h : k < 7) : bits .or .i64 0 (wrap64 (2 ^ k)) = ((2 ^ k : Nat) : Int) := by
  have h1 : (2 : Nat) ^ k < 2 ^ 62 := Nat.pow_lt_pow_right (by omega) (by omega)
  rw [wrap_pow k h]
  have := bits_or62 0 (2 ^ k) (by decide) h1
  rwa [Nat.zero_or] at this
theorem bits_two (k j : Nat) (h : k < 7) (hj : j < 7) : bits .or .i64 ((2 ^ k : Nat) : Int) (wrap64 (2 ^ j)) = ((2 ^ k ||| 2 ^ j : Nat) : Int) := by
  rw [wrap_pow j hj]
  exact bits_or62 _ _ (Nat.pow_lt_pow_right (by omega) (by omega)) (Nat.pow_lt_pow_right (by omega) (by omega))
theorem bits_shr (E k : Nat) (hE : E < 128) (hk : k < 7) (b : Bool) (e : E.testBit k = b) : (bits .and .i64 ((E : Int) / 2 ^ k) 1 == 1) = b := by
  have e1 : ((E : Int) / 2 ^ k) = ((E / 2 ^ k : Nat) : Int) := by simp
  have h2 : E / 2 ^ k < 2 ^ 62 := Nat.lt_of_le_of_lt (Nat.div_le_self _ _) (by omega)
  have h3 := (bits_nat .i64 62 (by decide) (fun n h0 h1 => IntWalk.i64_in n ⟨by omega, by omega⟩) (E / 2 ^ k) 1 h2 (by decide)).1
  rw [e1]
  rw [show (1 : Int) = ((1 : Nat) : Int) from rfl, h3, Nat.and_one_is_mod, ← e, Nat.testBit_eq_decide_div_mod_eq]
  generalize E / 2 ^ k % 2 = q
  by_cases hq : q = 1
  · subst hq; rfl
  · simp [hq]; omega

def LinesOk {σ : Type} (step : σ → List Int × Nat → σ) (Inv : σ → World → Prop) (G : Nat) (cap : Array Value) (b B0 : Nat) (ts : List (Int × Int)) (f : Nat) : Prop :=
  ∀ (ta : Option Addr) (tc : Nat) (la : Option Addr) (m lc : Nat) (L : List Int) (E : Nat) (s : σ) (w : World), Duos w ta ts.length tc ts → Av b ta → w.ownsRow B0 2 1 (.slice la m lc) m (intCells L) → Av b la → Inv s w → B0 ≤ w.heap.size → b < w.heap.size → cnt ts.length L ≤ f → m + f ≤ 1000 → E < 128 →
    Calls Try.prog 30 #[.slice ta ts.length tc, .slice la m lc, .int .i64 E, .func (.func G) #[] cap] w fun e w' => e = .returned (.tuple #[]) ∧ Chg b (b + 1) w w' ∧ Inv ((preL ts (f + 1) L E).foldl step s) w'

set_option maxHeartbeats 1600000 in
set_option maxRecDepth 100000 in
theorem linesFrom_any {σ : Type} (step : σ → List Int × Nat → σ) (Inv : σ → World → Prop) (G : Nat) (cap : Array Value) (b B0 : Nat) (ts : List (Int × Int)) (hts : ∀ g ∈ ts, okTile2 g = true) (hn8 : ts.length ≤ 8)
    (eg : ∀ args W, (callFunc G args).run Try.prog W = .ok (.enter G args) W)
    (hM : ∀ s W W', Inv s W → Below W.heap.size W W' → Inv s W')
    (hV : ∀ (la : Option Addr) (m lc : Nat) (L : List Int) (E : Nat) (s : σ) (W : World), W.ownsRow B0 2 1 (.slice la m lc) m (intCells L) → Av b la → m ≤ 1000 → E < 128 → Inv s W → Calls Try.prog G (#[.slice la m lc, .int .i64 E] ++ cap) W fun e W' => e = .returned (.tuple #[]) ∧ Chg b (b + 1) W W' ∧ Inv (step s (L, E)) W') :
    ∀ f, LinesOk step Inv G cap b B0 ts f := by
  obtain ⟨i0, hi, hz0, hz1, hz2⟩ := info_parts infoI64
  intro f
  induction f using Nat.strongRecOn with
  | ind f IH =>
  intro ta tc la m lc L E s w hD hta hown hla hI hB0 hbw hcnt hmf hE
  have HIH := Lib.hid IH
  have HD := Lib.hid hD
  have HTa := Lib.hid hta
  have HOw := Lib.hid hown
  have HLa := Lib.hid hla
  have HMo := Lib.hid hM
  have HTs := Lib.hid hts
  have HCn := Lib.hid hcnt
  have HF := Lib.hid (foldTo_full step ts f L E s)
  have CV := Lib.hid (hV la m lc L E s w hown hla (by omega) hE hI)
  obtain ⟨hc, hb', _⟩ := hD.at
  have hcap : m ≤ lc ∧ lc ≤ 9223372036854775807 := by have := Rd.own hown; exact ⟨this.2.1, this.2.2.1⟩
  clear hD hown IH hts hcnt hM hV hI hta hla
  generalize hn : ts.length = n at *
  have Hn := Lib.hid hn
  clear hn
  go_enter Try.func30, Try.ntmps30
  go_wp2_with (fail)
  refine CV.out.mono ?_
  rintro e w1 ⟨rfl, hc1, hi1⟩
  have HC1 := Lib.hid hc1
  have HI1 := Lib.hid hi1
  have hs1 := hc1.size
  clear hc1 hi1 CV
  go_wp2
  go_loopw [17] (fun vi wr => ∃ k : Nat, k ≤ n ∧ vi = .int .i64 k ∧ Chg b (b + 1) w1 wr ∧ Inv (foldTo step ts f L E (step s (L, E)) k) wr) (fun vi _ => n - (intOf vi).toNat)
  case atStart => exact ⟨0, by omega, rfl, Chg.refl _ _ _, HI1.out⟩
  case round =>
    obtain ⟨k, hk, rfl, hchg, hinv⟩ := hrel
    have HC := Lib.hid (HC1.out.trans hchg)
    have HC' := Lib.hid hchg
    have HInv := Lib.hid hinv
    have hsr := hchg.size
    clear hchg hinv
    by_cases hlt : k < n
    · have hDr : Duos wr ta n tc ts := HD.out.av HC.out HTa.out
      have HDr := Lib.hid hDr
      have HSu := Lib.hid (foldTo_succ step ts f L E (step s (L, E)) k)
      obtain ⟨_, _, hcell⟩ := hDr.at
      obtain ⟨tb, off, rfl, hlb, hx⟩ := hcell k hlt
      obtain ⟨x0, x1⟩ := hx k hlt
      obtain ⟨hA7, hB7, eA, eB⟩ := tA_lt HTs.out (show k < ts.length by rw [Hn.out]; exact hlt)
      have HNl := Lib.hid (nextE_lt ts E k ⟨hA7, hB7⟩)
      have HNx : Hid (nextE ts E k = (if E.testBit (tA ts k) then 2 ^ tB ts k else 0) ||| (if E.testBit (tB ts k) then 2 ^ tA ts k else 0)) := rfl
      have HCh : Hid (childL ts f L E k = if (k : Int) ∈ L ∨ nextE ts E k = 0 then [] else preL ts f (L ++ [(k : Int)]) (nextE ts E k)) := rfl
      rw [eA] at x0
      rw [eB] at x1
      clear hcell hx hDr eA eB
      have HAl : Hid (Below wr.heap.size wr (wr.alloc (.cells #[.int .i64 (tA ts k : Nat), .int .i64 (tB ts k : Nat)] 44))) := (Below.refl _ _).alloc (Nat.le_refl _) _
      have HOr := Lib.hid (ownsRow_below (own_av HOw.out HC.out HLa.out) HAl.out)
      by_cases hin : (k : Int) ∈ L
      · have CH := Lib.hid (containsI64_any la m lc L (k : Int) true (by simpa using hin) _ (Rd.own HOr.out))
        have HF1 : Hid (foldTo step ts f L E (step s (L, E)) (k + 1) = foldTo step ts f L E (step s (L, E)) k) := by
          show _ = _
          rw [HSu.out, HCh.out, if_pos (.inl hin)]
          rfl
        clear hin HCh HNx HNl HSu
        generalize tA ts k = A at *
        generalize tB ts k = Bb at *
        go_wp2_with (fail)
        refine CH.out.mono ?_
        rintro e w2 ⟨rfl, rfl⟩
        go_wp2
        go_roundw
        case rel => exact ⟨k + 1, by omega, by go_num, HC'.out.trans (Chg.below HAl.out), by rw [HF1.out]; exact HMo.out _ _ _ HInv.out HAl.out⟩
        case measure => simp [intOf]; omega
      · have CH := Lib.hid (containsI64_any la m lc L (k : Int) false (by simp; intro x hx e; exact hin (e ▸ hx)) _ (Rd.own HOr.out))
        have hmore := cnt_more (n := n) hlt hin
        obtain ⟨f', rfl⟩ : ∃ f', f = f' + 1 := ⟨f - 1, by have := HCn.out; omega⟩
        have hcn' : Hid (cnt n (L ++ [(k : Int)]) ≤ f') := by show _ ≤ _; have := HCn.out; omega
        have HCh2 : Hid (childL ts (f' + 1) L E k = if nextE ts E k = 0 then [] else preL ts (f' + 1) (L ++ [(k : Int)]) (nextE ts E k)) := by
          show _ = _
          rw [HCh.out]
          by_cases q : nextE ts E k = 0
          · rw [if_pos q, if_pos (.inr q)]
          · rw [if_neg q, if_neg (by rintro (r | r); exact hin r; exact q r)]
        clear hin HCh hmore
        generalize nextE ts E k = N at *
        generalize tA ts k = A at *
        generalize tB ts k = Bb at *
        -- MID
        have x0' : (wr.alloc (.cells #[.int .i64 (A : Nat), .int .i64 (Bb : Nat)] 44)).cell? ⟨wr.heap.size, 0, none⟩ = some (.int .i64 A) := by simp
        have x1' : (wr.alloc (.cells #[.int .i64 (A : Nat), .int .i64 (Bb : Nat)] 44)).cell? ⟨wr.heap.size, 1, none⟩ = some (.int .i64 Bb) := by simp
        have HPB := Lib.hid (bits_zero Bb hB7)
        have HPA := Lib.hid (bits_zero A hA7)
        have HPO := Lib.hid (bits_two Bb A hB7 hA7)
        have hpa : (2 : Nat) ^ A ≠ 0 := by have := Nat.two_pow_pos A; omega
        have hpb : (2 : Nat) ^ Bb ≠ 0 := by have := Nat.two_pow_pos Bb; omega
        rcases Bool.eq_false_or_eq_true (E.testBit A) with eA | eA
        · have sA := bits_shr E A hE hA7 true eA
          rcases Bool.eq_false_or_eq_true (E.testBit Bb) with eB | eB
          · have sB := bits_shr E Bb hE hB7 true eB
            have hNv : N = 2 ^ Bb ||| 2 ^ A := by rw [HNx.out, if_pos eA, if_pos eB]
            have hN0 : N ≠ 0 := by
              rw [hNv]
              intro q
              have := (Nat.or_eq_zero_iff.1 q).1
              exact hpb this
            have o1 := HPB.out
            have o2 := HPO.out
            rw [← hNv] at o2
            clear hNv eA eB hpa hpb HPA HPB HPO
            generalize (2 : Nat) ^ Bb = PB at *
            have HS2 : Hid (foldTo step ts (f' + 1) L E (step s (L, E)) (k + 1) = (preL ts (f' + 1) (L ++ [(k : Int)]) N).foldl step (foldTo step ts (f' + 1) L E (step s (L, E)) k)) := by
              show _ = _
              rw [HSu.out, HCh2.out, if_neg hN0]
            have hNc : ((N : Int) != 0) = true := by simp; omega
            have CC := Lib.hid (cloneI64_any la m lc L _ (Rd.own HOr.out) (by omega))
            clear HCh2 HNx HSu
            go_wp2_with (fail)
            refine CH.out.mono ?_
            rintro e w2 ⟨rfl, rfl⟩
            go_wp2_with (fail)
            refine CC.out.mono ?_
            rintro e w3 ⟨ca, cc, rfl, hb3, ho3⟩
            have HB3 : Hid (Below wr.heap.size wr w3) := HAl.out.trans (hb3.mono HAl.out.size)
            have hcc : m ≤ cc ∧ cc ≤ 9223372036854775807 := by have := Rd.own ho3; exact ⟨this.2.1, this.2.2.1⟩
            have ho3' : w3.ownsRow wr.heap.size 2 1 (.slice ca m cc) m (intCells L) := ownsRow_low ho3 (by simp)
            have hs3 := HB3.out.size
            clear hb3 ho3 CC CH
            go_wp2_with (first | (at_builtin; go_must (refine wpList_append_own _ rfl _ _ 24 rfl wr.heap.size 2 i0 (.int .i64 0) 1 8 Try.underlying24 hi hz0 hz1 hz2 rfl (by decide) _ _ _ rfl (ho3'.alloc _) ⟨w3.heap.size, 0, none⟩ 1 1 [.int .i64 (k : Int)] rfl rfl (new1 _ _ _) (one1 rfl) (by unfold maxLen; omega) (by omega) (by simp; omega) ?_); intro v4 w4 hown4 hg4 _; obtain ⟨na, nc, rfl⟩ := own_form hown4))
            have HB4 := Lib.hid (below_app HB3.out hs3 hg4 ho3')
            have HO4 : Hid (w4.ownsRow wr.heap.size 2 1 (.slice na (m + 1) nc) (m + 1) (intCells (L ++ [(k : Int)]))) := by
              show w4.ownsRow _ _ _ _ _ _
              rw [intCells_snoc]
              exact hown4
            have hAvN : Hid (Av b na) := fun x hx => by have := (own_in HO4.out x hx).1; omega
            have CR := Lib.hid (HIH.out f' (by omega) (some ⟨tb, off, none⟩) tc na (m + 1) nc (L ++ [(k : Int)]) N (foldTo step ts (f' + 1) L E (step s (L, E)) k) w4 (by rw [Hn.out]; exact HDr.out.mono HB4.out) HTa.out (ownsRow_low HO4.out (by omega)) hAvN.out (HMo.out _ _ _ HInv.out HB4.out) (by have := HB4.out.size; omega) (by have := HB4.out.size; omega) (by rw [Hn.out]; exact hcn'.out) (by omega) HNl.out)
            rw [Hn.out] at CR
            have hk4 : m + 1 ≤ nc ∧ nc ≤ 9223372036854775807 := by have := Rd.own HO4.out; exact ⟨this.2.1, this.2.2.1⟩
            clear hown4 hg4 ho3' HO4 HInv
            go_wp2_with (fail)
            refine CR.out.mono ?_
            rintro e w5 ⟨rfl, hc5, hi5⟩
            have HC5 : Hid (Chg b (b + 1) w1 w5) := (HC'.out.trans (Chg.below HB4.out)).trans hc5
            have HI5 : Hid (Inv (foldTo step ts (f' + 1) L E (step s (L, E)) (k + 1)) w5) := by
              show Inv _ w5
              rw [HS2.out]
              exact hi5
            clear hc5 hi5 CR
            go_wp2
            go_roundw
            case rel => exact ⟨k + 1, by omega, by go_num, HC5.out, HI5.out⟩
            case measure => simp [intOf]; omega
          · have sB := bits_shr E Bb hE hB7 false eB
            have hNv : N = 2 ^ Bb := by rw [HNx.out, if_pos eA, if_neg (by rw [eB]; exact Bool.false_ne_true), Nat.or_zero]
            have hN0 : N ≠ 0 := by rw [hNv]; exact hpb
            have o1 := HPB.out
            rw [← hNv] at o1
            clear hNv eA eB hpa hpb HPA HPB HPO
            have HS2 : Hid (foldTo step ts (f' + 1) L E (step s (L, E)) (k + 1) = (preL ts (f' + 1) (L ++ [(k : Int)]) N).foldl step (foldTo step ts (f' + 1) L E (step s (L, E)) k)) := by
              show _ = _
              rw [HSu.out, HCh2.out, if_neg hN0]
            have hNc : ((N : Int) != 0) = true := by simp; omega
            have CC := Lib.hid (cloneI64_any la m lc L _ (Rd.own HOr.out) (by omega))
            clear HCh2 HNx HSu
            go_wp2_with (fail)
            refine CH.out.mono ?_
            rintro e w2 ⟨rfl, rfl⟩
            go_wp2_with (fail)
            refine CC.out.mono ?_
            rintro e w3 ⟨ca, cc, rfl, hb3, ho3⟩
            have HB3 : Hid (Below wr.heap.size wr w3) := HAl.out.trans (hb3.mono HAl.out.size)
            have hcc : m ≤ cc ∧ cc ≤ 9223372036854775807 := by have := Rd.own ho3; exact ⟨this.2.1, this.2.2.1⟩
            have ho3' : w3.ownsRow wr.heap.size 2 1 (.slice ca m cc) m (intCells L) := ownsRow_low ho3 (by simp)
            have hs3 := HB3.out.size
            clear hb3 ho3 CC CH
            go_wp2_with (first | (at_builtin; go_must (refine wpList_append_own _ rfl _ _ 24 rfl wr.heap.size 2 i0 (.int .i64 0) 1 8 Try.underlying24 hi hz0 hz1 hz2 rfl (by decide) _ _ _ rfl (ho3'.alloc _) ⟨w3.heap.size, 0, none⟩ 1 1 [.int .i64 (k : Int)] rfl rfl (new1 _ _ _) (one1 rfl) (by unfold maxLen; omega) (by omega) (by simp; omega) ?_); intro v4 w4 hown4 hg4 _; obtain ⟨na, nc, rfl⟩ := own_form hown4))
            have HB4 := Lib.hid (below_app HB3.out hs3 hg4 ho3')
            have HO4 : Hid (w4.ownsRow wr.heap.size 2 1 (.slice na (m + 1) nc) (m + 1) (intCells (L ++ [(k : Int)]))) := by
              show w4.ownsRow _ _ _ _ _ _
              rw [intCells_snoc]
              exact hown4
            have hAvN : Hid (Av b na) := fun x hx => by have := (own_in HO4.out x hx).1; omega
            have CR := Lib.hid (HIH.out f' (by omega) (some ⟨tb, off, none⟩) tc na (m + 1) nc (L ++ [(k : Int)]) N (foldTo step ts (f' + 1) L E (step s (L, E)) k) w4 (by rw [Hn.out]; exact HDr.out.mono HB4.out) HTa.out (ownsRow_low HO4.out (by omega)) hAvN.out (HMo.out _ _ _ HInv.out HB4.out) (by have := HB4.out.size; omega) (by have := HB4.out.size; omega) (by rw [Hn.out]; exact hcn'.out) (by omega) HNl.out)
            rw [Hn.out] at CR
            have hk4 : m + 1 ≤ nc ∧ nc ≤ 9223372036854775807 := by have := Rd.own HO4.out; exact ⟨this.2.1, this.2.2.1⟩
            clear hown4 hg4 ho3' HO4 HInv
            go_wp2_with (fail)
            refine CR.out.mono ?_
            rintro e w5 ⟨rfl, hc5, hi5⟩
            have HC5 : Hid (Chg b (b + 1) w1 w5) := (HC'.out.trans (Chg.below HB4.out)).trans hc5
            have HI5 : Hid (Inv (foldTo step ts (f' + 1) L E (step s (L, E)) (k + 1)) w5) := by
              show Inv _ w5
              rw [HS2.out]
              exact hi5
            clear hc5 hi5 CR
            go_wp2
            go_roundw
            case rel => exact ⟨k + 1, by omega, by go_num, HC5.out, HI5.out⟩
            case measure => simp [intOf]; omega
        · have sA := bits_shr E A hE hA7 false eA
          rcases Bool.eq_false_or_eq_true (E.testBit Bb) with eB | eB
          · have sB := bits_shr E Bb hE hB7 true eB
            have hNv : N = 2 ^ A := by rw [HNx.out, if_neg (by rw [eA]; exact Bool.false_ne_true), if_pos eB, Nat.zero_or]
            have hN0 : N ≠ 0 := by rw [hNv]; exact hpa
            have o1 := HPA.out
            rw [← hNv] at o1
            clear hNv eA eB hpa hpb HPA HPB HPO
            have HS2 : Hid (foldTo step ts (f' + 1) L E (step s (L, E)) (k + 1) = (preL ts (f' + 1) (L ++ [(k : Int)]) N).foldl step (foldTo step ts (f' + 1) L E (step s (L, E)) k)) := by
              show _ = _
              rw [HSu.out, HCh2.out, if_neg hN0]
            have hNc : ((N : Int) != 0) = true := by simp; omega
            have CC := Lib.hid (cloneI64_any la m lc L _ (Rd.own HOr.out) (by omega))
            clear HCh2 HNx HSu
            go_wp2_with (fail)
            refine CH.out.mono ?_
            rintro e w2 ⟨rfl, rfl⟩
            go_wp2_with (fail)
            refine CC.out.mono ?_
            rintro e w3 ⟨ca, cc, rfl, hb3, ho3⟩
            have HB3 : Hid (Below wr.heap.size wr w3) := HAl.out.trans (hb3.mono HAl.out.size)
            have hcc : m ≤ cc ∧ cc ≤ 9223372036854775807 := by have := Rd.own ho3; exact ⟨this.2.1, this.2.2.1⟩
            have ho3' : w3.ownsRow wr.heap.size 2 1 (.slice ca m cc) m (intCells L) := ownsRow_low ho3 (by simp)
            have hs3 := HB3.out.size
            clear hb3 ho3 CC CH
            go_wp2_with (first | (at_builtin; go_must (refine wpList_append_own _ rfl _ _ 24 rfl wr.heap.size 2 i0 (.int .i64 0) 1 8 Try.underlying24 hi hz0 hz1 hz2 rfl (by decide) _ _ _ rfl (ho3'.alloc _) ⟨w3.heap.size, 0, none⟩ 1 1 [.int .i64 (k : Int)] rfl rfl (new1 _ _ _) (one1 rfl) (by unfold maxLen; omega) (by omega) (by simp; omega) ?_); intro v4 w4 hown4 hg4 _; obtain ⟨na, nc, rfl⟩ := own_form hown4))
            have HB4 := Lib.hid (below_app HB3.out hs3 hg4 ho3')
            have HO4 : Hid (w4.ownsRow wr.heap.size 2 1 (.slice na (m + 1) nc) (m + 1) (intCells (L ++ [(k : Int)]))) := by
              show w4.ownsRow _ _ _ _ _ _
              rw [intCells_snoc]
              exact hown4
            have hAvN : Hid (Av b na) := fun x hx => by have := (own_in HO4.out x hx).1; omega
            have CR := Lib.hid (HIH.out f' (by omega) (some ⟨tb, off, none⟩) tc na (m + 1) nc (L ++ [(k : Int)]) N (foldTo step ts (f' + 1) L E (step s (L, E)) k) w4 (by rw [Hn.out]; exact HDr.out.mono HB4.out) HTa.out (ownsRow_low HO4.out (by omega)) hAvN.out (HMo.out _ _ _ HInv.out HB4.out) (by have := HB4.out.size; omega) (by have := HB4.out.size; omega) (by rw [Hn.out]; exact hcn'.out) (by omega) HNl.out)
            rw [Hn.out] at CR
            have hk4 : m + 1 ≤ nc ∧ nc ≤ 9223372036854775807 := by have := Rd.own HO4.out; exact ⟨this.2.1, this.2.2.1⟩
            clear hown4 hg4 ho3' HO4 HInv
            go_wp2_with (fail)
            refine CR.out.mono ?_
            rintro e w5 ⟨rfl, hc5, hi5⟩
            have HC5 : Hid (Chg b (b + 1) w1 w5) := (HC'.out.trans (Chg.below HB4.out)).trans hc5
            have HI5 : Hid (Inv (foldTo step ts (f' + 1) L E (step s (L, E)) (k + 1)) w5) := by
              show Inv _ w5
              rw [HS2.out]
              exact hi5
            clear hc5 hi5 CR
            go_wp2
            go_roundw
            case rel => exact ⟨k + 1, by omega, by go_num, HC5.out, HI5.out⟩
            case measure => simp [intOf]; omega
          · have sB := bits_shr E Bb hE hB7 false eB
            have hNv : N = 0 := by rw [HNx.out, if_neg (by rw [eA]; exact Bool.false_ne_true), if_neg (by rw [eB]; exact Bool.false_ne_true)]; rfl
            have HS2 : Hid (foldTo step ts (f' + 1) L E (step s (L, E)) (k + 1) = foldTo step ts (f' + 1) L E (step s (L, E)) k) := by
              show _ = _
              rw [HSu.out, HCh2.out, if_pos hNv]
              rfl
            clear hNv eA eB hpa hpb HPA HPB HPO HCh2 HNx HSu
            go_wp2_with (fail)
            refine CH.out.mono ?_
            rintro e w2 ⟨rfl, rfl⟩
            go_wp2
            go_roundw
            case rel => exact ⟨k + 1, by omega, by go_num, HC'.out.trans (Chg.below HAl.out), by rw [HS2.out]; exact HMo.out _ _ _ HInv.out HAl.out⟩
            case measure => simp [intOf]; omega
    · obtain rfl : k = n := by omega
      have HE : Hid (Inv ((preL ts (f + 1) L E).foldl step s) wr) := by
        show Inv _ wr
        rw [← HF.out]
        exact HInv.out
      go_wp2
      go_end0
      exact ⟨rfl, HC.out, HE.out⟩

end Go.Proofs.Ytnagmeeoeilbcaa
