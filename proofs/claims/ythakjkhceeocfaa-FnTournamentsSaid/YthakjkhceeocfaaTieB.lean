/- TieOrder, impl: the closure that compares, the insertion sort, SortStableFunc of at most sixteen. -/
import Derived.Test.YthakjkhceeocfaaTieA
import Derived.Test.YthakjkhceeocfaaBasic
import Derived.Test.YthakjkhceeocfaaI64
import Derived.Test.YthakjkhceeocfaaSlI64
import Derived.Test.YthakjkhceeocfaaNewDeck
import Derived.Test.YthakjkhceeocfaaTally
import Derived.Test.YthakjkhceeocfaaChgC
import Derived.BigRegion
import Derived.RegionTactic
import Derived.IntWalk
import Derived.Shelf.Abstract
namespace Go.Proofs.Ythakjkhceeocfaa
open Go.RowKit Go.Shelf
set_option linter.unusedVariables false

theorem own_swap {w : World} {B g n c : Nat} {E : TypeId} {L : List Int} (h : w.ownsRow B E 1 (.slice (some ⟨g, 0, none⟩) n c) n (intCells L)) (j : Nat) (q : Nat) (x y : Int) (hx : L.getD j 0 = x) (hy : L.getD (j - 1) 0 = y) :
    (((w.drewN q).setCell ⟨g, j, none⟩ (.int .i64 y)).setCell ⟨g, j - 1, none⟩ (.int .i64 x)).ownsRow B E 1 (.slice (some ⟨g, 0, none⟩) n c) n (intCells (swapAt L j)) := by
  subst hx hy
  exact own_put (own_put (ownsRow_drewN h q) j _) (j - 1) _

/-- A box of scores that reads. -/
def Boxed (w : World) (b : Nat) (xs : List Int) : Prop := ∃ a n c, w.cell? ⟨b, 0, none⟩ = some (.slice a n c) ∧ Ints w a n c xs
theorem Boxed.mono {w w' : World} {b : Nat} {xs : List Int} (h : Boxed w b xs) (hb : Below w.heap.size w w') : Boxed w' b xs := by
  obtain ⟨a, n, c, h1, h2⟩ := h
  exact ⟨a, n, c, cell_on hb h1, h2.mono hb⟩
theorem Boxed.chg {lo hi : Nat} {w w' : World} {b : Nat} {xs : List Int} (h : Boxed w b xs) (hc : Chg lo hi w w') (hb : b < lo) (hr : ∀ a n c, w.cell? ⟨b, 0, none⟩ = some (.slice a n c) → ∀ x, a = some x → x.block < lo) : Boxed w' b xs := by
  obtain ⟨a, n, c, h1, h2⟩ := h
  refine ⟨a, n, c, hc.cell h1 (.inl hb), h2.chg hc (l := 0) (r := lo) (fun x hx => ⟨Nat.zero_le _, hr a n c h1 x hx⟩) (.inl (Nat.le_refl _))⟩

theorem TieOrder2_any (sc ot : List Int) (i k b1 b2 : Nat) (w : World) (h1 : Boxed w b1 sc) (h2 : Boxed w b2 ot) (hi : i < sc.length) (hk : k < sc.length) (hl : ot.length = sc.length)
    (g1 : ∀ q, 0 ≤ sc.getD q 0 ∧ sc.getD q 0 ≤ 1000) (g2 : ∀ q, 0 ≤ ot.getD q 0 ∧ ot.getD q 0 ≤ 1000000) :
    Calls Try.prog 47 #[.int .i64 i, .int .i64 k, .pointer (some ⟨b1, 0, none⟩), .pointer (some ⟨b2, 0, none⟩)] w (RetQ w (.int .i64 (cmpV sc ot i k))) := by
  obtain ⟨a1, n1, c1, e1, v1⟩ := h1
  obtain ⟨a2, n2, c2, e2, v2⟩ := h2
  have l1 := v1.len
  have l2 := v2.len
  obtain ⟨m1, M1, r1⟩ := v1.at
  obtain ⟨m2, M2, r2⟩ := v2.at
  obtain ⟨p1, o1, rfl, _, x1⟩ := r1 i (by omega)
  obtain ⟨p2, o2, rfl, _, x2⟩ := r2 i (by omega)
  have xi := x1 i (by omega)
  have xk := x1 k (by omega)
  have yi := x2 i (by omega)
  have yk := x2 k (by omega)
  have bi := g1 i
  have bk := g1 k
  have di := g2 i
  have dk := g2 k
  have HV : Hid (cmpV sc ot i k = if sc.getD i 0 = sc.getD k 0 then ot.getD k 0 - ot.getD i 0 else sc.getD k 0 - sc.getD i 0) := by
    show cmpV sc ot i k = _
    simp [cmpV]
  have hi1 : i < n1 := by omega
  have hk1 : k < n1 := by omega
  have hi2 : i < n2 := by omega
  have hk2 : k < n2 := by omega
  clear v1 v2 x1 x2 r1 r2 g1 g2 l1 l2 hl hi hk
  generalize sc.getD i 0 = si at *
  generalize sc.getD k 0 = sk at *
  generalize ot.getD i 0 = oi at *
  generalize ot.getD k 0 = ok at *
  by_cases he : si = sk
  · have he1 : (si != sk) = false := by simp [he]
    have hw := IntWalk.i64_in (ok - oi) (by omega)
    have HE := Lib.hid he
    clear he
    go_enter Try.func47, Try.ntmps47
    go_wp2
    go_quiet (fail)
    go_wp2
    go_quiet (fail)
    go_wp2
    go_ret
    exact ⟨ret_int (by rw [HV.out, if_pos HE.out]), ((Quiet.refl w).drewN _).drewN _⟩
  · have he1 : (si != sk) = true := by simp [he]
    have hw := IntWalk.i64_in (sk - si) (by omega)
    have HE := Lib.hid he
    clear he
    go_enter Try.func47, Try.ntmps47
    go_wp2
    go_quiet (fail)
    go_wp2
    go_quiet (fail)
    go_wp2
    go_ret
    exact ⟨ret_int (by rw [HV.out, if_neg HE.out]), ((Quiet.refl w).drewN _).drewN _⟩

set_option maxHeartbeats 1600000 in
set_option maxRecDepth 100000 in
theorem insSort_any (sc ot : List Int) (n g c B : Nat) (G : Nat) (cap : Array Value) (eg : ∀ args W, (callFunc G args).run Try.prog W = .ok (.enter G args) W) (w : World) (hn : n ≤ 16) (h1 : 1 ≤ n) (hsc : sc.length = n)
    (h : w.ownsRow B 2 1 (.slice (some ⟨g, 0, none⟩) n c) n (intCells (upto n)))
    (hf : ∀ W, Chg g (g + 1) w W → ∀ i k : Nat, i < n → k < n → Calls Try.prog G (#[.int .i64 i, .int .i64 k] ++ cap) W (RetQ W (.int .i64 (cmpV sc ot i k)))) :
    Calls Try.prog 62 #[.slice (some ⟨g, 0, none⟩) n c, .int .i64 0, .int .i64 n, .func (.func G) #[] cap] w fun e w' =>
      e = .returned (.tuple #[]) ∧ Chg g (g + 1) w w' ∧ w'.ownsRow B 2 1 (.slice (some ⟨g, 0, none⟩) n c) n (intCells (tieList sc ot)) := by
  have HS := Lib.hid hsc
  have HF := Lib.hid hf
  clear hsc hf
  have hcap : n ≤ c ∧ c ≤ 9223372036854775807 := by have := Rd.own h; exact ⟨this.2.1, this.2.2.1⟩
  go_enter Try.func62, Try.ntmps62
  go_wp2
  go_loopw [8] (fun vi wr => ∃ (i : Nat) (L : List Int), vi = .int .i64 i ∧ 1 ≤ i ∧ i ≤ n ∧ SrtTo sc ot n i L ∧ Chg g (g + 1) w wr ∧ wr.ownsRow B 2 1 (.slice (some ⟨g, 0, none⟩) n c) n (intCells L)) (fun vi _ => n + 1 - (intOf vi).toNat)
  case atStart => exact ⟨1, upto n, rfl, by omega, by omega, SrtTo.one _ _ _, Chg.refl _ _ _, h⟩
  case round =>
    obtain ⟨i, L, rfl, hi1, hin, hsrt, hchg, hown⟩ := hrel
    have HR := Lib.hid hsrt
    have HC := Lib.hid hchg
    have HO := Lib.hid hown
    clear hsrt hchg hown h
    by_cases hlt : i < n
    · go_wp2
      obtain ⟨wo, rfl⟩ : ∃ wo : World, wo = wr := ⟨_, rfl⟩
      go_loopw [9] (fun vj w2 => ∃ (j : Nat) (L : List Int), vj = .int .i64 j ∧ j ≤ i ∧ InsAt sc ot n i j L ∧ Chg g (g + 1) w w2 ∧ w2.ownsRow B 2 1 (.slice (some ⟨g, 0, none⟩) n c) n (intCells L)) (fun vj _ => (intOf vj).toNat)
      case atStart => exact ⟨i, L, rfl, Nat.le_refl _, HR.out.begin hlt, HC.out, HO.out⟩
      case round =>
        clear HR HC HO L
        obtain ⟨j, L, rfl, hji, hins, hchg, hown⟩ := hrel
        have hI := Lib.hid hins
        have hC := Lib.hid hchg
        have hO := Lib.hid hown
        have HL := Lib.hid hins.len
        clear hins hchg
        by_cases hj0 : 0 < j
        · have mj := hI.out.perm.mem_iff (a := L.getD j 0)
          have mk := hI.out.perm.mem_iff (a := L.getD (j - 1) 0)
          have c0 := own_get hown j (by omega)
          have c1 := own_get hown (j - 1) (by omega)
          have f := fun q => hown.frozenAt q
          have hx : ∃ x : Nat, L.getD j 0 = (x : Int) ∧ x < n := by
            have := (upto_mem n (L.getD j 0)).1 (mj.1 (getD_mem (by rw [HL.out]; omega)))
            exact ⟨(L.getD j 0).toNat, by omega, by omega⟩
          have hy : ∃ y : Nat, L.getD (j - 1) 0 = (y : Int) ∧ y < n := by
            have := (upto_mem n (L.getD (j - 1) 0)).1 (mk.1 (getD_mem (by rw [HL.out]; omega)))
            exact ⟨(L.getD (j - 1) 0).toNat, by omega, by omega⟩
          obtain ⟨x, hx, hxn⟩ := hx
          obtain ⟨y, hy, hyn⟩ := hy
          rw [hx] at c0
          rw [hy] at c1
          have HX := Lib.hid hx
          have HY := Lib.hid hy
          have HCmp : Hid (better sc ot (x : Int) (y : Int) = decide (cmpV sc ot x y < 0)) := cmpV_better _ _ _ _
          have CC := Lib.hid (fun q => HF.out (wr.drewN q) (hC.out.drewN q) x y hxn hyn)
          clear mj mk hx hy hown
          generalize cmpV sc ot x y = cv at *
          by_cases hcv : cv < 0
          · have hb := HCmp.out
            rw [decide_eq_true hcv] at hb
            have HBt := Lib.hid hb
            clear hb
            go_wp2
            go_quiet (first | exact qQ (CC.out _))
            go_wp2
            have c0' : (wr.drewN nq).cell? ⟨g, j, none⟩ = some (.int .i64 x) := c0
            have c1' : (wr.drewN nq).cell? ⟨g, j - 1, none⟩ = some (.int .i64 y) := c1
            have f' : ∀ q, (wr.drewN nq).frozen? ⟨g, q, none⟩ = false := f
            have fj := f' j
            have fk := f' (j - 1)
            clear c0 c1 f f'
            have HW0 : Hid (Chg g (g + 1) w (wr.drewN nq)) := hC.out.drewN _
            have HW1 : Hid ((wr.drewN nq).ownsRow B 2 1 (.slice (some ⟨g, 0, none⟩) n c) n (intCells L)) := ownsRow_drewN hO.out _
            generalize wr.drewN nq = wq at *
            go_region
            all_goals go_wp2
            go_roundw
            case rel =>
              refine ⟨j - 1, swapAt L j, by congr 1; omega, by omega, hI.out.step hlt hji hj0 (by rw [HX.out, HY.out]; exact HBt.out), ?_, ?_⟩
              · exact ((HW0.out.drewN 1).set (p := ⟨g, j, none⟩) (.int .i64 y) (Nat.le_refl _) (Nat.lt_succ_self _)).set (p := ⟨g, j - 1, none⟩) (.int .i64 x) (Nat.le_refl _) (Nat.lt_succ_self _)
              · exact own_swap HW1.out j 1 x y HX.out HY.out
            case measure => simp [intOf]; omega
          · have hb := HCmp.out
            rw [decide_eq_false hcv] at hb
            have HBt := Lib.hid hb
            clear hb
            go_wp2
            go_quiet (first | exact qQ (CC.out _))
            go_wp2
            go_roundw
            case rel => exact ⟨i + 1, L, by go_num, by omega, by omega, hI.out.done hlt hji (.inr (by rw [HX.out, HY.out]; exact HBt.out)), hC.out.drewN _, ownsRow_drewN hO.out _⟩
            case measure => simp [intOf]; omega
        · obtain rfl : j = 0 := by omega
          go_wp2
          go_quiet (fail)
          go_wp2
          go_roundw
          case rel => exact ⟨i + 1, L, by go_num, by omega, by omega, hI.out.done hlt hji (.inl rfl), hC.out.drewN _, ownsRow_drewN hO.out _⟩
          case measure => simp [intOf]; omega
    · obtain rfl : i = n := by omega
      go_wp2
      go_end0
      exact ⟨rfl, HC.out, by rw [← HR.out.tie HS.out]; exact HO.out⟩

theorem stable_any (sc ot : List Int) (n g c B : Nat) (G : Nat) (cap : Array Value) (eg : ∀ args W, (callFunc G args).run Try.prog W = .ok (.enter G args) W) (w : World) (hn : n ≤ 16) (h1 : 1 ≤ n) (hsc : sc.length = n)
    (h : w.ownsRow B 2 1 (.slice (some ⟨g, 0, none⟩) n c) n (intCells (upto n)))
    (hf : ∀ W, Chg g (g + 1) w W → ∀ i k : Nat, i < n → k < n → Calls Try.prog G (#[.int .i64 i, .int .i64 k] ++ cap) W (RetQ W (.int .i64 (cmpV sc ot i k)))) :
    Calls Try.prog 56 #[.slice (some ⟨g, 0, none⟩) n c, .int .i64 n, .func (.func G) #[] cap] w fun e w' =>
      e = .returned (.tuple #[]) ∧ Chg g (g + 1) w w' ∧ w'.ownsRow B 2 1 (.slice (some ⟨g, 0, none⟩) n c) n (intCells (tieList sc ot)) := by
  have C := Lib.hid (insSort_any sc ot n g c B G cap eg w hn h1 hsc h hf)
  clear h hf hsc eg
  go_enter Try.func56, Try.ntmps56
  go_wp2
  go_loop [7, 8] (fun a b => a = .int .i64 0 ∧ b = .int .i64 20) (fun _ _ => 0)
  case atStart => exact ⟨rfl, rfl⟩
  case round =>
    obtain ⟨rfl, rfl⟩ := hrel
    go_wp2_with (fail)
    refine C.out.mono ?_
    rintro e w1 ⟨rfl, hc1, ho1⟩
    have HC := Lib.hid hc1
    have HO := Lib.hid ho1
    clear hc1 ho1
    go_wp2
    go_loop [6] (fun a => a = .int .i64 20) (fun _ => 0)
    case atStart => rfl
    case round =>
      obtain rfl := hrel
      go_wp2
      go_end0
      exact ⟨rfl, HC.out, HO.out⟩

theorem sortStable_any (sc ot : List Int) (n g c B : Nat) (G : Nat) (cap : Array Value) (eg : ∀ args W, (callFunc G args).run Try.prog W = .ok (.enter G args) W) (w : World) (hn : n ≤ 16) (h1 : 1 ≤ n) (hsc : sc.length = n)
    (h : w.ownsRow B 2 1 (.slice (some ⟨g, 0, none⟩) n c) n (intCells (upto n)))
    (hf : ∀ W, Chg g (g + 1) w W → ∀ i k : Nat, i < n → k < n → Calls Try.prog G (#[.int .i64 i, .int .i64 k] ++ cap) W (RetQ W (.int .i64 (cmpV sc ot i k)))) :
    Calls Try.prog 46 #[.slice (some ⟨g, 0, none⟩) n c, .func (.func G) #[] cap] w fun e w' =>
      e = .returned (.tuple #[]) ∧ Chg g (g + 1) w w' ∧ w'.ownsRow B 2 1 (.slice (some ⟨g, 0, none⟩) n c) n (intCells (tieList sc ot)) := by
  have C := Lib.hid (stable_any sc ot n g c B G cap eg w hn h1 hsc h hf)
  clear h hf hsc eg
  go_enter Try.func46, Try.ntmps46
  go_wp2_with (fail)
  refine C.out.mono ?_
  rintro e w1 ⟨rfl, hc1, ho1⟩
  have HC := Lib.hid hc1
  have HO := Lib.hid ho1
  clear hc1 ho1
  go_wp2
  go_end0
  exact ⟨rfl, HC.out, HO.out⟩

theorem arePlayers1_any (x : Int) (w : World) : Calls Try.prog 53 #[.int .i64 x] w (Ret w (.bool (!inB x 0 1000))) := by
  go_enter Try.func53, Try.ntmps53
  go_wp2_with (first | (go_at_call 45; refine (within_any _ _ _ _).mono ?_; rintro e w' ⟨rfl, rfl⟩))
  go_ret
  exact ⟨rfl, Below.refl _ _⟩

theorem TieOrder1_any (x : Int) (w : World) : Calls Try.prog 44 #[.int .i64 x] w (Ret w (.bool (!inB x 0 1000000))) := by
  go_enter Try.func44, Try.ntmps44
  go_wp2_with (first | (go_at_call 45; refine (within_any _ _ _ _).mono ?_; rintro e w' ⟨rfl, rfl⟩))
  go_ret
  exact ⟨rfl, Below.refl _ _⟩

theorem anyNot_all {α : Type} (p : α → Bool) (xs : List α) : (xs.any fun x => !p x) = !xs.all p := by
  induction xs with
  | nil => rfl
  | cons x xs ih => simp [ih]

theorem arePlayers_any (a : Option Addr) (n c : Nat) (sc : List Int) (w : World) (h : Ints w a n c sc) :
    Calls Try.prog 36 #[.slice a n c] w (Ret w (.bool (okScores sc))) := by
  have C := containsFuncI64_any (fun s => !inB s 0 1000) 53 #[] (enters_of Try.func53 (by kernel_rfl) rfl) a n c sc w h (fun W _ x _ => arePlayers1_any x W)
  rw [anyNot_all] at C
  have HC := Lib.hid C
  have HD : Hid (okScores sc = (decide (2 ≤ sc.length) && decide (sc.length ≤ 16) && sc.all fun s => inB s 0 1000)) := rfl
  have hl := Lib.hid h.len
  obtain ⟨hc, hb, _⟩ := h.at
  clear C h
  generalize (sc.all fun s => inB s 0 1000) = al at *
  by_cases h2 : 2 ≤ n
  · by_cases h16 : n ≤ 16
    · go_enter Try.func36, Try.ntmps36
      go_wp2_with (fail)
      refine HC.out.mono ?_
      rintro e w1 ⟨rfl, hb1⟩
      have HB := Lib.hid hb1
      clear hb1
      go_wp2
      go_ret
      exact ⟨ret_bool (by rw [HD.out, hl.out]; simp [h2, h16]), HB.out⟩
    · go_enter Try.func36, Try.ntmps36
      go_wp2
      go_ret
      exact ⟨ret_bool (by rw [HD.out, hl.out]; simp [h16]), Below.refl _ _⟩
  · go_enter Try.func36, Try.ntmps36
    go_wp2
    go_ret
    exact ⟨ret_bool (by rw [HD.out, hl.out]; simp [h2]), Below.refl _ _⟩

set_option maxHeartbeats 800000 in
theorem implTieOrder_any (a : Option Addr) (n c : Nat) (sc : List Int) (a' : Option Addr) (n' c' : Nat) (ot : List Int) (w : World) (h : Ints w a n c sc) (h' : Ints w a' n' c' ot) :
    Calls Try.prog 20 #[.slice a n c, .slice a' n' c'] w (RetI 2 w (tieRes sc ot)) := by
  have hl := Lib.hid h.len
  have hl' := Lib.hid h'.len
  obtain ⟨hc, hb, _⟩ := h.at
  obtain ⟨hc', hb', _⟩ := h'.at
  have HB0 : Hid (Below w.heap.size w ((w.alloc (.cells #[.slice a n c] 24)).alloc (.cells #[.slice a' n' c'] 24))) := ((Below.refl _ _).alloc (Nat.le_refl _) _).alloc (by simp) _
  have C1 := Lib.hid (fun W (hW : Below w.heap.size w W) => arePlayers_any a n c sc W (h.mono hW))
  have HRn : Hid (¬ (okScores sc = true ∧ ot.length = sc.length ∧ (ot.all fun s => inB s 0 1000000) = true) → tieRes sc ot = ([], false)) := fun hno => by unfold tieRes; rw [if_neg hno]
  rcases Bool.eq_false_or_eq_true (okScores sc) with hok | hok
  case inr =>
    have HR := Lib.hid (HRn.out (by rw [hok]; simp))
    clear h h' HRn
    go_enter Try.func20, Try.ntmps20
    go_wp2_with (fail)
    refine (C1.out _ HB0.out).mono ?_
    rintro e w1 ⟨rfl, hb1⟩
    have HB1 := Lib.hid (HB0.out.trans (hb1.mono HB0.out.size))
    clear hb1
    go_wp2
    go_ret2
    exact RetI.nil HR.out HB1.out
  have hln := okScores_len hok
  rw [hl.out] at hln
  by_cases hnn : n' = n
  case neg =>
    have HR := Lib.hid (HRn.out (by rw [hl.out, hl'.out]; exact fun e => hnn e.2.1))
    have hne : ((n' : Int) != n) = true := by simp; omega
    clear h h' HRn
    go_enter Try.func20, Try.ntmps20
    go_wp2_with (fail)
    refine (C1.out _ HB0.out).mono ?_
    rintro e w1 ⟨rfl, hb1⟩
    have HB1 := Lib.hid (HB0.out.trans (hb1.mono HB0.out.size))
    have x0 := cell_on hb1 (p := ⟨w.heap.size, 0, none⟩) (v := .slice a n c) (by simp)
    have x1 := cell_on hb1 (p := ⟨w.heap.size + 1, 0, none⟩) (v := .slice a' n' c') (by simp)
    clear hb1
    go_wp2
    go_ret2
    exact RetI.nil HR.out HB1.out
  subst hnn
  have C2 := Lib.hid (fun W (hW : Below w.heap.size w W) => by
    have C := containsFuncI64_any (fun s => !inB s 0 1000000) 44 #[] (enters_of Try.func44 (by kernel_rfl) rfl) a' n' c' ot W (h'.mono hW) (fun W _ x _ => TieOrder1_any x W)
    rw [anyNot_all] at C
    exact C)
  rcases Bool.eq_false_or_eq_true (ot.all fun s => inB s 0 1000000) with hal | hal
  case inr =>
    have HR := Lib.hid (HRn.out (by rw [hal]; simp))
    clear h h' HRn
    go_enter Try.func20, Try.ntmps20
    go_wp2_with (fail)
    refine (C1.out _ HB0.out).mono ?_
    rintro e w1 ⟨rfl, hb1⟩
    have HB1 := Lib.hid (HB0.out.trans (hb1.mono HB0.out.size))
    have x0 := cell_on hb1 (p := ⟨w.heap.size, 0, none⟩) (v := .slice a n' c) (by simp)
    have x1 := cell_on hb1 (p := ⟨w.heap.size + 1, 0, none⟩) (v := .slice a' n' c') (by simp)
    clear hb1
    go_wp2_with (fail)
    refine (C2.out _ HB1.out).mono ?_
    rintro e w2 ⟨rfl, hb2⟩
    have HB2 := Lib.hid (HB1.out.trans (hb2.mono HB1.out.size))
    clear hb2
    go_wp2
    go_ret2
    exact RetI.nil HR.out HB2.out
  have HR : Hid (tieRes sc ot = (tieList sc ot, true)) := by
    show tieRes sc ot = _
    unfold tieRes
    rw [if_pos ⟨hok, by rw [hl.out, hl'.out], hal⟩]
  have hg1 : Hid (∀ q, 0 ≤ sc.getD q 0 ∧ sc.getD q 0 ≤ 1000) := by
    intro q
    simp only [okScores, Bool.and_eq_true] at hok
    have := hok.2
    rw [List.all_eq_true] at this
    by_cases hq : q < sc.length
    · exact (inB_iff _ _ _).1 (this _ (getD_mem hq))
    · simp [List.getD_eq_getElem?_getD, List.getElem?_eq_none (show sc.length ≤ q by omega)]
  have hg2 : Hid (∀ q, 0 ≤ ot.getD q 0 ∧ ot.getD q 0 ≤ 1000000) := by
    intro q
    rw [List.all_eq_true] at hal
    by_cases hq : q < ot.length
    · exact (inB_iff _ _ _).1 (hal _ (getD_mem hq))
    · simp [List.getD_eq_getElem?_getD, List.getElem?_eq_none (show ot.length ≤ q by omega)]
  have HI1 := Lib.hid h
  have HI2 := Lib.hid h'
  clear h h' HRn
  go_enter Try.func20, Try.ntmps20
  go_wp2_with (fail)
  refine (C1.out _ HB0.out).mono ?_
  rintro e w1 ⟨rfl, hb1⟩
  have HB1 := Lib.hid (HB0.out.trans (hb1.mono HB0.out.size))
  have x0 := cell_on hb1 (p := ⟨w.heap.size, 0, none⟩) (v := .slice a n' c) (by simp)
  have x1 := cell_on hb1 (p := ⟨w.heap.size + 1, 0, none⟩) (v := .slice a' n' c') (by simp)
  have hs1 : w.heap.size + 2 ≤ w1.heap.size := by have := hb1.size; simp at this; omega
  clear hb1
  go_wp2_with (fail)
  refine (C2.out _ HB1.out).mono ?_
  rintro e w2 ⟨rfl, hb2⟩
  have HB2 := Lib.hid (HB1.out.trans (hb2.mono HB1.out.size))
  have y0 := cell_on hb2 x0
  have y1 := cell_on hb2 x1
  have hs2 : w.heap.size + 2 ≤ w2.heap.size := by have := hb2.size; omega
  clear hb2 x0 x1
  go_wp2_with (fail)
  refine (newDeck_any n' _ (by omega)).mono ?_
  rintro e w3 ⟨da, dc, rfl, hb3, ho3⟩
  obtain ⟨g, rfl⟩ := own_some ho3 (by omega)
  have hgb := own_block ho3
  have HB3 := Lib.hid (HB2.out.trans (hb3.mono HB2.out.size))
  have BX1 : ∀ W, Chg g (g + 1) w3 W → Boxed W w.heap.size sc := fun W hW => ⟨a, n', c, hW.cell (cell_on hb3 y0) (.inl (by dsimp only; omega)), HI1.out.mono (below_chg HB3.out HB3.out.size (by omega) hW)⟩
  have BX2 : ∀ W, Chg g (g + 1) w3 W → Boxed W (w.heap.size + 1) ot := fun W hW => ⟨a', n', c', hW.cell (cell_on hb3 y1) (.inl (by dsimp only; omega)), HI2.out.mono (below_chg HB3.out HB3.out.size (by omega) hW)⟩
  have CS := Lib.hid (sortStable_any sc ot n' g dc w2.heap.size 47 #[.pointer (some ⟨w.heap.size, 0, none⟩), .pointer (some ⟨w.heap.size + 1, 0, none⟩)] (enters_of Try.func47 (by kernel_rfl) rfl) w3 (by omega) (by omega) hl.out ho3
    (fun W hW i k hi hk => TieOrder2_any sc ot i k _ _ W (BX1 W hW) (BX2 W hW) (by rw [hl.out]; exact hi) (by rw [hl.out]; exact hk) (by rw [hl.out, hl'.out]) hg1.out hg2.out))
  clear y0 y1 hb3 ho3 BX1 BX2
  go_wp2_with (fail)
  refine CS.out.mono ?_
  rintro e w4 ⟨rfl, hc4, ho4⟩
  have HB4 := Lib.hid (below_chg HB3.out HB3.out.size (by omega) hc4)
  have HO4 := Lib.hid (ownsRow_low ho4 (show w.heap.size ≤ w2.heap.size by omega))
  clear hc4 ho4
  go_wp2
  go_ret2
  exact RetI.ok HR.out HB4.out HO4.out

end Go.Proofs.Ythakjkhceeocfaa
