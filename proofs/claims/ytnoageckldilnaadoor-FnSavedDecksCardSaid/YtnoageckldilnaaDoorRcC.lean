/- Reading a row of saved games: the two functions RecoverAll. -/
import Derived.Test.YtnoageckldilnaaDoorRcB
namespace Go.Proofs.YtnoageckldilnaaDoor
open Go.RowKit
set_option linter.unusedVariables false

/-- What is read of a text, at most k. -/
def rcv : Nat → List UInt8 → List AS × Nat
  | 0, _ => ([], 0)
  | k + 1, l => if ldN l = 0 then ([], 0) else (ldX l :: (rcv k (l.drop (ldN l))).1, ldN l + (rcv k (l.drop (ldN l))).2)
theorem rcv_zero (l : List UInt8) : rcv 0 l = ([], 0) := by unfold rcv; exact Eq.refl _
theorem rcv_none (k : Nat) (l : List UInt8) (h : ldN l = 0) : rcv k l = ([], 0) := by
  cases k with
  | zero => exact rcv_zero l
  | succ k => unfold rcv; rw [if_pos h]
theorem rcv_some (k : Nat) (l : List UInt8) (h : ldN l ≠ 0) : rcv (k + 1) l = (ldX l :: (rcv k (l.drop (ldN l))).1, ldN l + (rcv k (l.drop (ldN l))).2) := by
  rw [rcv]; rw [if_neg h]
theorem ldN_le (l : List UInt8) : ldN l ≤ l.length := by
  rw [ldN_eq]
  generalize ofL (ld2 l).1 = nm
  generalize (ld3 l).1 = xd
  generalize ld5 l = z
  by_cases hg : z.2.2 = false ∧ okSaved nm xd z.1 = true ∧ (storeL nm xd z.1).isPrefixOf l = true
  · rw [if_pos hg]
    exact (List.isPrefixOf_iff_prefix.1 hg.2.2).length_le
  · rw [if_neg hg]; omega
theorem rcv_small : ∀ (k : Nat) (l : List UInt8), (rcv k l).1.length ≤ k ∧ ∀ i, i < (rcv k l).1.length → mkW ((rcv k l).1.getD i as0) ≤ 1000 := by
  intro k
  induction k with
  | zero => intro l; rw [rcv_zero]; exact ⟨Nat.le_refl _, fun i hi => absurd hi (Nat.not_lt_zero _)⟩
  | succ k ih =>
    intro l
    by_cases h : ldN l = 0
    · rw [rcv_none _ l h]; exact ⟨Nat.zero_le _, fun i hi => absurd hi (Nat.not_lt_zero _)⟩
    · rw [rcv_some k l h]
      obtain ⟨h1, h2⟩ := ih (l.drop (ldN l))
      obtain ⟨s1, s2, s3⟩ := ldX_small l h
      generalize rcv k (l.drop (ldN l)) = r at *
      generalize ldX l = X at *
      dsimp only
      refine ⟨by simp; omega, fun i hi => ?_⟩
      cases i with
      | zero => simp only [List.getD_cons_zero]; unfold mkW; omega
      | succ i => simp only [List.getD_cons_succ]; exact h2 i (by simp at hi; omega)

theorem new3 (W : World) (u v x : Value) (T : TypeId) : ∀ j y, [u, v, x][j]? = some y → (W.alloc (.cells #[u, v, x] T)).cell? ((⟨W.heap.size, 0, none⟩ : Addr).add j) = some y := by
  intro j y h
  match j, h with
  | 0, h => simp at h; subst h; simp [Addr.add]
  | 1, h => simp at h; subst h; simp [Addr.add]
  | 2, h => simp at h; subst h; simp [Addr.add]
theorem one3 {u v x : Value} (h1 : u.oneCell' = true) (h2 : v.oneCell' = true) (h3 : x.oneCell' = true) : ∀ y ∈ [u, v, x], y.oneCell' = true := by
  intro y hy
  simp at hy
  rcases hy with rfl | rfl | rfl <;> assumption

/-- What RecoverAll leaves: a row that is owned. -/
def RcPost (Y : List AS × Nat) (w : World) (e : Ending) (w' : World) : Prop :=
  Below w.heap.size w w' ∧ ∃ g n c L ms, e = .returned (.tuple #[.slice (some ⟨g, 0, none⟩) n c, .int .i64 (Y.2 : Nat), .bool true]) ∧ OwnSv w.heap.size w'.heap.size w' (some ⟨g, 0, none⟩) n c L ms Y.1

set_option maxHeartbeats 1600000 in
set_option maxRecDepth 100000 in
theorem implRecoverAll_any (l : List UInt8) (Y : List AS × Nat) (hY : Y = rcv 8 l) (w : World) (hl : l.length ≤ 1048576) :
    Calls Tryd.prog 25 #[.string (ofL l)] w (RcPost Y w) := by
  have hs := ofL_sz l
  obtain ⟨N, hN⟩ : ∃ N : Nat → Nat, N = fun p => ldN (l.drop p) := ⟨_, rfl⟩
  obtain ⟨X, hX⟩ : ∃ X : Nat → AS, X = fun p => ldX (l.drop p) := ⟨_, rfl⟩
  obtain ⟨R, hR⟩ : ∃ R : Nat → Nat → List AS × Nat, R = fun k p => rcv k (l.drop p) := ⟨_, rfl⟩
  have HN0 : Hid (∀ p, N p = ldN (l.drop p)) := fun p => by rw [hN]
  have HX0 : Hid (∀ p, X p = ldX (l.drop p)) := fun p => by rw [hX]
  have HY0 : Hid (Y = R 8 0) := by show _ = _; rw [hY, hR]; rfl
  have HR0 : Hid (∀ p, R 0 p = ([], 0)) := fun p => by rw [hR]; exact rcv_zero _
  have HRn : Hid (∀ k p, N p = 0 → R k p = ([], 0)) := fun k p h => by rw [hR]; exact rcv_none _ _ (by rw [← HN0.out]; exact h)
  have HRs : Hid (∀ k p, N p ≠ 0 → R (k + 1) p = (X p :: (R k (p + N p)).1, N p + (R k (p + N p)).2)) := fun k p h => by
    have e := rcv_some k (l.drop p) (by rw [← HN0.out]; exact h)
    rw [← HN0.out p, ← HX0.out p, List.drop_drop] at e
    rw [hR]
    exact e
  have HLe : Hid (∀ p, N p ≤ l.length - p) := fun p => by rw [HN0.out, ← List.length_drop]; exact ldN_le _
  have HExt : Hid (∀ p, p ≤ l.length → (ofL l).extract p l.length = ofL (l.drop p)) := fun p hp => by rw [ofL_ext, List.take_of_length_le (Nat.le_refl _)]
  have CL : Hid (∀ p, p ≤ l.length → ∀ W, Calls Tryd.prog 52 #[.string ((ofL l).extract p l.length)] W fun e w' => Below W.heap.size W w' ∧ (N p = 0 → e = .returned (.tuple #[.agg #[.string ⟨#[]⟩, .slice none 0 0, .slice none 0 0], .int .i64 0, .bool false])) ∧
      (N p ≠ 0 → ∃ a0 n0 c0 a1 n1 c1 ts l1, e = .returned (.tuple #[.agg #[.string (X p).1, .slice a0 n0 c0, .slice a1 n1 c1], .int .i64 (N p : Nat), .bool true]) ∧ W.heap.size ≤ l1 ∧ l1 ≤ w'.heap.size ∧ w'.ownsRow W.heap.size 2 1 (.slice a0 n0 c0) n0 (intCells (X p).2.1) ∧ In W.heap.size l1 a0 ∧ OwnDS l1 w'.heap.size w' a1 n1 c1 ts (X p).2.2)) := fun p hp W => by
    have := load_any (l.drop p) W (by rw [List.length_drop]; omega)
    unfold LoadPost at this
    rw [← HN0.out p, ← HX0.out p, ← HExt.out p hp] at this
    exact this
  clear hN hX hR hY HN0 HX0 HExt
  rw [← hs] at CL HLe hl
  generalize ofL l = sx at *
  clear hs
  obtain ⟨i0, hii, hz0, hz1, hz2⟩ := info_parts infoSaved
  have hO : (w.alloc (.cells #[] 30)).ownsRow w.heap.size 30 3 (.slice (some ⟨w.heap.size, 0, none⟩) 0 0) 0 [] := World.ownsRow_made (e := 30) (size := 3) (base := w.heap.size) w #[] 0 (by simp) (Nat.zero_le _) (by simp)
  have HO0 : Hid (OwnSv w.heap.size (w.alloc (.cells #[] 30)).heap.size (w.alloc (.cells #[] 30)) (some ⟨w.heap.size, 0, none⟩) 0 0 (fun _ => (0, 0, 0)) [] []) :=
    ⟨hO, fun y hy => by obtain rfl := Option.some.inj hy; exact ⟨Nat.le_refl _, by simp⟩, rfl, fun i hi => absurd hi (Nat.not_lt_zero _), fun i hi => absurd hi (Nat.not_lt_zero _), fun i j _ hi => absurd hi (Nat.not_lt_zero _), fun i hi => absurd hi (Nat.not_lt_zero _)⟩
  clear hO
  go_enter Tryd.func25, Tryd.ntmps25
  go_wp2
  go_loopw [5, 6] (fun vo vp wr => ∃ (k p g c : Nat) (L : Nat → Nat × Nat × Nat) (ms : List MS) (E : List AS), k ≤ 8 ∧ p ≤ sx.size ∧ vp = .int .i64 p ∧ vo = .slice (some ⟨g, 0, none⟩) k c ∧ Hid (Y = (E ++ (R (8 - k) p).1, p + (R (8 - k) p).2)) ∧ Below w.heap.size w wr ∧ OwnSv w.heap.size wr.heap.size wr (some ⟨g, 0, none⟩) k c L ms E) (fun _ vp _ => sx.size - (intOf vp).toNat)
  case atStart => exact ⟨0, 0, w.heap.size, 0, _, [], [], by omega, Nat.zero_le _, rfl, rfl, by show _ = _; rw [HY0.out]; simp, (Below.refl _ _).alloc (Nat.le_refl _) _, HO0.out⟩
  case round =>
    obtain ⟨k, p, g, c, L, ms, E, hk, hp, rfl, rfl, HY, hb, ho⟩ := hrel
    have HB := Lib.hid hb
    have HO := Lib.hid ho
    have hsz := hb.size
    clear hb ho
    by_cases hlt : k < 8
    · have C := Lib.hid (CL.out p hp)
      have hps : ((p : Nat) : Int) ≤ ((sx.size : Nat) : Int) := by omega
      have hp0 : (0 : Int) ≤ ((p : Nat) : Int) := by omega
      go_wp2_with (fail)
      refine (C.out _).mono ?_
      rintro e w9 ⟨hb9, hbad, hgood⟩
      have hs9 := hb9.size
      by_cases h0 : N p = 0
      · obtain rfl := hbad h0
        have HYn : Hid (Y = (E, p)) := by
          show _ = _
          rw [HY.out, HRn.out _ _ h0]
          simp
        have HB9 := Lib.hid (HB.out.trans (hb9.mono hsz))
        have HO9 := Lib.hid ((HO.out.below hb9).wide (hi' := w9.heap.size) hs9)
        clear hbad hgood hb9 h0 C
        go_wp2
        refine bodyPost_ret (v := .tuple #[.slice (some ⟨g, 0, none⟩) k c, .int .i64 (p : Nat), .bool true]) (by simp [results, Tryd.results25, go_sem]) rfl ⟨?_, g, k, c, L, ms, by rw [HYn.out], ?_⟩
        · exact HB9.out.alloc (by have := HB9.out.size; omega) _
        · rw [HYn.out]
          exact (HO9.out.below ((Below.refl _ _).alloc (Nat.le_refl _) _)).wide (by simp)
      · obtain ⟨a0, n0, c0, a1, n1, c1, ts, l1, rfl, m1, m2, od, oi, oD⟩ := hgood h0
        have hNp : 0 < N p := by omega
        have hle := HLe.out p
        have HYn : Hid (Y = ((E ++ [X p]) ++ (R (8 - (k + 1)) (p + N p)).1, (p + N p) + (R (8 - (k + 1)) (p + N p)).2)) := by
          show _ = _
          have e : 8 - k = (8 - (k + 1)) + 1 := by omega
          rw [HY.out, e, HRs.out _ _ h0]
          simp [Nat.add_assoc]
        have HS9 : Hid (SavR wr.heap.size l1 w9.heap.size w9 ((X p).1, (a0, n0, c0), (a1, n1, c1)) (X p)) := ⟨rfl, od, oi, ⟨ts, oD⟩, ⟨m1, m2⟩⟩
        have HO9 := Lib.hid (HO.out.below hb9)
        have hA : Below w9.heap.size w9 (w9.alloc (.cells #[.string (X p).1, .slice a0 n0 c0, .slice a1 n1 c1] 30)) := (Below.refl _ _).alloc (Nat.le_refl _) _
        have hAs : (w9.alloc (.cells #[.string (X p).1, .slice a0 n0 c0, .slice a1 n1 c1] 30)).heap.size = w9.heap.size + 1 := by simp
        have HB9 := Lib.hid ((HB.out.trans (hb9.mono hsz)).trans (hA.mono (by omega)))
        have HSA := Lib.hid (HS9.out.below hA)
        have HOA := Lib.hid (HO9.out.below hA)
        have b0 : (w9.alloc (.cells #[.string (X p).1, .slice a0 n0 c0, .slice a1 n1 c1] 30)).cell? ⟨w9.heap.size, 0, none⟩ = some (.string (X p).1) := by go_simp
        have b1 : (w9.alloc (.cells #[.string (X p).1, .slice a0 n0 c0, .slice a1 n1 c1] 30)).cell? ⟨w9.heap.size, 1, none⟩ = some (.slice a0 n0 c0) := by go_simp
        have b2 : (w9.alloc (.cells #[.string (X p).1, .slice a0 n0 c0, .slice a1 n1 c1] 30)).cell? ⟨w9.heap.size, 2, none⟩ = some (.slice a1 n1 c1) := by go_simp
        have hw1 : IntKind.i64.wrap ((p : Int) + (N p : Nat)) = ((p + N p : Nat) : Int) := by rw [IntWalk.i64_in _ (by omega)]; omega
        have hml := HO.out.ml
        have hnz : ¬ ((N p : Nat) : Int) = 0 := by omega
        have hnb : (((N p : Nat) : Int) == 0) = false := by simp only [beq_eq_false_iff_ne, ne_eq]; omega
        clear hbad hgood hb9 C od oi oD h0 hA HS9 HO9 HO HB HY
        generalize hXp : X p = x at *
        generalize hNN : N p = np at *
        have HXp := Lib.hid hXp
        clear hXp hNN
        have HN3 : Hid (∀ j y, [Value.string x.1, .slice a0 n0 c0, .slice a1 n1 c1][j]? = some y → ((w9.alloc (.cells #[.string x.1, .slice a0 n0 c0, .slice a1 n1 c1] 30)).alloc (.cells #[.string x.1, .slice a0 n0 c0, .slice a1 n1 c1] 30)).cell? ((⟨w9.heap.size + 1, 0, none⟩ : Addr).add j) = some y) := by
          have := new3 (w9.alloc (.cells #[.string x.1, .slice a0 n0 c0, .slice a1 n1 c1] 30)) (.string x.1) (.slice a0 n0 c0) (.slice a1 n1 c1) 30
          rw [hAs] at this
          exact this
        go_wp2_with (at_builtin; go_must (refine wpList_append_lies _ rfl _ _ 39 rfl w.heap.size 30 i0 _ 3 64 Tryd.underlying39 hii hz0 hz1 hz2 rfl (by omega) (.slice (some ⟨g, 0, none⟩) k c) k (svCells ms) rfl (HOA.out.row.alloc _) ⟨w9.heap.size + 1, 0, none⟩ 1 1 [.string x.1, .slice a0 n0 c0, .slice a1 n1 c1] rfl rfl HN3.out (one3 rfl rfl rfl) (by omega) (by unfold maxLen; omega) (by omega) (by simp; omega) (w9.heap.size + 1 + 1) (by simp) ?_); intro gg cap w10 hown1 hg1 hat hlt10; have HOn := Lib.hid (HOA.out.snoc HSA.out hsz (Nat.le_refl _) (by simp) hown1 hg1 (by rw [hAs]; exact hat) (Nat.le_refl _)); have HBn := Lib.hid (below_app HB9.out (by rw [hAs]; omega) hg1 HOA.out.row); clear hown1 hg1 hat HN3)
        go_roundw
        case rel => exact ⟨k + 1, p + np, gg, cap, _, _, _, by omega, by omega, by first | rfl | go_num, by first | rfl | go_num, HYn.out, HBn.out, HOn.out⟩
        case measure => simp [intOf]; omega
    · obtain rfl : k = 8 := by omega
      have HYn : Hid (Y = (E, p)) := by
        show _ = _
        rw [HY.out]
        rw [show 8 - 8 = 0 from rfl, HR0.out]
        simp
      clear HY
      go_wp2
      refine bodyPost_ret (v := .tuple #[.slice (some ⟨g, 0, none⟩) 8 c, .int .i64 (p : Nat), .bool true]) (by simp [results, Tryd.results25, go_sem]) rfl ⟨HB.out, g, 8, c, L, ms, by rw [HYn.out], ?_⟩
      rw [HYn.out]
      exact HO.out

set_option maxHeartbeats 1600000 in
set_option maxRecDepth 100000 in
theorem specRecoverAll_any (l : List UInt8) (Y : List AS × Nat) (hY : Y = rcv 8 l) (w : World) (hl : l.length ≤ 1048576) :
    Calls Tryd.prog 30 #[.string (ofL l)] w (RcPost Y w) := by
  have hs := ofL_sz l
  obtain ⟨N, hN⟩ : ∃ N : Nat → Nat, N = fun p => ldN (l.drop p) := ⟨_, rfl⟩
  obtain ⟨X, hX⟩ : ∃ X : Nat → AS, X = fun p => ldX (l.drop p) := ⟨_, rfl⟩
  obtain ⟨R, hR⟩ : ∃ R : Nat → Nat → List AS × Nat, R = fun k p => rcv k (l.drop p) := ⟨_, rfl⟩
  have HN0 : Hid (∀ p, N p = ldN (l.drop p)) := fun p => by rw [hN]
  have HX0 : Hid (∀ p, X p = ldX (l.drop p)) := fun p => by rw [hX]
  have HY0 : Hid (Y = R 8 0) := by show _ = _; rw [hY, hR]; rfl
  have HR0 : Hid (∀ p, R 0 p = ([], 0)) := fun p => by rw [hR]; exact rcv_zero _
  have HRn : Hid (∀ k p, N p = 0 → R k p = ([], 0)) := fun k p h => by rw [hR]; exact rcv_none _ _ (by rw [← HN0.out]; exact h)
  have HRs : Hid (∀ k p, N p ≠ 0 → R (k + 1) p = (X p :: (R k (p + N p)).1, N p + (R k (p + N p)).2)) := fun k p h => by
    have e := rcv_some k (l.drop p) (by rw [← HN0.out]; exact h)
    rw [← HN0.out p, ← HX0.out p, List.drop_drop] at e
    rw [hR]
    exact e
  have HLe : Hid (∀ p, N p ≤ l.length - p) := fun p => by rw [HN0.out, ← List.length_drop]; exact ldN_le _
  have HExt : Hid (∀ p, p ≤ l.length → (ofL l).extract p l.length = ofL (l.drop p)) := fun p hp => by rw [ofL_ext, List.take_of_length_le (Nat.le_refl _)]
  have CL : Hid (∀ p, p ≤ l.length → ∀ W, Calls Tryd.prog 58 #[.string ((ofL l).extract p l.length)] W fun e w' => Below W.heap.size W w' ∧ (N p = 0 → e = .returned (.tuple #[.agg #[.string ⟨#[]⟩, .slice none 0 0, .slice none 0 0], .int .i64 0])) ∧
      (N p ≠ 0 → ∃ a0 n0 c0 a1 n1 c1 ts l1, e = .returned (.tuple #[.agg #[.string (X p).1, .slice a0 n0 c0, .slice a1 n1 c1], .int .i64 (N p : Nat)]) ∧ W.heap.size ≤ l1 ∧ l1 ≤ w'.heap.size ∧ w'.ownsRow W.heap.size 2 1 (.slice a0 n0 c0) n0 (intCells (X p).2.1) ∧ In W.heap.size l1 a0 ∧ OwnDS l1 w'.heap.size w' a1 n1 c1 ts (X p).2.2)) := fun p hp W => by
    have := l07Begin_any (l.drop p) (N p) (HN0.out p) (X p) (HX0.out p) W (by rw [List.length_drop]; omega)
    unfold BegPost at this
    rw [← HExt.out p hp] at this
    exact this
  clear hN hX hR hY HN0 HX0 HExt
  rw [← hs] at CL HLe hl
  generalize ofL l = sx at *
  clear hs
  obtain ⟨i0, hii, hz0, hz1, hz2⟩ := info_parts infoSaved
  have hO : (w.alloc (.cells #[] 30)).ownsRow w.heap.size 30 3 (.slice (some ⟨w.heap.size, 0, none⟩) 0 0) 0 [] := World.ownsRow_made (e := 30) (size := 3) (base := w.heap.size) w #[] 0 (by simp) (Nat.zero_le _) (by simp)
  have HO0 : Hid (OwnSv w.heap.size (w.alloc (.cells #[] 30)).heap.size (w.alloc (.cells #[] 30)) (some ⟨w.heap.size, 0, none⟩) 0 0 (fun _ => (0, 0, 0)) [] []) :=
    ⟨hO, fun y hy => by obtain rfl := Option.some.inj hy; exact ⟨Nat.le_refl _, by simp⟩, rfl, fun i hi => absurd hi (Nat.not_lt_zero _), fun i hi => absurd hi (Nat.not_lt_zero _), fun i j _ hi => absurd hi (Nat.not_lt_zero _), fun i hi => absurd hi (Nat.not_lt_zero _)⟩
  clear hO
  go_enter Tryd.func30, Tryd.ntmps30
  go_wp2
  go_loopw [5, 6] (fun vo vp wr => ∃ (k p g c : Nat) (L : Nat → Nat × Nat × Nat) (ms : List MS) (E : List AS), k ≤ 8 ∧ p ≤ sx.size ∧ vp = .int .i64 p ∧ vo = .slice (some ⟨g, 0, none⟩) k c ∧ Hid (Y = (E ++ (R (8 - k) p).1, p + (R (8 - k) p).2)) ∧ Below w.heap.size w wr ∧ OwnSv w.heap.size wr.heap.size wr (some ⟨g, 0, none⟩) k c L ms E) (fun _ vp _ => sx.size - (intOf vp).toNat)
  case atStart => exact ⟨0, 0, w.heap.size, 0, _, [], [], by omega, Nat.zero_le _, rfl, rfl, by show _ = _; rw [HY0.out]; simp, (Below.refl _ _).alloc (Nat.le_refl _) _, HO0.out⟩
  case round =>
    obtain ⟨k, p, g, c, L, ms, E, hk, hp, rfl, rfl, HY, hb, ho⟩ := hrel
    have HB := Lib.hid hb
    have HO := Lib.hid ho
    have hsz := hb.size
    clear hb ho
    by_cases hlt : k < 8
    · have C := Lib.hid (CL.out p hp)
      have hps : ((p : Nat) : Int) ≤ ((sx.size : Nat) : Int) := by omega
      have hp0 : (0 : Int) ≤ ((p : Nat) : Int) := by omega
      go_wp2_with (fail)
      refine (C.out _).mono ?_
      rintro e w9 ⟨hb9, hbad, hgood⟩
      have hs9 := hb9.size
      by_cases h0 : N p = 0
      · obtain rfl := hbad h0
        have HYn : Hid (Y = (E, p)) := by
          show _ = _
          rw [HY.out, HRn.out _ _ h0]
          simp
        have HB9 := Lib.hid (HB.out.trans (hb9.mono hsz))
        have HO9 := Lib.hid ((HO.out.below hb9).wide (hi' := w9.heap.size) hs9)
        clear hbad hgood hb9 h0 C
        go_wp2
        refine bodyPost_ret (v := .tuple #[.slice (some ⟨g, 0, none⟩) k c, .int .i64 (p : Nat), .bool true]) (by simp [results, Tryd.results30, go_sem]) rfl ⟨?_, g, k, c, L, ms, by rw [HYn.out], ?_⟩
        · exact HB9.out.alloc (by have := HB9.out.size; omega) _
        · rw [HYn.out]
          exact (HO9.out.below ((Below.refl _ _).alloc (Nat.le_refl _) _)).wide (by simp)
      · obtain ⟨a0, n0, c0, a1, n1, c1, ts, l1, rfl, m1, m2, od, oi, oD⟩ := hgood h0
        have hNp : 0 < N p := by omega
        have hle := HLe.out p
        have HYn : Hid (Y = ((E ++ [X p]) ++ (R (8 - (k + 1)) (p + N p)).1, (p + N p) + (R (8 - (k + 1)) (p + N p)).2)) := by
          show _ = _
          have e : 8 - k = (8 - (k + 1)) + 1 := by omega
          rw [HY.out, e, HRs.out _ _ h0]
          simp [Nat.add_assoc]
        have HS9 : Hid (SavR wr.heap.size l1 w9.heap.size w9 ((X p).1, (a0, n0, c0), (a1, n1, c1)) (X p)) := ⟨rfl, od, oi, ⟨ts, oD⟩, ⟨m1, m2⟩⟩
        have HO9 := Lib.hid (HO.out.below hb9)
        have hA : Below w9.heap.size w9 (w9.alloc (.cells #[.string (X p).1, .slice a0 n0 c0, .slice a1 n1 c1] 30)) := (Below.refl _ _).alloc (Nat.le_refl _) _
        have hAs : (w9.alloc (.cells #[.string (X p).1, .slice a0 n0 c0, .slice a1 n1 c1] 30)).heap.size = w9.heap.size + 1 := by simp
        have HB9 := Lib.hid ((HB.out.trans (hb9.mono hsz)).trans (hA.mono (by omega)))
        have HSA := Lib.hid (HS9.out.below hA)
        have HOA := Lib.hid (HO9.out.below hA)
        have b0 : (w9.alloc (.cells #[.string (X p).1, .slice a0 n0 c0, .slice a1 n1 c1] 30)).cell? ⟨w9.heap.size, 0, none⟩ = some (.string (X p).1) := by go_simp
        have b1 : (w9.alloc (.cells #[.string (X p).1, .slice a0 n0 c0, .slice a1 n1 c1] 30)).cell? ⟨w9.heap.size, 1, none⟩ = some (.slice a0 n0 c0) := by go_simp
        have b2 : (w9.alloc (.cells #[.string (X p).1, .slice a0 n0 c0, .slice a1 n1 c1] 30)).cell? ⟨w9.heap.size, 2, none⟩ = some (.slice a1 n1 c1) := by go_simp
        have hw1 : IntKind.i64.wrap ((p : Int) + (N p : Nat)) = ((p + N p : Nat) : Int) := by rw [IntWalk.i64_in _ (by omega)]; omega
        have hml := HO.out.ml
        have hnz : ¬ ((N p : Nat) : Int) = 0 := by omega
        have hnb : (((N p : Nat) : Int) == 0) = false := by simp only [beq_eq_false_iff_ne, ne_eq]; omega
        clear hbad hgood hb9 C od oi oD h0 hA HS9 HO9 HO HB HY
        generalize hXp : X p = x at *
        generalize hNN : N p = np at *
        have HXp := Lib.hid hXp
        clear hXp hNN
        have HN3 : Hid (∀ j y, [Value.string x.1, .slice a0 n0 c0, .slice a1 n1 c1][j]? = some y → ((w9.alloc (.cells #[.string x.1, .slice a0 n0 c0, .slice a1 n1 c1] 30)).alloc (.cells #[.string x.1, .slice a0 n0 c0, .slice a1 n1 c1] 30)).cell? ((⟨w9.heap.size + 1, 0, none⟩ : Addr).add j) = some y) := by
          have := new3 (w9.alloc (.cells #[.string x.1, .slice a0 n0 c0, .slice a1 n1 c1] 30)) (.string x.1) (.slice a0 n0 c0) (.slice a1 n1 c1) 30
          rw [hAs] at this
          exact this
        go_wp2_with (at_builtin; go_must (refine wpList_append_lies _ rfl _ _ 39 rfl w.heap.size 30 i0 _ 3 64 Tryd.underlying39 hii hz0 hz1 hz2 rfl (by omega) (.slice (some ⟨g, 0, none⟩) k c) k (svCells ms) rfl (HOA.out.row.alloc _) ⟨w9.heap.size + 1, 0, none⟩ 1 1 [.string x.1, .slice a0 n0 c0, .slice a1 n1 c1] rfl rfl HN3.out (one3 rfl rfl rfl) (by omega) (by unfold maxLen; omega) (by omega) (by simp; omega) (w9.heap.size + 1 + 1) (by simp) ?_); intro gg cap w10 hown1 hg1 hat hlt10; have HOn := Lib.hid (HOA.out.snoc HSA.out hsz (Nat.le_refl _) (by simp) hown1 hg1 (by rw [hAs]; exact hat) (Nat.le_refl _)); have HBn := Lib.hid (below_app HB9.out (by rw [hAs]; omega) hg1 HOA.out.row); clear hown1 hg1 hat HN3)
        go_roundw
        case rel => exact ⟨k + 1, p + np, gg, cap, _, _, _, by omega, by omega, by first | rfl | go_num, by first | rfl | go_num, HYn.out, HBn.out, HOn.out⟩
        case measure => simp [intOf]; omega
    · obtain rfl : k = 8 := by omega
      have HYn : Hid (Y = (E, p)) := by
        show _ = _
        rw [HY.out]
        rw [show 8 - 8 = 0 from rfl, HR0.out]
        simp
      clear HY
      go_wp2
      refine bodyPost_ret (v := .tuple #[.slice (some ⟨g, 0, none⟩) 8 c, .int .i64 (p : Nat), .bool true]) (by simp [results, Tryd.results30, go_sem]) rfl ⟨HB.out, g, 8, c, L, ms, by rw [HYn.out], ?_⟩
      rw [HYn.out]
      exact HO.out

end Go.Proofs.YtnoageckldilnaaDoor
