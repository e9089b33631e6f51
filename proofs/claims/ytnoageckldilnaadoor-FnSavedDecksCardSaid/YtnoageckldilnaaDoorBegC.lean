/- Reading what is stored: the reference's l07Begin. -/
import Derived.Test.YtnoageckldilnaaDoorBegB
import Derived.Deep.RegionHeld3
namespace Go.Proofs.YtnoageckldilnaaDoor
open Go.RowKit
set_option linter.unusedVariables false

theorem Chg.of_set2 {w : World} {b j : Nat} {v : Value} : Chg b (b + 1) w (w.setCell ⟨b, j, none⟩ v) := Chg.of_set v
/-- Behind a round of the reference: one die more. -/
theorem beg_step (l : List UInt8) (w2 wr w9 w10 : World) (O k p : Nat) (a : Option Addr) (c : Nat) (ss : List Spot) (gd dl cd g9 c9 gg cap : Nat) (nm : ByteArray) (xd : List Int) (xss : List (List Int)) (ys : List Int) (hO1 : O < w2.heap.size) (hO2 : gd < w2.heap.size)
    (hP : wr.cell? ⟨O, 0, none⟩ = some (.string nm) ∧ wr.cell? ⟨O, 1, none⟩ = some (.slice (some ⟨gd, 0, none⟩) dl cd) ∧ wr.cell? ⟨O, 2, none⟩ = some (.slice a k c) ∧ ∀ j, wr.frozen? ⟨O, j, none⟩ = false)
    (hD : OwnDS w2.heap.size wr.heap.size wr a k c ss xss) (hO : wr.ownsRow (O + 1) 2 1 (.slice (some ⟨gd, 0, none⟩) dl cd) dl (intCells xd)) (hC : Chg O (O + 1) w2 wr) (hz : w2.heap.size ≤ wr.heap.size)
    (h9B : Below wr.heap.size wr w9) (hyl : ys.length = bAt l p) (h9O : w9.ownsRow wr.heap.size 2 1 (.slice (some ⟨g9, 0, none⟩) (bAt l p) c9) (bAt l p) (intCells ys))
    (hown : w10.ownsRow w2.heap.size 82 1 (.slice (some ⟨gg, 0, none⟩) (k + 1) cap) (k + 1) (spotCells ss ++ [.slice (some ⟨g9, 0, none⟩) (bAt l p) c9]))
    (hg : (w9.alloc (.cells #[.slice (some ⟨g9, 0, none⟩) (bAt l p) c9] 82)).grownBy w10 (Value.slice a k c).ownBlock) (hat : (Value.slice a k c).ownBlock = some gg ∨ gg = w9.heap.size + 1) :
    Hid ((w10.setCell ⟨O, 2, none⟩ (.slice (some ⟨gg, 0, none⟩) (k + 1) cap)).cell? ⟨O, 0, none⟩ = some (.string nm) ∧ (w10.setCell ⟨O, 2, none⟩ (.slice (some ⟨gg, 0, none⟩) (k + 1) cap)).cell? ⟨O, 1, none⟩ = some (.slice (some ⟨gd, 0, none⟩) dl cd) ∧ (w10.setCell ⟨O, 2, none⟩ (.slice (some ⟨gg, 0, none⟩) (k + 1) cap)).cell? ⟨O, 2, none⟩ = some (.slice (some ⟨gg, 0, none⟩) (k + 1) cap) ∧ ∀ j, (w10.setCell ⟨O, 2, none⟩ (.slice (some ⟨gg, 0, none⟩) (k + 1) cap)).frozen? ⟨O, j, none⟩ = false) ∧
    OwnDS w2.heap.size (w10.setCell ⟨O, 2, none⟩ (.slice (some ⟨gg, 0, none⟩) (k + 1) cap)).heap.size (w10.setCell ⟨O, 2, none⟩ (.slice (some ⟨gg, 0, none⟩) (k + 1) cap)) (some ⟨gg, 0, none⟩) (k + 1) cap (ss ++ [(some ⟨g9, 0, none⟩, bAt l p, c9)]) (xss ++ [ys]) ∧
    (w10.setCell ⟨O, 2, none⟩ (.slice (some ⟨gg, 0, none⟩) (k + 1) cap)).ownsRow (O + 1) 2 1 (.slice (some ⟨gd, 0, none⟩) dl cd) dl (intCells xd) ∧
    Chg O (O + 1) w2 (w10.setCell ⟨O, 2, none⟩ (.slice (some ⟨gg, 0, none⟩) (k + 1) cap)) ∧ w2.heap.size ≤ (w10.setCell ⟨O, 2, none⟩ (.slice (some ⟨gg, 0, none⟩) (k + 1) cap)).heap.size := by
  have hA : Below w9.heap.size w9 (w9.alloc (.cells #[.slice (some ⟨g9, 0, none⟩) (bAt l p) c9] 82)) := (Below.refl _ _).alloc (Nat.le_refl _) _
  have hAs : (w9.alloc (.cells #[.slice (some ⟨g9, 0, none⟩) (bAt l p) c9] 82)).heap.size = w9.heap.size + 1 := by simp
  have hIn : In w2.heap.size wr.heap.size a := fun x hx => by
    subst hx
    exact hD.p.out.lt _ rfl
  have hcg := Chg.of_grown (n := k) (c := c) hIn hg
  have hs9 := h9B.size
  have hs10 := hcg.size
  obtain ⟨p0, p1, p2, pf⟩ := hP
  have hgd := (hO.lt gd rfl).1
  have cc : ∀ j v, wr.cell? ⟨O, j, none⟩ = some v → w10.cell? ⟨O, j, none⟩ = some v := fun j v h => hcg.cell (cell_on hA (cell_on h9B h)) (.inl (by dsimp only; omega))
  have cf : ∀ j, w10.frozen? ⟨O, j, none⟩ = false := fun j =>
    ((World.frozen?_of_block (hcg.block O (by omega) (.inl (by omega)))).trans (hA.frozen (p := ⟨O, j, none⟩) (by dsimp only; omega))).trans ((h9B.frozen (p := ⟨O, j, none⟩) (by dsimp only; omega)).trans (pf j))
  have c0 := cc 0 _ p0
  have c1 := cc 1 _ p1
  have c2 := cc 2 _ p2
  have hD9 := hD.below h9B
  have h9O' : w9.ownsRow wr.heap.size 2 1 (spotV (some ⟨g9, 0, none⟩, bAt l p, c9)) ys.length (intCells ys) := by rw [hyl]; exact h9O
  have hS := OwnDS.snoc (s := (some ⟨g9, 0, none⟩, bAt l p, c9)) (lo2 := wr.heap.size) (hi' := w10.heap.size) hD9 h9O' hz (Nat.le_refl _) (by omega) (by omega) hown hg hat (Nat.le_refl _)
  have hdeck : w10.ownsRow (O + 1) 2 1 (.slice (some ⟨gd, 0, none⟩) dl cd) dl (intCells xd) :=
    own_chg (ownsRow_below (ownsRow_below hO h9B) hA) hcg (fun x hx => by cases hx; exact ⟨Nat.le_refl _, Nat.lt_succ_self _⟩ : In gd (gd + 1) _) (.inl (by omega))
  refine ⟨⟨?_, ?_, ?_, fun j => ?_⟩, ?_, ?_, ?_, ?_⟩
  · clear c1 c2; go_simp
  · clear c0 c2; go_simp
  · go_simp
  · go_simp
  · exact (hS.set _ (.inl (by dsimp only; omega)) _).wide (by simp)
  · exact ownsRow_setCell_other hdeck (fun y hy => by obtain rfl := Option.some.inj hy; dsimp only; omega) _
  · exact (((hC.trans (Chg.of_below h9B (Nat.le_refl _))).trans (Chg.of_below hA (Nat.le_refl _))).outer hcg (Nat.le_refl _)).trans Chg.of_set2
  · simp; omega

/-- What the reference's reading leaves. -/
def BegPost (X : AS) (N : Nat) (w : World) (e : Ending) (w' : World) : Prop :=
  Below w.heap.size w w' ∧ (N = 0 → e = .returned (.tuple #[.agg #[.string ⟨#[]⟩, .slice none 0 0, .slice none 0 0], .int .i64 0])) ∧
  (N ≠ 0 → ∃ a0 n0 c0 a1 n1 c1 ts l1, e = .returned (.tuple #[.agg #[.string X.1, .slice a0 n0 c0, .slice a1 n1 c1], .int .i64 (N : Nat)]) ∧ w.heap.size ≤ l1 ∧ l1 ≤ w'.heap.size ∧
    w'.ownsRow w.heap.size 2 1 (.slice a0 n0 c0) n0 (intCells X.2.1) ∧ In w.heap.size l1 a0 ∧ OwnDS l1 w'.heap.size w' a1 n1 c1 ts X.2.2)

set_option maxHeartbeats 1600000 in
set_option maxRecDepth 100000 in
theorem l07Begin_any (l : List UInt8) (N : Nat) (hN : N = ldN l) (X : AS) (hX : X = ldX l) (w : World) (hl : l.length ≤ 1048576) :
    Calls Tryd.prog 58 #[.string (ofL l)] w (BegPost X N w) := by
  have hs := ofL_sz l
  have hat := ofL_at l
  have hR0 : ResAt (w.alloc (.cells #[.string ⟨#[]⟩, .slice none 0 0, .slice none 0 0] 30)) w.heap.size := ⟨by go_simp, by go_simp, by go_simp, fun j => by go_simp⟩
  have hB0 : Below w.heap.size w (w.alloc (.cells #[.string ⟨#[]⟩, .slice none 0 0, .slice none 0 0] 30)) := (Below.refl _ _).alloc (Nat.le_refl _) _
  have HR0 := Lib.hid hR0
  have HB0 := Lib.hid hB0
  have HAt := Lib.hid hat
  have HSz := Lib.hid hs
  clear hR0 hB0 hat
  by_cases h5 : l.length < 5
  · have HN0 : Hid (N = 0) := hN.trans (ld_short h5)
    have hlt : (ofL l).size < 5 := by omega
    clear hs hl h5 hN hX
    generalize ofL l = sx at *
    go_enter Tryd.func58, Tryd.ntmps58
    go_wp2
    refine bodyPost_ret (v := .tuple #[.agg #[.string ⟨#[]⟩, .slice none 0 0, .slice none 0 0], .int .i64 0]) (by simp [results, Tryd.results58, go_sem]) rfl ⟨?_, fun _ => rfl, fun q => absurd HN0.out q⟩
    repeat (first | exact HB0.out | refine Below.setCell ?_ (by simp) _)
  · by_cases h6 : l.length < 5 + bAt l 4
    · have HN0 : Hid (N = 0) := hN.trans (ld_name_short (by omega) h6)
      have hb := bAt_lt l 4
      have hlt4 : 4 < (ofL l).size := by omega
      have hx : ∀ h : 4 < (ofL l).size, (ofL l)[4].toNat = bAt l 4 := fun h => HAt.out 4 h
      have hw1 : IntKind.i64.wrap (5 + (bAt l 4 : Int)) = 5 + (bAt l 4 : Int) := IntWalk.i64_in _ (by omega)
      have hlong : ((ofL l).size : Int) < 5 + (bAt l 4 : Int) := by omega
      have hge : ¬ ((ofL l).size : Int) < 5 := by omega
      clear hs hl h5 h6 hN hX
      generalize bAt l 4 = nl at *
      generalize ofL l = sx at *
      go_enter Tryd.func58, Tryd.ntmps58
      go_wp2
      refine bodyPost_ret (v := .tuple #[.agg #[.string ⟨#[]⟩, .slice none 0 0, .slice none 0 0], .int .i64 0]) (by simp [results, Tryd.results58, go_sem]) rfl ⟨?_, fun _ => rfl, fun q => absurd HN0.out q⟩
      repeat (first | exact HB0.out | refine Below.setCell ?_ (by simp) _)
    · have hb := bAt_lt l 4
      have hlt4 : 4 < (ofL l).size := by omega
      have hx : ∀ h : 4 < (ofL l).size, (ofL l)[4].toNat = bAt l 4 := fun h => HAt.out 4 h
      have e2 := ld2_ok (l := l) (by omega) (by omega)
      have e3 := ld3_at (l := l) (by omega) (by omega)
      obtain ⟨x3, hx3⟩ : ∃ x3, x3 = ld3 l := ⟨_, rfl⟩
      have CR1 : Hid (∀ W, Calls Tryd.prog 87 #[.string (ofL l), .int .i64 ((5 + bAt l 4 : Nat) : Int)] W fun e w' => Below W.heap.size W w' ∧ (x3.2.2 = true → e = .returned (.tuple #[.slice none 0 0, .int .i64 (-1)])) ∧
          (x3.2.2 = false → 5 + bAt l 4 < l.length ∧ 5 + bAt l 4 + 1 + bAt l (5 + bAt l 4) ≤ l.length ∧ x3.2.1 = l.drop (5 + bAt l 4 + 1 + bAt l (5 + bAt l 4)) ∧ x3.1.length = bAt l (5 + bAt l 4) ∧ ∃ g c, e = .returned (.tuple #[.slice (some ⟨g, 0, none⟩) (bAt l (5 + bAt l 4)) c, .int .i64 ((5 + bAt l 4 + 1 + bAt l (5 + bAt l 4) : Nat) : Int)]) ∧
            w'.ownsRow W.heap.size 2 1 (.slice (some ⟨g, 0, none⟩) (bAt l (5 + bAt l 4)) c) (bAt l (5 + bAt l 4)) (intCells x3.1))) := fun W => by
        have := l07Read_any l (5 + bAt l 4) W (by omega) (by omega)
        unfold ReadPost at this
        rw [← e3, ← hx3] at this
        exact this
      obtain ⟨nm, hnm⟩ : ∃ nm, nm = ofL (ld2 l).1 := ⟨_, rfl⟩
      have hext : (ofL l).extract 5 (5 + bAt l 4) = nm := by rw [hnm, e2, ofL_ext, List.drop_take]; congr 2; omega
      have hnl : nm.size = bAt l 4 := by rw [hnm, e2, ofL_sz, List.length_take, List.length_drop]; omega
      obtain ⟨x5, hx5⟩ : ∃ x5, x5 = ld5 l := ⟨_, rfl⟩
      have HX : Hid (X = (nm, x3.1, x5.1)) := by show _ = _; rw [hX, ldX_eq, hnm, hx3, hx5]
      have HBad3 : Hid (x3.2.2 = true → N = 0) := fun q => hN.trans (ldN_bad (ld_bad3 (by rw [← hx3]; exact q)))
      have HBad5 : Hid (x5.2.2 = true → N = 0) := fun q => hN.trans (ldN_bad (by rw [← hx5]; exact q))
      have HS4 : Hid (∀ p, x3.2 = (l.drop p, false) → l.length ≤ p → N = 0) := fun p q1 q2 => hN.trans (ld4_short (by rw [← hx3]; exact q1) q2)
      have HS5 : Hid (∀ p, x3.2 = (l.drop p, false) → p < l.length → x5 = dce (bAt l p) (l.drop (p + 1), false)) := fun p q1 q2 => hx5.trans (ld5_at (by rw [← hx3]; exact q1) q2)
      have HNe : Hid (N = if x5.2.2 = false ∧ okSaved nm x3.1 x5.1 = true ∧ (storeL nm x3.1 x5.1).isPrefixOf l = true then (storeL nm x3.1 x5.1).length else 0) := by show _ = _; rw [hN, ldN_eq, hnm, hx3, hx5]
      have hw1 : IntKind.i64.wrap (5 + (bAt l 4 : Int)) = ((5 + bAt l 4 : Nat) : Int) := by rw [IntWalk.i64_in _ (by omega)]; omega
      have hge : ¬ ((ofL l).size : Int) < 5 := by omega
      have hge2 : ¬ ((ofL l).size : Int) < ((5 + bAt l 4 : Nat) : Int) := by omega
      have hle2 : ((5 + bAt l 4 : Nat) : Int) ≤ ((ofL l).size : Int) := by omega
      have H5 : Hid (5 ≤ l.length ∧ 5 + bAt l 4 ≤ l.length) := ⟨by omega, by omega⟩
      have Hl := Lib.hid hl
      clear e2 e3 hx3 hN hX hx5 hnm h5 h6 hs hl
      have hA1 : Below w.heap.size w ((w.alloc (.cells #[.string ⟨#[]⟩, .slice none 0 0, .slice none 0 0] 30)).alloc (.cells #[.string nm, .slice none 0 0, .slice none 0 0] 30)) := HB0.out.alloc HB0.out.size _
      have HA1 := Lib.hid hA1
      have HR1 : Hid (ResAt ((w.alloc (.cells #[.string ⟨#[]⟩, .slice none 0 0, .slice none 0 0] 30)).alloc (.cells #[.string nm, .slice none 0 0, .slice none 0 0] 30)) w.heap.size) := HR0.out.chg (Chg.of_below (lo := 0) (hi := 0) ((Below.refl _ _).alloc (Nat.le_refl _) _) (Nat.le_refl _)) (.inr (Nat.zero_le _))
      have HO1 : Hid (((w.alloc (.cells #[.string ⟨#[]⟩, .slice none 0 0, .slice none 0 0] 30)).alloc (.cells #[.string nm, .slice none 0 0, .slice none 0 0] 30)).cell? ⟨w.heap.size + 1, 0, none⟩ = some (.string nm) ∧ ((w.alloc (.cells #[.string ⟨#[]⟩, .slice none 0 0, .slice none 0 0] 30)).alloc (.cells #[.string nm, .slice none 0 0, .slice none 0 0] 30)).cell? ⟨w.heap.size + 1, 1, none⟩ = some (.slice none 0 0) ∧ ((w.alloc (.cells #[.string ⟨#[]⟩, .slice none 0 0, .slice none 0 0] 30)).alloc (.cells #[.string nm, .slice none 0 0, .slice none 0 0] 30)).cell? ⟨w.heap.size + 1, 2, none⟩ = some (.slice none 0 0) ∧ ∀ j, ((w.alloc (.cells #[.string ⟨#[]⟩, .slice none 0 0, .slice none 0 0] 30)).alloc (.cells #[.string nm, .slice none 0 0, .slice none 0 0] 30)).frozen? ⟨w.heap.size + 1, j, none⟩ = false) := ⟨by go_simp, by go_simp, by go_simp, fun j => by go_simp⟩
      have hz1 : ((w.alloc (.cells #[.string ⟨#[]⟩, .slice none 0 0, .slice none 0 0] 30)).alloc (.cells #[.string nm, .slice none 0 0, .slice none 0 0] 30)).heap.size = w.heap.size + 2 := by simp
      clear hA1
      generalize bAt l 4 = nl at *
      obtain ⟨sx, hsx⟩ : ∃ sx, sx = ofL l := ⟨_, rfl⟩
      rw [← hsx] at CR1 HAt HSz hlt4 hx hext hge hge2 hle2
      rw [← hsx]
      have HSx := Lib.hid hsx
      clear hsx
      go_enter Tryd.func58, Tryd.ntmps58
      go_wp2_with (fail)
      generalize (w.alloc (.cells #[.string ⟨#[]⟩, .slice none 0 0, .slice none 0 0] 30)).alloc (.cells #[.string nm, .slice none 0 0, .slice none 0 0] 30) = wa at *
      refine (CR1.out _).mono ?_
      rintro e w1 ⟨hb1, hbad, hgood⟩
      have HB1 := Lib.hid (HA1.out.trans (hb1.mono HA1.out.size))
      have hR1 : ResAt w1 w.heap.size := HR1.out.chg (Chg.of_below (lo := 0) (hi := 0) hb1 (Nat.le_refl _)) (.inr (Nat.zero_le _))
      cases hbd : x3.2.2
      case true =>
        have HN0 : Hid (N = 0) := HBad3.out hbd
        obtain rfl := hbad hbd
        have g0 := hR1.fr
        have r0 := hR1.c0
        have r1 := hR1.c1
        have r2 := hR1.c2
        clear hbad hgood hbd hb1
        go_wp2
        refine bodyPost_ret (v := .tuple #[.agg #[.string ⟨#[]⟩, .slice none 0 0, .slice none 0 0], .int .i64 0]) (by simp [results, Tryd.results58, go_sem, hR1.c0, hR1.c1, hR1.c2]) rfl ⟨?_, fun _ => rfl, fun q => absurd HN0.out q⟩
        exact ((HB1.out.setCell (Nat.le_refl _) _).setCell (Nat.le_refl _) _).setCell (Nat.le_refl _) _
      case false =>
        obtain ⟨ge1, ge2, ge3, ge4, g, c, rfl, ho⟩ := hgood hbd
        have hsz1 := hb1.size
        have HP1 : Hid (w1.cell? ⟨w.heap.size + 1, 0, none⟩ = some (.string nm) ∧ w1.cell? ⟨w.heap.size + 1, 1, none⟩ = some (.slice none 0 0) ∧ w1.cell? ⟨w.heap.size + 1, 2, none⟩ = some (.slice none 0 0) ∧ ∀ j, w1.frozen? ⟨w.heap.size + 1, j, none⟩ = false) := ⟨cell_on hb1 HO1.out.1, cell_on hb1 HO1.out.2.1, cell_on hb1 HO1.out.2.2.1, fun j => frozen_on hb1 (show w.heap.size + 1 < _ by omega) (HO1.out.2.2.2 j)⟩
        have H3 : Hid (x3.2 = (l.drop (5 + nl + 1 + bAt l (5 + nl)), false)) := by
          show _ = _
          rw [← ge3, ← hbd]
        have hO := ownsRow_low ho (base' := w.heap.size + 1 + 1) (by omega)
        have hgd := (ho.lt g rfl)
        have HO := Lib.hid hO
        have H4 := Lib.hid ge4
        have hm1 := bAt_lt l (5 + nl)
        have H2l := Lib.hid ge2
        clear hbad hgood hbd hb1 CR1 HBad3 ge1 ge3 ge4 hO ho hge hge2 hle2 hw1
        generalize bAt l (5 + nl) = m1 at *
        obtain ⟨e1, he1⟩ : ∃ e1, e1 = 5 + nl + 1 + m1 := ⟨_, rfl⟩
        have HE1 := Lib.hid he1
        rw [← he1] at H3 H2l ge2 ⊢
        clear he1
        have HszE : sx.size = l.length := HSz.out
        have hlb : l.length ≤ 1048576 := Hl.out
        by_cases he : e1 < l.length
        case neg =>
          have HN0 : Hid (N = 0) := HS4.out _ H3.out (by omega)
          have hc1 : ((sx.size : Nat) : Int) ≤ (e1 : Int) := by omega
          have hc0 : (0 : Int) ≤ (e1 : Int) := by omega
          have g0 := hR1.fr
          have r0 := hR1.c0
          have r1 := hR1.c1
          have r2 := hR1.c2
          clear he HszE hlb ge2
          go_wp2
          refine bodyPost_ret (v := .tuple #[.agg #[.string ⟨#[]⟩, .slice none 0 0, .slice none 0 0], .int .i64 0]) (by simp [results, Tryd.results58, go_sem, hR1.c0, hR1.c1, hR1.c2]) rfl ⟨?_, fun _ => rfl, fun q => absurd HN0.out q⟩
          exact ((HB1.out.setCell (Nat.le_refl _) _).setCell (Nat.le_refl _) _).setCell (Nat.le_refl _) _
        have H5e := Lib.hid (HS5.out _ H3.out he)
        have hie : e1 < sx.size := by omega
        have hxe : ∀ h : e1 < sx.size, sx[e1].toNat = bAt l e1 := fun h => HAt.out e1 h
        have hw2 : IntKind.i64.wrap ((e1 : Int) + 1) = ((e1 + 1 : Nat) : Int) := by rw [IntWalk.i64_in _ (by omega)]; omega
        have hc1 : (e1 : Int) < ((sx.size : Nat) : Int) := by omega
        have hc0 : (0 : Int) ≤ (e1 : Int) := by omega
        have hnb := bAt_lt l e1
        have hn1 : ¬ sx.size ≤ e1 := by omega
        have hn0 : ¬ (e1 : Int) < 0 := by omega
        have He := Lib.hid he
        obtain ⟨p0, p1, p2, pf⟩ := HP1.out
        have HP2 : Hid ((w1.setCell ⟨w.heap.size + 1, 1, none⟩ (.slice (some ⟨g, 0, none⟩) m1 c)).cell? ⟨w.heap.size + 1, 0, none⟩ = some (.string nm) ∧ (w1.setCell ⟨w.heap.size + 1, 1, none⟩ (.slice (some ⟨g, 0, none⟩) m1 c)).cell? ⟨w.heap.size + 1, 1, none⟩ = some (.slice (some ⟨g, 0, none⟩) m1 c) ∧ (w1.setCell ⟨w.heap.size + 1, 1, none⟩ (.slice (some ⟨g, 0, none⟩) m1 c)).cell? ⟨w.heap.size + 1, 2, none⟩ = some (.slice none 0 0) ∧ ∀ j, (w1.setCell ⟨w.heap.size + 1, 1, none⟩ (.slice (some ⟨g, 0, none⟩) m1 c)).frozen? ⟨w.heap.size + 1, j, none⟩ = false) := ⟨by go_simp, by go_simp, by go_simp, fun j => by go_simp⟩
        have HO2 : Hid ((w1.setCell ⟨w.heap.size + 1, 1, none⟩ (.slice (some ⟨g, 0, none⟩) m1 c)).ownsRow (w.heap.size + 1 + 1) 2 1 (.slice (some ⟨g, 0, none⟩) m1 c) m1 (intCells x3.1)) := ownsRow_setCell_other HO.out (fun y hy => by obtain rfl := Option.some.inj hy; dsimp only; omega) _
        have HB2 := Lib.hid (HB1.out.setCell (p := ⟨w.heap.size + 1, 1, none⟩) (by dsimp only; omega) (.slice (some ⟨g, 0, none⟩) m1 c))
        have HR2 : Hid (ResAt (w1.setCell ⟨w.heap.size + 1, 1, none⟩ (.slice (some ⟨g, 0, none⟩) m1 c)) w.heap.size) := hR1.chg (Chg.of_set (b := w.heap.size + 1) _) (.inl (by omega))
        have hzz : (w1.setCell ⟨w.heap.size + 1, 1, none⟩ (.slice (some ⟨g, 0, none⟩) m1 c)).heap.size = w1.heap.size := by simp
        clear he HszE hlb HP1 HO HB1 hR1
        go_wp2
        generalize w1.setCell ⟨w.heap.size + 1, 1, none⟩ (.slice (some ⟨g, 0, none⟩) m1 c) = w2 at *
        clear p0 p1 p2 pf
        generalize hst0 : (l.drop (e1 + 1), false) = st0 at *
        generalize hnn : bAt l e1 = n at *
        have HSt := Lib.hid hst0
        have hzw : w1.heap.size = w2.heap.size := hzz.symm
        have hgw : g < w2.heap.size := by omega
        have hOw : w.heap.size + 1 < w2.heap.size := by omega
        clear hst0 hnn hxe hw2 hc1 hc0 hzz hie
        go_loopw [7, 8] (fun v7 v8 wr => ∃ (k p : Nat) (a : Option Addr) (c' : Nat) (ss : List Spot), k ≤ n ∧ v7 = .int .i64 p ∧ v8 = .int .i64 ((n - k : Nat) : Int) ∧ Hid ((dce k st0).2 = (l.drop p, false)) ∧ p ≤ l.length ∧ Hid (p = e1 + 1 + (diceTo (dce k st0).1 k).length) ∧ Hid (wr.cell? ⟨w.heap.size + 1, 0, none⟩ = some (.string nm) ∧ wr.cell? ⟨w.heap.size + 1, 1, none⟩ = some (.slice (some ⟨g, 0, none⟩) m1 c) ∧ wr.cell? ⟨w.heap.size + 1, 2, none⟩ = some (.slice a k c') ∧ ∀ j, wr.frozen? ⟨w.heap.size + 1, j, none⟩ = false) ∧ OwnDS w2.heap.size wr.heap.size wr a k c' ss (dce k st0).1 ∧ wr.ownsRow (w.heap.size + 1 + 1) 2 1 (.slice (some ⟨g, 0, none⟩) m1 c) m1 (intCells x3.1) ∧ Chg (w.heap.size + 1) (w.heap.size + 1 + 1) w2 wr ∧ w2.heap.size ≤ wr.heap.size) (fun _ v8 _ => (intOf v8).toNat)
        case atStart =>
          refine ⟨0, e1 + 1, none, 0, [], Nat.zero_le _, by simp, by simp, ?_, He.out, ?_, HP2.out, ?_, HO2.out, Chg.refl _ _ _, Nat.le_refl _⟩
          · show _ = _; rw [dce_zero]; exact HSt.out.symm
          · show _ = _; simp [diceTo]
          · rw [dce_zero]; exact ownDS_nil _ _ _
        case round =>
          obtain ⟨k, p, a, c', ss, hk, rfl, rfl, HDp, hpl, HLen, HP, hD, hO, hC, hz⟩ := hrel
          have HD := Lib.hid hD
          have HO := Lib.hid hO
          have HC := Lib.hid hC
          have hlb : l.length ≤ 1048576 := Hl.out
          clear hD hO hC
          by_cases hlt : k < n
          · obtain ⟨y, hy⟩ : ∃ y, y = cnt (l.drop p, false) := ⟨_, rfl⟩
            have CRp : Hid (∀ W, Calls Tryd.prog 87 #[.string sx, .int .i64 (p : Nat)] W fun e w' => Below W.heap.size W w' ∧ (y.2.2 = true → e = .returned (.tuple #[.slice none 0 0, .int .i64 (-1)])) ∧
                (y.2.2 = false → p < l.length ∧ p + 1 + bAt l p ≤ l.length ∧ y.2.1 = l.drop (p + 1 + bAt l p) ∧ y.1.length = bAt l p ∧ ∃ g c, e = .returned (.tuple #[.slice (some ⟨g, 0, none⟩) (bAt l p) c, .int .i64 ((p + 1 + bAt l p : Nat) : Int)]) ∧
                  w'.ownsRow W.heap.size 2 1 (.slice (some ⟨g, 0, none⟩) (bAt l p) c) (bAt l p) (intCells y.1))) := fun W => by
              have := l07Read_any l p W (by omega) (by omega)
              unfold ReadPost at this
              rw [← hy, ← HSx.out] at this
              exact this
            have HBk : Hid (y.2.2 = true → N = 0) := fun q => HBad5.out (by rw [H5e.out]; exact dce_bad (p := 0) HDp.out (by rw [← hy]; exact q) hlt)
            have HD1 : Hid (y.2.2 = false → y.2.1 = l.drop (p + 1 + bAt l p) → dce (k + 1) st0 = ((dce k st0).1 ++ [y.1], (l.drop (p + 1 + bAt l p), false))) := fun q1 q2 => by
              rw [dce_succ, HDp.out, ← hy]
              rw [← q2, ← q1]
            have hgt : (0 : Int) < ((n - k : Nat) : Int) := by omega
            have hw8 : IntKind.i64.wrap (((n - k : Nat) : Int) - 1) = ((n - (k + 1) : Nat) : Int) := by rw [IntWalk.i64_in _ (by omega)]; omega
            obtain ⟨p0, p1, p2, pf⟩ := HP.out
            clear hy hlb
            go_wp2_with (fail)
            refine (CRp.out _).mono ?_
            rintro e w9 ⟨hb9, hbad, hgood⟩
            cases hbd : y.2.2
            case true =>
              have HN0 : Hid (N = 0) := HBk.out hbd
              obtain rfl := hbad hbd
              have hR9 : ResAt w9 w.heap.size := (HR2.out.chg HC.out (.inl (by omega))).chg (Chg.of_below (lo := 0) (hi := 0) hb9 (Nat.le_refl _)) (.inr (Nat.zero_le _))
              have hB9 : Below w.heap.size w w9 := (below_chg HB2.out HB2.out.size (by omega) HC.out).trans (hb9.mono (by omega))
              have g0 := hR9.fr
              have r0 := hR9.c0
              have r1 := hR9.c1
              have r2 := hR9.c2
              clear hbad hgood hbd p0 p1 p2 pf hb9
              go_wp2
              refine bodyPost_ret (v := .tuple #[.agg #[.string ⟨#[]⟩, .slice none 0 0, .slice none 0 0], .int .i64 0]) (by simp [results, Tryd.results58, go_sem, hR9.c0, hR9.c1, hR9.c2]) rfl ⟨?_, fun _ => rfl, fun q => absurd HN0.out q⟩
              exact ((hB9.setCell (Nat.le_refl _) _).setCell (Nat.le_refl _) _).setCell (Nat.le_refl _) _
            case false =>
              obtain ⟨q1, q2, q3, q4, g9, c9, rfl, ho9⟩ := hgood hbd
              have HO9 := Lib.hid ho9
              have HYl := Lib.hid q4
              have HDn := Lib.hid (HD1.out hbd q3)
              have HB9 := Lib.hid hb9
              have HD9 := Lib.hid (HD.out.below hb9)
              have p0 := cell_on hb9 p0
              have p1 := cell_on hb9 p1
              have p2 := cell_on hb9 p2
              have pf : ∀ j, w9.frozen? ⟨w.heap.size + 1, j, none⟩ = false := fun j => frozen_on hb9 (show w.heap.size + 1 < _ by omega) (pf j)
              have hs9 := hb9.size
              have hLn : Hid (p + 1 + bAt l p = e1 + 1 + (diceTo ((dce k st0).1 ++ [y.1]) (k + 1)).length) := by
                show _ = _
                rw [diceTo_snoc _ _ _ (dce_len _ _), List.length_append, bList_len, q4, HLen.out]
                have := HLen.out
                omega
              have Hq2 := Lib.hid q2
              have hnn0 : (0 : Int) ≤ ((p + 1 + bAt l p : Nat) : Int) := by omega
              obtain ⟨i0, hii, hz0, hz1', hz2⟩ := info_parts infoDie
              have hbt := bAt_lt l p
              clear hbad hgood hbd hb9 ho9 q1 q2 q3 q4 HBk HD1 CRp
              go_wp2_with (at_builtin; go_must (refine wpList_append_lies _ rfl _ _ 28 rfl w2.heap.size 82 i0 _ 1 24 Tryd.underlying28 hii hz0 hz1' hz2 rfl (by omega) (.slice a k c') k (spotCells ss) rfl (HD9.out.p.out.alloc _) ⟨w9.heap.size, 0, none⟩ 1 1 [.slice (some ⟨g9, 0, none⟩) (bAt l p) c9] rfl rfl (new1 _ _ _) (one1 rfl) (by omega) (by unfold maxLen; omega) (by omega) (by simp; omega) (w9.heap.size + 1) (by simp) ?_); intro gg cap w10 hown1 hg1 hat hlt10; have HNx := Lib.hid (beg_step l w2 wr w9 w10 (w.heap.size + 1) k p a c' ss g m1 c g9 c9 gg cap nm x3.1 _ y.1 (by omega) (by omega) HP.out HD.out HO.out HC.out hz HB9.out HYl.out HO9.out hown1 hg1 hat); have p2 : w10.cell? ⟨w.heap.size + 1, 2, none⟩ = some (.slice a k c') := load_step_cell w9 w10 a k c' _ hg1 (cell_on ((Below.refl _ _).alloc (Nat.le_refl _) _) p2) (fun x hx => by have := (HD.out.p.out.lt x hx).1; omega); have pf : ∀ j, w10.frozen? ⟨w.heap.size + 1, j, none⟩ = false := load_step_fr w9 w10 a k c' _ hg1 (fun j => frozen_on ((Below.refl w9.heap.size w9).alloc (Nat.le_refl _) _) (show w.heap.size + 1 < _ by omega) (pf j)) (by omega) (fun x hx => by have := (HD.out.p.out.lt x hx).1; omega); clear hown1 hg1 hat hlt10)
              go_roundw
              case rel =>
                refine ⟨k + 1, p + 1 + bAt l p, some ⟨gg, 0, none⟩, cap, ss ++ [(some ⟨g9, 0, none⟩, bAt l p, c9)], by omega, by first | rfl | (congr 1; omega), rfl, ?_, Hq2.out, ?_, HNx.out.1, ?_, HNx.out.2.2.1, HNx.out.2.2.2.1, HNx.out.2.2.2.2⟩
                · show _ = _; rw [HDn.out]
                · show _ = _; rw [HDn.out]; exact hLn.out
                · rw [HDn.out]; exact HNx.out.2.1
              case measure => simp [intOf]; omega
          · obtain rfl : k = n := by omega
            have hxl : x5.1.length = k := by rw [H5e.out, dce_len]
            have hx5 : x5.2 = (l.drop p, false) := by rw [H5e.out]; exact HDp.out
            have hLen := HLen.out
            rw [← H5e.out] at hLen
            have HD5 : Hid (OwnDS w2.heap.size wr.heap.size wr a k c' ss x5.1) := by rw [H5e.out]; exact HD.out
            have hSLl : (storeL nm x3.1 x5.1).length = p + 2 := by
              rw [storeL_len, storeB_at, hxl, H4.out, hnl, hLen, HE1.out]
              omega
            have hR9 : ResAt wr w.heap.size := HR2.out.chg HC.out (.inl (by omega))
            have hB9 : Below w.heap.size w wr := below_chg HB2.out HB2.out.size (by omega) HC.out
            have hw2 : IntKind.i64.wrap ((p : Int) + 2) = ((p + 2 : Nat) : Int) := by rw [IntWalk.i64_in _ (by omega)]; omega
            have HSzE : sx.size = l.length := HSz.out
            have HR9 := Lib.hid hR9
            have HB9 := Lib.hid hB9
            obtain ⟨p0, p1, p2, pf⟩ := HP.out
            have hS : SavAt wr (w.heap.size + 1) 0 nm (some ⟨g, 0, none⟩) m1 c a k c' := ⟨p0, p1, p2⟩
            by_cases hlong : l.length < p + 2
            · have HN0 : Hid (N = 0) := by
                show _ = _
                rw [HNe.out, if_neg]
                rintro ⟨_, _, q⟩
                rw [pre_long (by rw [hSLl]; exact hlong)] at q
                cases q
              have hgt2 : ((sx.size : Nat) : Int) < ((p + 2 : Nat) : Int) := by omega
              have hgt3 : ¬ ((p + 2 : Nat) : Int) ≤ ((sx.size : Nat) : Int) := by omega
              have hgt4 : decide (((sx.size : Nat) : Int) < ((p + 2 : Nat) : Int)) = true := decide_eq_true hgt2
              have hgt5 : sx.size < p + 2 := by omega
              have hgt6 : decide (sx.size < p + 2) = true := decide_eq_true hgt5
              have hgt7 : decide (((sx.size : Nat) : Int) < (p : Int) + 2) = true := decide_eq_true (by omega)
              clear hS hSLl hx5 hxl hLen HSzE hlb hlong hlt hR9 hB9
              go_wp2
              go_quiet (fail)
              have hR9 : ResAt (wr.drewN nq) w.heap.size := HR9.out.chg (Chg.of_below (lo := 0) (hi := 0) (Quiet.b ⟨nq, rfl⟩) (Nat.le_refl _)) (.inr (Nat.zero_le _))
              have hB9 : Below w.heap.size w (wr.drewN nq) := HB9.out.trans ((Quiet.b ⟨nq, rfl⟩ : Below wr.heap.size wr (wr.drewN nq)).mono (by have := HB9.out.size; omega))
              have g0 := hR9.fr
              have r0 := hR9.c0
              have r1 := hR9.c1
              have r2 := hR9.c2
              clear p0 p1 p2 pf
              generalize wr.drewN nq = wq at *
              go_wp2
              refine bodyPost_ret (v := .tuple #[.agg #[.string ⟨#[]⟩, .slice none 0 0, .slice none 0 0], .int .i64 0]) (by simp [results, Tryd.results58, go_sem, hR9.c0, hR9.c1, hR9.c2]) rfl ⟨?_, fun _ => rfl, fun q => absurd HN0.out q⟩
              exact ((hB9.setCell (Nat.le_refl _) _).setCell (Nat.le_refl _) _).setCell (Nat.le_refl _) _
            · have hle : ((p + 2 : Nat) : Int) ≤ ((sx.size : Nat) : Int) := by omega
              have hle2 : p + 2 ≤ sx.size := by omega
              have hle3 : ¬ ((sx.size : Nat) : Int) < ((p + 2 : Nat) : Int) := by omega
              have hle4 : decide (((sx.size : Nat) : Int) < ((p + 2 : Nat) : Int)) = false := decide_eq_false hle3
              have hle5 : ¬ sx.size < p + 2 := by omega
              have hle6 : decide (sx.size < p + 2) = false := decide_eq_false hle5
              have hle7 : decide (((sx.size : Nat) : Int) < (p : Int) + 2) = false := decide_eq_false (by omega)
              have hti := ints_own HO.out
              have htd := HD5.out.rd
              have hnz : nm.size ≤ 1048576 := by omega
              have CV := Lib.hid (fun W (hW : Quiet wr W) => l07Saved_any (w.heap.size + 1) 0 nm (some ⟨g, 0, none⟩) m1 c x3.1 a k c' ss x5.1 W (hS.on hW.b) (hti.mono hW.b) (htd.mono hW.b) hnz)
              have CS := Lib.hid (fun W (hW : Quiet wr W) (hok : okSaved nm x3.1 x5.1 = true) => l07Store_any (w.heap.size + 1) 0 nm (some ⟨g, 0, none⟩) m1 c x3.1 a k c' ss x5.1 W (hS.on hW.b) (hti.mono hW.b) (htd.mono hW.b) hok)
              have HPre : Hid (∀ ok, okSaved nm x3.1 x5.1 = ok → ((ofL (storeL nm x3.1 x5.1)).toList == (sx.extract 0 (p + 2)).toList) = (storeL nm x3.1 x5.1).isPrefixOf l) := fun _ _ => by
                rw [strEq, HSx.out]
                exact pre_eq l _ (p + 2) (by omega) hSLl
              have hq0 : (0 : Int) ≤ ((p + 2 : Nat) : Int) := by omega
              obtain ⟨q, hq⟩ : ∃ q, q = p + 2 := ⟨_, rfl⟩
              rw [← hq] at hw2 hle hle2 hle3 hle4 hle5 hle6 HPre hSLl hq0
              have HSLl := Lib.hid hSLl
              have HX5 := Lib.hid hx5
              have HQ := Lib.hid hq
              clear hq hle7
              clear hti htd hnz hS hSLl hx5 hxl hLen HSzE hlb hlong hlt hR9 hB9
              rcases Bool.eq_false_or_eq_true (okSaved nm x3.1 x5.1) with hok | hok
              · have hpre := HPre.out _ hok
                simp only [hok] at CV CS
                have HOk := Lib.hid hok
                generalize hSL : storeL nm x3.1 x5.1 = SL at *
                have HSLe := Lib.hid hSL
                clear hok hSL
                rcases Bool.eq_false_or_eq_true (SL.isPrefixOf l) with hp | hp
                · rw [hp] at hpre
                  have HN1 : Hid (N = q) := by
                    show _ = _
                    rw [HNe.out, if_pos ⟨by rw [HX5.out], HOk.out, hp⟩, HSLl.out]
                  clear hp
                  generalize ofL SL = so at *
                  go_wp2
                  go_region_held3 (fun W => True) (trivial)
                    (first
                      | (go_at_call 35; refine (CV.out _ (Quiet.refl _).drew).mono ?_; rintro e w9 ⟨rfl, hq9⟩)
                      | (go_at_call 43; refine (CS.out _ ((Quiet.refl _).drew.trans hq9) (by simp)).mono ?_; rintro e w10 ⟨rfl, hb10⟩))
                  have hqq : Quiet wr w9 := (Quiet.refl _).drew.trans hq9
                  have hBx : Below wr.heap.size wr w10 := hqq.b.trans (hb10.mono hqq.b.size)
                  have hR9 : ResAt w10 w.heap.size := HR9.out.chg (Chg.of_below (lo := 0) (hi := 0) hBx (Nat.le_refl _)) (.inr (Nat.zero_le _))
                  have hB9 : Below w.heap.size w w10 := HB9.out.trans (hBx.mono (by have := HB9.out.size; omega))
                  have g0 := hR9.fr
                  have r0 := hR9.c0
                  have r1 := hR9.c1
                  have r2 := hR9.c2
                  have p0 := cell_on hBx p0
                  have p1 := cell_on hBx p1
                  have p2 := cell_on hBx p2
                  have HBx := Lib.hid hBx
                  clear hqq hq9 hb10 CV CS hpre HPre hBx
                  go_wp2
                  refine bodyPost_ret (v := .tuple #[.agg #[.string nm, .slice (some ⟨g, 0, none⟩) m1 c, .slice a k c'], .int .i64 (q : Nat)]) (by simp [results, Tryd.results58, go_sem, hR9.c0, hR9.c1, hR9.c2]) rfl ⟨?_, fun z => ?_, fun _ => ?_⟩
                  · exact ((hB9.setCell (Nat.le_refl _) _).setCell (Nat.le_refl _) _).setCell (Nat.le_refl _) _
                  · have := HN1.out
                    have := HQ.out
                    omega
                  · refine ⟨some ⟨g, 0, none⟩, m1, c, a, k, c', ss, w2.heap.size, ?_, ?_, ?_, ?_, ?_, ?_⟩
                    · rw [HN1.out, HX.out]
                    · omega
                    · have := HBx.out.size; simp; omega
                    · have q := ownsRow_low (ownsRow_below HO.out HBx.out) (base' := w.heap.size) (by omega)
                      have hx2 : X.2.1 = x3.1 := by rw [HX.out]
                      rw [hx2]
                      exact ownsRow_setCell_other (ownsRow_setCell_other (ownsRow_setCell_other q (fun y hy => by obtain rfl := Option.some.inj hy; dsimp only; omega) _) (fun y hy => by obtain rfl := Option.some.inj hy; dsimp only; omega) _) (fun y hy => by obtain rfl := Option.some.inj hy; dsimp only; omega) _
                    · intro x hx
                      cases hx
                      exact ⟨by dsimp only; omega, by dsimp only; omega⟩
                    · have q := (HD5.out.below HBx.out).wide (hi' := w10.heap.size) HBx.out.size
                      have q2 := ((q.set ⟨w.heap.size, 0, none⟩ (.inl (by dsimp only; omega)) (.string nm)).set ⟨w.heap.size, 1, none⟩ (.inl (by dsimp only; omega)) (.slice (some ⟨g, 0, none⟩) m1 c)).set ⟨w.heap.size, 2, none⟩ (.inl (by dsimp only; omega)) (.slice a k c')
                      have hx2 : X.2.2 = x5.1 := by rw [HX.out]
                      rw [hx2]
                      exact q2.wide (by simp)
                · rw [hp] at hpre
                  have HN0 : Hid (N = 0) := by
                    show _ = _
                    rw [HNe.out, if_neg]
                    rintro ⟨_, _, z⟩
                    rw [hp] at z
                    cases z
                  clear hp
                  generalize ofL SL = so at *
                  go_wp2
                  go_region_held3 (fun W => True) (trivial)
                    (first
                      | (go_at_call 35; refine (CV.out _ (Quiet.refl _).drew).mono ?_; rintro e w9 ⟨rfl, hq9⟩)
                      | (go_at_call 43; refine (CS.out _ ((Quiet.refl _).drew.trans hq9) (by simp)).mono ?_; rintro e w10 ⟨rfl, hb10⟩))
                  have hqq : Quiet wr w9 := (Quiet.refl _).drew.trans hq9
                  have hBx : Below wr.heap.size wr w10 := hqq.b.trans (hb10.mono hqq.b.size)
                  have hR9 : ResAt w10 w.heap.size := HR9.out.chg (Chg.of_below (lo := 0) (hi := 0) hBx (Nat.le_refl _)) (.inr (Nat.zero_le _))
                  have hB9 : Below w.heap.size w w10 := HB9.out.trans (hBx.mono (by have := HB9.out.size; omega))
                  have g0 := hR9.fr
                  have r0 := hR9.c0
                  have r1 := hR9.c1
                  have r2 := hR9.c2
                  clear hqq hq9 hb10 CV CS hpre HPre hBx p0 p1 p2 pf
                  go_wp2
                  refine bodyPost_ret (v := .tuple #[.agg #[.string ⟨#[]⟩, .slice none 0 0, .slice none 0 0], .int .i64 0]) (by simp [results, Tryd.results58, go_sem, hR9.c0, hR9.c1, hR9.c2]) rfl ⟨?_, fun _ => rfl, fun q => absurd HN0.out q⟩
                  exact ((hB9.setCell (Nat.le_refl _) _).setCell (Nat.le_refl _) _).setCell (Nat.le_refl _) _
              · have HN0 : Hid (N = 0) := by
                  show _ = _
                  rw [HNe.out, if_neg]
                  rintro ⟨_, z, _⟩
                  rw [hok] at z
                  cases z
                rw [hok] at CV
                clear hok CS HPre p0 p1 p2 pf
                go_wp2
                go_quiet (first | (go_at_call 35; exact qQ (CV.out _ ⟨_, rfl⟩)))
                have hR9 : ResAt (wr.drewN nq) w.heap.size := HR9.out.chg (Chg.of_below (lo := 0) (hi := 0) (Quiet.b ⟨nq, rfl⟩) (Nat.le_refl _)) (.inr (Nat.zero_le _))
                have hB9 : Below w.heap.size w (wr.drewN nq) := HB9.out.trans ((Quiet.b ⟨nq, rfl⟩ : Below wr.heap.size wr (wr.drewN nq)).mono (by have := HB9.out.size; omega))
                have g0 := hR9.fr
                have r0 := hR9.c0
                have r1 := hR9.c1
                have r2 := hR9.c2
                generalize wr.drewN nq = wq at *
                go_wp2
                refine bodyPost_ret (v := .tuple #[.agg #[.string ⟨#[]⟩, .slice none 0 0, .slice none 0 0], .int .i64 0]) (by simp [results, Tryd.results58, go_sem, hR9.c0, hR9.c1, hR9.c2]) rfl ⟨?_, fun _ => rfl, fun q => absurd HN0.out q⟩
                exact ((hB9.setCell (Nat.le_refl _) _).setCell (Nat.le_refl _) _).setCell (Nat.le_refl _) _

end Go.Proofs.YtnoageckldilnaaDoor
