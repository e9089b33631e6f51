/- What is saved and valid: l07Saved, ValidSaved of both. -/
import Derived.Test.YtnoageckldilnaaDoorSavA
import Derived.Test.YtnoageckldilnaaDoorDieB
import Derived.Test.YtnoageckldilnaaDoorNameB
import Derived.Test.YtnoageckldilnaaDoorOrderB
namespace Go.Proofs.YtnoageckldilnaaDoor
open Go.RowKit
set_option linter.unusedVariables false

/-- what is saved is valid -/
def okSaved (nm : ByteArray) (x : List Int) (xss : List (List Int)) : Bool := nameOk nm.data.toList && (okDeck x && (decide (xss.length ≤ 6) && xss.all okDie))
/-- what is saved, as it lies in three cells -/
structure SavAt (w : World) (b off : Nat) (nm : ByteArray) (a0 : Option Addr) (n0 c0 : Nat) (a1 : Option Addr) (n1 c1 : Nat) : Prop where
  nm : w.cell? ⟨b, off, none⟩ = some (.string nm)
  deck : w.cell? ⟨b, off + 1, none⟩ = some (.slice a0 n0 c0)
  dice : w.cell? ⟨b, off + 2, none⟩ = some (.slice a1 n1 c1)
theorem SavAt.on {w w' : World} {b off : Nat} {nm : ByteArray} {a0 : Option Addr} {n0 c0 : Nat} {a1 : Option Addr} {n1 c1 : Nat} (h : SavAt w b off nm a0 n0 c0 a1 n1 c1) (hb : Below w.heap.size w w') : SavAt w' b off nm a0 n0 c0 a1 n1 c1 :=
  ⟨cell_on hb h.nm, cell_on hb h.deck, cell_on hb h.dice⟩

set_option maxHeartbeats 1600000 in
theorem l07Saved_any (b off : Nat) (nm : ByteArray) (a0 : Option Addr) (n0 c0 : Nat) (x0 : List Int) (a1 : Option Addr) (n1 c1 : Nat) (ss : List Spot) (xss : List (List Int)) (w : World)
    (hs : SavAt w b off nm a0 n0 c0 a1 n1 c1) (h0 : Ints w a0 n0 c0 x0) (h1 : IntSS w a1 n1 c1 ss xss) (hn : nm.size ≤ 1048576) :
    Calls Tryd.prog 35 #[.pointer (some ⟨b, off, none⟩)] w (RetQ w (.bool (okSaved nm x0 xss))) := by
  obtain ⟨hc, hb, hcell⟩ := h1.at
  have HL := Lib.hid h1.len
  have HR := Lib.hid h1.row
  have hc0 := hs.nm
  have hc1 := hs.deck
  have hc2 := hs.dice
  have CN := Lib.hid (fun W => l07Name_any nm W hn)
  have CD := Lib.hid (fun W (hW : Quiet w W) => l02Deck_any a0 n0 c0 x0 W (h0.mono hW.b))
  have HV : Hid (okSaved nm x0 xss = (nameOk nm.data.toList && (okDeck x0 && (decide (n1 ≤ 6) && xss.all okDie)))) := by show _ = _; unfold okSaved; rw [HL.out]
  clear hs h0 h1
  generalize okSaved nm x0 xss = R at *
  generalize nameOk nm.data.toList = N at *
  generalize okDeck x0 = D at *
  go_enter Tryd.func35, Tryd.ntmps35
  go_wp2
  go_loopw [9] (fun i wr => ∃ k : Nat, k ≤ n1 ∧ i = .int .i64 k ∧ AllTo okDie [] xss k ∧ Quiet w wr) (fun i _ => n1 - (intOf i).toNat)
  case atStart => exact ⟨0, by omega, rfl, AllTo.zero _ _ _, Quiet.refl _⟩
  case round =>
    obtain ⟨k, hk, rfl, hto, hq⟩ := hrel
    have HT := Lib.hid hto
    have HQ := Lib.hid hq
    have hc0 := cell_on hq.b hc0
    have hc1 := cell_on hq.b hc1
    have hc2 := cell_on hq.b hc2
    clear hto
    by_cases hlt : k < n1
    · obtain ⟨db, doff, rfl, hlb, hx⟩ := hcell k hlt
      have hd := cell_on hq.b (hx k hlt)
      have HS : Hid (okDie (xss.getD k []) = true → AllTo okDie [] xss (k + 1)) := fun e => HT.out.succ e
      have HN : Hid (okDie (xss.getD k []) = false → R = false) := fun e => by
        rw [HV.out, all_not (by rw [HL.out]; exact hlt) e]; simp
      have CC := Lib.hid (l05Is_any ⟨db, doff + k, none⟩ _ _ _ _ wr hd rfl ((HR.out k hlt).mono hq.b))
      clear hcell hx hq CN CD
      generalize okDie (xss.getD k []) = E at *
      go_wp2_with (fail)
      refine CC.out.mono ?_
      rintro e w2 ⟨rfl, hq2⟩
      have HQ2 := Lib.hid (HQ.out.trans hq2)
      clear hq2
      cases E
      · go_wp2
        go_ret
        exact ⟨ret_bool (HN.out (by simp)).symm, HQ2.out⟩
      · go_wp2
        go_roundw
        case rel => exact ⟨k + 1, by omega, by go_num, HS.out (by simp), HQ2.out⟩
        case measure => simp [intOf]; omega
    · obtain rfl : k = n1 := by omega
      have HA : Hid (xss.all okDie = true) := HT.out.all HL.out
      have CD1 := Lib.hid (CD.out wr hq)
      clear hcell hq CD
      cases N
      · go_wp2_with (first | (go_at_call 66; refine (CN.out _).mono ?_; rintro e w' ⟨rfl, rfl⟩))
        go_ret
        exact ⟨ret_bool (by rw [HV.out]; rfl), HQ.out⟩
      · cases D
        · go_wp2_with (first | (go_at_call 66; refine (CN.out _).mono ?_; rintro e w' ⟨rfl, rfl⟩))
          refine CD1.out.mono ?_
          rintro e w2 ⟨rfl, hq2⟩
          have HQ2 := Lib.hid (HQ.out.trans hq2)
          clear hq2
          go_wp2
          go_ret
          exact ⟨ret_bool (by rw [HV.out]; rfl), HQ2.out⟩
        · go_wp2_with (first | (go_at_call 66; refine (CN.out _).mono ?_; rintro e w' ⟨rfl, rfl⟩))
          refine CD1.out.mono ?_
          rintro e w2 ⟨rfl, hq2⟩
          have HQ2 := Lib.hid (HQ.out.trans hq2)
          have hc0 := cell_on hq2.b hc0
          have hc1 := cell_on hq2.b hc1
          have hc2 := cell_on hq2.b hc2
          clear hq2
          go_wp2
          go_ret
          exact ⟨ret_bool (by rw [HV.out, HA.out]; simp; try omega), HQ2.out⟩

theorem specValidSaved_any (nm : ByteArray) (a0 : Option Addr) (n0 c0 : Nat) (x0 : List Int) (a1 : Option Addr) (n1 c1 : Nat) (ss : List Spot) (xss : List (List Int)) (w : World)
    (h0 : Ints w a0 n0 c0 x0) (h1 : IntSS w a1 n1 c1 ss xss) (hn : nm.size ≤ 1048576) :
    Calls Tryd.prog 10 #[.agg #[.string nm, .slice a0 n0 c0, .slice a1 n1 c1]] w (Ret w (.bool (okSaved nm x0 xss))) := by
  have hB : Below w.heap.size w (w.alloc (.cells #[.string nm, .slice a0 n0 c0, .slice a1 n1 c1] 30)) := (Below.refl w.heap.size w).alloc (Nat.le_refl _) _
  have C := Lib.hid (l07Saved_any w.heap.size 0 nm a0 n0 c0 x0 a1 n1 c1 ss xss _ ⟨by go_simp, by go_simp, by go_simp⟩ (h0.mono hB) (h1.mono hB) hn)
  go_enter Tryd.func10, Tryd.ntmps10
  go_wp2_with (fail)
  refine C.out.mono ?_
  rintro e w1 ⟨rfl, hq1⟩
  have HB1 := hB.trans (hq1.b.mono hB.size)
  clear hq1
  go_wp2
  go_ret
  exact ⟨rfl, HB1⟩

set_option maxHeartbeats 1600000 in
theorem implValidSaved_any (nm : ByteArray) (a0 : Option Addr) (n0 c0 : Nat) (x0 : List Int) (a1 : Option Addr) (n1 c1 : Nat) (ss : List Spot) (xss : List (List Int)) (w : World)
    (h0 : Ints w a0 n0 c0 x0) (h1 : IntSS w a1 n1 c1 ss xss) (hn : nm.size ≤ 1048576) :
    Calls Tryd.prog 12 #[.agg #[.string nm, .slice a0 n0 c0, .slice a1 n1 c1]] w (Ret w (.bool (okSaved nm x0 xss))) := by
  have hB : Below w.heap.size w (w.alloc (.cells #[.string nm, .slice a0 n0 c0, .slice a1 n1 c1] 30)) := (Below.refl w.heap.size w).alloc (Nat.le_refl _) _
  have g1 : (w.alloc (.cells #[.string nm, .slice a0 n0 c0, .slice a1 n1 c1] 30)).cell? ⟨w.heap.size, 1, none⟩ = some (.slice a0 n0 c0) := by go_simp
  have g2 : (w.alloc (.cells #[.string nm, .slice a0 n0 c0, .slice a1 n1 c1] 30)).cell? ⟨w.heap.size, 2, none⟩ = some (.slice a1 n1 c1) := by go_simp
  have HG := Lib.hid (And.intro g1 g2)
  have HL := Lib.hid h1.len
  obtain ⟨hc, hb, _⟩ := h1.at
  have CN := Lib.hid (fun W => IsName_any nm W hn)
  have CD := Lib.hid (fun W (hW : Below w.heap.size w W) => IsDeck_any a0 n0 c0 x0 W (h0.mono hW))
  have CA := Lib.hid (fun W (hW : Below w.heap.size w W) => areDice_any a1 n1 c1 ss xss W (h1.mono hW))
  have HV : Hid (okSaved nm x0 xss = (nameOk nm.data.toList && (okDeck x0 && (decide (n1 ≤ 6) && xss.all okDie)))) := by show _ = _; unfold okSaved; rw [HL.out]
  have HZ : Hid (n1 = 0 → xss.all okDie = true) := fun e => by
    have : xss = [] := List.eq_nil_of_length_eq_zero (by rw [HL.out, e])
    rw [this]; rfl
  clear h0 h1 g1 g2
  generalize okSaved nm x0 xss = R at *
  generalize nameOk nm.data.toList = N at *
  generalize okDeck x0 = D at *
  generalize xss.all okDie = E at *
  go_enter Tryd.func12, Tryd.ntmps12
  go_wp2_with (fail)
  refine (CN.out _).mono ?_
  rintro e w1 ⟨rfl, hb1⟩
  obtain ⟨g1, g2⟩ := HG.out
  have g1 := cell_on hb1 g1
  have g2 := cell_on hb1 g2
  have HB1 := Lib.hid (hB.trans (hb1.mono hB.size))
  clear hb1 CN
  cases N
  · go_wp2
    go_ret
    exact ⟨ret_bool (by rw [HV.out]; rfl), HB1.out⟩
  · go_wp2_with (fail)
    refine (CD.out _ HB1.out).mono ?_
    rintro e w2 ⟨rfl, hb2⟩
    have g2 := cell_on hb2 g2
    have HB2 := Lib.hid (HB1.out.trans (hb2.mono HB1.out.size))
    clear hb2 CD
    cases D
    · go_wp2
      go_ret
      exact ⟨ret_bool (by rw [HV.out]; rfl), HB2.out⟩
    · by_cases hz : n1 = 0
      · have HE := Lib.hid (HZ.out hz)
        have HZ0 := Lib.hid hz
        have hz2 : ((n1 : Int) == 0) = true := by simp; omega
        clear hz CA
        go_wp2
        go_ret
        exact ⟨ret_bool (by rw [HV.out, HE.out, HZ0.out]; rfl), HB2.out⟩
      · have hz2 : ((n1 : Int) == 0) = false := by simp; omega
        have HP : Hid ((decide (1 ≤ n1) && (decide (n1 ≤ 6) && E)) = R) := by
          show _ = _
          rw [HV.out, show decide (1 ≤ n1) = true by simp; omega]; rfl
        have CA1 := Lib.hid (CA.out _ HB2.out)
        rw [HP.out] at CA1
        clear CA hz
        go_wp2_with (fail)
        refine CA1.out.mono ?_
        rintro e w3 ⟨rfl, hb3⟩
        have HB3 := Lib.hid (HB2.out.trans (hb3.mono HB2.out.size))
        clear hb3
        go_wp2
        go_ret
        exact ⟨rfl, HB3.out⟩

end Go.Proofs.YtnoageckldilnaaDoor
