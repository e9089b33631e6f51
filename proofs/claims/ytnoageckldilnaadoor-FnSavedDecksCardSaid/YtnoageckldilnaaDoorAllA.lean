/- StoreAll of both. -/
import Derived.Test.YtnoageckldilnaaDoorSavC
import Derived.Test.YtnoageckldilnaaDoorSavS
import Derived.Test.YtnoageckldilnaaDoorBuilder
namespace Go.Proofs.YtnoageckldilnaaDoor
open Go.RowKit
set_option linter.unusedVariables false

theorem bAt_below {B b : Nat} {p : Value} {bs : List Value} {w w' : World} (h : BAt B b p bs w) (hb : Below w.heap.size w w') : BAt B b p bs w' := by
  have hlt := h.lt
  obtain ⟨h1, v, h2, h3, h4⟩ := h
  exact ⟨h1, v, by rw [hb.block b hlt]; exact h2, ownsRow_below h3 hb, h4⟩
theorem isB_below {B b : Nat} {bs : List Value} {w w' : World} (h : IsB B b bs w) (hb : Below w.heap.size w w') : IsB B b bs w' :=
  h.elim (fun h => .inl (bAt_below h hb)) (fun h => .inr (bAt_below h hb))

def okA (x : AS) : Bool := okSaved x.1 x.2.1 x.2.2
def stA (x : AS) : List UInt8 := storeL x.1 x.2.1 x.2.2
def allTo (xs : List AS) (k : Nat) : List UInt8 := (xs.take k).flatMap stA
/-- what is stored of all, and whether it is -/
def allR (xs : List AS) : ByteArray × Bool := if (decide (xs.length ≤ 8) && xs.all okA) = true then (ofL (allTo xs xs.length), true) else (⟨#[]⟩, false)
theorem allTo_succ (xs : List AS) (k : Nat) (h : k < xs.length) : allTo xs (k + 1) = allTo xs k ++ stA (xs.getD k as0) := by
  unfold allTo
  rw [List.take_add_one, List.getElem?_eq_getElem h, List.flatMap_append]
  simp [h]
theorem stA_len {x : AS} (h : okA x = true) : (stA x).length ≤ 147 := by
  unfold stA
  rw [storeL_len]
  have := storeB_len h
  omega

set_option maxHeartbeats 1600000 in
theorem specStoreAll_any (a : Option Addr) (n c : Nat) (ms : List MS) (xs : List AS) (w : World) (h : SavS w a n c ms xs) (hr : ∀ i, i < n → totV (xs.getD i as0) ≤ 1048576) :
    Calls Tryd.prog 17 #[.slice a n c] w (Ret w (.tuple #[.string (allR xs).1, .bool (allR xs).2])) := by
  obtain ⟨hc, hb, hcell⟩ := h.at
  have hl := h.len
  have HL := Lib.hid hl
  have HAt := Lib.hid hcell
  have HEl := Lib.hid h.el
  have HTot := Lib.hid hr
  have HR : Hid (allR xs = if (decide (n ≤ 8) && xs.all okA) = true then (ofL (allTo xs n), true) else (⟨#[]⟩, false)) := by show _ = _; unfold allR; rw [hl]
  clear h hcell hr hl
  generalize allR xs = R at *
  by_cases h8 : n ≤ 8
  case neg =>
    have HR2 : Hid (R = (⟨#[]⟩, false)) := by show _ = _; rw [HR.out, if_neg]; simp [h8]
    clear HR HAt HEl HTot
    go_enter Tryd.func17, Tryd.ntmps17
    go_wp2
    go_ret2
    exact ⟨by rw [HR2.out]; rfl, Below.refl _ _⟩
  go_enter Tryd.func17, Tryd.ntmps17
  go_wp2
  go_loopw [4, 11] (fun vo vi wr => ∃ (k : Nat) (E : List UInt8), k ≤ n ∧ vi = .int .i64 k ∧ vo = .string (ofL E) ∧ Hid (E = allTo xs k) ∧ E.length ≤ 147 * k ∧ AllTo okA as0 xs k ∧ Below w.heap.size w wr) (fun _ vi _ => n - (intOf vi).toNat)
  case atStart => exact ⟨0, [], Nat.zero_le _, rfl, rfl, by show _ = _; simp [allTo], by simp, AllTo.zero _ _ _, Below.refl _ _⟩
  case round =>
    obtain ⟨k, E, hk, rfl, rfl, HE, hEl, hto, hbel⟩ := hrel
    have HT := Lib.hid hto
    have HB := Lib.hid hbel
    clear hto
    by_cases hlt : k < n
    · obtain ⟨b, off, rfl, hlb, hx⟩ := HAt.out k hlt
      obtain ⟨y0, y1, y2⟩ := hx k hlt
      have hS : SavAt wr b (off + k * 3) _ _ _ _ _ _ _ := ⟨cell_on hbel y0, cell_on hbel y1, cell_on hbel y2⟩
      obtain ⟨_, hd, ss, hs⟩ := (HEl.out k hlt).mono hbel
      have ht := HTot.out k hlt
      have CV := Lib.hid (l07Saved_any _ _ _ _ _ _ _ _ _ _ _ _ wr hS hd hs (by unfold totV at ht; omega))
      have CS := Lib.hid (fun W (hW : Quiet wr W) (hok : okSaved (xs.getD k as0).1 (xs.getD k as0).2.1 (xs.getD k as0).2.2 = true) => l07Store_any _ _ _ _ _ _ _ _ _ _ _ _ W (hS.on hW.b) (hd.mono hW.b) (hs.mono hW.b) hok)
      have HS1 : Hid (okA (xs.getD k as0) = true → AllTo okA as0 xs (k + 1)) := fun e => HT.out.succ e
      have HN : Hid (okA (xs.getD k as0) = false → R = (⟨#[]⟩, false)) := fun e => by
        rw [HR.out, all_not (by rw [HL.out]; exact hlt) e, if_neg (by simp)]
      have HSu := Lib.hid (allTo_succ xs k (by rw [HL.out]; exact hlt))
      have HLn := Lib.hid (fun e => stA_len (x := xs.getD k as0) e)
      have HOk : Hid (okSaved (xs.getD k as0).1 (xs.getD k as0).2.1 (xs.getD k as0).2.2 = okA (xs.getD k as0)) := rfl
      have HSt : Hid (storeL (xs.getD k as0).1 (xs.getD k as0).2.1 (xs.getD k as0).2.2 = stA (xs.getD k as0)) := rfl
      rw [HOk.out] at CV
      rw [HOk.out, HSt.out] at CS
      clear hx y0 y1 y2 hS hd hs ht hbel HSt HOk
      generalize okA (xs.getD k as0) = B at *
      generalize stA (xs.getD k as0) = sx at *
      cases B
      · go_wp2_with (fail)
        refine CV.out.mono ?_
        rintro e w2 ⟨rfl, hq2⟩
        have HB2 := Lib.hid (HB.out.trans (hq2.b.mono HB.out.size))
        clear hq2
        go_wp2
        go_ret2
        exact ⟨by rw [HN.out (by simp)]; rfl, HB2.out⟩
      · go_wp2_with (fail)
        refine CV.out.mono ?_
        rintro e w2 ⟨rfl, hq2⟩
        have HB2 := Lib.hid (HB.out.trans (hq2.b.mono HB.out.size))
        have C2 := Lib.hid (CS.out w2 hq2 (by simp))
        have hsx := HLn.out (by simp)
        have hs1 := ofL_sz E
        have hs2 := ofL_sz sx
        have hz1 : ¬ 9223372036854775807 < (ofL E).size + (ofL sx).size := by omega
        have HAp := Lib.hid (ofL_app E sx)
        clear hq2 CS CV hs1 hs2
        go_wp2_with (fail)
        refine C2.out.mono ?_
        rintro e w3 ⟨rfl, hb3⟩
        have HB3 := Lib.hid (HB2.out.trans (hb3.mono HB2.out.size))
        clear hb3 C2
        go_wp2
        go_roundw
        case rel => exact ⟨k + 1, E ++ sx, by omega, by go_num, by rw [HAp.out], by show _ = _; rw [HSu.out, ← HE.out], by rw [List.length_append]; omega, HS1.out (by simp), HB3.out⟩
        case measure => simp [intOf]; omega
    · obtain rfl : k = n := by omega
      have HR2 : Hid (R = (ofL E, true)) := by show _ = _; rw [HR.out, HT.out.all HL.out, if_pos (by simp [h8]), HE.out]
      clear hbel
      go_wp2
      go_ret2
      exact ⟨by rw [HR2.out]; rfl, HB.out⟩

set_option maxHeartbeats 3200000 in
set_option maxRecDepth 100000 in
theorem implStoreAll_any (a : Option Addr) (n c : Nat) (ms : List MS) (xs : List AS) (w : World) (h : SavS w a n c ms xs) (hr : ∀ i, i < n → totV (xs.getD i as0) ≤ 1048576) :
    Calls Tryd.prog 19 #[.slice a n c] w (Ret w (.tuple #[.string (allR xs).1, .bool (allR xs).2])) := by
  obtain ⟨hc, hb, hcell⟩ := h.at
  have hl := h.len
  have HL := Lib.hid hl
  have HAt := Lib.hid hcell
  have HEl := Lib.hid h.el
  have HTot := Lib.hid hr
  have HR : Hid (allR xs = if (decide (n ≤ 8) && xs.all okA) = true then (ofL (allTo xs n), true) else (⟨#[]⟩, false)) := by show _ = _; unfold allR; rw [hl]
  clear h hcell hr hl
  generalize allR xs = R at *
  by_cases h8 : n ≤ 8
  case neg =>
    have HR2 : Hid (R = (⟨#[]⟩, false)) := by show _ = _; rw [HR.out, if_neg]; simp [h8]
    clear HR HAt HEl HTot
    go_enter Tryd.func19, Tryd.ntmps19
    go_wp2
    go_ret2
    exact ⟨by rw [HR2.out]; rfl, Below.refl _ _⟩
  go_enter Tryd.func19, Tryd.ntmps19
  go_wp2
  go_loopw [13] (fun vi wr => ∃ (k : Nat) (E : List UInt8), k ≤ n ∧ vi = .int .i64 k ∧ Hid (E = allTo xs k) ∧ E.length ≤ 147 * k ∧ AllTo okA as0 xs k ∧ IsB w.heap.size w.heap.size (Lib.byteCells E) wr ∧ Below w.heap.size w wr) (fun vi _ => n - (intOf vi).toNat)
  case atStart =>
    exact ⟨0, [], Nat.zero_le _, rfl, by show _ = _; simp [allTo], by simp, AllTo.zero _ _ _, .inl ⟨Nat.le_refl _, .slice none 0 0, heap_alloc_new w _, World.ownsRow_nil _ _ _ _, by simp [Value.ownBlock]⟩, (Below.refl _ _).alloc (Nat.le_refl _) _⟩
  case round =>
    obtain ⟨k, E, hk, rfl, HE, hEl, hto, hB, hbel⟩ := hrel
    have HT := Lib.hid hto
    have HB := Lib.hid hbel
    have HIB := Lib.hid hB
    have hsz := hbel.size
    clear hto
    by_cases hlt : k < n
    · obtain ⟨b, off, rfl, hlb, hx⟩ := HAt.out k hlt
      obtain ⟨y0, y1, y2⟩ := hx k hlt
      have z0 := cell_on hbel y0
      have z1 := cell_on hbel y1
      have z2 := cell_on hbel y2
      obtain ⟨_, hd, ss, hs⟩ := (HEl.out k hlt).mono hbel
      have ht := HTot.out k hlt
      have HS1 : Hid (okA (xs.getD k as0) = true → AllTo okA as0 xs (k + 1)) := fun e => HT.out.succ e
      have HN : Hid (okA (xs.getD k as0) = false → R = (⟨#[]⟩, false)) := fun e => by
        rw [HR.out, all_not (by rw [HL.out]; exact hlt) e, if_neg (by simp)]
      have HSu := Lib.hid (allTo_succ xs k (by rw [HL.out]; exact hlt))
      have HLn := Lib.hid (fun e => stA_len (x := xs.getD k as0) e)
      have HOk : Hid (okSaved (xs.getD k as0).1 (xs.getD k as0).2.1 (xs.getD k as0).2.2 = okA (xs.getD k as0)) := rfl
      have HSt : Hid (storeL (xs.getD k as0).1 (xs.getD k as0).2.1 (xs.getD k as0).2.2 = stA (xs.getD k as0)) := rfl
      rcases hM : ms.getD k ms0 with ⟨nm1, ⟨A0, L0, C0⟩, ⟨A1, L1, C1⟩⟩
      rw [hM] at z1 z2 hd hs
      dsimp only at z1 z2 hd hs
      clear hM
      have hBa : Below wr.heap.size wr (wr.alloc (.cells #[.string (xs.getD k as0).1, .slice A0 L0 C0, .slice A1 L1 C1] 30)) := (Below.refl _ _).alloc (Nat.le_refl _) _
      have hSA : SavAt (wr.alloc (.cells #[.string (xs.getD k as0).1, .slice A0 L0 C0, .slice A1 L1 C1] 30)) wr.heap.size 0 (xs.getD k as0).1 A0 L0 C0 A1 L1 C1 := ⟨by go_simp, by go_simp, by go_simp⟩
      have CV := Lib.hid (implValidSaved_any (xs.getD k as0).1 A0 L0 C0 _ A1 L1 C1 ss _ _ (hd.mono hBa) (hs.mono hBa) (by unfold totV at ht; omega))
      have CS := Lib.hid (fun W (hW : Below wr.heap.size wr W) (hok : okSaved (xs.getD k as0).1 (xs.getD k as0).2.1 (xs.getD k as0).2.2 = true) => store_any (xs.getD k as0).1 A0 L0 C0 _ A1 L1 C1 ss _ W (hd.mono hW) (hs.mono hW) hok)
      rw [HOk.out] at CV
      rw [HOk.out, HSt.out] at CS
      have HSA := Lib.hid hSA
      have HBa := Lib.hid hBa
      clear hx y0 y1 y2 hd hs ht hbel HSt HOk hSA hBa
      generalize (xs.getD k as0).1 = nm at *
      generalize okA (xs.getD k as0) = B at *
      generalize stA (xs.getD k as0) = sx at *
      cases B
      · clear hB
        go_wp2_with (fail)
        refine CV.out.mono ?_
        rintro e w2 ⟨rfl, hb2⟩
        have HB2 := Lib.hid (HB.out.trans ((HBa.out.trans (hb2.mono HBa.out.size)).mono hsz))
        clear hb2
        go_wp2
        go_ret2
        exact ⟨by rw [HN.out (by simp)]; rfl, HB2.out⟩
      · clear hB
        go_wp2_with (fail)
        refine CV.out.mono ?_
        rintro e w2 ⟨rfl, hb2⟩
        have HBx := Lib.hid (HBa.out.trans (hb2.mono HBa.out.size))
        have hS2 := HSA.out.on hb2
        have g0 := hS2.nm
        have g1 := hS2.deck
        have g2 := hS2.dice
        rw [Nat.zero_add] at g1 g2
        have C2 := Lib.hid (CS.out w2 HBx.out (by simp))
        have hsx := HLn.out (by simp)
        have hs2 := ofL_sz sx
        clear hb2 CS CV hS2
        go_wp2_with (fail)
        refine C2.out.mono ?_
        rintro e w3 ⟨rfl, hb3⟩
        have HBy := Lib.hid (HBx.out.trans (hb3.mono HBx.out.size))
        have HIB3 := Lib.hid (isB_below HIB.out HBy.out)
        have HB3 := Lib.hid (HB.out.trans (HBy.out.mono hsz))
        have CW := Lib.hid (WriteString_any w.heap.size w.heap.size (Lib.byteCells E) (ofL sx) w3 HIB3.out (by rw [Lib.byteCells_length]; omega) HB3.out.size)
        have HCe : Hid (Lib.byteCells E ++ Lib.strCells (ofL sx) = Lib.byteCells (E ++ sx)) := by
          show Lib.byteCells E ++ Lib.byteCells sx = _
          simp [Lib.byteCells]
        clear hb3 C2 hs2
        go_wp2_with (fail)
        refine CW.out.mono ?_
        rintro e w4 ⟨rfl, hB4, hb4⟩
        rw [HCe.out] at hB4
        have HIB4 := Lib.hid hB4
        have HB4 := Lib.hid (HB3.out.trans hb4)
        clear hB4 hb4 CW
        go_wp2
        go_roundw
        case rel => exact ⟨k + 1, E ++ sx, by omega, by go_num, by show _ = _; rw [HSu.out, ← HE.out], by rw [List.length_append]; omega, HS1.out (by simp), .inr HIB4.out, HB4.out⟩
        case measure => simp [intOf]; omega
    · obtain rfl : k = n := by omega
      have HR2 : Hid (R = (ofL E, true)) := by show _ = _; rw [HR.out, HT.out.all HL.out, if_pos (by simp [h8]), HE.out]
      have C1 := Lib.hid (Tryd.Builder_String_any w.heap.size w.heap.size E wr hB hsz)
      clear hbel hB
      go_wp2_with (fail)
      refine C1.out.mono ?_
      rintro e w2 ⟨rfl, hb2⟩
      have HB2 := Lib.hid (HB.out.trans hb2)
      clear hb2 C1
      go_wp2
      go_ret2
      exact ⟨by rw [HR2.out]; rfl, HB2.out⟩

end Go.Proofs.YtnoageckldilnaaDoor
