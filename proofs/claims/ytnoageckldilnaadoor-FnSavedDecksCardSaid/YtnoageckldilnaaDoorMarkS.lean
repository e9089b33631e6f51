/- Marks that are texts: markText, markStringS, heldStringS. -/
import Derived.Test.YtnoageckldilnaaDoorChk
import Derived.Test.YtnoageckldilnaaDoorString
import Derived.Test.YtnoageckldilnaaDoorChg
import Derived.Deep.RegionHeld3
namespace Go.Proofs.YtnoageckldilnaaDoor
open Go.RowKit
set_option linter.unusedVariables false

/-- the text of a mark -/
def mt (k : Nat) : ByteArray := ⟨#[109]⟩ ++ decB k

set_option maxHeartbeats 1600000 in
set_option maxRecDepth 100000 in
theorem markText_any (k : Nat) (w : World) (hk : 1 ≤ k) (hk' : k ≤ 4194304) : Calls Tryd.prog 63 #[.int .i64 k] w (Ret w (.string (mt k))) := by
  go_enter Tryd.func63, Tryd.ntmps63
  go_wp2
  go_loopw [0, 3] (fun vk vo wr => ∃ (r : Nat) (D : List UInt8), r ≤ k ∧ D.length + r ≤ k ∧ vk = .int .i64 r ∧ vo = .string (ofL D) ∧ Hid ((if r = 0 then D else Lib.decDigits r ++ D) = Lib.decDigits k) ∧ Below w.heap.size w wr) (fun vk _ _ => (intOf vk).toNat)
  case atStart => exact ⟨k, [], Nat.le_refl _, by simp, rfl, rfl, by show _ = _; rw [if_neg (by omega)]; simp, Below.refl _ _⟩
  case round =>
    obtain ⟨r, D, hr, hDr, rfl, rfl, HD, hb⟩ := hrel
    have HB := Lib.hid hb
    have hsz := hb.size
    clear hb
    have hDs : (ofL D).size = D.length := by simp [ofL, ByteArray.size]
    have hDs2 : (ofL D).size ≤ 4194304 := by omega
    have HDs := Lib.hid hDs
    clear hDs
    by_cases hr0 : r = 0
    · subst hr0
      have HR : Hid (mt k = ⟨#[109]⟩ ++ ofL D) := by
        show _ = _
        have := HD.out
        rw [if_pos rfl] at this
        unfold mt decB
        rw [this]
      go_wp2
      go_ret
      exact ⟨by rw [HR.out]; rfl, HB.out⟩
    · have HN := Lib.hid (dec_next hr0 HD.out)
      have HDig := Lib.hid (dig_nat r)
      have hw1 : IntKind.i64.wrap (48 + (r : Int) % 10) = 48 + (r : Int) % 10 := IntWalk.i64_in _ (by omega)
      have hU : U8s (wr.alloc (.cells #[.int .u8 ((UInt8.ofNat (48 + r % 10)).toNat : Int)] 5)) (some ⟨wr.heap.size, 0, none⟩) [UInt8.ofNat (48 + r % 10)].length 1 [UInt8.ofNat (48 + r % 10)] := Rd.own (own_one wr w.heap.size 5 _ hsz)
      have qc := U8s.str hU 43 5 Tryd.underlying43 Tryd.underlying5 9 Tryd.underlying9
      rw [HDig.out] at qc
      have qc : ∀ dst, Tryd.prog.underlying dst = some .string → (convert 43 dst (.slice (some ⟨wr.heap.size, 0, none⟩) 1 1)).run Tryd.prog (wr.alloc (.cells #[.int .u8 (48 + (r : Int) % 10)] 5)) = .ok (.string (ofL [UInt8.ofNat (48 + r % 10)])) (wr.alloc (.cells #[.int .u8 (48 + (r : Int) % 10)] 5)) := fun dst hd => by
        have := U8s.str hU 43 5 Tryd.underlying43 Tryd.underlying5 dst hd
        rw [HDig.out] at this
        exact this
      have qs := qc 9 Tryd.underlying9
      have HCat : Hid (ofL [UInt8.ofNat (48 + r % 10)] ++ ofL D = ofL (UInt8.ofNat (48 + r % 10) :: D)) := by
        show _ = _
        rw [← ofL_data (ofL [UInt8.ofNat (48 + r % 10)] ++ ofL D)]
        congr 1
      have hds1 : (ofL [UInt8.ofNat (48 + r % 10)]).size = 1 := rfl
      generalize UInt8.ofNat (48 + r % 10) = dg at *
      clear hU qc
      go_wp2
      go_roundw
      case rel => exact ⟨r / 10, dg :: D, by omega, by simp; omega, by go_num, by rw [HCat.out], HN.out, HB.out.alloc hsz _⟩
      case measure => simp [intOf]; omega

def mts (x n : Nat) : List ByteArray := (List.range n).map fun i => mt (x + i)
theorem mts_len (x n : Nat) : (mts x n).length = n := by simp [mts]
theorem mts_getD (x n i : Nat) (h : i < n) : (mts x n).getD i ByteArray.empty = mt (x + i) := by simp [mts, h]
theorem grown_below {w w' w'' : World} {row : Option Nat} (h : w.grownBy w' row) (k : Below w'.heap.size w' w'') : w.grownBy w'' row :=
  ⟨k.os.trans h.os, k.tape.trans h.tape, k.output.trans h.output, Nat.le_trans h.size k.size, fun i hi hr => (k.block i (Nat.lt_of_lt_of_le hi h.size)).trans (h.block i hi hr)⟩

end Go.Proofs.YtnoageckldilnaaDoor
