/- Marks that are texts: markText, markStringS, heldStringS. -/
import Derived.Test.YtkieaebnhcdhnaaDoorChk
import Derived.Test.YtkieaebnhcdhnaaDoorString
import Derived.Test.YtkieaebnhcdhnaaDoorChg
import Derived.Deep.RegionHeld3
namespace Go.Proofs.YtkieaebnhcdhnaaDoor
open Go.RowKit
set_option linter.unusedVariables false

/-- the text of a mark -/
def mt (k : Nat) : ByteArray := ⟨#[109]⟩ ++ decB k

set_option maxHeartbeats 1600000 in
set_option maxRecDepth 100000 in
theorem markText_any (k : Nat) (w : World) (hk : 1 ≤ k) (hk' : k ≤ 4194304) : Calls Tryd.prog 23 #[.int .i64 k] w (Ret w (.string (mt k))) := by
  go_enter Tryd.func23, Tryd.ntmps23
  go_wp2
  go_loopw [0, 3] (fun vk vo wr => ∃ (r : Nat) (D : List UInt8), r ≤ k ∧ D.length + r ≤ k ∧ vk = .int .i64 r ∧ vo = .string (ofL D) ∧ Hid ((if r = 0 then D else Lib.decDigits r ++ D) = Lib.decDigits k) ∧ Below w.heap.size w wr) (fun vk _ _ => (intOf vk).toNat)
  case atStart => exact ⟨k, [], Nat.le_refl _, by simp, rfl, rfl, by show _ = _; rw [if_neg (by omega)]; simp, Below.refl _ _⟩
  case round =>
    obtain ⟨r, D, hr, hDr, rfl, rfl, HD, hb⟩ := hrel
    have HB := Lib.hid hb
    have hsz := hb.size
    clear hb
    have hDs : (ofL D).size = D.length := by simp [ofL, ByteArray.size]
    have hDs2 : (ofL D).size ≤ 4194304 := by omega
    have HDs := Lib.hid hDs
    clear hDs
    by_cases hr0 : r = 0
    · subst hr0
      have HR : Hid (mt k = ⟨#[109]⟩ ++ ofL D) := by
        show _ = _
        have := HD.out
        rw [if_pos rfl] at this
        unfold mt decB
        rw [this]
      go_wp2
      go_ret
      exact ⟨by rw [HR.out]; rfl, HB.out⟩
    · have HN := Lib.hid (dec_next hr0 HD.out)
      have HDig := Lib.hid (dig_nat r)
      have hw1 : IntKind.i64.wrap (48 + (r : Int) % 10) = 48 + (r : Int) % 10 := IntWalk.i64_in _ (by omega)
      have hU : U8s (wr.alloc (.cells #[.int .u8 ((UInt8.ofNat (48 + r % 10)).toNat : Int)] 5)) (some ⟨wr.heap.size, 0, none⟩) [UInt8.ofNat (48 + r % 10)].length 1 [UInt8.ofNat (48 + r % 10)] := Rd.own (own_one wr w.heap.size 5 _ hsz)
      have qc := U8s.str hU 34 5 Tryd.underlying34 Tryd.underlying5 9 Tryd.underlying9
      rw [HDig.out] at qc
      have qc : ∀ dst, Tryd.prog.underlying dst = some .string → (convert 34 dst (.slice (some ⟨wr.heap.size, 0, none⟩) 1 1)).run Tryd.prog (wr.alloc (.cells #[.int .u8 (48 + (r : Int) % 10)] 5)) = .ok (.string (ofL [UInt8.ofNat (48 + r % 10)])) (wr.alloc (.cells #[.int .u8 (48 + (r : Int) % 10)] 5)) := fun dst hd => by
        have := U8s.str hU 34 5 Tryd.underlying34 Tryd.underlying5 dst hd
        rw [HDig.out] at this
        exact this
      have qs := qc 9 Tryd.underlying9
      have HCat : Hid (ofL [UInt8.ofNat (48 + r % 10)] ++ ofL D = ofL (UInt8.ofNat (48 + r % 10) :: D)) := by
        show _ = _
        rw [← ofL_data (ofL [UInt8.ofNat (48 + r % 10)] ++ ofL D)]
        congr 1
      have hds1 : (ofL [UInt8.ofNat (48 + r % 10)]).size = 1 := rfl
      generalize UInt8.ofNat (48 + r % 10) = dg at *
      clear hU qc
      go_wp2
      go_roundw
      case rel => exact ⟨r / 10, dg :: D, by omega, by simp; omega, by go_num, by rw [HCat.out], HN.out, HB.out.alloc hsz _⟩
      case measure => simp [intOf]; omega

def mts (x n : Nat) : List ByteArray := (List.range n).map fun i => mt (x + i)
theorem mts_len (x n : Nat) : (mts x n).length = n := by simp [mts]
theorem mts_getD (x n i : Nat) (h : i < n) : (mts x n).getD i ByteArray.empty = mt (x + i) := by simp [mts, h]
theorem grown_below {w w' w'' : World} {row : Option Nat} (h : w.grownBy w' row) (k : Below w'.heap.size w' w'') : w.grownBy w'' row :=
  ⟨k.os.trans h.os, k.tape.trans h.tape, k.output.trans h.output, Nat.le_trans h.size k.size, fun i hi hr => (k.block i (Nat.lt_of_lt_of_le hi h.size)).trans (h.block i hi hr)⟩

set_option maxHeartbeats 1600000 in
theorem markStringS_any (B : Nat) (v : Value) (n : Nat) (L : List Value) (x : Nat) (w : World) (h : w.ownsRow B 9 1 v n L) (hx : 1 ≤ x) (hx' : x + n ≤ 4194304) :
    Calls Tryd.prog 12 #[v, .int .i64 x] w fun e w' => e = .returned (.int .i64 ((x + n : Nat) : Int)) ∧ w'.ownsRow B 9 1 v n ((mts x n).map Value.string) ∧ w.grownBy w' v.ownBlock := by
  rcases h.2 with ⟨rfl, rfl⟩ | ⟨g, cap, cur, rfl, hB, hg, hnc, hcm, hcs, htake⟩
  · clear h
    go_enter Tryd.func12, Tryd.ntmps12
    go_wp2
    refine wp_loop_rounds 1 ?_
    rw [rounds_succ]
    go_wp2
    go_ret
    exact ⟨ret_int (by simp), by simpa [mts] using World.ownsRow_nil _ _ _ _, World.grownBy.refl _ _⟩
  · have hb : cap ≤ 9223372036854775807 := by unfold maxLen at hcm; omega
    have HO1 := Lib.hid h
    have CM := Lib.hid (fun (k : Nat) W (h1 : 1 ≤ k) (h2 : k ≤ 4194304) => markText_any k W h1 h2)
    clear hg hcs htake hcm h
    go_enter Tryd.func12, Tryd.ntmps12
    go_wp2
    go_loopw [1, 5] (fun m i wr => ∃ k : Nat, k ≤ n ∧ i = .int .i64 k ∧ m = .int .i64 ((x + k : Nat) : Int) ∧ (∃ L', wr.ownsRow B 9 1 (.slice (some ⟨g, 0, none⟩) n cap) n L' ∧ ∀ i, i < k → L'[i]? = some (.string (mt (x + i)))) ∧ w.grownBy wr (some g)) (fun _ i _ => n - (intOf i).toNat)
    case atStart => exact ⟨0, by omega, rfl, by simp, ⟨_, HO1.out, fun i hi => absurd hi (Nat.not_lt_zero _)⟩, World.grownBy.refl _ _⟩
    case round =>
      obtain ⟨k, hk, rfl, rfl, ⟨L', hown, hL⟩, hgr⟩ := hrel
      have HO := Lib.hid hown
      have HG := Lib.hid hgr
      have HL := Lib.hid hL
      clear hgr hL
      by_cases hlt : k < n
      · have C1 := Lib.hid (CM.out (x + k) wr (by omega) (by omega))
        clear hown
        obtain ⟨y, hy⟩ : ∃ y, y = x + k := ⟨_, rfl⟩
        have Hy := Lib.hid hy
        rw [← hy] at C1 ⊢
        have hw1 : IntKind.i64.wrap ((y : Int) + 1) = ((y + 1 : Nat) : Int) := by rw [IntWalk.i64_in _ (by omega)]; omega
        clear hy
        go_wp2_with (fail)
        refine C1.out.mono ?_
        rintro e w2 ⟨rfl, hb2⟩
        have hown2 := ownsRow_below HO.out hb2
        have HO2 := Lib.hid hown2
        have HG2 := Lib.hid (grown_below HG.out hb2)
        obtain ⟨q0, c0⟩ : ∃ q, w2.cell? ⟨g, k, none⟩ = some q := ⟨_, (hown2.cellAt k (by omega)).trans (List.getElem?_eq_getElem (by have := hown2.1; omega))⟩
        have f := fun j => hown2.frozenAt j
        clear hown2 hb2 C1
        go_wp2
        go_roundw
        case rel =>
          have h1 := HO2.out.stored k (.string (mt y))
          refine ⟨k + 1, by omega, by go_num, by have := Hy.out; go_num, ⟨_, h1.1, fun i hi => ?_⟩, HG2.out.trans h1.2⟩
          have hl : L'.length = n := by have := HO2.out.1; omega
          by_cases q : i = k
          · subst q
            rw [List.getElem?_set_self (by omega), Hy.out]
          · rw [List.getElem?_set_ne (by omega)]
            exact HL.out i (by omega)
        case measure => simp [intOf]; omega
      · obtain rfl : k = n := by omega
        have HE : Hid (L' = (mts x k).map Value.string) := by
          show _ = _
          have hl : L'.length = k := by have := HO.out.1; omega
          refine List.ext_getElem? fun i => ?_
          by_cases hi : i < k
          · rw [HL.out i hi]
            simp [mts, hi]
          · rw [List.getElem?_eq_none (by omega), List.getElem?_eq_none (by simp [mts]; omega)]
        clear hown
        go_wp2
        go_ret
        exact ⟨rfl, by rw [← HE.out]; exact HO.out, HG.out⟩

set_option maxHeartbeats 1600000 in
theorem heldStringS_any (a : Option Addr) (n c : Nat) (x : Nat) (w : World) (h : Strs w a n c (mts x n)) (hx : 1 ≤ x) (hx' : x + n ≤ 4194304) :
    Calls Tryd.prog 13 #[.slice a n c, .int .i64 x] w (Ret w (.int .i64 ((x + n : Nat) : Int))) := by
  obtain ⟨hc, hb, hcell⟩ := Row.at ByteArray.empty h
  have HCe := Lib.hid hcell
  have CM := Lib.hid (fun (k : Nat) W (h1 : 1 ≤ k) (h2 : k ≤ 4194304) => markText_any k W h1 h2)
  clear h hcell
  go_enter Tryd.func13, Tryd.ntmps13
  go_wp2
  go_loopw [1, 5] (fun m i wr => ∃ k : Nat, k ≤ n ∧ i = .int .i64 k ∧ m = .int .i64 ((x + k : Nat) : Int) ∧ Below w.heap.size w wr) (fun _ i _ => n - (intOf i).toNat)
  case atStart => exact ⟨0, by omega, rfl, by simp, Below.refl _ _⟩
  case round =>
    obtain ⟨k, hk, rfl, rfl, hbr⟩ := hrel
    have HB := Lib.hid hbr
    have hsz := hbr.size
    by_cases hlt : k < n
    · obtain ⟨b, off, rfl, hlb, hx2⟩ := HCe.out k hlt
      have z0 := cell_on hbr (hx2 k hlt)
      rw [mts_getD _ _ _ hlt] at z0
      have C1 := Lib.hid (fun W => CM.out (x + k) W (by omega) (by omega))
      obtain ⟨y, hy⟩ : ∃ y, y = x + k := ⟨_, rfl⟩
      have Hy := Lib.hid hy
      rw [← hy] at C1 z0 ⊢
      have hw1 : IntKind.i64.wrap ((y : Int) + 1) = ((y + 1 : Nat) : Int) := by rw [IntWalk.i64_in _ (by omega)]; omega
      have he : ((mt y).toList == (mt y).toList) = true := by simp
      have hki : (k : Int) < (n : Int) := by omega
      clear hy hx2 hbr
      generalize mt y = my at *
      go_wp2
      go_region_held3 (fun W => W.cell? ⟨b, off + k, none⟩ = some (.string my)) (first | exact z0 | go_keep)
        (first
          | (go_at_call 23; refine (C1.out _).mono ?_; rintro e w3 ⟨rfl, hb3⟩; have z0 := cell_on hb3 z0))
      have HB3 := Lib.hid (HB.out.trans (((Below.refl _ _).drew.trans hb3).mono hsz))
      clear hb3 z0 C1
      go_wp2
      go_roundw
      case rel => exact ⟨k + 1, by omega, by go_num, by have := Hy.out; go_num, HB3.out⟩
      case measure => simp [intOf]; omega
    · obtain rfl : k = n := by omega
      clear hbr
      go_wp2
      go_ret
      exact ⟨rfl, HB.out⟩

end Go.Proofs.YtkieaebnhcdhnaaDoor
