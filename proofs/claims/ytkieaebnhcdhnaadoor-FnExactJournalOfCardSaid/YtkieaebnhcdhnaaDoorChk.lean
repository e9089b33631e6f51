/- Check numbers and decimals: l01Check, CheckOf, l01Dec, Decimal. -/
import Derived.Test.YtkieaebnhcdhnaaDoorStrB
import Derived.Test.YtkieaebnhcdhnaaDoorShelf
import Derived.Test.YtkieaebnhcdhnaaDoorBasic
namespace Go.Proofs.YtkieaebnhcdhnaaDoor
open Go.RowKit
set_option linter.unusedVariables false

def chkStep (n : Int) (b : UInt8) : Int := (983 * n + b.toNat + 239) % 65003
def chkL (n : Int) (l : List UInt8) : Int := l.foldl chkStep n
theorem chkStep_bd (n : Int) (b : UInt8) : 0 ≤ chkStep n b ∧ chkStep n b ≤ 65002 := by unfold chkStep; omega
theorem chkL_bd (l : List UInt8) : ∀ n : Int, 0 ≤ n ∧ n ≤ 65002 → 0 ≤ chkL n l ∧ chkL n l ≤ 65002 := by
  induction l with
  | nil => intro n h; exact h
  | cons b l ih => intro n h; exact ih _ (chkStep_bd n b)
theorem chkL_snoc (n : Int) (s : ByteArray) (i : Nat) (h : i < s.size) : chkL n (s.data.toList.take (i + 1)) = chkStep (chkL n (s.data.toList.take i)) s[i] := by
  rw [take_snoc s i h]
  simp [chkL]

set_option maxHeartbeats 1600000 in
theorem l01Check_any (n : Int) (s : ByteArray) (w : World) (hn : 0 ≤ n ∧ n ≤ 65002) (hs : s.size ≤ 1048576) : Calls Tryd.prog 24 #[.int .i64 n, .string s] w (RetS w (.int .i64 (chkL n s.data.toList))) := by
  have HE : Hid (s.data.toList.take s.size = s.data.toList) := List.take_of_length_le (Nat.le_refl _)
  go_enter Tryd.func24, Tryd.ntmps24
  go_wp2
  go_loop [0, 5] (fun vn vi => ∃ i : Nat, i ≤ s.size ∧ vi = .int .i64 i ∧ vn = .int .i64 (chkL n (s.data.toList.take i))) (fun _ vi => s.size - (intOf vi).toNat)
  case atStart => exact ⟨0, by omega, rfl, by simp [chkL]⟩
  case round =>
    obtain ⟨i, hi, rfl, rfl⟩ := hrel
    obtain ⟨b0, b1⟩ := chkL_bd (s.data.toList.take i) n hn
    by_cases hlt : i < s.size
    · have HS := Lib.hid (chkL_snoc n s i hlt)
      generalize chkL n (s.data.toList.take i) = c at *
      have HC : Hid (chkStep c s[i] = (983 * c + s[i].toNat + 239) % 65003) := rfl
      have hb : s[i].toNat < 256 := UInt8.toNat_lt _
      have hw1 : IntKind.i64.wrap (983 * c) = 983 * c := IntWalk.i64_in _ (by omega)
      have hw2 : IntKind.i64.wrap (983 * c + (s[i].toNat : Int)) = 983 * c + s[i].toNat := IntWalk.i64_in _ (by omega)
      have hw3 : IntKind.i64.wrap (983 * c + (s[i].toNat : Int) + 239) = 983 * c + s[i].toNat + 239 := IntWalk.i64_in _ (by omega)
      go_wp2
      go_round
      case rel => exact ⟨i + 1, by omega, by go_num, by rw [HS.out, HC.out]⟩
      case measure => simp [intOf]; omega
    · obtain rfl : i = s.size := by omega
      rw [HE.out]
      go_wp2
      go_ret
      exact ⟨rfl, rfl⟩

set_option maxHeartbeats 1600000 in
theorem CheckOf_any (n : Int) (s : ByteArray) (w : World) (hn : 0 ≤ n ∧ n ≤ 65002) (hs : s.size ≤ 1048576) : Calls Tryd.prog 16 #[.int .i64 n, .string s] w (RetS w (.tuple #[.int .i64 (chkL n s.data.toList), .bool true])) := by
  have HE : Hid (s.data.toList.take s.size = s.data.toList) := List.take_of_length_le (Nat.le_refl _)
  have CI := Lib.hid (within_any n 0 65002 w)
  have hin : inB n 0 65002 = true := (inB_iff _ _ _).2 hn
  rw [hin] at CI
  clear hin
  go_enter Tryd.func16, Tryd.ntmps16
  go_wp2_with (fail)
  refine CI.out.mono ?_
  rintro e w1 ⟨rfl, rfl⟩
  clear CI
  go_wp2
  go_loop [0, 6, 12] (fun vn _ vi => ∃ i : Nat, i ≤ s.size ∧ vi = .int .i64 i ∧ vn = .int .i64 (chkL n (s.data.toList.take i))) (fun _ _ vi => s.size - (intOf vi).toNat)
  case atStart => exact ⟨0, by omega, rfl, by simp [chkL]⟩
  case round =>
    obtain ⟨i, hi, rfl, rfl⟩ := hrel
    obtain ⟨b0, b1⟩ := chkL_bd (s.data.toList.take i) n hn
    by_cases hlt : i < s.size
    · have HS := Lib.hid (chkL_snoc n s i hlt)
      generalize chkL n (s.data.toList.take i) = c at *
      have HC : Hid (chkStep c s[i] = (983 * c + s[i].toNat + 239) % 65003) := rfl
      have hb : s[i].toNat < 256 := UInt8.toNat_lt _
      have hw1 : IntKind.i64.wrap (983 * c) = 983 * c := IntWalk.i64_in _ (by omega)
      have hw2 : IntKind.i64.wrap (983 * c + (s[i].toNat : Int)) = 983 * c + s[i].toNat := IntWalk.i64_in _ (by omega)
      have hw3 : IntKind.i64.wrap (983 * c + (s[i].toNat : Int) + 239) = 983 * c + s[i].toNat + 239 := IntWalk.i64_in _ (by omega)
      go_wp2
      go_round
      case rel => exact ⟨i + 1, by omega, by go_num, by rw [HS.out, HC.out]⟩
      case measure => simp [intOf]; omega
    · obtain rfl : i = s.size := by omega
      rw [HE.out]
      go_wp2
      go_ret2
      exact ⟨rfl, rfl⟩

theorem below_sgrow {w w' : World} (h : Below w.heap.size w w') (os : Array Obj) : Below w.heap.size w (Sort.grow w' os) := by
  refine ⟨h.os, h.tape, h.output, ?_, fun k hk => ?_⟩
  · show w.heap.size ≤ (w'.heap ++ os).size
    rw [Array.size_append]
    have := h.size
    omega
  · show (w'.heap ++ os)[k]? = w.heap[k]?
    rw [Array.getElem?_append_left (by have := h.size; omega)]
    exact h.block k hk

/-- the decimal of a number from 0 on -/
def decB (n : Nat) : ByteArray := ofL (Lib.decDigits n)
theorem decDigits_eq (u : Nat) : Lib.decDigits u = if u < 10 then [UInt8.ofNat (48 + u)] else Lib.decDigits (u / 10) ++ [UInt8.ofNat (48 + u % 10)] := by
  rw [Lib.decDigits]
  split <;> rfl

set_option maxHeartbeats 1600000 in
theorem Decimal_any (n : Nat) (w : World) (hn : n ≤ 65002) (htab : Lib.TabIs Tryd.prog w "internal/strconv.uint64pow10" .u64 Lib.pow10Tab) : Calls Tryd.prog 18 #[.int .i64 n] w (Ret w (.string (decB n))) := by
  have C := Tryd.strconv_FormatInt_10 (n : Int) (by omega) (by omega) w htab
  have e : Lib.itoa (n : Int) = Lib.decDigits n := by unfold Lib.itoa; rw [if_neg (by omega)]; rfl
  rw [e] at C
  have C := Lib.hid C
  clear e htab
  go_enter Tryd.func18, Tryd.ntmps18
  go_wp2_with (fail)
  refine C.out.mono ?_
  rintro e w1 ⟨rfl, k, os, rfl⟩
  go_wp2
  go_ret
  exact ⟨rfl, below_sgrow (Quiet.below ⟨k, rfl⟩ _) os⟩

theorem infoU8 : (Tryd.prog.info? 5).map (fun i => (i.zero, i.size, i.bytes)) = some (some (.int .u8 0), 1, 1) := by kernel_rfl
def byteCells (l : List UInt8) : List Value := l.map fun b => .int .u8 (b.toNat : Int)
theorem byteCells_len (l : List UInt8) : (byteCells l).length = l.length := by simp [byteCells]
theorem byteCells_one (l : List UInt8) : ∀ u ∈ byteCells l, u.oneCell' = true := by
  intro u hu
  simp only [byteCells, List.mem_map] at hu
  obtain ⟨x, _, rfl⟩ := hu
  rfl
theorem own_one (w : World) (B : Nat) (e : TypeId) (v : Value) (hB : B ≤ w.heap.size) : (w.alloc (.cells #[v] e)).ownsRow B e 1 (.slice (some ⟨w.heap.size, 0, none⟩) 1 1) 1 [v] :=
  ⟨rfl, .inr ⟨w.heap.size, 1, #[v], rfl, hB, heap_alloc_new w _, Nat.le_refl _, by unfold maxLen; omega, rfl, rfl⟩⟩
theorem strOfNums_bytes (D : List UInt8) : strOfNums (D.map fun b => (b.toNat : Int)) = ofL D := by
  unfold strOfNums ofL
  congr 1
  rw [List.map_map]
  congr 1
  conv => rhs; rw [← List.map_id D]
  exact List.map_congr_left fun x _ => by simp
/-- the cells of a row of bytes -/
theorem Row.news {α : Type} {f : α → Value} {w : World} {ad : Addr} {n c : Nat} {xs : List α} (h : Row f w (some ad) n c xs) : ∀ j u, (xs.map f)[j]? = some u → w.cell? (ad.add j) = some u := by
  intro j u hu
  obtain ⟨h1, h2, h3, h4⟩ := h
  have hj : j < n * 1 := by rw [← h1]; exact (List.getElem?_eq_some_iff.1 hu).1
  rcases h4 with h4 | ⟨b, off, ha, hlt, hc⟩
  · omega
  · cases ha
    have := hc j hj
    rw [hu] at this
    rw [← this]
    unfold Addr.add
    split
    · rename_i h0; subst h0; rfl
    · rfl
abbrev U8s := Row (fun b : UInt8 => Value.int .u8 (b.toNat : Int))
theorem U8s.str {w : World} {g c : Nat} {D : List UInt8} (h : U8s w (some ⟨g, 0, none⟩) D.length c D) (src e : TypeId) (hs : Tryd.prog.underlying src = some (.slice e)) (he : Tryd.prog.underlying e = some (.int .u8)) (dst : TypeId) (hd : Tryd.prog.underlying dst = some .string) :
    (convert src dst (.slice (some ⟨g, 0, none⟩) D.length c)).run Tryd.prog w = .ok (.string (ofL D)) w := by
  rw [← strOfNums_bytes]
  refine run_convert_bytes_arg w src e hs he g 0 D.length c _ (by simp) (fun i hi => ?_) dst hd
  obtain ⟨_, _, hat⟩ := Row.at 0 h
  obtain ⟨b, off, e, _, hx⟩ := hat i hi
  simp only [Option.some.injEq, Addr.mk.injEq] at e
  obtain ⟨rfl, rfl, _⟩ := e
  rw [hx i hi]
  simp [hi]

theorem dec_first (n : Nat) : (if n / 10 = 0 then [UInt8.ofNat (48 + n % 10)] else Lib.decDigits (n / 10) ++ [UInt8.ofNat (48 + n % 10)]) = Lib.decDigits n := by
  rw [decDigits_eq n]
  by_cases h : n < 10
  · rw [if_pos h, if_pos (by omega), Nat.mod_eq_of_lt h]
  · rw [if_neg h, if_neg (by omega)]
theorem dec_next {r n : Nat} {D : List UInt8} (hr : r ≠ 0) (h : (if r = 0 then D else Lib.decDigits r ++ D) = Lib.decDigits n) : (if r / 10 = 0 then UInt8.ofNat (48 + r % 10) :: D else Lib.decDigits (r / 10) ++ UInt8.ofNat (48 + r % 10) :: D) = Lib.decDigits n := by
  rw [if_neg hr] at h
  rw [← h, decDigits_eq r]
  by_cases hl : r < 10
  · rw [if_pos hl, if_pos (by omega), Nat.mod_eq_of_lt hl]; rfl
  · rw [if_neg hl, if_neg (by omega)]; simp
theorem dig_nat (r : Nat) : ((UInt8.ofNat (48 + r % 10)).toNat : Int) = 48 + (r : Int) % 10 := by
  have : (UInt8.ofNat (48 + r % 10)).toNat = 48 + r % 10 := by
    rw [UInt8.toNat_ofNat']
    omega
  rw [this]
  omega

set_option maxHeartbeats 1600000 in
set_option maxRecDepth 100000 in
theorem l01Dec_any (n : Nat) (w : World) (hn : n ≤ 65002) : Calls Tryd.prog 25 #[.int .i64 n] w (Ret w (.string (decB n))) := by
  obtain ⟨i0, hi, hz0, hz1, hz2⟩ := info_parts infoU8
  go_enter Tryd.func25, Tryd.ntmps25
  go_wp2
  go_loopw [3, 4, 5] (fun vo vr _ wr => ∃ (r g c : Nat) (D : List UInt8), r ≤ 65002 ∧ vr = .int .i64 r ∧ vo = .slice (some ⟨g, 0, none⟩) D.length c ∧ D.length + r ≤ 65004 ∧ ((D = [] ∧ r = n) ∨ (D ≠ [] ∧ (if r = 0 then D else Lib.decDigits r ++ D) = Lib.decDigits n)) ∧ Below w.heap.size w wr ∧ wr.ownsRow w.heap.size 5 1 (.slice (some ⟨g, 0, none⟩) D.length c) D.length (byteCells D)) (fun vo vr _ _ => (match vo with | .slice _ 0 _ => 1 | _ => 0) + 2 * (intOf vr).toNat)
  case atStart => exact ⟨n, w.heap.size, 0, [], hn, rfl, rfl, by simp; omega, .inl ⟨rfl, rfl⟩, (Below.refl _ _).alloc (Nat.le_refl _) _, World.ownsRow_made (e := 5) (size := 1) (base := w.heap.size) w #[] 0 (by simp) (Nat.zero_le _) (by simp)⟩
  case round =>
    obtain ⟨r, g, c, D, hr, rfl, rfl, hDl, hD, hb, ho⟩ := hrel
    have HB := Lib.hid hb
    have HO := Lib.hid ho
    have HDig := Lib.hid (dig_nat r)
    have hsz := hb.size
    clear hb ho
    by_cases hD0 : D = []
    · subst hD0
      have hrn : Hid (r = n) := hD.elim (fun h => h.2) (fun h => absurd rfl h.1)
      clear hD
      go_wp2_with (fail)
      go_roundw
      case rel =>
        rw [← HDig.out]
        exact ⟨r / 10, wr.heap.size, 1, [UInt8.ofNat (48 + r % 10)], by omega, by go_num, rfl, by simp at hDl ⊢; omega, .inr ⟨by simp, by rw [hrn.out]; exact dec_first n⟩, HB.out.alloc hsz _, by
          exact own_one wr w.heap.size 5 (.int .u8 ((UInt8.ofNat (48 + r % 10)).toNat : Int)) hsz⟩
      case measure => simp [intOf]; omega
    · have hDe : (if r = 0 then D else Lib.decDigits r ++ D) = Lib.decDigits n := hD.elim (fun h => absurd h.1 hD0) (fun h => h.2)
      clear hD
      by_cases hr0 : r = 0
      · rw [if_pos hr0] at hDe
        have HR : Hid (decB n = ofL D) := by show _ = _; unfold decB; rw [hDe]
        subst hr0
        have qc := U8s.str (show U8s wr (some ⟨g, 0, none⟩) D.length c D from Rd.own HO.out) 34 5 Tryd.underlying34 Tryd.underlying5 9 Tryd.underlying9
        have hl0 : ((D.length : Int) == 0) = false := by
          have : D.length ≠ 0 := fun e => hD0 (List.eq_nil_of_length_eq_zero e)
          simp; omega
        clear hDe
        go_wp2
        go_ret
        exact ⟨by rw [HR.out]; rfl, HB.out⟩
      · have HN := Lib.hid (dec_next hr0 hDe)
        have hl0 : 0 < D.length := List.length_pos_iff.2 hD0
        have hrz : ((r : Int) == 0) = false := by simp; omega
        have hrz2 : ((r : Int) != 0) = true := by simp; omega
        clear hDe
        have HNw := Lib.hid (Row.news (show U8s wr (some ⟨g, 0, none⟩) D.length c D from Rd.own HO.out))
        have HLL : Hid ((byteCells D).length = D.length * 1) := by show _ = _; rw [byteCells_len]; omega
        have hw1 : IntKind.i64.wrap (48 + (r : Int) % 10) = 48 + (r : Int) % 10 := IntWalk.i64_in _ (by omega)
        go_wp2_with (first | (at_builtin; go_must (refine wpList_append_lies _ rfl _ _ 34 rfl w.heap.size 5 i0 _ 1 1 Tryd.underlying34 hi hz0 hz1 hz2 rfl (by omega) (.slice (some ⟨wr.heap.size, 0, none⟩) 1 1) 1 [.int .u8 (48 + (r : Int) % 10)] rfl (own_one wr w.heap.size 5 _ hsz) ⟨g, 0, none⟩ D.length c (byteCells D) rfl HLL.out (fun j u hu => cell_on ((Below.refl _ _).alloc (Nat.le_refl _) _) (HNw.out j u hu)) (byteCells_one D) (by omega) (by unfold maxLen; omega) (by omega) (by simp; omega) (wr.heap.size + 1) (by simp) ?_); intro gg cap w5 hown1 hg1 hat hlt5; have HBn := Lib.hid (below_grown (HB.out.alloc hsz _) (by simp; omega) hg1 (own_one wr w.heap.size 5 _ hsz)); have HOn := Lib.hid hown1; clear hown1 hg1 hat))
        go_roundw
        case rel => exact ⟨r / 10, gg, cap, UInt8.ofNat (48 + r % 10) :: D, by omega, by go_num, by simp; omega, by simp; omega, .inr ⟨by simp, HN.out⟩, HBn.out, by
          have := HOn.out
          rw [Nat.add_comm 1 D.length] at this
          show w5.ownsRow _ _ _ _ _ (.int .u8 ((UInt8.ofNat (48 + r % 10)).toNat : Int) :: byteCells D)
          rw [HDig.out]
          exact this⟩
        case measure => simp [intOf]; omega

end Go.Proofs.YtkieaebnhcdhnaaDoor
