/- Check numbers and decimals: l01Check, CheckOf, l01Dec, Decimal. -/
import Derived.Test.YtmijfieiebnbfaaDoorStrB
import Derived.Test.YtmijfieiebnbfaaDoorShelf
import Derived.Test.YtmijfieiebnbfaaDoorBasic
import Derived.Lib.ItoaNum
import Derived.Sort.Grow
import Derived.Laws.BytesArg
namespace Go.Proofs.YtmijfieiebnbfaaDoor
open Go.RowKit
set_option linter.unusedVariables false

def chkStep (n : Int) (b : UInt8) : Int := (983 * n + b.toNat + 239) % 65003
def chkL (n : Int) (l : List UInt8) : Int := l.foldl chkStep n
theorem chkStep_bd (n : Int) (b : UInt8) : 0 ≤ chkStep n b ∧ chkStep n b ≤ 65002 := by unfold chkStep; omega
theorem chkL_bd (l : List UInt8) : ∀ n : Int, 0 ≤ n ∧ n ≤ 65002 → 0 ≤ chkL n l ∧ chkL n l ≤ 65002 := by
  induction l with
  | nil => intro n h; exact h
  | cons b l ih => intro n h; exact ih _ (chkStep_bd n b)
theorem chkL_snoc (n : Int) (s : ByteArray) (i : Nat) (h : i < s.size) : chkL n (s.data.toList.take (i + 1)) = chkStep (chkL n (s.data.toList.take i)) s[i] := by
  rw [take_snoc s i h]
  simp [chkL]

theorem below_sgrow {w w' : World} (h : Below w.heap.size w w') (os : Array Obj) : Below w.heap.size w (Sort.grow w' os) := by
  refine ⟨h.os, h.tape, h.output, ?_, fun k hk => ?_⟩
  · show w.heap.size ≤ (w'.heap ++ os).size
    rw [Array.size_append]
    have := h.size
    omega
  · show (w'.heap ++ os)[k]? = w.heap[k]?
    rw [Array.getElem?_append_left (by have := h.size; omega)]
    exact h.block k hk

/-- the decimal of a number from 0 on -/
def decB (n : Nat) : ByteArray := ofL (Lib.decDigits n)
theorem decDigits_eq (u : Nat) : Lib.decDigits u = if u < 10 then [UInt8.ofNat (48 + u)] else Lib.decDigits (u / 10) ++ [UInt8.ofNat (48 + u % 10)] := by
  rw [Lib.decDigits]
  split <;> rfl

set_option maxHeartbeats 1600000 in
theorem Decimal_any (n : Nat) (w : World) (hn : n ≤ 65002) (htab : Lib.TabIs Tryd.prog w "internal/strconv.uint64pow10" .u64 Lib.pow10Tab) : Calls Tryd.prog 27 #[.int .i64 n] w (Ret w (.string (decB n))) := by
  have C := Tryd.strconv_FormatInt_10 (n : Int) (by omega) (by omega) w htab
  have e : Lib.itoa (n : Int) = Lib.decDigits n := by unfold Lib.itoa; rw [if_neg (by omega)]; rfl
  rw [e] at C
  have C := Lib.hid C
  clear e htab
  go_enter Tryd.func27, Tryd.ntmps27
  go_wp2_with (fail)
  refine C.out.mono ?_
  rintro e w1 ⟨rfl, k, os, rfl⟩
  go_wp2
  go_ret
  exact ⟨rfl, below_sgrow (Quiet.below ⟨k, rfl⟩ _) os⟩

theorem infoU8 : (Tryd.prog.info? 5).map (fun i => (i.zero, i.size, i.bytes)) = some (some (.int .u8 0), 1, 1) := by kernel_rfl
def byteCells (l : List UInt8) : List Value := l.map fun b => .int .u8 (b.toNat : Int)
theorem byteCells_len (l : List UInt8) : (byteCells l).length = l.length := by simp [byteCells]
theorem byteCells_one (l : List UInt8) : ∀ u ∈ byteCells l, u.oneCell' = true := by
  intro u hu
  simp only [byteCells, List.mem_map] at hu
  obtain ⟨x, _, rfl⟩ := hu
  rfl
theorem own_one (w : World) (B : Nat) (e : TypeId) (v : Value) (hB : B ≤ w.heap.size) : (w.alloc (.cells #[v] e)).ownsRow B e 1 (.slice (some ⟨w.heap.size, 0, none⟩) 1 1) 1 [v] :=
  ⟨rfl, .inr ⟨w.heap.size, 1, #[v], rfl, hB, heap_alloc_new w _, Nat.le_refl _, by unfold maxLen; omega, rfl, rfl⟩⟩
theorem strOfNums_bytes (D : List UInt8) : strOfNums (D.map fun b => (b.toNat : Int)) = ofL D := by
  unfold strOfNums ofL
  congr 1
  rw [List.map_map]
  congr 1
  conv => rhs; rw [← List.map_id D]
  exact List.map_congr_left fun x _ => by simp
/-- the cells of a row of bytes -/
theorem Row.news {α : Type} {f : α → Value} {w : World} {ad : Addr} {n c : Nat} {xs : List α} (h : Row f w (some ad) n c xs) : ∀ j u, (xs.map f)[j]? = some u → w.cell? (ad.add j) = some u := by
  intro j u hu
  obtain ⟨h1, h2, h3, h4⟩ := h
  have hj : j < n * 1 := by rw [← h1]; exact (List.getElem?_eq_some_iff.1 hu).1
  rcases h4 with h4 | ⟨b, off, ha, hlt, hc⟩
  · omega
  · cases ha
    have := hc j hj
    rw [hu] at this
    rw [← this]
    unfold Addr.add
    split
    · rename_i h0; subst h0; rfl
    · rfl
abbrev U8s := Row (fun b : UInt8 => Value.int .u8 (b.toNat : Int))
theorem U8s.str {w : World} {g c : Nat} {D : List UInt8} (h : U8s w (some ⟨g, 0, none⟩) D.length c D) (src e : TypeId) (hs : Tryd.prog.underlying src = some (.slice e)) (he : Tryd.prog.underlying e = some (.int .u8)) (dst : TypeId) (hd : Tryd.prog.underlying dst = some .string) :
    (convert src dst (.slice (some ⟨g, 0, none⟩) D.length c)).run Tryd.prog w = .ok (.string (ofL D)) w := by
  rw [← strOfNums_bytes]
  refine run_convert_bytes_arg w src e hs he g 0 D.length c _ (by simp) (fun i hi => ?_) dst hd
  obtain ⟨_, _, hat⟩ := Row.at 0 h
  obtain ⟨b, off, e, _, hx⟩ := hat i hi
  simp only [Option.some.injEq, Addr.mk.injEq] at e
  obtain ⟨rfl, rfl, _⟩ := e
  rw [hx i hi]
  simp [hi]

theorem dec_first (n : Nat) : (if n / 10 = 0 then [UInt8.ofNat (48 + n % 10)] else Lib.decDigits (n / 10) ++ [UInt8.ofNat (48 + n % 10)]) = Lib.decDigits n := by
  rw [decDigits_eq n]
  by_cases h : n < 10
  · rw [if_pos h, if_pos (by omega), Nat.mod_eq_of_lt h]
  · rw [if_neg h, if_neg (by omega)]
theorem dec_next {r n : Nat} {D : List UInt8} (hr : r ≠ 0) (h : (if r = 0 then D else Lib.decDigits r ++ D) = Lib.decDigits n) : (if r / 10 = 0 then UInt8.ofNat (48 + r % 10) :: D else Lib.decDigits (r / 10) ++ UInt8.ofNat (48 + r % 10) :: D) = Lib.decDigits n := by
  rw [if_neg hr] at h
  rw [← h, decDigits_eq r]
  by_cases hl : r < 10
  · rw [if_pos hl, if_pos (by omega), Nat.mod_eq_of_lt hl]; rfl
  · rw [if_neg hl, if_neg (by omega)]; simp
theorem dig_nat (r : Nat) : ((UInt8.ofNat (48 + r % 10)).toNat : Int) = 48 + (r : Int) % 10 := by
  have : (UInt8.ofNat (48 + r % 10)).toNat = 48 + r % 10 := by
    rw [UInt8.toNat_ofNat']
    omega
  rw [this]
  omega

end Go.Proofs.YtmijfieiebnbfaaDoor
