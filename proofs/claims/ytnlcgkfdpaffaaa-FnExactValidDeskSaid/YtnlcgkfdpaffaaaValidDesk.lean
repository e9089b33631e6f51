/- Words of six symbols, and desks that are valid, of both. -/
import Derived.Test.YtnlcgkfdpaffaaaOrderB
import Derived.Test.YtnlcgkfdpaffaaaTilesE
import Derived.Test.YtnlcgkfdpaffaaaDesk
namespace Go.Proofs.Ytnlcgkfdpaffaaa
open Go.RowKit Go.Shelf
set_option linter.unusedVariables false

def sym (x : Int) : Bool := inB x 0 5
def okWord (xs : List Int) : Bool := decide (1 ≤ xs.length) && (decide (xs.length ≤ 12) && xs.all sym)

theorem IsWord1_any (x : Int) (b off : Nat) (w : World) (hc : w.cell? ⟨b, off, none⟩ = some (.int .i64 6)) : Calls Try.prog 90 #[.int .i64 x, .pointer (some ⟨b, off, none⟩)] w (Ret w (.bool (!sym x))) := by
  go_enter Try.func90, Try.ntmps90
  go_wp2_with (first | (go_at_call 50; refine (within_any _ _ _ _).mono ?_; rintro e w' ⟨rfl, rfl⟩))
  go_ret
  exact ⟨rfl, Below.refl _ _⟩

theorem IsWord_any (a : Option Addr) (n c : Nat) (xs : List Int) (w : World) (h : Ints w a n c xs) :
    Calls Try.prog 73 #[.slice a n c, .int .i64 6] w (Ret w (.bool (okWord xs))) := by
  have HD : Hid (okWord xs = (decide (1 ≤ xs.length) && (decide (xs.length ≤ 12) && xs.all sym))) := rfl
  have hl := Lib.hid h.len
  obtain ⟨hc, hb, _⟩ := h.at
  have C := containsFuncI64_any (fun x => !sym x) 90 #[.pointer (some ⟨w.heap.size, 0, none⟩)] (enters_of Try.func90 (by kernel_rfl) rfl) a n c xs (w.alloc (.cells #[.int .i64 6] 2)) (h.mono ((Below.refl _ _).alloc (Nat.le_refl _) _))
    (fun W hW x _ => IsWord1_any x w.heap.size 0 W (cell_on hW (by simp)))
  rw [any_not_all] at C
  have HC := Lib.hid C
  have hin : inB 6 2 6 = true := rfl
  clear C h
  by_cases h1 : 1 ≤ n
  · by_cases h2 : n ≤ 12
    · go_enter Try.func73, Try.ntmps73
      go_wp2_with (first | (go_at_call 50; refine (within_any _ _ _ _).mono ?_; rintro e w' ⟨rfl, rfl⟩))
      refine HC.out.mono ?_
      rintro e w1 ⟨rfl, hb1⟩
      have HB := Lib.hid (((Below.refl w.heap.size w).alloc (Nat.le_refl _) _).trans (hb1.mono (by simp)))
      clear hb1
      go_wp2
      go_ret
      exact ⟨ret_bool (by rw [HD.out, hl.out]; simp [h1, h2]), HB.out⟩
    · go_enter Try.func73, Try.ntmps73
      go_wp2
      go_ret
      exact ⟨ret_bool (by rw [HD.out, hl.out]; simp [h2]), (Below.refl _ _).alloc (Nat.le_refl _) _⟩
  · go_enter Try.func73, Try.ntmps73
    go_wp2
    go_ret
    exact ⟨ret_bool (by rw [HD.out, hl.out]; simp [h1]), (Below.refl _ _).alloc (Nat.le_refl _) _⟩

theorem l04Word_any (a : Option Addr) (n c : Nat) (xs : List Int) (w : World) (h : Ints w a n c xs) :
    Calls Try.prog 88 #[.slice a n c, .int .i64 6] w (RetS w (.bool (okWord xs))) := by
  have HD : Hid (okWord xs = (decide (1 ≤ xs.length) && (decide (xs.length ≤ 12) && xs.all sym))) := rfl
  have hl := Lib.hid h.len
  obtain ⟨hc, hb, hcell⟩ := h.at
  have hin : inB 6 2 6 = true := rfl
  clear h
  by_cases h1 : 1 ≤ n
  · by_cases h2 : n ≤ 12
    · go_enter Try.func88, Try.ntmps88
      go_wp2_with (first | (go_at_call 83; refine (l00In_any _ _ _ _).mono ?_; rintro e w' ⟨rfl, rfl⟩))
      go_loop [5] (fun i => ∃ k : Nat, k ≤ n ∧ i = .int .i64 k ∧ AllTo sym 0 xs k) (fun i => n - (intOf i).toNat)
      case atStart => exact ⟨0, by omega, rfl, AllTo.zero _ _ _⟩
      case round =>
        obtain ⟨k, hk, rfl, hto⟩ := hrel
        have HT := Lib.hid hto
        clear hto
        by_cases hlt : k < n
        · obtain ⟨b, off, rfl, hlb, hxx⟩ := hcell k hlt
          have h0 := hxx k hlt
          have HS : Hid (sym (xs.getD k 0) = true → AllTo sym 0 xs (k + 1)) := fun e => HT.out.succ e
          have HN : Hid (sym (xs.getD k 0) = false → xs.all sym = false) := fun e => all_not (by rw [hl.out]; exact hlt) e
          clear hcell hxx
          generalize xs.getD k 0 = x at *
          rcases Bool.eq_false_or_eq_true (inB x 0 5) with e | e
          · go_wp2_with (first | (go_at_call 83; refine (l00In_any _ _ _ _).mono ?_; rintro e w' ⟨rfl, rfl⟩))
            go_round
            case rel => exact ⟨k + 1, by omega, by go_num, HS.out e⟩
            case measure => simp [intOf]; omega
          · go_wp2_with (first | (go_at_call 83; refine (l00In_any _ _ _ _).mono ?_; rintro e w' ⟨rfl, rfl⟩))
            go_ret
            exact ⟨ret_bool (by rw [HD.out, HN.out e]; simp), rfl⟩
        · obtain rfl : k = n := by omega
          clear hcell
          go_wp2
          go_ret
          exact ⟨ret_bool (by rw [HD.out, HT.out.all hl.out, hl.out]; simp [h1, h2]), rfl⟩
    · go_enter Try.func88, Try.ntmps88
      go_wp2_with (first | (go_at_call 83; refine (l00In_any _ _ _ _).mono ?_; rintro e w' ⟨rfl, rfl⟩))
      go_ret
      exact ⟨ret_bool (by rw [HD.out, hl.out]; simp [h2]), rfl⟩
  · go_enter Try.func88, Try.ntmps88
    go_wp2_with (first | (go_at_call 83; refine (l00In_any _ _ _ _).mono ?_; rintro e w' ⟨rfl, rfl⟩))
    go_ret
    exact ⟨ret_bool (by rw [HD.out, hl.out]; simp [h1]), rfl⟩

def okDesk (x0 x1 x2 : List Int) : Bool := okDeck x0 && (okHand x1 && okWord x2)

theorem implValidDesk_any (a0 : Option Addr) (n0 c0 : Nat) (x0 : List Int) (a1 : Option Addr) (n1 c1 : Nat) (x1 : List Int) (a2 : Option Addr) (n2 c2 : Nat) (x2 : List Int) (w : World)
    (h0 : Ints w a0 n0 c0 x0) (h1 : Ints w a1 n1 c1 x1) (h2 : Ints w a2 n2 c2 x2) :
    Calls Try.prog 37 #[.agg #[.slice a0 n0 c0, .slice a1 n1 c1, .slice a2 n2 c2]] w (Ret w (.bool (okDesk x0 x1 x2))) := by
  have HD : Hid (okDesk x0 x1 x2 = (okDeck x0 && (okHand x1 && okWord x2))) := rfl
  have HB0 : Below w.heap.size w (w.alloc (.cells #[.slice a0 n0 c0, .slice a1 n1 c1, .slice a2 n2 c2] 55)) := (Below.refl w.heap.size w).alloc (Nat.le_refl _) _
  have C0 := Lib.hid (fun W (B : Below w.heap.size w W) => IsDeck_any a0 n0 c0 x0 W (h0.mono B))
  have C1 := Lib.hid (fun W (B : Below w.heap.size w W) => IsTileHand_any a1 n1 c1 x1 W (h1.mono B))
  have C2 := Lib.hid (fun W (B : Below w.heap.size w W) => IsWord_any a2 n2 c2 x2 W (h2.mono B))
  clear h0 h1 h2
  generalize okDeck x0 = r0 at *
  generalize okHand x1 = r1 at *
  generalize okWord x2 = r2 at *
  cases r0
  · go_enter Try.func37, Try.ntmps37
    go_wp2_with (fail)
    refine (C0.out _ HB0).mono ?_
    rintro e w1 ⟨rfl, hb1⟩
    have HB1 := HB0.trans (hb1.mono HB0.size)
    clear hb1
    go_wp2
    go_ret
    exact ⟨ret_bool (by rw [HD.out]; rfl), HB1⟩
  · cases r1
    · go_enter Try.func37, Try.ntmps37
      go_wp2_with (fail)
      refine (C0.out _ HB0).mono ?_
      rintro e w1 ⟨rfl, hb1⟩
      have p1 := cell_on hb1 (p := ⟨w.heap.size, 1, none⟩) (v := .slice a1 n1 c1) (by go_simp)
      have HB1 := HB0.trans (hb1.mono HB0.size)
      clear hb1
      go_wp2_with (fail)
      refine (C1.out _ HB1).mono ?_
      rintro e w2 ⟨rfl, hb2⟩
      have HB2 := HB1.trans (hb2.mono HB1.size)
      clear hb2
      go_wp2
      go_ret
      exact ⟨ret_bool (by rw [HD.out]; rfl), HB2⟩
    · go_enter Try.func37, Try.ntmps37
      go_wp2_with (fail)
      refine (C0.out _ HB0).mono ?_
      rintro e w1 ⟨rfl, hb1⟩
      have p1 := cell_on hb1 (p := ⟨w.heap.size, 1, none⟩) (v := .slice a1 n1 c1) (by go_simp)
      have p2 := cell_on hb1 (p := ⟨w.heap.size, 2, none⟩) (v := .slice a2 n2 c2) (by go_simp)
      have HB1 := HB0.trans (hb1.mono HB0.size)
      clear hb1
      go_wp2_with (fail)
      refine (C1.out _ HB1).mono ?_
      rintro e w2 ⟨rfl, hb2⟩
      replace p2 := cell_on hb2 p2
      have HB2 := HB1.trans (hb2.mono HB1.size)
      clear hb2
      go_wp2_with (fail)
      refine (C2.out _ HB2).mono ?_
      rintro e w3 ⟨rfl, hb3⟩
      have HB3 := HB2.trans (hb3.mono HB2.size)
      clear hb3
      go_wp2
      go_ret
      exact ⟨ret_bool (by rw [HD.out]; simp), HB3⟩

theorem l08Is_any (a0 : Option Addr) (n0 c0 : Nat) (x0 : List Int) (a1 : Option Addr) (n1 c1 : Nat) (x1 : List Int) (a2 : Option Addr) (n2 c2 : Nat) (x2 : List Int) (b : Nat) (w : World)
    (h0 : Ints w a0 n0 c0 x0) (h1 : Ints w a1 n1 c1 x1) (h2 : Ints w a2 n2 c2 x2) (q0 : w.cell? ⟨b, 0, none⟩ = some (.slice a0 n0 c0)) (q1 : w.cell? ⟨b, 1, none⟩ = some (.slice a1 n1 c1)) (q2 : w.cell? ⟨b, 2, none⟩ = some (.slice a2 n2 c2)) :
    Calls Try.prog 71 #[.pointer (some ⟨b, 0, none⟩)] w (Ret w (.bool (okDesk x0 x1 x2))) := by
  have HD : Hid (okDesk x0 x1 x2 = (okDeck x0 && (okHand x1 && okWord x2))) := rfl
  have HB0 := Below.refl w.heap.size w
  have C0 := Lib.hid (fun W (B : Below w.heap.size w W) => l02Deck_any a0 n0 c0 x0 W (h0.mono B))
  have C1 := Lib.hid (fun W (B : Below w.heap.size w W) => l06Tiles_any a1 n1 c1 x1 W (h1.mono B))
  have C2 := Lib.hid (fun W (B : Below w.heap.size w W) => l04Word_any a2 n2 c2 x2 W (h2.mono B))
  clear h0 h1 h2
  generalize okDeck x0 = r0 at *
  generalize okHand x1 = r1 at *
  generalize okWord x2 = r2 at *
  cases r0
  · go_enter Try.func71, Try.ntmps71
    go_wp2_with (fail)
    refine (C0.out _ HB0).mono ?_
    rintro e w1 ⟨rfl, hq1⟩
    have HB1 := HB0.trans (hq1.b.mono HB0.size)
    clear hq1
    go_wp2
    go_ret
    exact ⟨ret_bool (by rw [HD.out]; rfl), HB1⟩
  · cases r1
    · go_enter Try.func71, Try.ntmps71
      go_wp2_with (fail)
      refine (C0.out _ HB0).mono ?_
      rintro e w1 ⟨rfl, hq1⟩
      have HB1 := HB0.trans (hq1.b.mono HB0.size)
      replace q1 := cell_on hq1.b q1
      clear hq1 q0 q2
      go_wp2_with (fail)
      refine (C1.out _ HB1).mono ?_
      rintro e w2 ⟨rfl, rfl⟩
      go_wp2
      go_ret
      exact ⟨ret_bool (by rw [HD.out]; rfl), HB1⟩
    · go_enter Try.func71, Try.ntmps71
      go_wp2_with (fail)
      refine (C0.out _ HB0).mono ?_
      rintro e w1 ⟨rfl, hq1⟩
      have HB1 := HB0.trans (hq1.b.mono HB0.size)
      replace q1 := cell_on hq1.b q1
      replace q2 := cell_on hq1.b q2
      clear hq1 q0
      go_wp2_with (fail)
      refine (C1.out _ HB1).mono ?_
      rintro e w2 ⟨rfl, rfl⟩
      go_wp2_with (fail)
      refine (C2.out _ HB1).mono ?_
      rintro e w3 ⟨rfl, rfl⟩
      go_wp2
      go_ret
      exact ⟨ret_bool (by rw [HD.out]; simp), HB1⟩

theorem specValidDesk_any (a0 : Option Addr) (n0 c0 : Nat) (x0 : List Int) (a1 : Option Addr) (n1 c1 : Nat) (x1 : List Int) (a2 : Option Addr) (n2 c2 : Nat) (x2 : List Int) (w : World)
    (h0 : Ints w a0 n0 c0 x0) (h1 : Ints w a1 n1 c1 x1) (h2 : Ints w a2 n2 c2 x2) :
    Calls Try.prog 35 #[.agg #[.slice a0 n0 c0, .slice a1 n1 c1, .slice a2 n2 c2]] w (Ret w (.bool (okDesk x0 x1 x2))) := by
  have HB0 : Below w.heap.size w (w.alloc (.cells #[.slice a0 n0 c0, .slice a1 n1 c1, .slice a2 n2 c2] 55)) := (Below.refl w.heap.size w).alloc (Nat.le_refl _) _
  have C := Lib.hid (l08Is_any a0 n0 c0 x0 a1 n1 c1 x1 a2 n2 c2 x2 w.heap.size _ (h0.mono HB0) (h1.mono HB0) (h2.mono HB0) (by go_simp) (by go_simp) (by go_simp))
  clear h0 h1 h2
  go_enter Try.func35, Try.ntmps35
  go_wp2_with (fail)
  refine C.out.mono ?_
  rintro e w1 ⟨rfl, hb1⟩
  have HB1 := HB0.trans (hb1.mono HB0.size)
  clear hb1
  go_wp2
  go_ret
  exact ⟨rfl, HB1⟩

end Go.Proofs.Ytnlcgkfdpaffaaa
