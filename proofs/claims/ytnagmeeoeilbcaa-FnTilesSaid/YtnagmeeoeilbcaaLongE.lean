/- LongestLine of both. -/
import Derived.Test.YtnagmeeoeilbcaaLongD
namespace Go.Proofs.Ytnagmeeoeilbcaa
open Go.RowKit Go.Shelf
set_option linter.unusedVariables false

/-- what LongestLine tells -/
def longRes (ts : List (Int × Int)) : List Int × Bool := if okTiles ts = true then (srchL ts (ts.length + 1) [] (-1), true) else ([], false)

/-- the longest line that was visited lies in block b -/
structure InvL (b B0 : Nat) (best : List Int) (W : World) : Prop where
  ex : ∃ a n c, W.cell? ⟨b, 0, none⟩ = some (.slice a n c) ∧ W.ownsRow B0 2 1 (.slice a n c) n (intCells best) ∧ Av b a ∧ n ≤ 1000
  fr : W.frozen? ⟨b, 0, none⟩ = false
  lt : b < W.heap.size
theorem InvL.below {b B0 : Nat} {best : List Int} {W W' : World} (h : InvL b B0 best W) (hb : Below W.heap.size W W') : InvL b B0 best W' := by
  obtain ⟨⟨a, n, c, h1, h2, h3, h4⟩, hf, hl⟩ := h
  exact ⟨⟨a, n, c, cell_on hb h1, ownsRow_below h2 hb, h3, h4⟩, frozen_on hb hl hf, Nat.lt_of_lt_of_le hl hb.size⟩

theorem LongestLine1_any (b B0 : Nat) (la : Option Addr) (m lc : Nat) (L : List Int) (E : Nat) (s : List Int) (W : World) (hown : W.ownsRow B0 2 1 (.slice la m lc) m (intCells L)) (hla : Av b la) (hm : m ≤ 1000) (hI : InvL b B0 s W) :
    Calls Try.prog 31 #[.slice la m lc, .int .i64 E, .pointer (some ⟨b, 0, none⟩)] W fun e W' => e = .returned (.tuple #[]) ∧ Chg b (b + 1) W W' ∧ InvL b B0 (stepL s (L, E)) W' := by
  obtain ⟨⟨a, n, c, h1, h2, h3, h4⟩, hf, hlt⟩ := hI
  have hl1 : L.length = m := by have := hown.1; rw [intCells_len] at this; omega
  have hl2 : s.length = n := by have := h2.1; rw [intCells_len] at this; omega
  have HSt : Hid (stepL s (L, E) = if s.length < L.length then L else s) := rfl
  have HO := Lib.hid hown
  have HA := Lib.hid hla
  have H2 := Lib.hid h2
  have H3 := Lib.hid h3
  have HL1 := Lib.hid hl1
  have HL2 := Lib.hid hl2
  clear hown hla h2 h3 hl1 hl2
  by_cases hlt2 : n < m
  · have HS : Hid (stepL s (L, E) = L) := by show _ = _; rw [HSt.out, if_pos (by rw [HL1.out, HL2.out]; exact hlt2)]
    go_enter Try.func31, Try.ntmps31
    go_wp2
    go_end0
    refine ⟨rfl, (Chg.refl b (b + 1) W).set _ (Nat.le_refl _) (by dsimp only; omega), ⟨⟨la, m, lc, World.cell?_setCell_same _ _ _ h1, ?_, HA.out, hm⟩, by rw [World.frozen?_setCell]; exact hf, by simpa using hlt⟩⟩
    rw [HS.out]
    exact ownsRow_setCell_other HO.out (fun x hx => HA.out x hx) _
  · have HS : Hid (stepL s (L, E) = s) := by show _ = _; rw [HSt.out, if_neg (by rw [HL1.out, HL2.out]; exact hlt2)]
    go_enter Try.func31, Try.ntmps31
    go_wp2
    go_end0
    exact ⟨rfl, Chg.refl _ _ _, by rw [HS.out]; exact ⟨⟨a, n, c, h1, H2.out, H3.out, h4⟩, hf, hlt⟩⟩

set_option maxHeartbeats 800000 in
theorem implLongestLine_any (a : Option Addr) (n c : Nat) (ts : List (Int × Int)) (w : World) (h : Duos w a n c ts) :
    Calls Try.prog 13 #[.slice a n c] w (RetI 2 w (longRes ts)) := by
  have C1 := AreTiles_any a n c ts w h
  have hl := h.len
  obtain ⟨hc, hb, _⟩ := h.at
  rcases Bool.eq_false_or_eq_true (okTiles ts) with e | e
  · have HR : Hid (longRes ts = (srchL ts (ts.length + 1) [] (-1), true)) := by show _ = _; unfold longRes; rw [if_pos e]
    obtain ⟨h1, h8, hts⟩ := (okTiles_iff ts).1 e
    rw [e] at C1
    have C1 := Lib.hid C1
    have HAv : Hid (∀ b, w.heap.size ≤ b → Av b a) := fun b hb x hx => by
      have := Rd.in_heap h (by omega) x hx
      omega
    have CS : Hid (∀ W b B0, Below w.heap.size w W → InvL b B0 [] W → w.heap.size ≤ b → B0 ≤ W.heap.size → b < W.heap.size → Calls Try.prog 30 #[.slice a n c, .slice none 0 0, .int .i64 127, .func (.func 31) #[] #[.pointer (some ⟨b, 0, none⟩)]] W fun e w' => e = .returned (.tuple #[]) ∧ Chg b (b + 1) W w' ∧ InvL b B0 (srchL ts (ts.length + 1) [] (-1)) w') := by
      intro W b B0 hW hI hwb hB0 hbW
      have := linesFrom_any stepL (InvL b B0) 31 #[.pointer (some ⟨b, 0, none⟩)] b B0 ts hts h8 (enters_of Try.func31 (by kernel_rfl) rfl) (fun s W W' hI hb => hI.below hb) (fun la m lc L E s W hown hla hm _ hI => LongestLine1_any b B0 la m lc L E s W hown hla hm hI) ts.length a c none 0 0 [] 127 [] W (by rw [hl]; exact h.mono hW) (HAv.out b hwb) (World.ownsRow_nil _ _ _ _) (fun x hx => by cases hx) hI hB0 hbW (by rw [cnt_nil]; exact Nat.le_refl _) (by omega) (by omega)
      rw [longest_same ts (fun i hi => by have := tA_lt hts hi; exact ⟨this.1, this.2.1⟩)] at this
      rw [hl] at this ⊢
      exact this
    clear h e hl h1 h8 hts HAv
    generalize srchL ts (ts.length + 1) [] (-1) = S at *
    go_enter Try.func13, Try.ntmps13
    go_wp2_with (fail)
    refine C1.out.mono ?_
    rintro e w1 ⟨rfl, hb1⟩
    have HB1 := Lib.hid hb1
    have hs1 := hb1.size
    have hA1 : Below (w1.alloc (.cells #[] 2)).heap.size (w1.alloc (.cells #[] 2)) ((w1.alloc (.cells #[] 2)).alloc (.cells #[.slice (some ⟨w1.heap.size, 0, none⟩) 0 0] 24)) := (Below.refl _ _).alloc (Nat.le_refl _) _
    have HB3 : Hid (Below w.heap.size w ((w1.alloc (.cells #[] 2)).alloc (.cells #[.slice (some ⟨w1.heap.size, 0, none⟩) 0 0] 24))) := (hb1.alloc hs1 _).alloc (by simp; omega) _
    have HI : InvL (w1.heap.size + 1) w1.heap.size [] ((w1.alloc (.cells #[] 2)).alloc (.cells #[.slice (some ⟨w1.heap.size, 0, none⟩) 0 0] 24)) :=
      ⟨⟨some ⟨w1.heap.size, 0, none⟩, 0, 0, by rw [World.cell?_alloc_at _ _ _ _ (by simp)]; rfl, ownsRow_below (World.ownsRow_made w1 #[] 0 (Nat.le_refl _) (Nat.zero_le _) (by simp)) hA1, fun x hx => by obtain rfl := Option.some.inj hx; dsimp only; omega, by omega⟩, by rw [World.frozen?_alloc_at _ _ _ _ (by simp)], by simp⟩
    have CS1 := Lib.hid (CS.out _ (w1.heap.size + 1) w1.heap.size HB3.out HI (by omega) (by simp; omega) (by simp))
    clear hb1 hA1 HI CS
    go_wp2_with (fail)
    refine CS1.out.mono ?_
    rintro e w2 ⟨rfl, hc2, ⟨⟨ra, rn, rc, p0, ho, _, hrn⟩, _, _⟩⟩
    have HB2 := Lib.hid (below_chg HB3.out HB3.out.size (by omega) hc2)
    have HO2 := Lib.hid (ownsRow_low ho hs1)
    clear hc2 ho CS1
    go_wp2
    go_ret2
    exact RetI.ok HR.out HB2.out HO2.out
  · have HR : Hid (longRes ts = ([], false)) := by show _ = _; unfold longRes; rw [if_neg (by rw [e]; exact Bool.false_ne_true)]
    rw [e] at C1
    have C1 := Lib.hid C1
    clear h e hl
    go_enter Try.func13, Try.ntmps13
    go_wp2_with (fail)
    refine C1.out.mono ?_
    rintro e w1 ⟨rfl, hb1⟩
    have HB1 := Lib.hid hb1
    clear hb1
    go_wp2
    go_ret2
    exact RetI.nil HR.out HB1.out

theorem preS_len (ts : List (Int × Int)) : ∀ (f : Nat) (line : List Int) (e : Int) (l : List Int), l ∈ preS ts f line e → l.length ≤ line.length + f := by
  intro f
  induction f with
  | zero => intro line e l h; rw [List.mem_singleton.1 h]; omega
  | succ f ih =>
    intro line e l h
    unfold preS at h
    rcases List.mem_cons.1 h with q | q
    · subst q; omega
    · obtain ⟨i, _, hi⟩ := List.mem_flatMap.1 q
      split at hi
      · simp at hi
      · rcases List.mem_append.1 hi with r | r
        · split at r
          · have := ih _ _ _ r; rw [List.length_append] at this; simp at this; omega
          · simp at r
        · split at r
          · have := ih _ _ _ r; rw [List.length_append] at this; simp at this; omega
          · simp at r
theorem longRes_len (ts : List (Int × Int)) : (longRes ts).1.length ≤ 1048576 := by
  unfold longRes
  split
  · rename_i h
    have h8 := ((okTiles_iff ts).1 h).2.1
    have := preS_len ts _ _ _ _ (srch_best ts (ts.length + 1) [] (-1)).1
    simp at this
    show (srchL ts (ts.length + 1) [] (-1)).length ≤ 1048576
    omega
  · exact Nat.zero_le _

end Go.Proofs.Ytnagmeeoeilbcaa
