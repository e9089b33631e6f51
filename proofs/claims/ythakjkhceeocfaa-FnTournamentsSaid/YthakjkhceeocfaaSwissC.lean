/- SwissPairs, impl. -/
import Derived.Test.YthakjkhceeocfaaSwissB
import Derived.Test.YthakjkhceeocfaaTieB
import Derived.Test.YthakjkhceeocfaaShelf
import Derived.IntWalk
namespace Go.Proofs.Ythakjkhceeocfaa
open Go.RowKit Go.Shelf Go.Sort
set_option linter.unusedVariables false

theorem Chg.putRow {α : Type} [Inhabited α] (enc : α → Value) (w : World) (g off : Nat) (d : Array α) : Chg g (g + 1) w (putRow enc w g off d) :=
  ⟨rfl, rfl, rfl, by simp, fun k hk hr => by
    unfold Go.Sort.putRow mapBlock
    simp only [Array.getElem?_modify]
    rw [if_neg (by omega)]⟩
theorem own_holds {w : World} {B g n c : Nat} {E : TypeId} {xs : List Int} (h : w.ownsRow B E 1 (.slice (some ⟨g, 0, none⟩) n c) n (intCells xs)) : Holds (Value.int .i64) w g 0 xs.toArray := fun j hj => by
  have hl : xs.length = n := by have := h.1; rw [intCells_len] at this; omega
  have hj' : j < xs.length := by simpa using hj
  refine ⟨?_, h.frozenAt _⟩
  rw [Nat.zero_add, own_get h j (by omega)]
  simp [hj']
/-- The order that is left lies at a place of its row. -/
def At (w : World) (g off c : Nat) (S : List Int) : Prop := Holds (Value.int .i64) w g off S.toArray ∧ S.length ≤ c ∧ c ≤ 9223372036854775807 ∧ g < w.heap.size
theorem At.ints {w : World} {g off c : Nat} {S : List Int} (h : At w g off c S) : Ints w (some ⟨g, off, none⟩) S.length c S := by
  obtain ⟨h1, h2, h3, h4⟩ := h
  refine ⟨by rw [intCells_len]; omega, h2, h3, .inr ⟨g, off, rfl, h4, fun j hj => ?_⟩⟩
  have hj' : j < S.length := by omega
  rw [(h1 j (by simpa using hj')).1, intCells_get _ _ hj']
  simp [hj']
theorem At.chg {w w' : World} {g off c lo hi : Nat} {S : List Int} (h : At w g off c S) (hc : Chg lo hi w w') (hg : g < lo ∨ hi ≤ g) : At w' g off c S := by
  obtain ⟨h1, h2, h3, h4⟩ := h
  refine ⟨fun j hj => ⟨hc.cell (h1 j hj).1 hg, ?_⟩, h2, h3, Nat.lt_of_lt_of_le h4 hc.size⟩
  rw [← (h1 j hj).2]
  exact World.frozen?_of_block (hc.block g h4 hg)
theorem At.below {w w' : World} {g off c : Nat} {S : List Int} (h : At w g off c S) (hb : Below w.heap.size w w') : At w' g off c S :=
  h.chg (lo := w.heap.size) (hi := w.heap.size) ⟨hb.os, hb.tape, hb.output, hb.size, fun k hk _ => hb.block k hk⟩ (.inl h.2.2.2)
theorem At.tail {w : World} {g off c : Nat} {a : Int} {S : List Int} (h : At w g off c (a :: S)) : At w g (off + 1) (c - 1) S := by
  obtain ⟨h1, h2, h3, h4⟩ := h
  simp only [List.length_cons] at h2
  refine ⟨fun j hj => ?_, by omega, by omega, h4⟩
  have := h1 (j + 1) (by simpa using hj)
  rw [show off + 1 + j = off + (j + 1) by omega]
  simpa using this

theorem deleteAt (g off c i : Nat) (S : List Int) (w : World) (h : At w g off c S) (hi : i < S.length) :
    Calls Try.prog 40 #[.slice (some ⟨g, off, none⟩) S.length c, .int .i64 i, .int .i64 ((i : Int) + 1)] w fun e w' => e = .returned (.slice (some ⟨g, off, none⟩) (S.eraseIdx i).length c) ∧ Chg g (g + 1) w w' ∧ At w' g off c (S.eraseIdx i) := by
  obtain ⟨h1, h2, h3, h4⟩ := h
  have C := Try.slices_Delete_int g off c i (i + 1) S w h1 h2 h3 (by omega) (by omega)
  refine C.mono ?_
  rintro e w' ⟨rfl, q, rfl⟩
  have hl : (S.eraseIdx i).length = S.length - 1 := List.length_eraseIdx_of_lt hi
  have he : (S.take i ++ S.drop (i + 1) ++ List.replicate (i + 1 - i) 0) = S.eraseIdx i ++ [0] := by
    rw [List.eraseIdx_eq_take_drop_succ, show i + 1 - i = 1 by omega]
    rfl
  refine ⟨by rw [hl, show i + 1 - i = 1 by omega], ⟨rfl, rfl, rfl, by simp, fun k hk hr => by
    have := (Chg.putRow (Value.int .i64) (Sort.ahead w q) g off (S.take i ++ S.drop (i + 1) ++ List.replicate (i + 1 - i) 0).toArray).block k hk hr
    exact this⟩, fun j hj => ?_, by omega, h3, by simpa using h4⟩
  rw [he]
  have hj' : j < (S.eraseIdx i).length := by simpa using hj
  have := holds_putRow (Value.int .i64) (Sort.ahead w q) g off S.toArray (S.eraseIdx i ++ [0]).toArray (holds_ahead _ _ _ _ _ _ h1) (by simp [hl]; omega) j (by simp; omega)
  refine ⟨?_, this.2⟩
  rw [this.1]
  simp [hj']
  rw [List.getElem?_append_left hj', List.getElem?_eq_getElem hj']
  rfl

theorem areMet_any (n : Nat) (a : Option Addr) (n' c : Nat) (met : List Int) (w : World) (h : Ints w a n' c met) (h16 : n ≤ 16) (h1 : 1 ≤ n) :
    Calls Try.prog 37 #[.int .i64 n, .slice a n' c] w (RetS w (.bool (decide (n' = n * n) && metOks met n))) := by
  obtain ⟨hc, hb, hcell⟩ := h.at
  clear h
  have hn256 : n * n ≤ 256 := by have := Nat.mul_le_mul h16 h16; omega
  have hNN : ((n * n : Nat) : Int) = (n : Int) * n := by simp
  by_cases hn : n' = n * n
  case neg =>
    have hne : ((n' : Int) != (n : Int) * n) = true := by simp only [bne_iff_ne]; intro e; exact hn (by omega)
    have hR : Hid ((decide (n' = n * n) && metOks met n) = false) := by show _ = _; simp [hn]
    have hW : IntKind.i64.wrap ((n : Int) * n) = (n : Int) * n := IntWalk.i64_in _ (by omega)
    clear hn hNN hcell
    generalize (decide (n' = n * n) && metOks met n) = r at *
    go_enter Try.func37, Try.ntmps37
    go_wp2
    go_ret
    exact ⟨ret_bool hR.out.symm, rfl⟩
  have HN := Lib.hid hn
  have hR : Hid ((decide (n' = n * n) && metOks met n) = metOks met n) := by show _ = _; simp [hn]
  have hN : (n : Int) * n = (n' : Int) := by omega
  have hn2 : n' ≤ 256 := by omega
  have hW : IntKind.i64.wrap ((n : Int) * n) = (n' : Int) := by rw [hN]; exact IntWalk.i64_in _ (by omega)
  clear hn hNN
  generalize (decide (n' = n * n) && metOks met n) = rr at *
  go_enter Try.func37, Try.ntmps37
  go_wp2
  clear hW
  go_loop [15] (fun vi => ∃ i : Nat, i ≤ n ∧ vi = .int .i64 i ∧ ∀ q, q < i * n → metOk met n q = true) (fun vi => n - (intOf vi).toNat)
  case atStart => exact ⟨0, by omega, rfl, fun q hq => by omega⟩
  case round =>
    obtain ⟨i, hi, rfl, hto⟩ := hrel
    have HT := Lib.hid hto
    clear hto
    by_cases hin : i < n
    · go_wp2
      go_loop [19] (fun vk => ∃ k : Nat, k ≤ n ∧ vk = .int .i64 k ∧ ∀ q, q < i * n + k → metOk met n q = true) (fun vk => n - (intOf vk).toNat)
      case atStart => exact ⟨0, by omega, rfl, HT.out⟩
      case round =>
        obtain ⟨k, hk, rfl, hto⟩ := hrel
        have HK := Lib.hid hto
        clear hto
        by_cases hkn : k < n
        · have hm1 : i * n + k < n' := by
            rw [HN.out]
            have : (i + 1) * n ≤ n * n := Nat.mul_le_mul_right n hin
            rw [Nat.succ_mul] at this
            omega
          have hm2 : k * n + i < n' := by
            rw [HN.out]
            have : (k + 1) * n ≤ n * n := Nat.mul_le_mul_right n hkn
            rw [Nat.succ_mul] at this
            omega
          obtain ⟨b, off, rfl, hlb, hx⟩ := hcell (i * n + k) hm1
          have x0 := hx (i * n + k) hm1
          have x1 := hx (k * n + i) hm2
          have HE : Hid (metOk met n (i * n + k) = (inB (met.getD (i * n + k) 0) 0 128 && (met.getD (i * n + k) 0 == met.getD (k * n + i) 0) && !((i == k) && (met.getD (i * n + k) 0 != 0)))) := metOk_at hkn
          have HBad : Hid (metOk met n (i * n + k) = false → metOks met n = false) := fun e => metOks_not (by rw [← HN.out]; exact hm1) e
          have HS : Hid (metOk met n (i * n + k) = true → ∀ q, q < i * n + (k + 1) → metOk met n q = true) := fun e q hq => by
            by_cases e2 : q = i * n + k
            · subst e2; exact e
            · exact HK.out q (by omega)
          generalize metOk met n (i * n + k) = me at *
          generalize hq1 : i * n + k = m1 at *
          generalize hq2 : k * n + i = m2 at *
          have cm1 : (i : Int) * n + (k : Int) = (m1 : Int) := by rw [← hq1]; simp
          have cm2 : (k : Int) * n + (i : Int) = (m2 : Int) := by rw [← hq2]; simp
          clear hcell hx HK HT
          have b3 : 0 ≤ (i : Int) * n := Int.mul_nonneg (by omega) (by omega)
          have b4 : 0 ≤ (k : Int) * n := Int.mul_nonneg (by omega) (by omega)
          generalize met.getD m1 0 = x at *
          generalize met.getD m2 0 = y at *
          have HQ1 := Lib.hid hq1
          have HQ2 := Lib.hid hq2
          clear hq1 hq2
          have W1 : IntKind.i64.wrap ((i : Int) * n) = (i : Int) * n := IntWalk.i64_in _ (by omega)
          have W2 : IntKind.i64.wrap ((k : Int) * n) = (k : Int) * n := IntWalk.i64_in _ (by omega)
          have W3 : IntKind.i64.wrap (m1 : Int) = m1 := IntWalk.i64_in _ (by omega)
          have W4 : IntKind.i64.wrap (m2 : Int) = m2 := IntWalk.i64_in _ (by omega)
          rcases Bool.eq_false_or_eq_true (inB x 0 128) with e0 | e0
          · by_cases e1 : x = y
            · subst e1
              have e1' : (x != x) = false := by simp
              by_cases e2 : i = k
              · subst e2
                have e2' : ((i : Int) == (i : Int)) = true := by simp
                by_cases e3 : x = 0
                · subst e3
                  have e3' : ((0 : Int) != 0) = false := rfl
                  have HG := Lib.hid (HS.out (by rw [HE.out]; simp [e0]))
                  clear HBad HS HE
                  go_wp2_with (first | (go_at_call 45; refine (within_any _ _ _ _).mono ?_; rintro e w' ⟨rfl, rfl⟩))
                  go_round
                  case rel => exact ⟨i + 1, by omega, by go_num, HG.out⟩
                  case measure => simp [intOf]; omega
                · have e3' : (x != 0) = true := by simp [e3]
                  have E3 := Lib.hid e3
                  clear e3
                  have HG := Lib.hid (HBad.out (by rw [HE.out]; simp [e0, E3.out]))
                  clear HBad HS HE
                  go_wp2_with (first | (go_at_call 45; refine (within_any _ _ _ _).mono ?_; rintro e w' ⟨rfl, rfl⟩))
                  go_ret
                  exact ⟨ret_bool (hR.out.trans HG.out).symm, rfl⟩
              · have e2' : ((i : Int) == (k : Int)) = false := by simp; omega
                have E2 := Lib.hid e2
                clear e2
                have HG := Lib.hid (HS.out (by rw [HE.out]; simp [e0, E2.out]))
                clear HBad HS HE
                go_wp2_with (first | (go_at_call 45; refine (within_any _ _ _ _).mono ?_; rintro e w' ⟨rfl, rfl⟩))
                go_round
                case rel => exact ⟨k + 1, by omega, by go_num, HG.out⟩
                case measure => simp [intOf]; omega
            · have e1' : (x != y) = true := by simp [e1]
              have E1 := Lib.hid e1
              clear e1
              have HG := Lib.hid (HBad.out (by rw [HE.out]; simp [e0, E1.out]))
              clear HBad HS HE
              go_wp2_with (first | (go_at_call 45; refine (within_any _ _ _ _).mono ?_; rintro e w' ⟨rfl, rfl⟩))
              go_ret
              exact ⟨ret_bool (hR.out.trans HG.out).symm, rfl⟩
          · have HG := Lib.hid (HBad.out (by rw [HE.out, e0]; rfl))
            clear HBad HS HE
            go_wp2_with (first | (go_at_call 45; refine (within_any _ _ _ _).mono ?_; rintro e w' ⟨rfl, rfl⟩))
            go_ret
            exact ⟨ret_bool (hR.out.trans HG.out).symm, rfl⟩
        · obtain rfl : k = n := by omega
          clear hcell
          have HK2 : Hid (∀ q, q < (i + 1) * k → metOk met k q = true) := fun q hq => HK.out q (by rw [Nat.succ_mul] at hq; exact hq)
          go_wp2
          go_round
          case rel => exact ⟨i + 1, by omega, by go_num, HK2.out⟩
          case measure => simp [intOf]; omega
    · obtain rfl : i = n := by omega
      clear hcell
      go_wp2
      go_ret
      exact ⟨ret_bool (hR.out.trans ((metOks_iff _ _).2 HT.out)).symm, rfl⟩

end Go.Proofs.Ythakjkhceeocfaa
