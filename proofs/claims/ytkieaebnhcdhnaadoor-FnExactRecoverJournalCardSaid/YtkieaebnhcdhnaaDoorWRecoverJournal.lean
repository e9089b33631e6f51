/- The walk of the law FnExactRecoverJournal. -/
import Derived.Test.YtkieaebnhcdhnaaDoorRecC
import Derived.Test.YtkieaebnhcdhnaaDoorMarkS
namespace Go.Proofs.YtkieaebnhcdhnaaDoor
open Go.RowKit
set_option linter.unusedVariables false

theorem cutR_count (m : UInt8) : ∀ l : List UInt8, (cutR m l).length ≤ l.length + 1 := by
  intro l
  induction l with
  | nil => simp [cutR]
  | cons b l ih =>
    by_cases hb : b = m
    · subst hb; rw [cutR_eq]; simp; omega
    · obtain ⟨p, ps, e⟩ := cutR_ne m l
      rw [cutR_other l hb, e]
      rw [e] at ih
      simp at ih ⊢; omega
theorem recS_len : ∀ (ls : List (List UInt8)) (c : Int), (recS c ls).1.length ≤ ls.length := by
  intro ls
  induction ls with
  | nil => intro c; simp [recS]
  | cons l ls ih =>
    intro c
    by_cases h : lineOk c l = true
    · rw [recS_yes h]; have := ih (lineC c l); simp; omega
    · rw [recS_no (by simpa using h)]; simp
theorem recRes_len (s : ByteArray) : (recRes s).1.length ≤ 16001 := by
  unfold recRes
  split
  · have h1 := recS_len (cutR 10 s.data.toList).dropLast 0
    have h2 := cutR_count 10 s.data.toList
    have h3 : s.data.toList.length = s.size := rfl
    simp at h1 ⊢
    omega
  · simp

set_option maxHeartbeats 3200000 in
theorem fnExactRecoverJournal_walk (s : ByteArray) (mx : Int) (w : World) (hm : w.cell? ⟨0, 0, none⟩ = some (.int .i64 mx)) (htab : Lib.TabIs Tryd.prog w "internal/strconv.uint64pow10" .u64 Lib.pow10Tab) : Calls Tryd.prog 4 #[.string s] w (Ret w (.bool true)) := by
  by_cases hs : s.size ≤ 1048576
  case neg =>
    go_enter Tryd.func4, Tryd.ntmps4
    go_wp2
    go_ret
    exact ⟨rfl, Below.refl _ _⟩
  have hlen := recRes_len s
  have C1 := Lib.hid (specRecoverJournal_any s w)
  have HT := Lib.hid (Lib.tabBelow_of_tabIs htab)
  have C2 := Lib.hid (fun W (hW : Below w.heap.size w W) => implRecoverJournal_any s mx W (cell_on hW hm) (HT.out W hW))
  clear hm htab HT
  generalize recRes s = r at *
  obtain ⟨X, r2, r3⟩ := r
  dsimp only at hlen
  go_enter Tryd.func4, Tryd.ntmps4
  go_wp2_with (fail)
  refine C1.out.mono ?_
  rintro e w1 ⟨a1, n1, c1, rfl, hb1, o1⟩
  have HB := Lib.hid hb1
  have hs1 := hb1.size
  have I1 := own_in o1
  dsimp only at o1
  clear hb1 C1
  go_wp2_with (fail)
  refine (C2.out _ HB.out).mono ?_
  rintro e w2 ⟨a2, n2, c2, rfl, hb2, o2⟩
  replace HB := Lib.hid (HB.out.trans (hb2.mono hs1))
  replace o1 := ownsRow_below o1 hb2
  have hs2 := hb2.size
  have I2 := own_in o2
  dsimp only at o2
  clear hb2
  have hn2 : n2 ≤ 16001 := by have := o2.1; simp at this; omega
  go_wp2_with (fail)
  refine (eqStringS_any _ _ _ _ _ _ _ _ _ (Rd.own o2) (Rd.own o1)).mono ?_
  rintro e w3 ⟨rfl, hq3⟩
  have hb3 := hq3.b
  replace HB := Lib.hid (HB.out.trans (hb3.mono HB.out.size))
  replace o1 := ownsRow_below o1 hb3
  replace o2 := ownsRow_below o2 hb3
  have hs3 := hb3.size
  clear hq3 hb3
  go_wp2_with (fail)
  refine (markStringS_any _ _ _ _ 1 _ o2 (by omega) (by omega)).mono ?_
  rintro e w4 ⟨rfl, oM, hg4⟩
  have hc4 := Chg.of_grown I2 hg4
  replace o1 := own_chg o1 hc4 I1 (.inl (by omega))
  replace HB := Lib.hid (below_chg HB.out HB.out.size (by have := HB.out.size; omega) hc4)
  have dM := Rd.own oM
  have hs4 := hc4.size
  clear hg4 hc4 oM o2
  go_wp2_with (fail)
  refine (heldStringS_any _ _ _ 1 _ dM (by omega) (by omega)).mono ?_
  rintro e w5 ⟨rfl, hb5⟩
  replace HB := Lib.hid (HB.out.trans (hb5.mono HB.out.size))
  replace o1 := ownsRow_below o1 hb5
  replace dM := Rd.mono dM hb5
  have hs5 := hb5.size
  clear hb5
  go_wp2_with (fail)
  refine (C2.out _ HB.out).mono ?_
  rintro e w6 ⟨a6, n6, c6, rfl, hb6, o6⟩
  replace HB := Lib.hid (HB.out.trans (hb6.mono HB.out.size))
  replace o1 := ownsRow_below o1 hb6
  replace dM := Rd.mono dM hb6
  dsimp only at o6
  have hs6 := hb6.size
  clear hb6
  go_wp2_with (fail)
  refine (eqStringS_any _ _ _ _ _ _ _ _ _ (Rd.own o6) (Rd.own o1)).mono ?_
  rintro e w7 ⟨rfl, hq7⟩
  have hb7 := hq7.b
  replace HB := Lib.hid (HB.out.trans (hb7.mono HB.out.size))
  replace dM := Rd.mono dM hb7
  have hs7 := hb7.size
  clear hq7 hb7
  go_wp2_with (fail)
  refine (heldStringS_any _ _ _ 1 _ dM (by omega) (by omega)).mono ?_
  rintro e w8 ⟨rfl, hb8⟩
  replace HB := Lib.hid (HB.out.trans (hb8.mono HB.out.size))
  clear hb8
  go_wp2
  go_ret
  exact ⟨rfl, HB.out⟩

end Go.Proofs.YtkieaebnhcdhnaaDoor
