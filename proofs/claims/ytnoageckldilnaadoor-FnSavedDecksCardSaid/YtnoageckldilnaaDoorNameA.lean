/- Names: IsName and the reference's l07Name. -/
import Derived.Test.YtnoageckldilnaaDoorChk
namespace Go.Proofs.YtnoageckldilnaaDoor
open Go.RowKit
set_option linter.unusedVariables false

/-- a name: one to eight small letters -/
def nameOk (l : List UInt8) : Bool := decide (1 ≤ l.length) && decide (l.length ≤ 8) && l.all fun b => decide (97 ≤ b.toNat) && decide (b.toNat ≤ 122)

theorem all_get {l : List UInt8} (p : UInt8 → Bool) : l.all p = true ↔ ∀ i (h : i < l.length), p l[i] = true := by
  rw [List.all_eq_true]
  exact ⟨fun h i hi => h _ (List.getElem_mem hi), fun h x hx => by obtain ⟨i, hi, rfl⟩ := List.getElem_of_mem hx; exact h i hi⟩

set_option maxHeartbeats 1600000 in
theorem l07Name_any (s : ByteArray) (w : World) (hs : s.size ≤ 1048576) : Calls Tryd.prog 66 #[.string s] w (RetS w (.bool (nameOk s.data.toList))) := by
  go_enter Tryd.func66, Tryd.ntmps66
  go_wp2
  go_loop [3] (fun vi => ∃ i : Nat, i ≤ s.size ∧ vi = .int .i64 i ∧ Hid (∀ k (h : k < s.size), k < i → 97 ≤ s[k].toNat ∧ s[k].toNat ≤ 122)) (fun vi => s.size - (intOf vi).toNat)
  case atStart => exact ⟨0, by omega, rfl, fun k _ hk => absurd hk (Nat.not_lt_zero _)⟩
  case round =>
    obtain ⟨i, hi, rfl, HK⟩ := hrel
    by_cases hlt : i < s.size
    · by_cases h1 : s[i].toNat < 97
      · have HR : Hid (nameOk s.data.toList = false) := by
          show _ = _
          unfold nameOk
          rw [Bool.and_eq_false_iff]
          right
          rw [Bool.eq_false_iff]
          intro q
          have := (all_get _).1 q i hlt
          have e : s.data.toList[i] = s[i] := rfl
          rw [e] at this
          simp at this
          omega
        have h2 : ((s[i].toNat : Int)) < 97 := by omega
        go_wp2
        go_ret
        exact ⟨by rw [HR.out]; rfl, rfl⟩
      · by_cases h2 : 122 < s[i].toNat
        · have HR : Hid (nameOk s.data.toList = false) := by
            show _ = _
            unfold nameOk
            rw [Bool.and_eq_false_iff]
            right
            rw [Bool.eq_false_iff]
            intro q
            have := (all_get _).1 q i hlt
            have e : s.data.toList[i] = s[i] := rfl
            rw [e] at this
            simp at this
            omega
          have h3 : ((122 : Int)) < (s[i].toNat : Int) := by omega
          have h4 : (97 : Int) ≤ (s[i].toNat : Int) := by omega
          go_wp2
          go_ret
          exact ⟨by rw [HR.out]; rfl, rfl⟩
        · have h3 : (s[i].toNat : Int) ≤ 122 := by omega
          have h4 : (97 : Int) ≤ (s[i].toNat : Int) := by omega
          have HK2 : Hid (∀ k (h : k < s.size), k < i + 1 → 97 ≤ s[k].toNat ∧ s[k].toNat ≤ 122) := fun k hk hki => by
            by_cases q : k = i
            · subst q; exact ⟨by omega, by omega⟩
            · exact HK.out k hk (by omega)
          go_wp2
          go_round
          case rel => exact ⟨i + 1, by omega, by go_num, HK2⟩
          case measure => simp [intOf]; omega
    · obtain rfl : i = s.size := by omega
      have HR : Hid (nameOk s.data.toList = (decide (1 ≤ s.size) && decide (s.size ≤ 8))) := by
        show _ = _
        unfold nameOk
        rw [show s.data.toList.length = s.size from rfl]
        rw [(all_get _).2 (fun i h => by
          have := HK.out i h h
          have e : s.data.toList[i] = s[i] := rfl
          rw [e]
          simp
          exact this), Bool.and_true]
      by_cases h1 : 1 ≤ s.size
      · by_cases h8 : s.size ≤ 8
        · go_wp2
          go_ret
          exact ⟨by rw [HR.out]; simp [h1, h8]; omega, rfl⟩
        · go_wp2
          go_ret
          exact ⟨by rw [HR.out]; simp [h1, h8]; omega, rfl⟩
      · go_wp2
        go_ret
        exact ⟨by rw [HR.out]; simp [h1], rfl⟩

end Go.Proofs.YtnoageckldilnaaDoor
