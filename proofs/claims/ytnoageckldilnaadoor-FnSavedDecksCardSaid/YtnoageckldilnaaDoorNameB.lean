/- Names: IsName. -/
import Derived.Test.YtnoageckldilnaaDoorNameA
import Derived.Shelf.Strings.SlTrimAscii
namespace Go.Proofs.YtnoageckldilnaaDoor
open Go.RowKit
set_option linter.unusedVariables false

def letters : List UInt8 := [97, 98, 99, 100, 101, 102, 103, 104, 105, 106, 107, 108, 109, 110, 111, 112, 113, 114, 115, 116, 117, 118, 119, 120, 121, 122]
theorem letters_mem (b : UInt8) : letters.contains b = (decide (97 ≤ b.toNat) && decide (b.toNat ≤ 122)) := by
  have h : ∀ i : Fin 256, letters.contains (UInt8.ofNat i.val) = (decide (97 ≤ i.val) && decide (i.val ≤ 122)) := by decide +kernel
  have := h ⟨b.toNat, UInt8.toNat_lt b⟩
  simpa using this

theorem dropWhile_nil {α : Type} (p : α → Bool) : ∀ l : List α, l.dropWhile p = [] ↔ l.all p = true := by
  intro l
  induction l with
  | nil => simp
  | cons a l ih =>
    by_cases h : p a = true
    · rw [List.dropWhile_cons_of_pos h, ih]; simp [h]
    · rw [List.dropWhile_cons_of_neg h]; simp [h]

theorem dropWhile_all {α : Type} (p : α → Bool) : ∀ l : List α, (l.dropWhile p).all p = true → l.all p = true := by
  intro l
  induction l with
  | nil => simp
  | cons a l ih =>
    intro h
    by_cases q : p a = true
    · rw [List.dropWhile_cons_of_pos q] at h
      simp [q]
      simpa using ih h
    · rw [List.dropWhile_cons_of_neg q] at h
      exact h

theorem trim_nil (l cs : List UInt8) : Lib.trimS l cs = [] ↔ l.all (fun b => cs.contains b) = true := by
  unfold Lib.trimS Lib.trimLeftS Lib.trimRightS
  rw [dropWhile_nil, List.all_reverse]
  constructor
  · intro h
    have := dropWhile_all _ _ h
    rwa [List.all_reverse] at this
  · intro h
    have : (l.reverse.dropWhile fun b => cs.contains b) = [] := (dropWhile_nil _ _).2 (by rw [List.all_reverse]; exact h)
    rw [this]
    rfl

theorem info256 : (Tryd.prog.info? (Tryd.lays160_ren.t 116)).map (fun i => (i.zero, i.size)) = some (some (.agg (Array.replicate 256 (.bool false))), 256) := by kernel_rfl

theorem Trim_any (s : ByteArray) (w : World) (hs : s.size ≤ 1048576) : Calls Tryd.prog 69 #[.string s, .string ⟨#[97, 98, 99, 100, 101, 102, 103, 104, 105, 106, 107, 108, 109, 110, 111, 112, 113, 114, 115, 116, 117, 118, 119, 120, 121, 122]⟩] w (Ret w (.string ⟨(Lib.trimS s.data.toList letters).toArray⟩)) :=
  Any.strings_Trim_laid Tryd.lays160 info256 s ⟨#[97, 98, 99, 100, 101, 102, 103, 104, 105, 106, 107, 108, 109, 110, 111, 112, 113, 114, 115, 116, 117, 118, 119, 120, 121, 122]⟩ w (by omega) (by decide) (ascii_of_all (by decide))

set_option maxHeartbeats 1600000 in
theorem IsName_any (s : ByteArray) (w : World) (hs : s.size ≤ 1048576) : Calls Tryd.prog 38 #[.string s] w (Ret w (.bool (nameOk s.data.toList))) := by
  have hl : s.data.toList.length = s.size := rfl
  have HN : Hid (nameOk s.data.toList = (decide (1 ≤ s.size) && (decide (s.size ≤ 8) && ((⟨(Lib.trimS s.data.toList letters).toArray⟩ : ByteArray).toList == (⟨#[]⟩ : ByteArray).toList)))) := by
    show _ = _
    rw [strEq]
    unfold nameOk
    rw [hl, Bool.and_assoc]
    congr 2
    have e : (fun b : UInt8 => decide (97 ≤ b.toNat) && decide (b.toNat ≤ 122)) = fun b => letters.contains b := funext fun b => (letters_mem b).symm
    rw [e]
    by_cases h : s.data.toList.all (fun b => letters.contains b) = true
    · rw [h, (trim_nil _ _).2 h]; rfl
    · rw [Bool.not_eq_true] at h
      rw [h]
      symm
      rw [decide_eq_false_iff_not]
      intro q
      have q2 : (Lib.trimS s.data.toList letters) = [] := by
        have := congrArg (fun x : ByteArray => x.data.toList) q
        simpa using this
      rw [(trim_nil _ _).1 q2] at h
      cases h
  have CT := Lib.hid (Trim_any s w hs)
  generalize (⟨(Lib.trimS s.data.toList letters).toArray⟩ : ByteArray) = t at *
  generalize hB : nameOk s.data.toList = B at *
  clear hB hl
  by_cases h1 : 1 ≤ s.size
  · by_cases h8 : s.size ≤ 8
    · have HN2 : Hid (B = t.toList.isEmpty) := by
        show _ = _
        rw [HN.out, show (⟨#[]⟩ : ByteArray).toList = [] by rw [ByteArray.toList_eq]]; simp [h1, h8]
      clear HN
      go_enter Tryd.func38, Tryd.ntmps38
      go_wp2_with (fail)
      refine CT.out.mono ?_
      rintro e w1 ⟨rfl, hb⟩
      clear CT
      go_wp2
      go_ret
      exact ⟨ret_bool HN2.out.symm, hb⟩
    · have HN2 : Hid (B = false) := by
        show _ = _
        rw [HN.out]; simp [h8]
      clear HN CT
      go_enter Tryd.func38, Tryd.ntmps38
      go_wp2
      go_ret
      exact ⟨ret_bool HN2.out.symm, Below.refl _ _⟩
  · have HN2 : Hid (B = false) := by
      show _ = _
      rw [HN.out]; simp [h1]
    clear HN CT
    go_enter Tryd.func38, Tryd.ntmps38
    go_wp2
    go_ret
    exact ⟨ret_bool HN2.out.symm, Below.refl _ _⟩

end Go.Proofs.YtnoageckldilnaaDoor
