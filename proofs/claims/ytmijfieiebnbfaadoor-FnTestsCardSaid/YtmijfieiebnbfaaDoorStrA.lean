/- Texts cut at a mark: plain facts. -/
import Derived.Test.YtmijfieiebnbfaaDoorRow
import Derived.Test.YtmijfieiebnbfaaDoorRet
import Derived.Test.YtmijfieiebnbfaaDoorChecked
import Derived.Lib.SplitLaws
import Derived.Lib.IndexLaws
namespace Go.Proofs.YtmijfieiebnbfaaDoor
open Go.RowKit
set_option linter.unusedVariables false

def ofL (l : List UInt8) : ByteArray := ⟨l.toArray⟩
theorem ofL_data (x : ByteArray) : ofL x.data.toList = x := by cases x; simp [ofL]
theorem ofL_toList (l : List UInt8) : (ofL l).data.toList = l := by simp [ofL]
theorem strEq (a b : ByteArray) : (a.toList == b.toList) = decide (a = b) := by
  rw [ByteArray.toList_eq, ByteArray.toList_eq]
  by_cases h : a = b
  · subst h; simp
  · rw [decide_eq_false h, beq_eq_false_iff_ne]
    intro q
    exact h (by rw [← ofL_data a, ← ofL_data b, q])
def cutStep (m : UInt8) (p : List (List UInt8) × List UInt8) (b : UInt8) : List (List UInt8) × List UInt8 := if b = m then (p.1 ++ [p.2], []) else (p.1, p.2 ++ [b])
def cutS (m : UInt8) (l : List UInt8) : List (List UInt8) × List UInt8 := l.foldl (cutStep m) ([], [])
def cutL (m : UInt8) (l : List UInt8) : List (List UInt8) := (cutS m l).1 ++ [(cutS m l).2]
def cutB (m : UInt8) (s : ByteArray) : List ByteArray := (cutL m s.data.toList).map ofL
theorem cutS_snoc (m : UInt8) (l : List UInt8) (b : UInt8) : cutS m (l ++ [b]) = cutStep m (cutS m l) b := by simp [cutS]

def cutR (m : UInt8) : List UInt8 → List (List UInt8)
  | [] => [[]]
  | b :: l => if b = m then [] :: cutR m l else match cutR m l with
    | p :: ps => (b :: p) :: ps
    | [] => []
theorem cutR_eq (m : UInt8) (l : List UInt8) : cutR m (m :: l) = [] :: cutR m l := by
  conv => lhs; unfold cutR
  rw [if_pos rfl]
theorem cutR_other {m b : UInt8} (l : List UInt8) (h : ¬ b = m) : cutR m (b :: l) = match cutR m l with
    | p :: ps => (b :: p) :: ps
    | [] => [] := by
  conv => lhs; unfold cutR
  rw [if_neg h]
theorem cutR_ne (m : UInt8) (l : List UInt8) : ∃ p ps, cutR m l = p :: ps := by
  induction l with
  | nil => exact ⟨_, _, rfl⟩
  | cons b l ih =>
    obtain ⟨p, ps, e⟩ := ih
    unfold cutR
    split
    · exact ⟨_, _, rfl⟩
    · rw [e]; exact ⟨_, _, rfl⟩
theorem cutFold (m : UInt8) (l : List UInt8) : ∀ (ds : List (List UInt8)) (cur : List UInt8), (l.foldl (cutStep m) (ds, cur)).1 ++ [(l.foldl (cutStep m) (ds, cur)).2] = ds ++ (match cutR m l with | p :: ps => (cur ++ p) :: ps | [] => []) := by
  induction l with
  | nil => intro ds cur; simp [cutR]
  | cons b l ih =>
    intro ds cur
    rw [List.foldl_cons]
    by_cases h : b = m
    · rw [show cutStep m (ds, cur) b = (ds ++ [cur], []) from if_pos h, ih]
      obtain ⟨p, ps, e⟩ := cutR_ne m l
      rw [h, cutR_eq, e]
      simp
    · rw [show cutStep m (ds, cur) b = (ds, cur ++ [b]) from if_neg h, ih]
      obtain ⟨p, ps, e⟩ := cutR_ne m l
      rw [cutR_other l h, e]
      simp
theorem cutL_R (m : UInt8) (l : List UInt8) : cutL m l = cutR m l := by
  unfold cutL cutS
  rw [cutFold]
  obtain ⟨p, ps, e⟩ := cutR_ne m l
  rw [e]
  simp

theorem occ_one (m : UInt8) (l : List UInt8) : Lib.occAt l [m] 0 = true ↔ l.head? = some m := by
  cases l with
  | nil => simp [Lib.occAt]
  | cons b l =>
    simp [Lib.occAt]
    exact ⟨Eq.symm, Eq.symm⟩
theorem index_cons_eq (m : UInt8) (l : List UInt8) : Lib.index (m :: l) [m] = 0 := Lib.index_hit (i := 0) (Lib.NoOcc.zero _ _) (Nat.zero_le _) ((occ_one m _).2 rfl)
theorem index_cons_ne (m b : UInt8) (l : List UInt8) (h : b ≠ m) : Lib.index (b :: l) [m] = if Lib.index l [m] == -1 then -1 else Lib.index l [m] + 1 := by
  have h0 : Lib.occAt (b :: l) [m] 0 = false := by
    rw [Bool.eq_false_iff]
    intro e
    have := (occ_one m _).1 e
    simp at this
    exact h this
  have := Lib.index_drop (s := b :: l) (sub := [m]) (i := 1) ((Lib.NoOcc.zero _ _).succ h0) (by simp)
  simpa using this
theorem splitK_cut (m : UInt8) : ∀ l : List UInt8, Lib.splitK [m] 0 (l.count m) l = cutR m l := by
  intro l
  induction l with
  | nil => rfl
  | cons b l ih =>
    by_cases h : b = m
    · subst h
      rw [List.count_cons_self]
      unfold Lib.splitK cutR
      rw [index_cons_eq, if_neg (by decide), if_pos rfl]
      simpa using ih
    · rw [List.count_cons_of_ne h]
      obtain ⟨p, ps, e⟩ := cutR_ne m l
      cases hk : l.count m with
      | zero =>
        rw [hk] at ih
        unfold cutR
        rw [if_neg h, ← ih]
        rfl
      | succ k =>
        rw [hk] at ih
        unfold Lib.splitK at ih ⊢
        unfold cutR
        rw [if_neg h]
        rw [index_cons_ne m b l h]
        by_cases hi : (Lib.index l [m] == -1) = true
        · rw [if_pos hi] at ih
          rw [← ih, if_pos hi, if_pos (by decide)]
        · rw [if_neg hi] at ih
          have hge : 0 ≤ Lib.index l [m] := by
            have h1 : Lib.index l [m] ≠ -1 := fun q => hi (by rw [q]; rfl)
            have h2 := Lib.index_ge l [m]
            omega
          rw [← ih, if_neg hi, if_neg (by simp; omega)]
          have ei : (Lib.index l [m] + 1).toNat = (Lib.index l [m]).toNat + 1 := by omega
          simp [ei]
theorem splitB_cut (m : UInt8) (s : ByteArray) : Lib.splitB ⟨#[m]⟩ 0 (Lib.countB s ⟨#[m]⟩) s = cutB m s := by
  have h1 : Lib.countB s ⟨#[m]⟩ = s.data.toList.count m := Lib.count_one m s.data.toList
  have h2 := Lib.splitB_data ⟨#[m]⟩ 0 (Lib.countB s ⟨#[m]⟩) s
  rw [h1] at h2 ⊢
  have h3 : Lib.splitK [m] 0 (s.data.toList.count m) s.data.toList = cutL m s.data.toList := by rw [splitK_cut, cutL_R]
  unfold cutB
  rw [← h3, ← h2, List.map_map]
  conv => lhs; rw [← List.map_id (Lib.splitB _ _ _ _)]
  exact List.map_congr_left fun x _ => (ofL_data x).symm
theorem cutB_len (m : UInt8) (s : ByteArray) : (cutB m s).length = Lib.countB s ⟨#[m]⟩ + 1 := by
  rw [← splitB_cut]; exact Lib.splitB_all ⟨#[m]⟩ (Nat.le_refl 1) 0 _ s rfl
theorem cutB_le (m : UInt8) (s : ByteArray) : (cutB m s).length ≤ s.size + 1 := by
  rw [cutB_len]
  have := Lib.countB_le ⟨#[m]⟩ (Nat.le_refl 1) s.size s (Nat.le_refl _)
  omega

/-- an outcome that is bad -/
def isBad (x : ByteArray) : Bool := decide (x = ⟨#[110, 111]⟩) || decide (x = ⟨#[119, 104, 97, 116]⟩)
def badN (xs : List ByteArray) : Nat := (xs.filter isBad).length
theorem badN_le (xs : List ByteArray) : badN xs ≤ xs.length := List.length_filter_le _ _
theorem badN_succ (xs : List ByteArray) (i : Nat) (h : i < xs.length) : badN (xs.take (i + 1)) = badN (xs.take i) + (if isBad (xs.getD i ByteArray.empty) = true then 1 else 0) := by
  have e : xs.getD i ByteArray.empty = xs[i] := by simp [h]
  rw [List.take_add_one, List.getElem?_eq_getElem h, e]
  unfold badN
  rw [List.filter_append, List.length_append]
  congr 1
  cases hb : isBad xs[i] <;> simp [hb]
end Go.Proofs.YtmijfieiebnbfaaDoor
