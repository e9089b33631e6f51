/- Words of the laws: b10Long, b10At; texts as bytes and back. -/
import Derived.Test.YtmijfieiebnbfaaDoorSrc
import Derived.Test.YtmijfieiebnbfaaDoorTxA
import Derived.Laws.IdiomStrings
import Derived.Laws.BytesArg
import Derived.ArgAppend
namespace Go.Proofs.YtmijfieiebnbfaaDoor
open Go.RowKit
set_option linter.unusedVariables false

theorem infoInt : (Tryd.prog.info? 3).map (fun i => (i.zero, i.size, i.bytes)) = some (some (.int .i64 0), 1, 8) := by kernel_rfl
def isLongB (n n' : Nat) : Bool := decide (1048576 < n) || decide (1048576 < n')
theorem ret_b {a b : Bool} (h : a = b) : Ending.returned (.bool a) = Ending.returned (.bool b) := by rw [h]
theorem b10Long_any (a : Option Addr) (n c : Nat) (a' : Option Addr) (n' c' : Nat) (w : World) (h : n ≤ 9223372036854775807) (h' : n' ≤ 9223372036854775807) : Calls Tryd.prog 15 #[.slice a n c, .slice a' n' c'] w (RetS w (.bool (isLongB n n'))) := by
  by_cases h1 : 1048576 < n
  · have H : Hid (isLongB n n' = true) := by show _ = _; unfold isLongB; rw [decide_eq_true h1]; rfl
    go_enter Tryd.func15, Tryd.ntmps15
    go_wp2
    go_ret
    exact ⟨ret_b H.out.symm, rfl⟩
  · by_cases h2 : 1048576 < n'
    · have H : Hid (isLongB n n' = true) := by show _ = _; unfold isLongB; rw [decide_eq_true h2, Bool.or_true]
      go_enter Tryd.func15, Tryd.ntmps15
      go_wp2
      go_ret
      exact ⟨ret_b (by rw [H.out]; simp; omega), rfl⟩
    · have H : Hid (isLongB n n' = false) := by show _ = _; unfold isLongB; rw [decide_eq_false h1, decide_eq_false h2]; rfl
      go_enter Tryd.func15, Tryd.ntmps15
      go_wp2
      go_ret
      exact ⟨ret_b (by rw [H.out]; simp; omega), rfl⟩

set_option maxHeartbeats 1600000 in
theorem b10At_any (a : Option Addr) (n c : Nat) (bs : List Int) (k m : Int) (w : World) (h : Bytes w a n c bs) (ok : okB bs) (hk : 0 ≤ k) (hk' : k ≤ 1000) (hm : 1 ≤ m) (hm' : m ≤ 1000) :
    Calls Tryd.prog 21 #[.slice a n c, .int .i64 k, .int .i64 m] w fun e w' => ∃ x : Int, e = .returned (.int .i64 x) ∧ 0 ≤ x ∧ x < m ∧ w = w' := by
  obtain ⟨hc, hb, hat⟩ := h.at 0
  have HAt := Lib.hid hat
  have HOk := Lib.hid ok
  clear h ok hat
  by_cases h1 : m ≤ 1
  · go_enter Tryd.func21, Tryd.ntmps21
    go_wp2
    go_ret
    exact ⟨0, rfl, by omega, by omega, rfl⟩
  · obtain ⟨k, rfl⟩ : ∃ q : Nat, k = q := ⟨k.toNat, by omega⟩
    by_cases h2 : n ≤ k
    · have h3 : ¬ (k : Int) < (n : Int) := by omega
      have hw1 : IntKind.i64.wrap ((k : Int) * 37) = (k : Int) * 37 := IntWalk.i64_in _ (by omega)
      have hw2 : IntKind.i64.wrap ((k : Int) * 37 + 11) = (k : Int) * 37 + 11 := IntWalk.i64_in _ (by omega)
      have hr := rem_bd (x := (k : Int) * 37 + 11) (n := m) (by omega) (by omega)
      go_enter Tryd.func21, Tryd.ntmps21
      go_wp2
      go_ret
      exact ⟨_, rfl, hr.1, hr.2, rfl⟩
    · obtain ⟨b, off, rfl, hlb, hx⟩ := HAt.out k (by omega)
      have x0 := hx k (by omega)
      have hok := HOk.out k
      generalize bs.getD k 0 = x at *
      have h3 : (k : Int) < (n : Int) := by omega
      clear hx
      go_enter Tryd.func21, Tryd.ntmps21
      go_wp2
      go_ret
      exact ⟨x % m, rfl, (rem_bd (by omega) (by omega)).1, (rem_bd (by omega) (by omega)).2, rfl⟩

/-- a text as bytes: a new row, none of whose cells is frozen -/
theorem bytes_ex2 (w : World) (l : List UInt8) (hl : l.length ≤ 1000000) : ∃ (cap : Nat) (o : Obj), (convert 9 34 (.string (ofL l))).run Tryd.prog w = .ok (.slice (some ⟨w.heap.size, 0, none⟩) l.length cap) (w.alloc o).drew ∧ l.length ≤ cap ∧ cap ≤ 9223372036854775807 ∧
    (∀ j, j < l.length → (w.alloc o).drew.cell? ⟨w.heap.size, j, none⟩ = some (.int .u8 ((l.getD j 0).toNat : Int))) ∧ ∀ j, j < l.length → (w.alloc o).drew.frozen? ⟨w.heap.size, j, none⟩ = false := by
  have hsz : (ofL l).size = l.length := ofL_sz l
  have h1 := grownCap_ge w (ofL l).size 0 5
  have h2 := grownCap_le_maxLen w (ofL l).size 0 5 (by unfold maxLen; omega)
  have hrun := run_bytes_of_string w 9 34 5 (ofL l) Tryd.underlying9 Tryd.underlying34 Tryd.underlying5
  generalize grownCap w (ofL l).size 0 5 = cap at *
  rw [hsz] at hrun h1
  have hB : (bytesRow (ofL l) cap).size = cap := by unfold bytesRow; rw [Array.size_append, Array.size_map, Array.size_replicate]; show (ofL l).size + _ = _; omega
  refine ⟨cap, _, hrun, h1, by unfold maxLen at h2; omega, fun j hj => ?_, fun j hj => ?_⟩
  · show (World.alloc w _).cell? _ = _
    unfold World.cell?
    rw [heap_alloc_new]
    unfold bytesRow
    dsimp only
    rw [if_neg (by simp), Array.getElem?_append_left (by rw [Array.size_map]; show j < (ofL l).size; omega)]
    simp [ofL, hj]
  · show (World.alloc w _).frozen? _ = _
    unfold World.frozen?
    rw [heap_alloc_new]
    dsimp only
    rw [hB]
    simp
    omega
theorem str_of (w : World) (g n c : Nat) (D : List UInt8) (hn : n ≤ D.length) (h : ∀ j, j < n → w.cell? ⟨g, j, none⟩ = some (.int .u8 ((D.getD j 0).toNat : Int))) :
    (convert 34 9 (.slice (some ⟨g, 0, none⟩) n c)).run Tryd.prog w = .ok (.string (ofL (D.take n))) w := by
  rw [← strOfNums_bytes]
  refine run_convert_bytes_arg w 34 5 Tryd.underlying34 Tryd.underlying5 g 0 n c _ (by simp; omega) (fun i hi => ?_) 9 Tryd.underlying9
  rw [Nat.zero_add, h i hi]
  simp [hi, show i < D.length by omega]
theorem set_cells {w : World} {g n cut : Nat} {la : List UInt8} {nb : UInt8} {v : Value} (hc : ∀ j, j < la.length → w.cell? ⟨g, j, none⟩ = some (.int .u8 ((la.getD j 0).toNat : Int))) (hcut : cut < la.length) (hv : v = .int .u8 ((nb.toNat : Nat) : Int)) :
    ∀ j, j < la.length → (w.setCell ⟨g, cut, none⟩ v).cell? ⟨g, j, none⟩ = some (.int .u8 (((la.set cut nb).getD j 0).toNat : Int)) := by
  subst hv
  intro j hj
  by_cases q : j = cut
  · subst q
    rw [World.cell?_setCell_same _ _ _ (hc j hj)]
    simp [hj]
  · rw [World.cell?_setCell_other _ _ _ _ (fun e => q (congrArg Addr.off e).symm), hc j hj]
    have e : (la.set cut nb).getD j 0 = la.getD j 0 := by
      rw [List.getD_eq_getElem?_getD, List.getD_eq_getElem?_getD, List.getElem?_set_ne (Ne.symm q)]
    rw [e]

end Go.Proofs.YtmijfieiebnbfaaDoor
