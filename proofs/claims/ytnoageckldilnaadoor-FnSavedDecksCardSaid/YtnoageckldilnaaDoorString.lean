/- The laws' own words on slices of string: toStringS, eqStringS, szStringS. -/
import Derived.Test.YtnoageckldilnaaDoorStrA
namespace Go.Proofs.YtnoageckldilnaaDoor
open Go.RowKit
set_option linter.unusedVariables false

theorem infoString : (Tryd.prog.info? 9).map (fun i => (i.zero, i.size, i.bytes)) = some (some (.string ByteArray.empty), 1, 16) := by kernel_rfl

def bytesN (xs : List ByteArray) : Nat := (xs.map ByteArray.size).sum
theorem bytesN_succ (xs : List ByteArray) (k : Nat) (h : k < xs.length) : bytesN (xs.take (k + 1)) = bytesN (xs.take k) + (xs.getD k ByteArray.empty).size := by
  have e : xs.getD k ByteArray.empty = xs[k] := by simp [h]
  rw [List.take_add_one, List.getElem?_eq_getElem h, e]
  unfold bytesN
  rw [List.map_append, List.sum_append]
  congr 1
theorem bytesN_le (xs : List ByteArray) (k : Nat) : bytesN (xs.take k) ≤ bytesN xs := by
  conv => rhs; rw [← List.take_append_drop k xs]
  unfold bytesN
  rw [List.map_append, List.sum_append]
  omega
def szStr (n : Nat) (xs : List ByteArray) (left : Int) : Int := if left - n < 0 then -1 else if left - n - bytesN xs < 0 then -1 else left - n - bytesN xs

end Go.Proofs.YtnoageckldilnaaDoor
