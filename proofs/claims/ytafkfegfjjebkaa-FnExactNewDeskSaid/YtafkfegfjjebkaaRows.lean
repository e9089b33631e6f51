/-
  No cell of these rows narrows 'for every input' (looked for: loops, veiled, ifaces, maps, wideKeys, modest, calm, conditions, laid).
  DERIVED. THE GIVEN ROWS OF THIS SEAT. 6 by the template 'for every input the law returns true; each argument reads behind the call as it read before'; 0 by the template 'total and deterministic' (their statements: YtafkfegfjjebkaaTotals.lean).
  GIVEN WITH THE SEED: the statements are not yours to turn. If you find one false, say at which input.
  Laid BY PROGRAM, IN A SANDBOX (cutbox-rows.mjs): the forced cells as the released guide's own fill.sh prints them over the translation 97786c7993b9203e… (all of the seat's roots in one cut). By AI agents, Wed Nov 11 2026. No macro, syntax, notation, axiom, sorry.
-/
import Derived.Test.YtafkfegfjjebkaaChecked
import GoSem.Claim
import GoSem.ClaimJoined
import GoSem.ClaimMapViews
import Derived.JoinedTies
import Derived.KernelRfl
namespace Go.Proofs.Ytafkfegfjjebkaa
/- THE CELL 'sum', in the pinned program and in every row, IS THE sha256 OF THE DUMP (.gsa) THAT YtafkfegfjjebkaaProg.lean LOADS. Nothing in Lean hashes anything: it is a label: what it is worth is what the hold of that sum in a sandbox is worth. -/
noncomputable def Try.pinned : Pinned := { name := "ytafkfegfjjebkaa", sum := "97786c7993b9203eb81d312c0dbb3ae1e8c3ab31d802ac7a97703e9645e197f5", checked := Try.checked }
namespace Rows
def none {H : Type} : Left H := { results := [], args := [] }

/-- 'laws.FnExactValidTest': WHATEVER THE INPUT: true; the input reads as it did. -/
def fnExactValidTestSpec : ChangeSpec := { name := "fnExactValidTest", fn := fun _ => fun
  | [d] => { results := [.lit (.bool true)], args := [d] }
  | _ => none }
def fnExactValidTestRow : OpenClaim := { program := "ytafkfegfjjebkaa", sum := "97786c7993b9203eb81d312c0dbb3ae1e8c3ab31d802ac7a97703e9645e197f5", func := "loop.example/g01401/laws.FnExactValidTest", spec := "fnExactValidTest", apart := false }
def FnExactValidTestSaid : Prop := fnExactValidTestRow.holds Try.pinned (OpenSpec.ofChange fnExactValidTestSpec)

/-- ITS FALSE NEIGHBOUR: 'it returns false'. Refute it at one input. -/
def fnExactValidTestWrong : ChangeSpec := { name := "fnExactValidTest", fn := fun _ => fun
  | [d] => { results := [.lit (.bool false)], args := [d] }
  | _ => none }
def FnExactValidTestWrongFalsely : Prop := fnExactValidTestRow.holds Try.pinned (OpenSpec.ofChange fnExactValidTestWrong)

/-- 'laws.FnExactSameGames': WHATEVER THE INPUT: true; the input reads as it did. -/
def fnExactSameGamesSpec : ChangeSpec := { name := "fnExactSameGames", fn := fun _ => fun
  | [d1, d2] => { results := [.lit (.bool true)], args := [d1, d2] }
  | _ => none }
def fnExactSameGamesRow : OpenClaim := { program := "ytafkfegfjjebkaa", sum := "97786c7993b9203eb81d312c0dbb3ae1e8c3ab31d802ac7a97703e9645e197f5", func := "loop.example/g01401/laws.FnExactSameGames", spec := "fnExactSameGames", apart := false }
def FnExactSameGamesSaid : Prop := fnExactSameGamesRow.holds Try.pinned (OpenSpec.ofChange fnExactSameGamesSpec)

/-- ITS FALSE NEIGHBOUR: 'it returns false'. Refute it at one input. -/
def fnExactSameGamesWrong : ChangeSpec := { name := "fnExactSameGames", fn := fun _ => fun
  | [d1, d2] => { results := [.lit (.bool false)], args := [d1, d2] }
  | _ => none }
def FnExactSameGamesWrongFalsely : Prop := fnExactSameGamesRow.holds Try.pinned (OpenSpec.ofChange fnExactSameGamesWrong)

/-- 'laws.FnExactAreGames': WHATEVER THE INPUT: true; the input reads as it did. -/
def fnExactAreGamesSpec : ChangeSpec := { name := "fnExactAreGames", fn := fun _ => fun
  | [d1, d2] => { results := [.lit (.bool true)], args := [d1, d2] }
  | _ => none }
def fnExactAreGamesRow : OpenClaim := { program := "ytafkfegfjjebkaa", sum := "97786c7993b9203eb81d312c0dbb3ae1e8c3ab31d802ac7a97703e9645e197f5", func := "loop.example/g01401/laws.FnExactAreGames", spec := "fnExactAreGames", unfollowed := true, recurses := true, apart := false }
def FnExactAreGamesSaid : Prop := fnExactAreGamesRow.holds Try.pinned (OpenSpec.ofChange fnExactAreGamesSpec)

/-- ITS FALSE NEIGHBOUR: 'it returns false'. Refute it at one input. -/
def fnExactAreGamesWrong : ChangeSpec := { name := "fnExactAreGames", fn := fun _ => fun
  | [d1, d2] => { results := [.lit (.bool false)], args := [d1, d2] }
  | _ => none }
def FnExactAreGamesWrongFalsely : Prop := fnExactAreGamesRow.holds Try.pinned (OpenSpec.ofChange fnExactAreGamesWrong)

/-- 'laws.FnExactNewDesk': WHATEVER THE INPUT: true; the input reads as it did. -/
def fnExactNewDeskSpec : ChangeSpec := { name := "fnExactNewDesk", fn := fun _ => fun
  | [] => { results := [.lit (.bool true)], args := [] }
  | _ => none }
def fnExactNewDeskRow : OpenClaim := { program := "ytafkfegfjjebkaa", sum := "97786c7993b9203eb81d312c0dbb3ae1e8c3ab31d802ac7a97703e9645e197f5", func := "loop.example/g01401/laws.FnExactNewDesk", spec := "fnExactNewDesk", apart := false }
def FnExactNewDeskSaid : Prop := fnExactNewDeskRow.holds Try.pinned (OpenSpec.ofChange fnExactNewDeskSpec)

/-- ITS FALSE NEIGHBOUR: 'it returns false'. Refute it at one input. -/
def fnExactNewDeskWrong : ChangeSpec := { name := "fnExactNewDesk", fn := fun _ => fun
  | [] => { results := [.lit (.bool false)], args := [] }
  | _ => none }
def FnExactNewDeskWrongFalsely : Prop := fnExactNewDeskRow.holds Try.pinned (OpenSpec.ofChange fnExactNewDeskWrong)

/-- 'laws.FnExactSameDesk': WHATEVER THE INPUT: true; the input reads as it did. -/
def fnExactSameDeskSpec : ChangeSpec := { name := "fnExactSameDesk", fn := fun _ => fun
  | [d1, d2] => { results := [.lit (.bool true)], args := [d1, d2] }
  | _ => none }
def fnExactSameDeskRow : OpenClaim := { program := "ytafkfegfjjebkaa", sum := "97786c7993b9203eb81d312c0dbb3ae1e8c3ab31d802ac7a97703e9645e197f5", func := "loop.example/g01401/laws.FnExactSameDesk", spec := "fnExactSameDesk", apart := false }
def FnExactSameDeskSaid : Prop := fnExactSameDeskRow.holds Try.pinned (OpenSpec.ofChange fnExactSameDeskSpec)

/-- ITS FALSE NEIGHBOUR: 'it returns false'. Refute it at one input. -/
def fnExactSameDeskWrong : ChangeSpec := { name := "fnExactSameDesk", fn := fun _ => fun
  | [d1, d2] => { results := [.lit (.bool false)], args := [d1, d2] }
  | _ => none }
def FnExactSameDeskWrongFalsely : Prop := fnExactSameDeskRow.holds Try.pinned (OpenSpec.ofChange fnExactSameDeskWrong)

/-- 'laws.FnExactExpectOf': WHATEVER THE INPUT: true; the input reads as it did. -/
def fnExactExpectOfSpec : ChangeSpec := { name := "fnExactExpectOf", fn := fun _ => fun
  | [d1, d2, d3] => { results := [.lit (.bool true)], args := [d1, d2, d3] }
  | _ => none }
def fnExactExpectOfRow : OpenClaim := { program := "ytafkfegfjjebkaa", sum := "97786c7993b9203eb81d312c0dbb3ae1e8c3ab31d802ac7a97703e9645e197f5", func := "loop.example/g01401/laws.FnExactExpectOf", spec := "fnExactExpectOf", inPlace := ["math.Float64frombits"], unfollowed := true, recurses := true, apart := false }
def FnExactExpectOfSaid : Prop := fnExactExpectOfRow.holds Try.pinned (OpenSpec.ofChange fnExactExpectOfSpec)

/-- ITS FALSE NEIGHBOUR: 'it returns false'. Refute it at one input. -/
def fnExactExpectOfWrong : ChangeSpec := { name := "fnExactExpectOf", fn := fun _ => fun
  | [d1, d2, d3] => { results := [.lit (.bool false)], args := [d1, d2, d3] }
  | _ => none }
def FnExactExpectOfWrongFalsely : Prop := fnExactExpectOfRow.holds Try.pinned (OpenSpec.ofChange fnExactExpectOfWrong)

/- THE SECOND FORM. 'bulk': how many values and letters a reading holds, each counted each time it is reached (what is shared counts as often as it is met; a slice's spare places count too). A statement '..UptoSaid' is the law's where the arguments, and the package variables that the reading takes, are together of bulk at most 1048576: NARROWER than '..Said'. Prove '..Said' where nothing that the law and all that it calls make is longer than what came in: it says more and counts as full. Else prove '..UptoSaid'. A law counts once. -/
mutual
def uptoBulk {H : Type} : DataW H → Nat
  | .lit (.string bytes) => bytes.length + 1
  | .lit _ => 1
  | .nil => 1
  | .ptr d => uptoBulk d + 1
  | .slice elems spare => uptoBulkAll elems + uptoBulkAll spare + 1
  | .agg parts => uptoBulkAll parts + 1
  | .iface _ d => uptoBulk d + 1
  | .map entries => uptoBulkEntries entries + 1
  | .held _ => 1
def uptoBulkAll {H : Type} : List (DataW H) → Nat
  | [] => 0
  | d :: r => uptoBulk d + uptoBulkAll r
def uptoBulkEntries {H : Type} : List (Lit × DataW H) → Nat
  | [] => 0
  | x :: r => uptoBulkEntry x + uptoBulkEntries r
def uptoBulkEntry {H : Type} : Lit × DataW H → Nat
  | (.string bytes, d) => bytes.length + uptoBulk d + 1
  | (_, d) => uptoBulk d + 1
 end
def uptoSmall : (H : Type) → List (DataW H) → Bool := fun _ ds => decide (uptoBulkAll ds ≤ 1048576)
def OpenSpec.upto (s : _root_.Go.ChangeSpec) : _root_.Go.OpenSpec := { _root_.Go.OpenSpec.ofChange s with cond := some uptoSmall }

/-- 'laws.FnExactValidTest', WHERE WHAT IT READS IS OF BULK AT MOST 1048576: true; the input reads as it did. -/
def fnExactValidTestUptoRow : OpenClaim := { program := "ytafkfegfjjebkaa", sum := "97786c7993b9203eb81d312c0dbb3ae1e8c3ab31d802ac7a97703e9645e197f5", func := "loop.example/g01401/laws.FnExactValidTest", spec := "fnExactValidTest", apart := false, narrowed := true }
def FnExactValidTestUptoSaid : Prop := fnExactValidTestUptoRow.holds Try.pinned (OpenSpec.upto fnExactValidTestSpec)

/-- 'laws.FnExactSameGames', WHERE WHAT IT READS IS OF BULK AT MOST 1048576: true; the input reads as it did. -/
def fnExactSameGamesUptoRow : OpenClaim := { program := "ytafkfegfjjebkaa", sum := "97786c7993b9203eb81d312c0dbb3ae1e8c3ab31d802ac7a97703e9645e197f5", func := "loop.example/g01401/laws.FnExactSameGames", spec := "fnExactSameGames", apart := false, narrowed := true }
def FnExactSameGamesUptoSaid : Prop := fnExactSameGamesUptoRow.holds Try.pinned (OpenSpec.upto fnExactSameGamesSpec)

/-- 'laws.FnExactAreGames', WHERE WHAT IT READS IS OF BULK AT MOST 1048576: true; the input reads as it did. -/
def fnExactAreGamesUptoRow : OpenClaim := { program := "ytafkfegfjjebkaa", sum := "97786c7993b9203eb81d312c0dbb3ae1e8c3ab31d802ac7a97703e9645e197f5", func := "loop.example/g01401/laws.FnExactAreGames", spec := "fnExactAreGames", unfollowed := true, recurses := true, apart := false, narrowed := true }
def FnExactAreGamesUptoSaid : Prop := fnExactAreGamesUptoRow.holds Try.pinned (OpenSpec.upto fnExactAreGamesSpec)

/-- 'laws.FnExactNewDesk', WHERE WHAT IT READS IS OF BULK AT MOST 1048576: true; the input reads as it did. -/
def fnExactNewDeskUptoRow : OpenClaim := { program := "ytafkfegfjjebkaa", sum := "97786c7993b9203eb81d312c0dbb3ae1e8c3ab31d802ac7a97703e9645e197f5", func := "loop.example/g01401/laws.FnExactNewDesk", spec := "fnExactNewDesk", apart := false, narrowed := true }
def FnExactNewDeskUptoSaid : Prop := fnExactNewDeskUptoRow.holds Try.pinned (OpenSpec.upto fnExactNewDeskSpec)

/-- 'laws.FnExactSameDesk', WHERE WHAT IT READS IS OF BULK AT MOST 1048576: true; the input reads as it did. -/
def fnExactSameDeskUptoRow : OpenClaim := { program := "ytafkfegfjjebkaa", sum := "97786c7993b9203eb81d312c0dbb3ae1e8c3ab31d802ac7a97703e9645e197f5", func := "loop.example/g01401/laws.FnExactSameDesk", spec := "fnExactSameDesk", apart := false, narrowed := true }
def FnExactSameDeskUptoSaid : Prop := fnExactSameDeskUptoRow.holds Try.pinned (OpenSpec.upto fnExactSameDeskSpec)

/-- 'laws.FnExactExpectOf', WHERE WHAT IT READS IS OF BULK AT MOST 1048576: true; the input reads as it did. -/
def fnExactExpectOfUptoRow : OpenClaim := { program := "ytafkfegfjjebkaa", sum := "97786c7993b9203eb81d312c0dbb3ae1e8c3ab31d802ac7a97703e9645e197f5", func := "loop.example/g01401/laws.FnExactExpectOf", spec := "fnExactExpectOf", inPlace := ["math.Float64frombits"], unfollowed := true, recurses := true, apart := false, narrowed := true }
def FnExactExpectOfUptoSaid : Prop := fnExactExpectOfUptoRow.holds Try.pinned (OpenSpec.upto fnExactExpectOfSpec)

end Rows
end Go.Proofs.Ytafkfegfjjebkaa
