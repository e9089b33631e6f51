/-
  No cell of these rows narrows 'for every input' (looked for: loops, veiled, ifaces, maps, wideKeys, modest, calm, conditions, laid).
  DERIVED. THE GIVEN ROWS OF THIS SEAT. 8 by the template 'for every input the law returns true; each argument reads behind the call as it read before'; 0 by the template 'total and deterministic' (their statements: YtnlcgkfdpaffaaaTotals.lean).
  GIVEN WITH THE SEED: the statements are not yours to turn. If you find one false, say at which input.
  Laid BY PROGRAM, IN A SANDBOX (cutbox-rows.mjs): the forced cells as the released guide's own fill.sh prints them over the translation 11b33a5c91ead90c… (all of the seat's roots in one cut). By AI agents, Wed Nov 11 2026. No macro, syntax, notation, axiom, sorry.
-/
import Derived.Test.YtnlcgkfdpaffaaaChecked
import GoSem.Claim
import GoSem.ClaimJoined
import GoSem.ClaimMapViews
import Derived.JoinedTies
import Derived.KernelRfl
namespace Go.Proofs.Ytnlcgkfdpaffaaa
/- THE CELL 'sum', in the pinned program and in every row, IS THE sha256 OF THE DUMP (.gsa) THAT YtnlcgkfdpaffaaaProg.lean LOADS. Nothing in Lean hashes anything: it is a label: what it is worth is what the hold of that sum in a sandbox is worth. -/
noncomputable def Try.pinned : Pinned := { name := "ytnlcgkfdpaffaaa", sum := "11b33a5c91ead90c8023044a2619b9dddaa1eee48160bda83f136995ea966ac6", checked := Try.checked }
namespace Rows
def none {H : Type} : Left H := { results := [], args := [] }

/-- 'laws.FnTiles': WHATEVER THE INPUT: true; the input reads as it did. -/
def fnTilesSpec : ChangeSpec := { name := "fnTiles", fn := fun _ => fun
  | [d1, d2] => { results := [.lit (.bool true)], args := [d1, d2] }
  | _ => none }
def fnTilesRow : OpenClaim := { program := "ytnlcgkfdpaffaaa", sum := "11b33a5c91ead90c8023044a2619b9dddaa1eee48160bda83f136995ea966ac6", func := "loop.example/g01401/laws.FnTiles", spec := "fnTiles", unfollowed := true, recurses := true, apart := false }
def FnTilesSaid : Prop := fnTilesRow.holds Try.pinned (OpenSpec.ofChange fnTilesSpec)

/-- ITS FALSE NEIGHBOUR: 'it returns false'. Refute it at one input. -/
def fnTilesWrong : ChangeSpec := { name := "fnTiles", fn := fun _ => fun
  | [d1, d2] => { results := [.lit (.bool false)], args := [d1, d2] }
  | _ => none }
def FnTilesWrongFalsely : Prop := fnTilesRow.holds Try.pinned (OpenSpec.ofChange fnTilesWrong)

/-- 'laws.FnExactFullWays': WHATEVER THE INPUT: true; the input reads as it did. -/
def fnExactFullWaysSpec : ChangeSpec := { name := "fnExactFullWays", fn := fun _ => fun
  | [d] => { results := [.lit (.bool true)], args := [d] }
  | _ => none }
def fnExactFullWaysRow : OpenClaim := { program := "ytnlcgkfdpaffaaa", sum := "11b33a5c91ead90c8023044a2619b9dddaa1eee48160bda83f136995ea966ac6", func := "loop.example/g01401/laws.FnExactFullWays", spec := "fnExactFullWays", unfollowed := true, recurses := true, apart := false }
def FnExactFullWaysSaid : Prop := fnExactFullWaysRow.holds Try.pinned (OpenSpec.ofChange fnExactFullWaysSpec)

/-- ITS FALSE NEIGHBOUR: 'it returns false'. Refute it at one input. -/
def fnExactFullWaysWrong : ChangeSpec := { name := "fnExactFullWays", fn := fun _ => fun
  | [d] => { results := [.lit (.bool false)], args := [d] }
  | _ => none }
def FnExactFullWaysWrongFalsely : Prop := fnExactFullWaysRow.holds Try.pinned (OpenSpec.ofChange fnExactFullWaysWrong)

/-- 'laws.FnExactHasTour': WHATEVER THE INPUT: true; the input reads as it did. -/
def fnExactHasTourSpec : ChangeSpec := { name := "fnExactHasTour", fn := fun _ => fun
  | [d1, d2] => { results := [.lit (.bool true)], args := [d1, d2] }
  | _ => none }
def fnExactHasTourRow : OpenClaim := { program := "ytnlcgkfdpaffaaa", sum := "11b33a5c91ead90c8023044a2619b9dddaa1eee48160bda83f136995ea966ac6", func := "loop.example/g01401/laws.FnExactHasTour", spec := "fnExactHasTour", unfollowed := true, recurses := true, apart := false }
def FnExactHasTourSaid : Prop := fnExactHasTourRow.holds Try.pinned (OpenSpec.ofChange fnExactHasTourSpec)

/-- ITS FALSE NEIGHBOUR: 'it returns false'. Refute it at one input. -/
def fnExactHasTourWrong : ChangeSpec := { name := "fnExactHasTour", fn := fun _ => fun
  | [d1, d2] => { results := [.lit (.bool false)], args := [d1, d2] }
  | _ => none }
def FnExactHasTourWrongFalsely : Prop := fnExactHasTourRow.holds Try.pinned (OpenSpec.ofChange fnExactHasTourWrong)

/-- 'laws.FnExactFarFromFull': WHATEVER THE INPUT: true; the input reads as it did. -/
def fnExactFarFromFullSpec : ChangeSpec := { name := "fnExactFarFromFull", fn := fun _ => fun
  | [d] => { results := [.lit (.bool true)], args := [d] }
  | _ => none }
def fnExactFarFromFullRow : OpenClaim := { program := "ytnlcgkfdpaffaaa", sum := "11b33a5c91ead90c8023044a2619b9dddaa1eee48160bda83f136995ea966ac6", func := "loop.example/g01401/laws.FnExactFarFromFull", spec := "fnExactFarFromFull", unfollowed := true, recurses := true, apart := false }
def FnExactFarFromFullSaid : Prop := fnExactFarFromFullRow.holds Try.pinned (OpenSpec.ofChange fnExactFarFromFullSpec)

/-- ITS FALSE NEIGHBOUR: 'it returns false'. Refute it at one input. -/
def fnExactFarFromFullWrong : ChangeSpec := { name := "fnExactFarFromFull", fn := fun _ => fun
  | [d] => { results := [.lit (.bool false)], args := [d] }
  | _ => none }
def FnExactFarFromFullWrongFalsely : Prop := fnExactFarFromFullRow.holds Try.pinned (OpenSpec.ofChange fnExactFarFromFullWrong)

/-- 'laws.FnExactValidDesk': WHATEVER THE INPUT: true; the input reads as it did. -/
def fnExactValidDeskSpec : ChangeSpec := { name := "fnExactValidDesk", fn := fun _ => fun
  | [d] => { results := [.lit (.bool true)], args := [d] }
  | _ => none }
def fnExactValidDeskRow : OpenClaim := { program := "ytnlcgkfdpaffaaa", sum := "11b33a5c91ead90c8023044a2619b9dddaa1eee48160bda83f136995ea966ac6", func := "loop.example/g01401/laws.FnExactValidDesk", spec := "fnExactValidDesk", unfollowed := true, recurses := true, apart := false }
def FnExactValidDeskSaid : Prop := fnExactValidDeskRow.holds Try.pinned (OpenSpec.ofChange fnExactValidDeskSpec)

/-- ITS FALSE NEIGHBOUR: 'it returns false'. Refute it at one input. -/
def fnExactValidDeskWrong : ChangeSpec := { name := "fnExactValidDesk", fn := fun _ => fun
  | [d] => { results := [.lit (.bool false)], args := [d] }
  | _ => none }
def FnExactValidDeskWrongFalsely : Prop := fnExactValidDeskRow.holds Try.pinned (OpenSpec.ofChange fnExactValidDeskWrong)

/-- 'laws.FnExactWaitsOf': WHATEVER THE INPUT: true; the input reads as it did. -/
def fnExactWaitsOfSpec : ChangeSpec := { name := "fnExactWaitsOf", fn := fun _ => fun
  | [d] => { results := [.lit (.bool true)], args := [d] }
  | _ => none }
def fnExactWaitsOfRow : OpenClaim := { program := "ytnlcgkfdpaffaaa", sum := "11b33a5c91ead90c8023044a2619b9dddaa1eee48160bda83f136995ea966ac6", func := "loop.example/g01401/laws.FnExactWaitsOf", spec := "fnExactWaitsOf", unfollowed := true, recurses := true, apart := false }
def FnExactWaitsOfSaid : Prop := fnExactWaitsOfRow.holds Try.pinned (OpenSpec.ofChange fnExactWaitsOfSpec)

/-- ITS FALSE NEIGHBOUR: 'it returns false'. Refute it at one input. -/
def fnExactWaitsOfWrong : ChangeSpec := { name := "fnExactWaitsOf", fn := fun _ => fun
  | [d] => { results := [.lit (.bool false)], args := [d] }
  | _ => none }
def FnExactWaitsOfWrongFalsely : Prop := fnExactWaitsOfRow.holds Try.pinned (OpenSpec.ofChange fnExactWaitsOfWrong)

/-- 'laws.FnExactLongestLine': WHATEVER THE INPUT: true; the input reads as it did. -/
def fnExactLongestLineSpec : ChangeSpec := { name := "fnExactLongestLine", fn := fun _ => fun
  | [d] => { results := [.lit (.bool true)], args := [d] }
  | _ => none }
def fnExactLongestLineRow : OpenClaim := { program := "ytnlcgkfdpaffaaa", sum := "11b33a5c91ead90c8023044a2619b9dddaa1eee48160bda83f136995ea966ac6", func := "loop.example/g01401/laws.FnExactLongestLine", spec := "fnExactLongestLine", unfollowed := true, recurses := true, apart := false }
def FnExactLongestLineSaid : Prop := fnExactLongestLineRow.holds Try.pinned (OpenSpec.ofChange fnExactLongestLineSpec)

/-- ITS FALSE NEIGHBOUR: 'it returns false'. Refute it at one input. -/
def fnExactLongestLineWrong : ChangeSpec := { name := "fnExactLongestLine", fn := fun _ => fun
  | [d] => { results := [.lit (.bool false)], args := [d] }
  | _ => none }
def FnExactLongestLineWrongFalsely : Prop := fnExactLongestLineRow.holds Try.pinned (OpenSpec.ofChange fnExactLongestLineWrong)

/-- 'laws.FnExactBestDiscard': WHATEVER THE INPUT: true; the input reads as it did. -/
def fnExactBestDiscardSpec : ChangeSpec := { name := "fnExactBestDiscard", fn := fun _ => fun
  | [d] => { results := [.lit (.bool true)], args := [d] }
  | _ => none }
def fnExactBestDiscardRow : OpenClaim := { program := "ytnlcgkfdpaffaaa", sum := "11b33a5c91ead90c8023044a2619b9dddaa1eee48160bda83f136995ea966ac6", func := "loop.example/g01401/laws.FnExactBestDiscard", spec := "fnExactBestDiscard", unfollowed := true, recurses := true, apart := false }
def FnExactBestDiscardSaid : Prop := fnExactBestDiscardRow.holds Try.pinned (OpenSpec.ofChange fnExactBestDiscardSpec)

/-- ITS FALSE NEIGHBOUR: 'it returns false'. Refute it at one input. -/
def fnExactBestDiscardWrong : ChangeSpec := { name := "fnExactBestDiscard", fn := fun _ => fun
  | [d] => { results := [.lit (.bool false)], args := [d] }
  | _ => none }
def FnExactBestDiscardWrongFalsely : Prop := fnExactBestDiscardRow.holds Try.pinned (OpenSpec.ofChange fnExactBestDiscardWrong)

/- THE SECOND FORM. 'bulk': how many values and letters a reading holds, each counted each time it is reached (what is shared counts as often as it is met; a slice's spare places count too). A statement '..UptoSaid' is the law's where the arguments, and the package variables that the reading takes, are together of bulk at most 1048576: NARROWER than '..Said'. Prove '..Said' where nothing that the law and all that it calls make is longer than what came in: it says more and counts as full. Else prove '..UptoSaid'. A law counts once. -/
mutual
def uptoBulk {H : Type} : DataW H → Nat
  | .lit (.string bytes) => bytes.length + 1
  | .lit _ => 1
  | .nil => 1
  | .ptr d => uptoBulk d + 1
  | .slice elems spare => uptoBulkAll elems + uptoBulkAll spare + 1
  | .agg parts => uptoBulkAll parts + 1
  | .iface _ d => uptoBulk d + 1
  | .map entries => uptoBulkEntries entries + 1
  | .held _ => 1
def uptoBulkAll {H : Type} : List (DataW H) → Nat
  | [] => 0
  | d :: r => uptoBulk d + uptoBulkAll r
def uptoBulkEntries {H : Type} : List (Lit × DataW H) → Nat
  | [] => 0
  | x :: r => uptoBulkEntry x + uptoBulkEntries r
def uptoBulkEntry {H : Type} : Lit × DataW H → Nat
  | (.string bytes, d) => bytes.length + uptoBulk d + 1
  | (_, d) => uptoBulk d + 1
 end
def uptoSmall : (H : Type) → List (DataW H) → Bool := fun _ ds => decide (uptoBulkAll ds ≤ 1048576)
def OpenSpec.upto (s : _root_.Go.ChangeSpec) : _root_.Go.OpenSpec := { _root_.Go.OpenSpec.ofChange s with cond := some uptoSmall }

/-- 'laws.FnTiles', WHERE WHAT IT READS IS OF BULK AT MOST 1048576: true; the input reads as it did. -/
def fnTilesUptoRow : OpenClaim := { program := "ytnlcgkfdpaffaaa", sum := "11b33a5c91ead90c8023044a2619b9dddaa1eee48160bda83f136995ea966ac6", func := "loop.example/g01401/laws.FnTiles", spec := "fnTiles", unfollowed := true, recurses := true, apart := false, narrowed := true }
def FnTilesUptoSaid : Prop := fnTilesUptoRow.holds Try.pinned (OpenSpec.upto fnTilesSpec)

/-- 'laws.FnExactFullWays', WHERE WHAT IT READS IS OF BULK AT MOST 1048576: true; the input reads as it did. -/
def fnExactFullWaysUptoRow : OpenClaim := { program := "ytnlcgkfdpaffaaa", sum := "11b33a5c91ead90c8023044a2619b9dddaa1eee48160bda83f136995ea966ac6", func := "loop.example/g01401/laws.FnExactFullWays", spec := "fnExactFullWays", unfollowed := true, recurses := true, apart := false, narrowed := true }
def FnExactFullWaysUptoSaid : Prop := fnExactFullWaysUptoRow.holds Try.pinned (OpenSpec.upto fnExactFullWaysSpec)

/-- 'laws.FnExactHasTour', WHERE WHAT IT READS IS OF BULK AT MOST 1048576: true; the input reads as it did. -/
def fnExactHasTourUptoRow : OpenClaim := { program := "ytnlcgkfdpaffaaa", sum := "11b33a5c91ead90c8023044a2619b9dddaa1eee48160bda83f136995ea966ac6", func := "loop.example/g01401/laws.FnExactHasTour", spec := "fnExactHasTour", unfollowed := true, recurses := true, apart := false, narrowed := true }
def FnExactHasTourUptoSaid : Prop := fnExactHasTourUptoRow.holds Try.pinned (OpenSpec.upto fnExactHasTourSpec)

/-- 'laws.FnExactFarFromFull', WHERE WHAT IT READS IS OF BULK AT MOST 1048576: true; the input reads as it did. -/
def fnExactFarFromFullUptoRow : OpenClaim := { program := "ytnlcgkfdpaffaaa", sum := "11b33a5c91ead90c8023044a2619b9dddaa1eee48160bda83f136995ea966ac6", func := "loop.example/g01401/laws.FnExactFarFromFull", spec := "fnExactFarFromFull", unfollowed := true, recurses := true, apart := false, narrowed := true }
def FnExactFarFromFullUptoSaid : Prop := fnExactFarFromFullUptoRow.holds Try.pinned (OpenSpec.upto fnExactFarFromFullSpec)

/-- 'laws.FnExactValidDesk', WHERE WHAT IT READS IS OF BULK AT MOST 1048576: true; the input reads as it did. -/
def fnExactValidDeskUptoRow : OpenClaim := { program := "ytnlcgkfdpaffaaa", sum := "11b33a5c91ead90c8023044a2619b9dddaa1eee48160bda83f136995ea966ac6", func := "loop.example/g01401/laws.FnExactValidDesk", spec := "fnExactValidDesk", unfollowed := true, recurses := true, apart := false, narrowed := true }
def FnExactValidDeskUptoSaid : Prop := fnExactValidDeskUptoRow.holds Try.pinned (OpenSpec.upto fnExactValidDeskSpec)

/-- 'laws.FnExactWaitsOf', WHERE WHAT IT READS IS OF BULK AT MOST 1048576: true; the input reads as it did. -/
def fnExactWaitsOfUptoRow : OpenClaim := { program := "ytnlcgkfdpaffaaa", sum := "11b33a5c91ead90c8023044a2619b9dddaa1eee48160bda83f136995ea966ac6", func := "loop.example/g01401/laws.FnExactWaitsOf", spec := "fnExactWaitsOf", unfollowed := true, recurses := true, apart := false, narrowed := true }
def FnExactWaitsOfUptoSaid : Prop := fnExactWaitsOfUptoRow.holds Try.pinned (OpenSpec.upto fnExactWaitsOfSpec)

/-- 'laws.FnExactLongestLine', WHERE WHAT IT READS IS OF BULK AT MOST 1048576: true; the input reads as it did. -/
def fnExactLongestLineUptoRow : OpenClaim := { program := "ytnlcgkfdpaffaaa", sum := "11b33a5c91ead90c8023044a2619b9dddaa1eee48160bda83f136995ea966ac6", func := "loop.example/g01401/laws.FnExactLongestLine", spec := "fnExactLongestLine", unfollowed := true, recurses := true, apart := false, narrowed := true }
def FnExactLongestLineUptoSaid : Prop := fnExactLongestLineUptoRow.holds Try.pinned (OpenSpec.upto fnExactLongestLineSpec)

/-- 'laws.FnExactBestDiscard', WHERE WHAT IT READS IS OF BULK AT MOST 1048576: true; the input reads as it did. -/
def fnExactBestDiscardUptoRow : OpenClaim := { program := "ytnlcgkfdpaffaaa", sum := "11b33a5c91ead90c8023044a2619b9dddaa1eee48160bda83f136995ea966ac6", func := "loop.example/g01401/laws.FnExactBestDiscard", spec := "fnExactBestDiscard", unfollowed := true, recurses := true, apart := false, narrowed := true }
def FnExactBestDiscardUptoSaid : Prop := fnExactBestDiscardUptoRow.holds Try.pinned (OpenSpec.upto fnExactBestDiscardSpec)

end Rows
end Go.Proofs.Ytnlcgkfdpaffaaa
