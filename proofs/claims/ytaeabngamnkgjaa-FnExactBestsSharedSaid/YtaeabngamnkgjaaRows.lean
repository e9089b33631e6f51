/-
  No cell of these rows narrows 'for every input' (looked for: loops, veiled, ifaces, maps, wideKeys, modest, calm, conditions, laid).
  DERIVED. THE GIVEN ROWS OF THIS SEAT. 7 by the template 'for every input the law returns true; each argument reads behind the call as it read before'; 0 by the template 'total and deterministic' (their statements: YtaeabngamnkgjaaTotals.lean).
  GIVEN WITH THE SEED: the statements are not yours to turn. If you find one false, say at which input.
  Laid BY PROGRAM, IN A SANDBOX (cutbox-rows.mjs): the forced cells as the released guide's own fill.sh prints them over the translation a5bc44c2b4d99c8d… (all of the seat's roots in one cut). By AI agents, Wed Nov 11 2026. No macro, syntax, notation, axiom, sorry.
-/
import Derived.Test.YtaeabngamnkgjaaChecked
import GoSem.Claim
import GoSem.ClaimJoined
import GoSem.ClaimMapViews
import Derived.JoinedTies
import Derived.KernelRfl
namespace Go.Proofs.Ytaeabngamnkgjaa
/- THE CELL 'sum', in the pinned program and in every row, IS THE sha256 OF THE DUMP (.gsa) THAT YtaeabngamnkgjaaProg.lean LOADS. Nothing in Lean hashes anything: it is a label: what it is worth is what the hold of that sum in a sandbox is worth. -/
noncomputable def Try.pinned : Pinned := { name := "ytaeabngamnkgjaa", sum := "a5bc44c2b4d99c8d47d0cfd2859cbca8856039b0e48b29c3014de32f089bd007", checked := Try.checked }
namespace Rows
def none {H : Type} : Left H := { results := [], args := [] }

/-- 'laws.FnTricks': WHATEVER THE INPUT: true; the input reads as it did. -/
def fnTricksSpec : ChangeSpec := { name := "fnTricks", fn := fun _ => fun
  | [d1, d2] => { results := [.lit (.bool true)], args := [d1, d2] }
  | _ => none }
def fnTricksRow : OpenClaim := { program := "ytaeabngamnkgjaa", sum := "a5bc44c2b4d99c8d47d0cfd2859cbca8856039b0e48b29c3014de32f089bd007", func := "loop.example/g01401/laws.FnTricks", spec := "fnTricks", unfollowed := true, recurses := true, plainKeys := false, apart := false }
def FnTricksSaid : Prop := fnTricksRow.holds Try.pinned (OpenSpec.ofChange fnTricksSpec)

/-- ITS FALSE NEIGHBOUR: 'it returns false'. Refute it at one input. -/
def fnTricksWrong : ChangeSpec := { name := "fnTricks", fn := fun _ => fun
  | [d1, d2] => { results := [.lit (.bool false)], args := [d1, d2] }
  | _ => none }
def FnTricksWrongFalsely : Prop := fnTricksRow.holds Try.pinned (OpenSpec.ofChange fnTricksWrong)

/-- 'laws.FnExactLegalPlays': WHATEVER THE INPUT: true; the input reads as it did. -/
def fnExactLegalPlaysSpec : ChangeSpec := { name := "fnExactLegalPlays", fn := fun _ => fun
  | [d1, d2] => { results := [.lit (.bool true)], args := [d1, d2] }
  | _ => none }
def fnExactLegalPlaysRow : OpenClaim := { program := "ytaeabngamnkgjaa", sum := "a5bc44c2b4d99c8d47d0cfd2859cbca8856039b0e48b29c3014de32f089bd007", func := "loop.example/g01401/laws.FnExactLegalPlays", spec := "fnExactLegalPlays", recurses := true, plainKeys := false, apart := false }
def FnExactLegalPlaysSaid : Prop := fnExactLegalPlaysRow.holds Try.pinned (OpenSpec.ofChange fnExactLegalPlaysSpec)

/-- ITS FALSE NEIGHBOUR: 'it returns false'. Refute it at one input. -/
def fnExactLegalPlaysWrong : ChangeSpec := { name := "fnExactLegalPlays", fn := fun _ => fun
  | [d1, d2] => { results := [.lit (.bool false)], args := [d1, d2] }
  | _ => none }
def FnExactLegalPlaysWrongFalsely : Prop := fnExactLegalPlaysRow.holds Try.pinned (OpenSpec.ofChange fnExactLegalPlaysWrong)

/-- 'laws.FnExactCountLines': WHATEVER THE INPUT: true; the input reads as it did. -/
def fnExactCountLinesSpec : ChangeSpec := { name := "fnExactCountLines", fn := fun _ => fun
  | [d1, d2] => { results := [.lit (.bool true)], args := [d1, d2] }
  | _ => none }
def fnExactCountLinesRow : OpenClaim := { program := "ytaeabngamnkgjaa", sum := "a5bc44c2b4d99c8d47d0cfd2859cbca8856039b0e48b29c3014de32f089bd007", func := "loop.example/g01401/laws.FnExactCountLines", spec := "fnExactCountLines", unfollowed := true, recurses := true, plainKeys := false, apart := false }
def FnExactCountLinesSaid : Prop := fnExactCountLinesRow.holds Try.pinned (OpenSpec.ofChange fnExactCountLinesSpec)

/-- ITS FALSE NEIGHBOUR: 'it returns false'. Refute it at one input. -/
def fnExactCountLinesWrong : ChangeSpec := { name := "fnExactCountLines", fn := fun _ => fun
  | [d1, d2] => { results := [.lit (.bool false)], args := [d1, d2] }
  | _ => none }
def FnExactCountLinesWrongFalsely : Prop := fnExactCountLinesRow.holds Try.pinned (OpenSpec.ofChange fnExactCountLinesWrong)

/-- 'laws.FnExactTrickBest': WHATEVER THE INPUT: true; the input reads as it did. -/
def fnExactTrickBestSpec : ChangeSpec := { name := "fnExactTrickBest", fn := fun _ => fun
  | [d1, d2, d3, d4] => { results := [.lit (.bool true)], args := [d1, d2, d3, d4] }
  | _ => none }
def fnExactTrickBestRow : OpenClaim := { program := "ytaeabngamnkgjaa", sum := "a5bc44c2b4d99c8d47d0cfd2859cbca8856039b0e48b29c3014de32f089bd007", func := "loop.example/g01401/laws.FnExactTrickBest", spec := "fnExactTrickBest", unfollowed := true, recurses := true, plainKeys := false, apart := false }
def FnExactTrickBestSaid : Prop := fnExactTrickBestRow.holds Try.pinned (OpenSpec.ofChange fnExactTrickBestSpec)

/-- ITS FALSE NEIGHBOUR: 'it returns false'. Refute it at one input. -/
def fnExactTrickBestWrong : ChangeSpec := { name := "fnExactTrickBest", fn := fun _ => fun
  | [d1, d2, d3, d4] => { results := [.lit (.bool false)], args := [d1, d2, d3, d4] }
  | _ => none }
def FnExactTrickBestWrongFalsely : Prop := fnExactTrickBestRow.holds Try.pinned (OpenSpec.ofChange fnExactTrickBestWrong)

/-- 'laws.FnExactTrickCard': WHATEVER THE INPUT: true; the input reads as it did. -/
def fnExactTrickCardSpec : ChangeSpec := { name := "fnExactTrickCard", fn := fun _ => fun
  | [d1, d2, d3, d4] => { results := [.lit (.bool true)], args := [d1, d2, d3, d4] }
  | _ => none }
def fnExactTrickCardRow : OpenClaim := { program := "ytaeabngamnkgjaa", sum := "a5bc44c2b4d99c8d47d0cfd2859cbca8856039b0e48b29c3014de32f089bd007", func := "loop.example/g01401/laws.FnExactTrickCard", spec := "fnExactTrickCard", unfollowed := true, recurses := true, plainKeys := false, apart := false }
def FnExactTrickCardSaid : Prop := fnExactTrickCardRow.holds Try.pinned (OpenSpec.ofChange fnExactTrickCardSpec)

/-- ITS FALSE NEIGHBOUR: 'it returns false'. Refute it at one input. -/
def fnExactTrickCardWrong : ChangeSpec := { name := "fnExactTrickCard", fn := fun _ => fun
  | [d1, d2, d3, d4] => { results := [.lit (.bool false)], args := [d1, d2, d3, d4] }
  | _ => none }
def FnExactTrickCardWrongFalsely : Prop := fnExactTrickCardRow.holds Try.pinned (OpenSpec.ofChange fnExactTrickCardWrong)

/-- 'laws.FnExactTrickLine': WHATEVER THE INPUT: true; the input reads as it did. -/
def fnExactTrickLineSpec : ChangeSpec := { name := "fnExactTrickLine", fn := fun _ => fun
  | [d1, d2, d3, d4] => { results := [.lit (.bool true)], args := [d1, d2, d3, d4] }
  | _ => none }
def fnExactTrickLineRow : OpenClaim := { program := "ytaeabngamnkgjaa", sum := "a5bc44c2b4d99c8d47d0cfd2859cbca8856039b0e48b29c3014de32f089bd007", func := "loop.example/g01401/laws.FnExactTrickLine", spec := "fnExactTrickLine", unfollowed := true, recurses := true, plainKeys := false, apart := false }
def FnExactTrickLineSaid : Prop := fnExactTrickLineRow.holds Try.pinned (OpenSpec.ofChange fnExactTrickLineSpec)

/-- ITS FALSE NEIGHBOUR: 'it returns false'. Refute it at one input. -/
def fnExactTrickLineWrong : ChangeSpec := { name := "fnExactTrickLine", fn := fun _ => fun
  | [d1, d2, d3, d4] => { results := [.lit (.bool false)], args := [d1, d2, d3, d4] }
  | _ => none }
def FnExactTrickLineWrongFalsely : Prop := fnExactTrickLineRow.holds Try.pinned (OpenSpec.ofChange fnExactTrickLineWrong)

/-- 'laws.FnExactBestsShared': WHATEVER THE INPUT: true; the input reads as it did. -/
def fnExactBestsSharedSpec : ChangeSpec := { name := "fnExactBestsShared", fn := fun _ => fun
  | [d1, d2, d3, d4] => { results := [.lit (.bool true)], args := [d1, d2, d3, d4] }
  | _ => none }
def fnExactBestsSharedRow : OpenClaim := { program := "ytaeabngamnkgjaa", sum := "a5bc44c2b4d99c8d47d0cfd2859cbca8856039b0e48b29c3014de32f089bd007", func := "loop.example/g01401/laws.FnExactBestsShared", spec := "fnExactBestsShared", unfollowed := true, recurses := true, plainKeys := false, apart := false }
def FnExactBestsSharedSaid : Prop := fnExactBestsSharedRow.holds Try.pinned (OpenSpec.ofChange fnExactBestsSharedSpec)

/-- ITS FALSE NEIGHBOUR: 'it returns false'. Refute it at one input. -/
def fnExactBestsSharedWrong : ChangeSpec := { name := "fnExactBestsShared", fn := fun _ => fun
  | [d1, d2, d3, d4] => { results := [.lit (.bool false)], args := [d1, d2, d3, d4] }
  | _ => none }
def FnExactBestsSharedWrongFalsely : Prop := fnExactBestsSharedRow.holds Try.pinned (OpenSpec.ofChange fnExactBestsSharedWrong)

/- THE SECOND FORM. 'bulk': how many values and letters a reading holds, each counted each time it is reached (what is shared counts as often as it is met; a slice's spare places count too). A statement '..UptoSaid' is the law's where the arguments, and the package variables that the reading takes, are together of bulk at most 1048576: NARROWER than '..Said'. Prove '..Said' where nothing that the law and all that it calls make is longer than what came in: it says more and counts as full. Else prove '..UptoSaid'. A law counts once. -/
mutual
def uptoBulk {H : Type} : DataW H → Nat
  | .lit (.string bytes) => bytes.length + 1
  | .lit _ => 1
  | .nil => 1
  | .ptr d => uptoBulk d + 1
  | .slice elems spare => uptoBulkAll elems + uptoBulkAll spare + 1
  | .agg parts => uptoBulkAll parts + 1
  | .iface _ d => uptoBulk d + 1
  | .map entries => uptoBulkEntries entries + 1
  | .held _ => 1
def uptoBulkAll {H : Type} : List (DataW H) → Nat
  | [] => 0
  | d :: r => uptoBulk d + uptoBulkAll r
def uptoBulkEntries {H : Type} : List (Lit × DataW H) → Nat
  | [] => 0
  | x :: r => uptoBulkEntry x + uptoBulkEntries r
def uptoBulkEntry {H : Type} : Lit × DataW H → Nat
  | (.string bytes, d) => bytes.length + uptoBulk d + 1
  | (_, d) => uptoBulk d + 1
 end
def uptoSmall : (H : Type) → List (DataW H) → Bool := fun _ ds => decide (uptoBulkAll ds ≤ 1048576)
def OpenSpec.upto (s : _root_.Go.ChangeSpec) : _root_.Go.OpenSpec := { _root_.Go.OpenSpec.ofChange s with cond := some uptoSmall }

/-- 'laws.FnTricks', WHERE WHAT IT READS IS OF BULK AT MOST 1048576: true; the input reads as it did. -/
def fnTricksUptoRow : OpenClaim := { program := "ytaeabngamnkgjaa", sum := "a5bc44c2b4d99c8d47d0cfd2859cbca8856039b0e48b29c3014de32f089bd007", func := "loop.example/g01401/laws.FnTricks", spec := "fnTricks", unfollowed := true, recurses := true, plainKeys := false, apart := false, narrowed := true }
def FnTricksUptoSaid : Prop := fnTricksUptoRow.holds Try.pinned (OpenSpec.upto fnTricksSpec)

/-- 'laws.FnExactLegalPlays', WHERE WHAT IT READS IS OF BULK AT MOST 1048576: true; the input reads as it did. -/
def fnExactLegalPlaysUptoRow : OpenClaim := { program := "ytaeabngamnkgjaa", sum := "a5bc44c2b4d99c8d47d0cfd2859cbca8856039b0e48b29c3014de32f089bd007", func := "loop.example/g01401/laws.FnExactLegalPlays", spec := "fnExactLegalPlays", recurses := true, plainKeys := false, apart := false, narrowed := true }
def FnExactLegalPlaysUptoSaid : Prop := fnExactLegalPlaysUptoRow.holds Try.pinned (OpenSpec.upto fnExactLegalPlaysSpec)

/-- 'laws.FnExactCountLines', WHERE WHAT IT READS IS OF BULK AT MOST 1048576: true; the input reads as it did. -/
def fnExactCountLinesUptoRow : OpenClaim := { program := "ytaeabngamnkgjaa", sum := "a5bc44c2b4d99c8d47d0cfd2859cbca8856039b0e48b29c3014de32f089bd007", func := "loop.example/g01401/laws.FnExactCountLines", spec := "fnExactCountLines", unfollowed := true, recurses := true, plainKeys := false, apart := false, narrowed := true }
def FnExactCountLinesUptoSaid : Prop := fnExactCountLinesUptoRow.holds Try.pinned (OpenSpec.upto fnExactCountLinesSpec)

/-- 'laws.FnExactTrickBest', WHERE WHAT IT READS IS OF BULK AT MOST 1048576: true; the input reads as it did. -/
def fnExactTrickBestUptoRow : OpenClaim := { program := "ytaeabngamnkgjaa", sum := "a5bc44c2b4d99c8d47d0cfd2859cbca8856039b0e48b29c3014de32f089bd007", func := "loop.example/g01401/laws.FnExactTrickBest", spec := "fnExactTrickBest", unfollowed := true, recurses := true, plainKeys := false, apart := false, narrowed := true }
def FnExactTrickBestUptoSaid : Prop := fnExactTrickBestUptoRow.holds Try.pinned (OpenSpec.upto fnExactTrickBestSpec)

/-- 'laws.FnExactTrickCard', WHERE WHAT IT READS IS OF BULK AT MOST 1048576: true; the input reads as it did. -/
def fnExactTrickCardUptoRow : OpenClaim := { program := "ytaeabngamnkgjaa", sum := "a5bc44c2b4d99c8d47d0cfd2859cbca8856039b0e48b29c3014de32f089bd007", func := "loop.example/g01401/laws.FnExactTrickCard", spec := "fnExactTrickCard", unfollowed := true, recurses := true, plainKeys := false, apart := false, narrowed := true }
def FnExactTrickCardUptoSaid : Prop := fnExactTrickCardUptoRow.holds Try.pinned (OpenSpec.upto fnExactTrickCardSpec)

/-- 'laws.FnExactTrickLine', WHERE WHAT IT READS IS OF BULK AT MOST 1048576: true; the input reads as it did. -/
def fnExactTrickLineUptoRow : OpenClaim := { program := "ytaeabngamnkgjaa", sum := "a5bc44c2b4d99c8d47d0cfd2859cbca8856039b0e48b29c3014de32f089bd007", func := "loop.example/g01401/laws.FnExactTrickLine", spec := "fnExactTrickLine", unfollowed := true, recurses := true, plainKeys := false, apart := false, narrowed := true }
def FnExactTrickLineUptoSaid : Prop := fnExactTrickLineUptoRow.holds Try.pinned (OpenSpec.upto fnExactTrickLineSpec)

/-- 'laws.FnExactBestsShared', WHERE WHAT IT READS IS OF BULK AT MOST 1048576: true; the input reads as it did. -/
def fnExactBestsSharedUptoRow : OpenClaim := { program := "ytaeabngamnkgjaa", sum := "a5bc44c2b4d99c8d47d0cfd2859cbca8856039b0e48b29c3014de32f089bd007", func := "loop.example/g01401/laws.FnExactBestsShared", spec := "fnExactBestsShared", unfollowed := true, recurses := true, plainKeys := false, apart := false, narrowed := true }
def FnExactBestsSharedUptoSaid : Prop := fnExactBestsSharedUptoRow.holds Try.pinned (OpenSpec.upto fnExactBestsSharedSpec)

end Rows
end Go.Proofs.Ytaeabngamnkgjaa
