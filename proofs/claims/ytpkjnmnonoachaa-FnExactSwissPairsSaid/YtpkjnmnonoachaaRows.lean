/-
  No cell of these rows narrows 'for every input' (looked for: loops, veiled, ifaces, maps, wideKeys, modest, calm, conditions, laid).
  DERIVED. THE GIVEN ROWS OF THIS SEAT. 9 by the template 'for every input the law returns true; each argument reads behind the call as it read before'; 0 by the template 'total and deterministic' (their statements: YtpkjnmnonoachaaTotals.lean).
  GIVEN WITH THE SEED: the statements are not yours to turn. If you find one false, say at which input.
  Laid BY PROGRAM, IN A SANDBOX (cutbox-rows.mjs): the forced cells as the released guide's own fill.sh prints them over the translation 6e459375dcb75164… (all of the seat's roots in one cut). By AI agents, Wed Nov 11 2026. No macro, syntax, notation, axiom, sorry.
-/
import Derived.Test.YtpkjnmnonoachaaChecked
import GoSem.Claim
import GoSem.ClaimJoined
import GoSem.ClaimMapViews
import Derived.JoinedTies
import Derived.KernelRfl
namespace Go.Proofs.Ytpkjnmnonoachaa
/- THE CELL 'sum', in the pinned program and in every row, IS THE sha256 OF THE DUMP (.gsa) THAT YtpkjnmnonoachaaProg.lean LOADS. Nothing in Lean hashes anything: it is a label: what it is worth is what the hold of that sum in a sandbox is worth. -/
noncomputable def Try.pinned : Pinned := { name := "ytpkjnmnonoachaa", sum := "6e459375dcb751645e65ad6eeea035f4559e973785a49051f84e4cdaabf3a77d", checked := Try.checked }
namespace Rows
def none {H : Type} : Left H := { results := [], args := [] }

/-- 'laws.FnExactPassesTests': WHATEVER THE INPUT: true; the input reads as it did. -/
def fnExactPassesTestsSpec : ChangeSpec := { name := "fnExactPassesTests", fn := fun _ => fun
  | [d1, d2] => { results := [.lit (.bool true)], args := [d1, d2] }
  | _ => none }
def fnExactPassesTestsRow : OpenClaim := { program := "ytpkjnmnonoachaa", sum := "6e459375dcb751645e65ad6eeea035f4559e973785a49051f84e4cdaabf3a77d", func := "loop.example/g01401/laws.FnExactPassesTests", spec := "fnExactPassesTests", unfollowed := true, recurses := true, apart := false }
def FnExactPassesTestsSaid : Prop := fnExactPassesTestsRow.holds Try.pinned (OpenSpec.ofChange fnExactPassesTestsSpec)

/-- ITS FALSE NEIGHBOUR: 'it returns false'. Refute it at one input. -/
def fnExactPassesTestsWrong : ChangeSpec := { name := "fnExactPassesTests", fn := fun _ => fun
  | [d1, d2] => { results := [.lit (.bool false)], args := [d1, d2] }
  | _ => none }
def FnExactPassesTestsWrongFalsely : Prop := fnExactPassesTestsRow.holds Try.pinned (OpenSpec.ofChange fnExactPassesTestsWrong)

/-- 'laws.FnExactKnockRounds': WHATEVER THE INPUT: true; the input reads as it did. -/
def fnExactKnockRoundsSpec : ChangeSpec := { name := "fnExactKnockRounds", fn := fun _ => fun
  | [d1, d2] => { results := [.lit (.bool true)], args := [d1, d2] }
  | _ => none }
def fnExactKnockRoundsRow : OpenClaim := { program := "ytpkjnmnonoachaa", sum := "6e459375dcb751645e65ad6eeea035f4559e973785a49051f84e4cdaabf3a77d", func := "loop.example/g01401/laws.FnExactKnockRounds", spec := "fnExactKnockRounds", apart := false }
def FnExactKnockRoundsSaid : Prop := fnExactKnockRoundsRow.holds Try.pinned (OpenSpec.ofChange fnExactKnockRoundsSpec)

/-- ITS FALSE NEIGHBOUR: 'it returns false'. Refute it at one input. -/
def fnExactKnockRoundsWrong : ChangeSpec := { name := "fnExactKnockRounds", fn := fun _ => fun
  | [d1, d2] => { results := [.lit (.bool false)], args := [d1, d2] }
  | _ => none }
def FnExactKnockRoundsWrongFalsely : Prop := fnExactKnockRoundsRow.holds Try.pinned (OpenSpec.ofChange fnExactKnockRoundsWrong)

/-- 'laws.FnExactKnockChances': WHATEVER THE INPUT: true; the input reads as it did. -/
def fnExactKnockChancesSpec : ChangeSpec := { name := "fnExactKnockChances", fn := fun _ => fun
  | [d] => { results := [.lit (.bool true)], args := [d] }
  | _ => none }
def fnExactKnockChancesRow : OpenClaim := { program := "ytpkjnmnonoachaa", sum := "6e459375dcb751645e65ad6eeea035f4559e973785a49051f84e4cdaabf3a77d", func := "loop.example/g01401/laws.FnExactKnockChances", spec := "fnExactKnockChances", unfollowed := true, recurses := true, apart := false }
def FnExactKnockChancesSaid : Prop := fnExactKnockChancesRow.holds Try.pinned (OpenSpec.ofChange fnExactKnockChancesSpec)

/-- ITS FALSE NEIGHBOUR: 'it returns false'. Refute it at one input. -/
def fnExactKnockChancesWrong : ChangeSpec := { name := "fnExactKnockChances", fn := fun _ => fun
  | [d] => { results := [.lit (.bool false)], args := [d] }
  | _ => none }
def FnExactKnockChancesWrongFalsely : Prop := fnExactKnockChancesRow.holds Try.pinned (OpenSpec.ofChange fnExactKnockChancesWrong)

/-- 'laws.FnExactMetOf': WHATEVER THE INPUT: true; the input reads as it did. -/
def fnExactMetOfSpec : ChangeSpec := { name := "fnExactMetOf", fn := fun _ => fun
  | [d1, d2] => { results := [.lit (.bool true)], args := [d1, d2] }
  | _ => none }
def fnExactMetOfRow : OpenClaim := { program := "ytpkjnmnonoachaa", sum := "6e459375dcb751645e65ad6eeea035f4559e973785a49051f84e4cdaabf3a77d", func := "loop.example/g01401/laws.FnExactMetOf", spec := "fnExactMetOf", unfollowed := true, recurses := true, apart := false }
def FnExactMetOfSaid : Prop := fnExactMetOfRow.holds Try.pinned (OpenSpec.ofChange fnExactMetOfSpec)

/-- ITS FALSE NEIGHBOUR: 'it returns false'. Refute it at one input. -/
def fnExactMetOfWrong : ChangeSpec := { name := "fnExactMetOf", fn := fun _ => fun
  | [d1, d2] => { results := [.lit (.bool false)], args := [d1, d2] }
  | _ => none }
def FnExactMetOfWrongFalsely : Prop := fnExactMetOfRow.holds Try.pinned (OpenSpec.ofChange fnExactMetOfWrong)

/-- 'laws.FnExactScoresOf': WHATEVER THE INPUT: true; the input reads as it did. -/
def fnExactScoresOfSpec : ChangeSpec := { name := "fnExactScoresOf", fn := fun _ => fun
  | [d1, d2] => { results := [.lit (.bool true)], args := [d1, d2] }
  | _ => none }
def fnExactScoresOfRow : OpenClaim := { program := "ytpkjnmnonoachaa", sum := "6e459375dcb751645e65ad6eeea035f4559e973785a49051f84e4cdaabf3a77d", func := "loop.example/g01401/laws.FnExactScoresOf", spec := "fnExactScoresOf", unfollowed := true, recurses := true, apart := false }
def FnExactScoresOfSaid : Prop := fnExactScoresOfRow.holds Try.pinned (OpenSpec.ofChange fnExactScoresOfSpec)

/-- ITS FALSE NEIGHBOUR: 'it returns false'. Refute it at one input. -/
def fnExactScoresOfWrong : ChangeSpec := { name := "fnExactScoresOf", fn := fun _ => fun
  | [d1, d2] => { results := [.lit (.bool false)], args := [d1, d2] }
  | _ => none }
def FnExactScoresOfWrongFalsely : Prop := fnExactScoresOfRow.holds Try.pinned (OpenSpec.ofChange fnExactScoresOfWrong)

/-- 'laws.FnExactCountPassing': WHATEVER THE INPUT: true; the input reads as it did. -/
def fnExactCountPassingSpec : ChangeSpec := { name := "fnExactCountPassing", fn := fun _ => fun
  | [d1, d2] => { results := [.lit (.bool true)], args := [d1, d2] }
  | _ => none }
def fnExactCountPassingRow : OpenClaim := { program := "ytpkjnmnonoachaa", sum := "6e459375dcb751645e65ad6eeea035f4559e973785a49051f84e4cdaabf3a77d", func := "loop.example/g01401/laws.FnExactCountPassing", spec := "fnExactCountPassing", unfollowed := true, recurses := true, apart := false }
def FnExactCountPassingSaid : Prop := fnExactCountPassingRow.holds Try.pinned (OpenSpec.ofChange fnExactCountPassingSpec)

/-- ITS FALSE NEIGHBOUR: 'it returns false'. Refute it at one input. -/
def fnExactCountPassingWrong : ChangeSpec := { name := "fnExactCountPassing", fn := fun _ => fun
  | [d1, d2] => { results := [.lit (.bool false)], args := [d1, d2] }
  | _ => none }
def FnExactCountPassingWrongFalsely : Prop := fnExactCountPassingRow.holds Try.pinned (OpenSpec.ofChange fnExactCountPassingWrong)

/-- 'laws.FnExactBuchholzOf': WHATEVER THE INPUT: true; the input reads as it did. -/
def fnExactBuchholzOfSpec : ChangeSpec := { name := "fnExactBuchholzOf", fn := fun _ => fun
  | [d1, d2] => { results := [.lit (.bool true)], args := [d1, d2] }
  | _ => none }
def fnExactBuchholzOfRow : OpenClaim := { program := "ytpkjnmnonoachaa", sum := "6e459375dcb751645e65ad6eeea035f4559e973785a49051f84e4cdaabf3a77d", func := "loop.example/g01401/laws.FnExactBuchholzOf", spec := "fnExactBuchholzOf", unfollowed := true, recurses := true, apart := false }
def FnExactBuchholzOfSaid : Prop := fnExactBuchholzOfRow.holds Try.pinned (OpenSpec.ofChange fnExactBuchholzOfSpec)

/-- ITS FALSE NEIGHBOUR: 'it returns false'. Refute it at one input. -/
def fnExactBuchholzOfWrong : ChangeSpec := { name := "fnExactBuchholzOf", fn := fun _ => fun
  | [d1, d2] => { results := [.lit (.bool false)], args := [d1, d2] }
  | _ => none }
def FnExactBuchholzOfWrongFalsely : Prop := fnExactBuchholzOfRow.holds Try.pinned (OpenSpec.ofChange fnExactBuchholzOfWrong)

/-- 'laws.FnExactTieOrder': WHATEVER THE INPUT: true; the input reads as it did. -/
def fnExactTieOrderSpec : ChangeSpec := { name := "fnExactTieOrder", fn := fun _ => fun
  | [d1, d2] => { results := [.lit (.bool true)], args := [d1, d2] }
  | _ => none }
def fnExactTieOrderRow : OpenClaim := { program := "ytpkjnmnonoachaa", sum := "6e459375dcb751645e65ad6eeea035f4559e973785a49051f84e4cdaabf3a77d", func := "loop.example/g01401/laws.FnExactTieOrder", spec := "fnExactTieOrder", unfollowed := true, recurses := true, apart := false }
def FnExactTieOrderSaid : Prop := fnExactTieOrderRow.holds Try.pinned (OpenSpec.ofChange fnExactTieOrderSpec)

/-- ITS FALSE NEIGHBOUR: 'it returns false'. Refute it at one input. -/
def fnExactTieOrderWrong : ChangeSpec := { name := "fnExactTieOrder", fn := fun _ => fun
  | [d1, d2] => { results := [.lit (.bool false)], args := [d1, d2] }
  | _ => none }
def FnExactTieOrderWrongFalsely : Prop := fnExactTieOrderRow.holds Try.pinned (OpenSpec.ofChange fnExactTieOrderWrong)

/-- 'laws.FnExactSwissPairs': WHATEVER THE INPUT: true; the input reads as it did. -/
def fnExactSwissPairsSpec : ChangeSpec := { name := "fnExactSwissPairs", fn := fun _ => fun
  | [d1, d2] => { results := [.lit (.bool true)], args := [d1, d2] }
  | _ => none }
def fnExactSwissPairsRow : OpenClaim := { program := "ytpkjnmnonoachaa", sum := "6e459375dcb751645e65ad6eeea035f4559e973785a49051f84e4cdaabf3a77d", func := "loop.example/g01401/laws.FnExactSwissPairs", spec := "fnExactSwissPairs", unfollowed := true, recurses := true, apart := false }
def FnExactSwissPairsSaid : Prop := fnExactSwissPairsRow.holds Try.pinned (OpenSpec.ofChange fnExactSwissPairsSpec)

/-- ITS FALSE NEIGHBOUR: 'it returns false'. Refute it at one input. -/
def fnExactSwissPairsWrong : ChangeSpec := { name := "fnExactSwissPairs", fn := fun _ => fun
  | [d1, d2] => { results := [.lit (.bool false)], args := [d1, d2] }
  | _ => none }
def FnExactSwissPairsWrongFalsely : Prop := fnExactSwissPairsRow.holds Try.pinned (OpenSpec.ofChange fnExactSwissPairsWrong)

/- THE SECOND FORM. 'bulk': how many values and letters a reading holds, each counted each time it is reached (what is shared counts as often as it is met; a slice's spare places count too). A statement '..UptoSaid' is the law's where the arguments, and the package variables that the reading takes, are together of bulk at most 1048576: NARROWER than '..Said'. Prove '..Said' where nothing that the law and all that it calls make is longer than what came in: it says more and counts as full. Else prove '..UptoSaid'. A law counts once. -/
mutual
def uptoBulk {H : Type} : DataW H → Nat
  | .lit (.string bytes) => bytes.length + 1
  | .lit _ => 1
  | .nil => 1
  | .ptr d => uptoBulk d + 1
  | .slice elems spare => uptoBulkAll elems + uptoBulkAll spare + 1
  | .agg parts => uptoBulkAll parts + 1
  | .iface _ d => uptoBulk d + 1
  | .map entries => uptoBulkEntries entries + 1
  | .held _ => 1
def uptoBulkAll {H : Type} : List (DataW H) → Nat
  | [] => 0
  | d :: r => uptoBulk d + uptoBulkAll r
def uptoBulkEntries {H : Type} : List (Lit × DataW H) → Nat
  | [] => 0
  | x :: r => uptoBulkEntry x + uptoBulkEntries r
def uptoBulkEntry {H : Type} : Lit × DataW H → Nat
  | (.string bytes, d) => bytes.length + uptoBulk d + 1
  | (_, d) => uptoBulk d + 1
 end
def uptoSmall : (H : Type) → List (DataW H) → Bool := fun _ ds => decide (uptoBulkAll ds ≤ 1048576)
def OpenSpec.upto (s : _root_.Go.ChangeSpec) : _root_.Go.OpenSpec := { _root_.Go.OpenSpec.ofChange s with cond := some uptoSmall }

/-- 'laws.FnExactPassesTests', WHERE WHAT IT READS IS OF BULK AT MOST 1048576: true; the input reads as it did. -/
def fnExactPassesTestsUptoRow : OpenClaim := { program := "ytpkjnmnonoachaa", sum := "6e459375dcb751645e65ad6eeea035f4559e973785a49051f84e4cdaabf3a77d", func := "loop.example/g01401/laws.FnExactPassesTests", spec := "fnExactPassesTests", unfollowed := true, recurses := true, apart := false, narrowed := true }
def FnExactPassesTestsUptoSaid : Prop := fnExactPassesTestsUptoRow.holds Try.pinned (OpenSpec.upto fnExactPassesTestsSpec)

/-- 'laws.FnExactKnockRounds', WHERE WHAT IT READS IS OF BULK AT MOST 1048576: true; the input reads as it did. -/
def fnExactKnockRoundsUptoRow : OpenClaim := { program := "ytpkjnmnonoachaa", sum := "6e459375dcb751645e65ad6eeea035f4559e973785a49051f84e4cdaabf3a77d", func := "loop.example/g01401/laws.FnExactKnockRounds", spec := "fnExactKnockRounds", apart := false, narrowed := true }
def FnExactKnockRoundsUptoSaid : Prop := fnExactKnockRoundsUptoRow.holds Try.pinned (OpenSpec.upto fnExactKnockRoundsSpec)

/-- 'laws.FnExactKnockChances', WHERE WHAT IT READS IS OF BULK AT MOST 1048576: true; the input reads as it did. -/
def fnExactKnockChancesUptoRow : OpenClaim := { program := "ytpkjnmnonoachaa", sum := "6e459375dcb751645e65ad6eeea035f4559e973785a49051f84e4cdaabf3a77d", func := "loop.example/g01401/laws.FnExactKnockChances", spec := "fnExactKnockChances", unfollowed := true, recurses := true, apart := false, narrowed := true }
def FnExactKnockChancesUptoSaid : Prop := fnExactKnockChancesUptoRow.holds Try.pinned (OpenSpec.upto fnExactKnockChancesSpec)

/-- 'laws.FnExactMetOf', WHERE WHAT IT READS IS OF BULK AT MOST 1048576: true; the input reads as it did. -/
def fnExactMetOfUptoRow : OpenClaim := { program := "ytpkjnmnonoachaa", sum := "6e459375dcb751645e65ad6eeea035f4559e973785a49051f84e4cdaabf3a77d", func := "loop.example/g01401/laws.FnExactMetOf", spec := "fnExactMetOf", unfollowed := true, recurses := true, apart := false, narrowed := true }
def FnExactMetOfUptoSaid : Prop := fnExactMetOfUptoRow.holds Try.pinned (OpenSpec.upto fnExactMetOfSpec)

/-- 'laws.FnExactScoresOf', WHERE WHAT IT READS IS OF BULK AT MOST 1048576: true; the input reads as it did. -/
def fnExactScoresOfUptoRow : OpenClaim := { program := "ytpkjnmnonoachaa", sum := "6e459375dcb751645e65ad6eeea035f4559e973785a49051f84e4cdaabf3a77d", func := "loop.example/g01401/laws.FnExactScoresOf", spec := "fnExactScoresOf", unfollowed := true, recurses := true, apart := false, narrowed := true }
def FnExactScoresOfUptoSaid : Prop := fnExactScoresOfUptoRow.holds Try.pinned (OpenSpec.upto fnExactScoresOfSpec)

/-- 'laws.FnExactCountPassing', WHERE WHAT IT READS IS OF BULK AT MOST 1048576: true; the input reads as it did. -/
def fnExactCountPassingUptoRow : OpenClaim := { program := "ytpkjnmnonoachaa", sum := "6e459375dcb751645e65ad6eeea035f4559e973785a49051f84e4cdaabf3a77d", func := "loop.example/g01401/laws.FnExactCountPassing", spec := "fnExactCountPassing", unfollowed := true, recurses := true, apart := false, narrowed := true }
def FnExactCountPassingUptoSaid : Prop := fnExactCountPassingUptoRow.holds Try.pinned (OpenSpec.upto fnExactCountPassingSpec)

/-- 'laws.FnExactBuchholzOf', WHERE WHAT IT READS IS OF BULK AT MOST 1048576: true; the input reads as it did. -/
def fnExactBuchholzOfUptoRow : OpenClaim := { program := "ytpkjnmnonoachaa", sum := "6e459375dcb751645e65ad6eeea035f4559e973785a49051f84e4cdaabf3a77d", func := "loop.example/g01401/laws.FnExactBuchholzOf", spec := "fnExactBuchholzOf", unfollowed := true, recurses := true, apart := false, narrowed := true }
def FnExactBuchholzOfUptoSaid : Prop := fnExactBuchholzOfUptoRow.holds Try.pinned (OpenSpec.upto fnExactBuchholzOfSpec)

/-- 'laws.FnExactTieOrder', WHERE WHAT IT READS IS OF BULK AT MOST 1048576: true; the input reads as it did. -/
def fnExactTieOrderUptoRow : OpenClaim := { program := "ytpkjnmnonoachaa", sum := "6e459375dcb751645e65ad6eeea035f4559e973785a49051f84e4cdaabf3a77d", func := "loop.example/g01401/laws.FnExactTieOrder", spec := "fnExactTieOrder", unfollowed := true, recurses := true, apart := false, narrowed := true }
def FnExactTieOrderUptoSaid : Prop := fnExactTieOrderUptoRow.holds Try.pinned (OpenSpec.upto fnExactTieOrderSpec)

/-- 'laws.FnExactSwissPairs', WHERE WHAT IT READS IS OF BULK AT MOST 1048576: true; the input reads as it did. -/
def fnExactSwissPairsUptoRow : OpenClaim := { program := "ytpkjnmnonoachaa", sum := "6e459375dcb751645e65ad6eeea035f4559e973785a49051f84e4cdaabf3a77d", func := "loop.example/g01401/laws.FnExactSwissPairs", spec := "fnExactSwissPairs", unfollowed := true, recurses := true, apart := false, narrowed := true }
def FnExactSwissPairsUptoSaid : Prop := fnExactSwissPairsUptoRow.holds Try.pinned (OpenSpec.upto fnExactSwissPairsSpec)

end Rows
end Go.Proofs.Ytpkjnmnonoachaa
