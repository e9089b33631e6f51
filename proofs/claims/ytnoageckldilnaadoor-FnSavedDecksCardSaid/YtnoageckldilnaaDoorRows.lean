/-
  NARROWER THAN 'FOR EVERY INPUT', by the rows' own cells (each row's printed sentence says how): FnExactValidSaved: laid · FnExactStoreSaved: laid · FnExactStoreAll: laid · FnSavedDecks: laid · FnExactLoadSaved: laid · FnExactRecoverAll: laid.
  DERIVED. THE GIVEN ROWS OF THIS SEAT. 6 by the template 'for every input the law returns true; each argument reads behind the call as it read before'; 0 by the template 'total and deterministic' (their statements: YtnoageckldilnaaDoorTotals.lean).
  GIVEN WITH THE SEED: the statements are not yours to turn. If you find one false, say at which input.
  Laid BY PROGRAM, IN A SANDBOX (cutbox-rows.mjs): the forced cells as the released guide's own fill.sh prints them over the translation 732f9c39bb7781ae… (all of the seat's roots in one cut). By AI agents, Wed Nov 11 2026. No macro, syntax, notation, axiom, sorry.
-/
import Derived.Test.YtnoageckldilnaaDoorChecked
import GoSem.PinnedTables
import GoSem.Claim
import GoSem.ClaimJoined
import GoSem.ClaimMapViews
import Derived.JoinedTies
import Derived.KernelRfl
namespace Go.Proofs.YtnoageckldilnaaDoor
/- THE CELL 'sum', in the pinned program and in every row, IS THE sha256 OF THE DUMP (.gsa) THAT YtnoageckldilnaaDoorProg.lean LOADS. Nothing in Lean hashes anything: it is a label: what it is worth is what the hold of that sum in a sandbox is worth. -/
noncomputable def Tryd.pinned : Pinned := { name := "ytnoageckldilnaadoor", sum := "732f9c39bb7781aebc61b9b2bc3a812cb34f59ab9b19bc55023dbedc1bc5866c", checked := Tryd.checked }
namespace Rows
def none {H : Type} : Left H := { results := [], args := [] }

/- WHAT THE LISTED PACKAGE-LEVEL VARIABLES READ AS WHEN THE CALL BEGINS. Each datum BY PROGRAM (the guide's laid-datum.mjs) off the statement by which the dump's own 'gosem.cut.vars' lays the variable. In a bare row this is a premise. The card (YtnoageckldilnaaDoorCards.lean) ties it to the program's text. -/
def laid_unicode_utf8_acceptRanges {H : Type} : DataW H := .agg [.agg [.lit (.int .u8 128), .lit (.int .u8 191)], .agg [.lit (.int .u8 160), .lit (.int .u8 191)], .agg [.lit (.int .u8 128), .lit (.int .u8 159)], .agg [.lit (.int .u8 144), .lit (.int .u8 191)], .agg [.lit (.int .u8 128), .lit (.int .u8 143)], .agg [.lit (.int .u8 0), .lit (.int .u8 0)], .agg [.lit (.int .u8 0), .lit (.int .u8 0)], .agg [.lit (.int .u8 0), .lit (.int .u8 0)], .agg [.lit (.int .u8 0), .lit (.int .u8 0)], .agg [.lit (.int .u8 0), .lit (.int .u8 0)], .agg [.lit (.int .u8 0), .lit (.int .u8 0)], .agg [.lit (.int .u8 0), .lit (.int .u8 0)], .agg [.lit (.int .u8 0), .lit (.int .u8 0)], .agg [.lit (.int .u8 0), .lit (.int .u8 0)], .agg [.lit (.int .u8 0), .lit (.int .u8 0)], .agg [.lit (.int .u8 0), .lit (.int .u8 0)]]
/-- One of Go's own tables, pinned by name: the form's constant. -/
def laid_unicode_utf8_first : DataW Unit := Go.Pinned.utf8First

/-- 'laws.FnExactValidSaved': WHATEVER THE INPUT: true; the input reads as it did. -/
def fnExactValidSavedSpec : ChangeSpec := { name := "fnExactValidSaved", fn := fun _ => fun
  | [d] => { results := [.lit (.bool true)], args := [d] }
  | _ => none }
def fnExactValidSavedRow : OpenClaim := { program := "ytnoageckldilnaadoor", sum := "732f9c39bb7781aebc61b9b2bc3a812cb34f59ab9b19bc55023dbedc1bc5866c", func := "loop.example/g01401/laws.FnExactValidSaved", spec := "fnExactValidSaved", inPlace := ["internal/bytealg.IndexByteString", "internal/bytealg.IndexString"], unfollowed := true, recurses := true, named := ["unicode/utf8.first", "unicode/utf8.acceptRanges", "internal/bytealg.MaxLen"], apart := false, laid := [("unicode/utf8.acceptRanges", laid_unicode_utf8_acceptRanges), ("unicode/utf8.first", laid_unicode_utf8_first)] }
def FnExactValidSavedSaid : Prop := fnExactValidSavedRow.holds Tryd.pinned (OpenSpec.ofChange fnExactValidSavedSpec)

/-- ITS FALSE NEIGHBOUR: 'it returns false'. Refute it at one input. -/
def fnExactValidSavedWrong : ChangeSpec := { name := "fnExactValidSaved", fn := fun _ => fun
  | [d] => { results := [.lit (.bool false)], args := [d] }
  | _ => none }
def FnExactValidSavedWrongFalsely : Prop := fnExactValidSavedRow.holds Tryd.pinned (OpenSpec.ofChange fnExactValidSavedWrong)

/-- 'laws.FnExactStoreSaved': WHATEVER THE INPUT: true; the input reads as it did. -/
def fnExactStoreSavedSpec : ChangeSpec := { name := "fnExactStoreSaved", fn := fun _ => fun
  | [d] => { results := [.lit (.bool true)], args := [d] }
  | _ => none }
def fnExactStoreSavedRow : OpenClaim := { program := "ytnoageckldilnaadoor", sum := "732f9c39bb7781aebc61b9b2bc3a812cb34f59ab9b19bc55023dbedc1bc5866c", func := "loop.example/g01401/laws.FnExactStoreSaved", spec := "fnExactStoreSaved", inPlace := ["internal/bytealg.IndexByteString", "internal/bytealg.IndexString"], unfollowed := true, recurses := true, named := ["unicode/utf8.first", "unicode/utf8.acceptRanges", "internal/bytealg.MaxLen"], apart := false, laid := [("unicode/utf8.acceptRanges", laid_unicode_utf8_acceptRanges), ("unicode/utf8.first", laid_unicode_utf8_first)] }
def FnExactStoreSavedSaid : Prop := fnExactStoreSavedRow.holds Tryd.pinned (OpenSpec.ofChange fnExactStoreSavedSpec)

/-- ITS FALSE NEIGHBOUR: 'it returns false'. Refute it at one input. -/
def fnExactStoreSavedWrong : ChangeSpec := { name := "fnExactStoreSaved", fn := fun _ => fun
  | [d] => { results := [.lit (.bool false)], args := [d] }
  | _ => none }
def FnExactStoreSavedWrongFalsely : Prop := fnExactStoreSavedRow.holds Tryd.pinned (OpenSpec.ofChange fnExactStoreSavedWrong)

/-- 'laws.FnExactStoreAll': WHATEVER THE INPUT: true; the input reads as it did. -/
def fnExactStoreAllSpec : ChangeSpec := { name := "fnExactStoreAll", fn := fun _ => fun
  | [d] => { results := [.lit (.bool true)], args := [d] }
  | _ => none }
def fnExactStoreAllRow : OpenClaim := { program := "ytnoageckldilnaadoor", sum := "732f9c39bb7781aebc61b9b2bc3a812cb34f59ab9b19bc55023dbedc1bc5866c", func := "loop.example/g01401/laws.FnExactStoreAll", spec := "fnExactStoreAll", inPlace := ["internal/bytealg.IndexByteString", "internal/bytealg.IndexString", "internal/abi.NoEscape"], unfollowed := true, recurses := true, named := ["unicode/utf8.first", "unicode/utf8.acceptRanges", "internal/bytealg.MaxLen"], apart := false, laid := [("unicode/utf8.acceptRanges", laid_unicode_utf8_acceptRanges), ("unicode/utf8.first", laid_unicode_utf8_first)] }
def FnExactStoreAllSaid : Prop := fnExactStoreAllRow.holds Tryd.pinned (OpenSpec.ofChange fnExactStoreAllSpec)

/-- ITS FALSE NEIGHBOUR: 'it returns false'. Refute it at one input. -/
def fnExactStoreAllWrong : ChangeSpec := { name := "fnExactStoreAll", fn := fun _ => fun
  | [d] => { results := [.lit (.bool false)], args := [d] }
  | _ => none }
def FnExactStoreAllWrongFalsely : Prop := fnExactStoreAllRow.holds Tryd.pinned (OpenSpec.ofChange fnExactStoreAllWrong)

/-- 'laws.FnSavedDecks': WHATEVER THE INPUT: true; the input reads as it did. -/
def fnSavedDecksSpec : ChangeSpec := { name := "fnSavedDecks", fn := fun _ => fun
  | [d1, d2] => { results := [.lit (.bool true)], args := [d1, d2] }
  | _ => none }
def fnSavedDecksRow : OpenClaim := { program := "ytnoageckldilnaadoor", sum := "732f9c39bb7781aebc61b9b2bc3a812cb34f59ab9b19bc55023dbedc1bc5866c", func := "loop.example/g01401/laws.FnSavedDecks", spec := "fnSavedDecks", inPlace := ["internal/bytealg.IndexByteString", "internal/bytealg.IndexString", "internal/abi.NoEscape", "internal/bytealg.MakeNoZero"], unfollowed := true, recurses := true, named := ["unicode/utf8.first", "unicode/utf8.acceptRanges", "internal/bytealg.MaxLen"], apart := false, laid := [("unicode/utf8.acceptRanges", laid_unicode_utf8_acceptRanges), ("unicode/utf8.first", laid_unicode_utf8_first)] }
def FnSavedDecksSaid : Prop := fnSavedDecksRow.holds Tryd.pinned (OpenSpec.ofChange fnSavedDecksSpec)

/-- ITS FALSE NEIGHBOUR: 'it returns false'. Refute it at one input. -/
def fnSavedDecksWrong : ChangeSpec := { name := "fnSavedDecks", fn := fun _ => fun
  | [d1, d2] => { results := [.lit (.bool false)], args := [d1, d2] }
  | _ => none }
def FnSavedDecksWrongFalsely : Prop := fnSavedDecksRow.holds Tryd.pinned (OpenSpec.ofChange fnSavedDecksWrong)

/-- 'laws.FnExactLoadSaved': WHATEVER THE INPUT: true; the input reads as it did. -/
def fnExactLoadSavedSpec : ChangeSpec := { name := "fnExactLoadSaved", fn := fun _ => fun
  | [d] => { results := [.lit (.bool true)], args := [d] }
  | _ => none }
def fnExactLoadSavedRow : OpenClaim := { program := "ytnoageckldilnaadoor", sum := "732f9c39bb7781aebc61b9b2bc3a812cb34f59ab9b19bc55023dbedc1bc5866c", func := "loop.example/g01401/laws.FnExactLoadSaved", spec := "fnExactLoadSaved", inPlace := ["internal/abi.NoEscape", "internal/bytealg.MakeNoZero", "internal/bytealg.IndexByteString", "internal/bytealg.IndexString"], unfollowed := true, recurses := true, named := ["unicode/utf8.first", "unicode/utf8.acceptRanges", "internal/bytealg.MaxLen"], apart := false, laid := [("unicode/utf8.acceptRanges", laid_unicode_utf8_acceptRanges), ("unicode/utf8.first", laid_unicode_utf8_first)] }
def FnExactLoadSavedSaid : Prop := fnExactLoadSavedRow.holds Tryd.pinned (OpenSpec.ofChange fnExactLoadSavedSpec)

/-- ITS FALSE NEIGHBOUR: 'it returns false'. Refute it at one input. -/
def fnExactLoadSavedWrong : ChangeSpec := { name := "fnExactLoadSaved", fn := fun _ => fun
  | [d] => { results := [.lit (.bool false)], args := [d] }
  | _ => none }
def FnExactLoadSavedWrongFalsely : Prop := fnExactLoadSavedRow.holds Tryd.pinned (OpenSpec.ofChange fnExactLoadSavedWrong)

/-- 'laws.FnExactRecoverAll': WHATEVER THE INPUT: true; the input reads as it did. -/
def fnExactRecoverAllSpec : ChangeSpec := { name := "fnExactRecoverAll", fn := fun _ => fun
  | [d] => { results := [.lit (.bool true)], args := [d] }
  | _ => none }
def fnExactRecoverAllRow : OpenClaim := { program := "ytnoageckldilnaadoor", sum := "732f9c39bb7781aebc61b9b2bc3a812cb34f59ab9b19bc55023dbedc1bc5866c", func := "loop.example/g01401/laws.FnExactRecoverAll", spec := "fnExactRecoverAll", inPlace := ["internal/abi.NoEscape", "internal/bytealg.MakeNoZero", "internal/bytealg.IndexByteString", "internal/bytealg.IndexString"], unfollowed := true, recurses := true, named := ["unicode/utf8.first", "unicode/utf8.acceptRanges", "internal/bytealg.MaxLen"], apart := false, laid := [("unicode/utf8.acceptRanges", laid_unicode_utf8_acceptRanges), ("unicode/utf8.first", laid_unicode_utf8_first)] }
def FnExactRecoverAllSaid : Prop := fnExactRecoverAllRow.holds Tryd.pinned (OpenSpec.ofChange fnExactRecoverAllSpec)

/-- ITS FALSE NEIGHBOUR: 'it returns false'. Refute it at one input. -/
def fnExactRecoverAllWrong : ChangeSpec := { name := "fnExactRecoverAll", fn := fun _ => fun
  | [d] => { results := [.lit (.bool false)], args := [d] }
  | _ => none }
def FnExactRecoverAllWrongFalsely : Prop := fnExactRecoverAllRow.holds Tryd.pinned (OpenSpec.ofChange fnExactRecoverAllWrong)

/- THE SECOND FORM. 'bulk': how many values and letters a reading holds, each counted each time it is reached (what is shared counts as often as it is met; a slice's spare places count too). A statement '..UptoSaid' is the law's where the arguments, and the package variables that the reading takes, are together of bulk at most 1048576: NARROWER than '..Said'. Prove '..Said' where nothing that the law and all that it calls make is longer than what came in: it says more and counts as full. Else prove '..UptoSaid'. A law counts once. -/
mutual
def uptoBulk {H : Type} : DataW H → Nat
  | .lit (.string bytes) => bytes.length + 1
  | .lit _ => 1
  | .nil => 1
  | .ptr d => uptoBulk d + 1
  | .slice elems spare => uptoBulkAll elems + uptoBulkAll spare + 1
  | .agg parts => uptoBulkAll parts + 1
  | .iface _ d => uptoBulk d + 1
  | .map entries => uptoBulkEntries entries + 1
  | .held _ => 1
def uptoBulkAll {H : Type} : List (DataW H) → Nat
  | [] => 0
  | d :: r => uptoBulk d + uptoBulkAll r
def uptoBulkEntries {H : Type} : List (Lit × DataW H) → Nat
  | [] => 0
  | x :: r => uptoBulkEntry x + uptoBulkEntries r
def uptoBulkEntry {H : Type} : Lit × DataW H → Nat
  | (.string bytes, d) => bytes.length + uptoBulk d + 1
  | (_, d) => uptoBulk d + 1
 end
def uptoSmall : (H : Type) → List (DataW H) → Bool := fun _ ds => decide (uptoBulkAll ds ≤ 1048576)
def OpenSpec.upto (s : _root_.Go.ChangeSpec) : _root_.Go.OpenSpec := { _root_.Go.OpenSpec.ofChange s with cond := some uptoSmall }

/-- 'laws.FnExactValidSaved', WHERE WHAT IT READS IS OF BULK AT MOST 1048576: true; the input reads as it did. -/
def fnExactValidSavedUptoRow : OpenClaim := { program := "ytnoageckldilnaadoor", sum := "732f9c39bb7781aebc61b9b2bc3a812cb34f59ab9b19bc55023dbedc1bc5866c", func := "loop.example/g01401/laws.FnExactValidSaved", spec := "fnExactValidSaved", inPlace := ["internal/bytealg.IndexByteString", "internal/bytealg.IndexString"], unfollowed := true, recurses := true, named := ["unicode/utf8.first", "unicode/utf8.acceptRanges", "internal/bytealg.MaxLen"], apart := false, laid := [("unicode/utf8.acceptRanges", laid_unicode_utf8_acceptRanges), ("unicode/utf8.first", laid_unicode_utf8_first)], narrowed := true }
def FnExactValidSavedUptoSaid : Prop := fnExactValidSavedUptoRow.holds Tryd.pinned (OpenSpec.upto fnExactValidSavedSpec)

/-- 'laws.FnExactStoreSaved', WHERE WHAT IT READS IS OF BULK AT MOST 1048576: true; the input reads as it did. -/
def fnExactStoreSavedUptoRow : OpenClaim := { program := "ytnoageckldilnaadoor", sum := "732f9c39bb7781aebc61b9b2bc3a812cb34f59ab9b19bc55023dbedc1bc5866c", func := "loop.example/g01401/laws.FnExactStoreSaved", spec := "fnExactStoreSaved", inPlace := ["internal/bytealg.IndexByteString", "internal/bytealg.IndexString"], unfollowed := true, recurses := true, named := ["unicode/utf8.first", "unicode/utf8.acceptRanges", "internal/bytealg.MaxLen"], apart := false, laid := [("unicode/utf8.acceptRanges", laid_unicode_utf8_acceptRanges), ("unicode/utf8.first", laid_unicode_utf8_first)], narrowed := true }
def FnExactStoreSavedUptoSaid : Prop := fnExactStoreSavedUptoRow.holds Tryd.pinned (OpenSpec.upto fnExactStoreSavedSpec)

/-- 'laws.FnExactStoreAll', WHERE WHAT IT READS IS OF BULK AT MOST 1048576: true; the input reads as it did. -/
def fnExactStoreAllUptoRow : OpenClaim := { program := "ytnoageckldilnaadoor", sum := "732f9c39bb7781aebc61b9b2bc3a812cb34f59ab9b19bc55023dbedc1bc5866c", func := "loop.example/g01401/laws.FnExactStoreAll", spec := "fnExactStoreAll", inPlace := ["internal/bytealg.IndexByteString", "internal/bytealg.IndexString", "internal/abi.NoEscape"], unfollowed := true, recurses := true, named := ["unicode/utf8.first", "unicode/utf8.acceptRanges", "internal/bytealg.MaxLen"], apart := false, laid := [("unicode/utf8.acceptRanges", laid_unicode_utf8_acceptRanges), ("unicode/utf8.first", laid_unicode_utf8_first)], narrowed := true }
def FnExactStoreAllUptoSaid : Prop := fnExactStoreAllUptoRow.holds Tryd.pinned (OpenSpec.upto fnExactStoreAllSpec)

/-- 'laws.FnSavedDecks', WHERE WHAT IT READS IS OF BULK AT MOST 1048576: true; the input reads as it did. -/
def fnSavedDecksUptoRow : OpenClaim := { program := "ytnoageckldilnaadoor", sum := "732f9c39bb7781aebc61b9b2bc3a812cb34f59ab9b19bc55023dbedc1bc5866c", func := "loop.example/g01401/laws.FnSavedDecks", spec := "fnSavedDecks", inPlace := ["internal/bytealg.IndexByteString", "internal/bytealg.IndexString", "internal/abi.NoEscape", "internal/bytealg.MakeNoZero"], unfollowed := true, recurses := true, named := ["unicode/utf8.first", "unicode/utf8.acceptRanges", "internal/bytealg.MaxLen"], apart := false, laid := [("unicode/utf8.acceptRanges", laid_unicode_utf8_acceptRanges), ("unicode/utf8.first", laid_unicode_utf8_first)], narrowed := true }
def FnSavedDecksUptoSaid : Prop := fnSavedDecksUptoRow.holds Tryd.pinned (OpenSpec.upto fnSavedDecksSpec)

/-- 'laws.FnExactLoadSaved', WHERE WHAT IT READS IS OF BULK AT MOST 1048576: true; the input reads as it did. -/
def fnExactLoadSavedUptoRow : OpenClaim := { program := "ytnoageckldilnaadoor", sum := "732f9c39bb7781aebc61b9b2bc3a812cb34f59ab9b19bc55023dbedc1bc5866c", func := "loop.example/g01401/laws.FnExactLoadSaved", spec := "fnExactLoadSaved", inPlace := ["internal/abi.NoEscape", "internal/bytealg.MakeNoZero", "internal/bytealg.IndexByteString", "internal/bytealg.IndexString"], unfollowed := true, recurses := true, named := ["unicode/utf8.first", "unicode/utf8.acceptRanges", "internal/bytealg.MaxLen"], apart := false, laid := [("unicode/utf8.acceptRanges", laid_unicode_utf8_acceptRanges), ("unicode/utf8.first", laid_unicode_utf8_first)], narrowed := true }
def FnExactLoadSavedUptoSaid : Prop := fnExactLoadSavedUptoRow.holds Tryd.pinned (OpenSpec.upto fnExactLoadSavedSpec)

/-- 'laws.FnExactRecoverAll', WHERE WHAT IT READS IS OF BULK AT MOST 1048576: true; the input reads as it did. -/
def fnExactRecoverAllUptoRow : OpenClaim := { program := "ytnoageckldilnaadoor", sum := "732f9c39bb7781aebc61b9b2bc3a812cb34f59ab9b19bc55023dbedc1bc5866c", func := "loop.example/g01401/laws.FnExactRecoverAll", spec := "fnExactRecoverAll", inPlace := ["internal/abi.NoEscape", "internal/bytealg.MakeNoZero", "internal/bytealg.IndexByteString", "internal/bytealg.IndexString"], unfollowed := true, recurses := true, named := ["unicode/utf8.first", "unicode/utf8.acceptRanges", "internal/bytealg.MaxLen"], apart := false, laid := [("unicode/utf8.acceptRanges", laid_unicode_utf8_acceptRanges), ("unicode/utf8.first", laid_unicode_utf8_first)], narrowed := true }
def FnExactRecoverAllUptoSaid : Prop := fnExactRecoverAllUptoRow.holds Tryd.pinned (OpenSpec.upto fnExactRecoverAllSpec)

end Rows
end Go.Proofs.YtnoageckldilnaaDoor
