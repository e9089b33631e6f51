/-
  DERIVED. GIVEN WITH THE SEED: THE CARDS: each row of YtmijfieiebnbfaaDoorRows.lean that lists a variable, with what it lists TIED to the program's text (the seventh form; the later family's looks); each row that meets fmt, with fmt's text TOLD by the authors' own Lean function (tested against real Go, not proved from fmt's source: count such statements apart). THE CARD IS WHAT COUNTS. Prove the row's statement (the work); the ties are given (YtmijfieiebnbfaaDoorTie.lean); close each card by the builder's one call (the guide's Derived/Test/ToyasCard.lean, 'card_holds'). Laid BY PROGRAM, IN A SANDBOX (cutbox-door.mjs). By AI agents, Wed Nov 11 2026. No macro, syntax, notation, axiom, sorry.
-/
import Derived.Test.YtmijfieiebnbfaaDoorRows
import GoSem.ClaimSeven
namespace Go.Proofs.YtmijfieiebnbfaaDoor
namespace Rows

/-- THE TIED CARD OF 'laws.FnExactTestText'. -/
def fnExactTestTextCard : Claim7 := { stood := { row := fnExactTestTextRow, standIns := [], harness := (true, "74953e8762ad537a0ab6babb283e9e600d0891e161e59059e118e64b6eb46dca"), looks := true }, kinds := [], alts := [], laidByText := true, laidKinds := [.data, .data, .data], laidTests := true, laidLooks := .later }
def FnExactTestTextCardSaid : Prop := Claim7.holds Tryd.pinned (.plain (OpenSpec.ofChange fnExactTestTextSpec)) fnExactTestTextCard

/-- THE TIED CARD OF 'laws.FnExactReadTests'. -/
def fnExactReadTestsCard : Claim7 := { stood := { row := fnExactReadTestsRow, standIns := [], harness := (true, "74953e8762ad537a0ab6babb283e9e600d0891e161e59059e118e64b6eb46dca"), looks := true }, kinds := [], alts := [], laidByText := true, laidKinds := [.data, .data, .data, .data, .sentinel, .sentinel, .pinned], laidTests := true, laidLooks := .later }
def FnExactReadTestsCardSaid : Prop := Claim7.holds Tryd.pinned (.plain (OpenSpec.ofChange fnExactReadTestsSpec)) fnExactReadTestsCard

/-- THE TIED CARD OF 'laws.FnTests'. -/
def fnTestsCard : Claim7 := { stood := { row := fnTestsRow, standIns := [], harness := (true, "74953e8762ad537a0ab6babb283e9e600d0891e161e59059e118e64b6eb46dca"), looks := true }, kinds := [], alts := [], laidByText := true, laidKinds := [.data, .data, .data, .data, .sentinel, .sentinel, .pinned], laidTests := true, laidLooks := .later }
def FnTestsCardSaid : Prop := Claim7.holds Tryd.pinned (.plain (OpenSpec.ofChange fnTestsSpec)) fnTestsCard

/-- THE SECOND FORM's CARD OF 'laws.FnExactTestText'. -/
def fnExactTestTextUptoCard : Claim7 := { stood := { row := fnExactTestTextUptoRow, standIns := [], harness := (true, "74953e8762ad537a0ab6babb283e9e600d0891e161e59059e118e64b6eb46dca"), looks := true }, kinds := [], alts := [], laidByText := true, laidKinds := [.data, .data, .data], laidTests := true, laidLooks := .later }
def FnExactTestTextUptoCardSaid : Prop := Claim7.holds Tryd.pinned (.plain (OpenSpec.upto fnExactTestTextSpec)) fnExactTestTextUptoCard

/-- THE SECOND FORM's CARD OF 'laws.FnExactReadTests'. -/
def fnExactReadTestsUptoCard : Claim7 := { stood := { row := fnExactReadTestsUptoRow, standIns := [], harness := (true, "74953e8762ad537a0ab6babb283e9e600d0891e161e59059e118e64b6eb46dca"), looks := true }, kinds := [], alts := [], laidByText := true, laidKinds := [.data, .data, .data, .data, .sentinel, .sentinel, .pinned], laidTests := true, laidLooks := .later }
def FnExactReadTestsUptoCardSaid : Prop := Claim7.holds Tryd.pinned (.plain (OpenSpec.upto fnExactReadTestsSpec)) fnExactReadTestsUptoCard

/-- THE SECOND FORM's CARD OF 'laws.FnTests'. -/
def fnTestsUptoCard : Claim7 := { stood := { row := fnTestsUptoRow, standIns := [], harness := (true, "74953e8762ad537a0ab6babb283e9e600d0891e161e59059e118e64b6eb46dca"), looks := true }, kinds := [], alts := [], laidByText := true, laidKinds := [.data, .data, .data, .data, .sentinel, .sentinel, .pinned], laidTests := true, laidLooks := .later }
def FnTestsUptoCardSaid : Prop := Claim7.holds Tryd.pinned (.plain (OpenSpec.upto fnTestsSpec)) fnTestsUptoCard
end Rows
end Go.Proofs.YtmijfieiebnbfaaDoor
