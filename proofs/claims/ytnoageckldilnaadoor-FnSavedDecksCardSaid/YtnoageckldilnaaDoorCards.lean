/-
  DERIVED. GIVEN WITH THE SEED: THE CARDS: each row of YtnoageckldilnaaDoorRows.lean that lists a variable, with what it lists TIED to the program's text (the seventh form; the later family's looks); each row that meets fmt, with fmt's text TOLD by the authors' own Lean function (tested against real Go, not proved from fmt's source: count such statements apart). THE CARD IS WHAT COUNTS. Prove the row's statement (the work); the ties are given (YtnoageckldilnaaDoorTie.lean); close each card by the builder's one call (the guide's Derived/Test/ToyasCard.lean, 'card_holds'). Laid BY PROGRAM, IN A SANDBOX (cutbox-door.mjs). By AI agents, Wed Nov 11 2026. No macro, syntax, notation, axiom, sorry.
-/
import Derived.Test.YtnoageckldilnaaDoorRows
import GoSem.ClaimSeven
namespace Go.Proofs.YtnoageckldilnaaDoor
namespace Rows

/-- THE TIED CARD OF 'laws.FnExactValidSaved'. -/
def fnExactValidSavedCard : Claim7 := { stood := { row := fnExactValidSavedRow, standIns := [], harness := (true, "a73949330ce07de980a273b873b0459c6a8a9e1e280b64585fc799c336987559"), looks := false }, kinds := [], alts := [], laidByText := true, laidKinds := [.data, .pinned], laidTests := true, laidLooks := .later }
def FnExactValidSavedCardSaid : Prop := Claim7.holds Tryd.pinned (.plain (OpenSpec.ofChange fnExactValidSavedSpec)) fnExactValidSavedCard

/-- THE TIED CARD OF 'laws.FnExactStoreSaved'. -/
def fnExactStoreSavedCard : Claim7 := { stood := { row := fnExactStoreSavedRow, standIns := [], harness := (true, "a73949330ce07de980a273b873b0459c6a8a9e1e280b64585fc799c336987559"), looks := false }, kinds := [], alts := [], laidByText := true, laidKinds := [.data, .pinned], laidTests := true, laidLooks := .later }
def FnExactStoreSavedCardSaid : Prop := Claim7.holds Tryd.pinned (.plain (OpenSpec.ofChange fnExactStoreSavedSpec)) fnExactStoreSavedCard

/-- THE TIED CARD OF 'laws.FnExactStoreAll'. -/
def fnExactStoreAllCard : Claim7 := { stood := { row := fnExactStoreAllRow, standIns := [], harness := (true, "a73949330ce07de980a273b873b0459c6a8a9e1e280b64585fc799c336987559"), looks := false }, kinds := [], alts := [], laidByText := true, laidKinds := [.data, .pinned], laidTests := true, laidLooks := .later }
def FnExactStoreAllCardSaid : Prop := Claim7.holds Tryd.pinned (.plain (OpenSpec.ofChange fnExactStoreAllSpec)) fnExactStoreAllCard

/-- THE TIED CARD OF 'laws.FnSavedDecks'. -/
def fnSavedDecksCard : Claim7 := { stood := { row := fnSavedDecksRow, standIns := [], harness := (true, "a73949330ce07de980a273b873b0459c6a8a9e1e280b64585fc799c336987559"), looks := false }, kinds := [], alts := [], laidByText := true, laidKinds := [.data, .pinned], laidTests := true, laidLooks := .later }
def FnSavedDecksCardSaid : Prop := Claim7.holds Tryd.pinned (.plain (OpenSpec.ofChange fnSavedDecksSpec)) fnSavedDecksCard

/-- THE TIED CARD OF 'laws.FnExactLoadSaved'. -/
def fnExactLoadSavedCard : Claim7 := { stood := { row := fnExactLoadSavedRow, standIns := [], harness := (true, "a73949330ce07de980a273b873b0459c6a8a9e1e280b64585fc799c336987559"), looks := false }, kinds := [], alts := [], laidByText := true, laidKinds := [.data, .pinned], laidTests := true, laidLooks := .later }
def FnExactLoadSavedCardSaid : Prop := Claim7.holds Tryd.pinned (.plain (OpenSpec.ofChange fnExactLoadSavedSpec)) fnExactLoadSavedCard

/-- THE TIED CARD OF 'laws.FnExactRecoverAll'. -/
def fnExactRecoverAllCard : Claim7 := { stood := { row := fnExactRecoverAllRow, standIns := [], harness := (true, "a73949330ce07de980a273b873b0459c6a8a9e1e280b64585fc799c336987559"), looks := false }, kinds := [], alts := [], laidByText := true, laidKinds := [.data, .pinned], laidTests := true, laidLooks := .later }
def FnExactRecoverAllCardSaid : Prop := Claim7.holds Tryd.pinned (.plain (OpenSpec.ofChange fnExactRecoverAllSpec)) fnExactRecoverAllCard

/-- THE SECOND FORM's CARD OF 'laws.FnExactValidSaved'. -/
def fnExactValidSavedUptoCard : Claim7 := { stood := { row := fnExactValidSavedUptoRow, standIns := [], harness := (true, "a73949330ce07de980a273b873b0459c6a8a9e1e280b64585fc799c336987559"), looks := false }, kinds := [], alts := [], laidByText := true, laidKinds := [.data, .pinned], laidTests := true, laidLooks := .later }
def FnExactValidSavedUptoCardSaid : Prop := Claim7.holds Tryd.pinned (.plain (OpenSpec.upto fnExactValidSavedSpec)) fnExactValidSavedUptoCard

/-- THE SECOND FORM's CARD OF 'laws.FnExactStoreSaved'. -/
def fnExactStoreSavedUptoCard : Claim7 := { stood := { row := fnExactStoreSavedUptoRow, standIns := [], harness := (true, "a73949330ce07de980a273b873b0459c6a8a9e1e280b64585fc799c336987559"), looks := false }, kinds := [], alts := [], laidByText := true, laidKinds := [.data, .pinned], laidTests := true, laidLooks := .later }
def FnExactStoreSavedUptoCardSaid : Prop := Claim7.holds Tryd.pinned (.plain (OpenSpec.upto fnExactStoreSavedSpec)) fnExactStoreSavedUptoCard

/-- THE SECOND FORM's CARD OF 'laws.FnExactStoreAll'. -/
def fnExactStoreAllUptoCard : Claim7 := { stood := { row := fnExactStoreAllUptoRow, standIns := [], harness := (true, "a73949330ce07de980a273b873b0459c6a8a9e1e280b64585fc799c336987559"), looks := false }, kinds := [], alts := [], laidByText := true, laidKinds := [.data, .pinned], laidTests := true, laidLooks := .later }
def FnExactStoreAllUptoCardSaid : Prop := Claim7.holds Tryd.pinned (.plain (OpenSpec.upto fnExactStoreAllSpec)) fnExactStoreAllUptoCard

/-- THE SECOND FORM's CARD OF 'laws.FnSavedDecks'. -/
def fnSavedDecksUptoCard : Claim7 := { stood := { row := fnSavedDecksUptoRow, standIns := [], harness := (true, "a73949330ce07de980a273b873b0459c6a8a9e1e280b64585fc799c336987559"), looks := false }, kinds := [], alts := [], laidByText := true, laidKinds := [.data, .pinned], laidTests := true, laidLooks := .later }
def FnSavedDecksUptoCardSaid : Prop := Claim7.holds Tryd.pinned (.plain (OpenSpec.upto fnSavedDecksSpec)) fnSavedDecksUptoCard

/-- THE SECOND FORM's CARD OF 'laws.FnExactLoadSaved'. -/
def fnExactLoadSavedUptoCard : Claim7 := { stood := { row := fnExactLoadSavedUptoRow, standIns := [], harness := (true, "a73949330ce07de980a273b873b0459c6a8a9e1e280b64585fc799c336987559"), looks := false }, kinds := [], alts := [], laidByText := true, laidKinds := [.data, .pinned], laidTests := true, laidLooks := .later }
def FnExactLoadSavedUptoCardSaid : Prop := Claim7.holds Tryd.pinned (.plain (OpenSpec.upto fnExactLoadSavedSpec)) fnExactLoadSavedUptoCard

/-- THE SECOND FORM's CARD OF 'laws.FnExactRecoverAll'. -/
def fnExactRecoverAllUptoCard : Claim7 := { stood := { row := fnExactRecoverAllUptoRow, standIns := [], harness := (true, "a73949330ce07de980a273b873b0459c6a8a9e1e280b64585fc799c336987559"), looks := false }, kinds := [], alts := [], laidByText := true, laidKinds := [.data, .pinned], laidTests := true, laidLooks := .later }
def FnExactRecoverAllUptoCardSaid : Prop := Claim7.holds Tryd.pinned (.plain (OpenSpec.upto fnExactRecoverAllSpec)) fnExactRecoverAllUptoCard
end Rows
end Go.Proofs.YtnoageckldilnaaDoor
