/-
  DERIVED. GIVEN WITH THE SEED: THE CARDS: each row of YtmciidoohbmipaaGreatDoorRows.lean that lists a variable, with what it lists TIED to the program's text (the seventh form; the later family's looks); each row that meets fmt, with fmt's text TOLD by the authors' own Lean function (tested against real Go, not proved from fmt's source: count such statements apart). THE CARD IS WHAT COUNTS. Prove the row's statement (the work); the ties are given (YtmciidoohbmipaaGreatDoorTie.lean); close each card by the builder's one call (the guide's Derived/Test/ToyasCard.lean, 'card_holds'). Laid BY PROGRAM, IN A SANDBOX (cutbox-door.mjs). By AI agents, Wed Nov 11 2026. No macro, syntax, notation, axiom, sorry.
-/
import Derived.Test.YtmciidoohbmipaaGreatDoorRows
import GoSem.ClaimSeven
namespace Go.Proofs.YtmciidoohbmipaaGreatDoor
namespace Rows

/-- THE TIED CARD OF 'laws.FnLogged'. -/
def fnLoggedCard : Claim7 := { stood := { row := fnLoggedRow, standIns := [], harness := (true, "ff238f6e67338ed1ab3430a30a2b8ee9e677c128bc3a12b5c5f1ee639dee4042"), looks := false }, kinds := [], alts := [], laidByText := true, laidKinds := [.data, .pinned], laidTests := true, laidLooks := .later }
def FnLoggedCardSaid : Prop := Claim7.holds Tryz.pinned (.plain (OpenSpec.ofChange fnLoggedSpec)) fnLoggedCard

/-- THE TIED CARD OF 'laws.FnEnded'. -/
def fnEndedCard : Claim7 := { stood := { row := fnEndedRow, standIns := [], harness := (true, "ff238f6e67338ed1ab3430a30a2b8ee9e677c128bc3a12b5c5f1ee639dee4042"), looks := false }, kinds := [], alts := [], laidByText := true, laidKinds := [.data, .pinned], laidTests := true, laidLooks := .later }
def FnEndedCardSaid : Prop := Claim7.holds Tryz.pinned (.plain (OpenSpec.ofChange fnEndedSpec)) fnEndedCard

/-- THE TIED CARD OF 'laws.FnNoted'. -/
def fnNotedCard : Claim7 := { stood := { row := fnNotedRow, standIns := [], harness := (true, "ff238f6e67338ed1ab3430a30a2b8ee9e677c128bc3a12b5c5f1ee639dee4042"), looks := false }, kinds := [], alts := [], laidByText := true, laidKinds := [.data, .pinned], laidTests := true, laidLooks := .later }
def FnNotedCardSaid : Prop := Claim7.holds Tryz.pinned (.plain (OpenSpec.ofChange fnNotedSpec)) fnNotedCard

/-- THE TIED CARD OF 'laws.FnExactRolledBack'. -/
def fnExactRolledBackCard : Claim7 := { stood := { row := fnExactRolledBackRow, standIns := [], harness := (true, "ff238f6e67338ed1ab3430a30a2b8ee9e677c128bc3a12b5c5f1ee639dee4042"), looks := false }, kinds := [], alts := [], laidByText := true, laidKinds := [.data, .pinned], laidTests := true, laidLooks := .later }
def FnExactRolledBackCardSaid : Prop := Claim7.holds Tryz.pinned (.plain (OpenSpec.ofChange fnExactRolledBackSpec)) fnExactRolledBackCard

/-- THE SECOND FORM's CARD OF 'laws.FnLogged'. -/
def fnLoggedUptoCard : Claim7 := { stood := { row := fnLoggedUptoRow, standIns := [], harness := (true, "ff238f6e67338ed1ab3430a30a2b8ee9e677c128bc3a12b5c5f1ee639dee4042"), looks := false }, kinds := [], alts := [], laidByText := true, laidKinds := [.data, .pinned], laidTests := true, laidLooks := .later }
def FnLoggedUptoCardSaid : Prop := Claim7.holds Tryz.pinned (.plain (OpenSpec.upto fnLoggedSpec)) fnLoggedUptoCard

/-- THE SECOND FORM's CARD OF 'laws.FnEnded'. -/
def fnEndedUptoCard : Claim7 := { stood := { row := fnEndedUptoRow, standIns := [], harness := (true, "ff238f6e67338ed1ab3430a30a2b8ee9e677c128bc3a12b5c5f1ee639dee4042"), looks := false }, kinds := [], alts := [], laidByText := true, laidKinds := [.data, .pinned], laidTests := true, laidLooks := .later }
def FnEndedUptoCardSaid : Prop := Claim7.holds Tryz.pinned (.plain (OpenSpec.upto fnEndedSpec)) fnEndedUptoCard

/-- THE SECOND FORM's CARD OF 'laws.FnNoted'. -/
def fnNotedUptoCard : Claim7 := { stood := { row := fnNotedUptoRow, standIns := [], harness := (true, "ff238f6e67338ed1ab3430a30a2b8ee9e677c128bc3a12b5c5f1ee639dee4042"), looks := false }, kinds := [], alts := [], laidByText := true, laidKinds := [.data, .pinned], laidTests := true, laidLooks := .later }
def FnNotedUptoCardSaid : Prop := Claim7.holds Tryz.pinned (.plain (OpenSpec.upto fnNotedSpec)) fnNotedUptoCard

/-- THE SECOND FORM's CARD OF 'laws.FnExactRolledBack'. -/
def fnExactRolledBackUptoCard : Claim7 := { stood := { row := fnExactRolledBackUptoRow, standIns := [], harness := (true, "ff238f6e67338ed1ab3430a30a2b8ee9e677c128bc3a12b5c5f1ee639dee4042"), looks := false }, kinds := [], alts := [], laidByText := true, laidKinds := [.data, .pinned], laidTests := true, laidLooks := .later }
def FnExactRolledBackUptoCardSaid : Prop := Claim7.holds Tryz.pinned (.plain (OpenSpec.upto fnExactRolledBackSpec)) fnExactRolledBackUptoCard
end Rows
end Go.Proofs.YtmciidoohbmipaaGreatDoor
