/-
  DERIVED. GIVEN WITH THE SEED: THE CARDS: each row of YtlljkankongifaaDoorRows.lean that lists a variable, with what it lists TIED to the program's text (the seventh form; the later family's looks); each row that meets fmt, with fmt's text TOLD by the authors' own Lean function (tested against real Go, not proved from fmt's source: count such statements apart). THE CARD IS WHAT COUNTS. Prove the row's statement (the work); the ties are given (YtlljkankongifaaDoorTie.lean); close each card by the builder's one call (the guide's Derived/Test/ToyasCard.lean, 'card_holds'). Laid BY PROGRAM, IN A SANDBOX (cutbox-door.mjs). By AI agents, Wed Nov 11 2026. No macro, syntax, notation, axiom, sorry.
-/
import Derived.Test.YtlljkankongifaaDoorRows
import GoSem.ClaimSeven
namespace Go.Proofs.YtlljkankongifaaDoor
namespace Rows

/-- THE TIED CARD OF 'laws.FnExactPlanned'. -/
def fnExactPlannedCard : Claim7 := { stood := { row := fnExactPlannedRow, standIns := [], harness := (true, "5c9c8638f52ddb40789210e5af19a3c2dcf634a80b32d20bd8a867a5a70a375e"), looks := false }, kinds := [], alts := [], laidByText := true, laidKinds := [.data, .pinned], laidTests := true, laidLooks := .later }
def FnExactPlannedCardSaid : Prop := Claim7.holds Tryd.pinned (.plain (OpenSpec.ofChange fnExactPlannedSpec)) fnExactPlannedCard

/-- THE TIED CARD OF 'laws.FnExactConfigOf'. -/
def fnExactConfigOfCard : Claim7 := { stood := { row := fnExactConfigOfRow, standIns := [], harness := (true, "5c9c8638f52ddb40789210e5af19a3c2dcf634a80b32d20bd8a867a5a70a375e"), looks := false }, kinds := [], alts := [], laidByText := true, laidKinds := [.data, .pinned], laidTests := true, laidLooks := .later }
def FnExactConfigOfCardSaid : Prop := Claim7.holds Tryd.pinned (.plain (OpenSpec.ofChange fnExactConfigOfSpec)) fnExactConfigOfCard

/-- THE TIED CARD OF 'laws.FnPlanned'. -/
def fnPlannedCard : Claim7 := { stood := { row := fnPlannedRow, standIns := [], harness := (true, "5c9c8638f52ddb40789210e5af19a3c2dcf634a80b32d20bd8a867a5a70a375e"), looks := false }, kinds := [], alts := [], laidByText := true, laidKinds := [.data, .pinned], laidTests := true, laidLooks := .later }
def FnPlannedCardSaid : Prop := Claim7.holds Tryd.pinned (.plain (OpenSpec.ofChange fnPlannedSpec)) fnPlannedCard

/-- THE TIED CARD OF 'laws.FnObjects'. -/
def fnObjectsCard : Claim7 := { stood := { row := fnObjectsRow, standIns := [], harness := (true, "5c9c8638f52ddb40789210e5af19a3c2dcf634a80b32d20bd8a867a5a70a375e"), looks := false }, kinds := [], alts := [], laidByText := true, laidKinds := [.data, .pinned], laidTests := true, laidLooks := .later }
def FnObjectsCardSaid : Prop := Claim7.holds Tryd.pinned (.plain (OpenSpec.ofChange fnObjectsSpec)) fnObjectsCard

/-- THE TIED CARD OF 'laws.FnExactOldObject'. -/
def fnExactOldObjectCard : Claim7 := { stood := { row := fnExactOldObjectRow, standIns := [], harness := (true, "5c9c8638f52ddb40789210e5af19a3c2dcf634a80b32d20bd8a867a5a70a375e"), looks := false }, kinds := [], alts := [], laidByText := true, laidKinds := [.data, .pinned], laidTests := true, laidLooks := .later }
def FnExactOldObjectCardSaid : Prop := Claim7.holds Tryd.pinned (.plain (OpenSpec.ofChange fnExactOldObjectSpec)) fnExactOldObjectCard

/-- THE SECOND FORM's CARD OF 'laws.FnExactPlanned'. -/
def fnExactPlannedUptoCard : Claim7 := { stood := { row := fnExactPlannedUptoRow, standIns := [], harness := (true, "5c9c8638f52ddb40789210e5af19a3c2dcf634a80b32d20bd8a867a5a70a375e"), looks := false }, kinds := [], alts := [], laidByText := true, laidKinds := [.data, .pinned], laidTests := true, laidLooks := .later }
def FnExactPlannedUptoCardSaid : Prop := Claim7.holds Tryd.pinned (.plain (OpenSpec.upto fnExactPlannedSpec)) fnExactPlannedUptoCard

/-- THE SECOND FORM's CARD OF 'laws.FnExactConfigOf'. -/
def fnExactConfigOfUptoCard : Claim7 := { stood := { row := fnExactConfigOfUptoRow, standIns := [], harness := (true, "5c9c8638f52ddb40789210e5af19a3c2dcf634a80b32d20bd8a867a5a70a375e"), looks := false }, kinds := [], alts := [], laidByText := true, laidKinds := [.data, .pinned], laidTests := true, laidLooks := .later }
def FnExactConfigOfUptoCardSaid : Prop := Claim7.holds Tryd.pinned (.plain (OpenSpec.upto fnExactConfigOfSpec)) fnExactConfigOfUptoCard

/-- THE SECOND FORM's CARD OF 'laws.FnPlanned'. -/
def fnPlannedUptoCard : Claim7 := { stood := { row := fnPlannedUptoRow, standIns := [], harness := (true, "5c9c8638f52ddb40789210e5af19a3c2dcf634a80b32d20bd8a867a5a70a375e"), looks := false }, kinds := [], alts := [], laidByText := true, laidKinds := [.data, .pinned], laidTests := true, laidLooks := .later }
def FnPlannedUptoCardSaid : Prop := Claim7.holds Tryd.pinned (.plain (OpenSpec.upto fnPlannedSpec)) fnPlannedUptoCard

/-- THE SECOND FORM's CARD OF 'laws.FnObjects'. -/
def fnObjectsUptoCard : Claim7 := { stood := { row := fnObjectsUptoRow, standIns := [], harness := (true, "5c9c8638f52ddb40789210e5af19a3c2dcf634a80b32d20bd8a867a5a70a375e"), looks := false }, kinds := [], alts := [], laidByText := true, laidKinds := [.data, .pinned], laidTests := true, laidLooks := .later }
def FnObjectsUptoCardSaid : Prop := Claim7.holds Tryd.pinned (.plain (OpenSpec.upto fnObjectsSpec)) fnObjectsUptoCard

/-- THE SECOND FORM's CARD OF 'laws.FnExactOldObject'. -/
def fnExactOldObjectUptoCard : Claim7 := { stood := { row := fnExactOldObjectUptoRow, standIns := [], harness := (true, "5c9c8638f52ddb40789210e5af19a3c2dcf634a80b32d20bd8a867a5a70a375e"), looks := false }, kinds := [], alts := [], laidByText := true, laidKinds := [.data, .pinned], laidTests := true, laidLooks := .later }
def FnExactOldObjectUptoCardSaid : Prop := Claim7.holds Tryd.pinned (.plain (OpenSpec.upto fnExactOldObjectSpec)) fnExactOldObjectUptoCard
end Rows
end Go.Proofs.YtlljkankongifaaDoor
