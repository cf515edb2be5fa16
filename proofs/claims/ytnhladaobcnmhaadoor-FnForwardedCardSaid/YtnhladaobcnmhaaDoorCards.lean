/-
  DERIVED. GIVEN WITH THE SEED: THE CARDS: each row of YtnhladaobcnmhaaDoorRows.lean that lists a variable, with what it lists TIED to the program's text (the seventh form; the later family's looks); each row that meets fmt, with fmt's text TOLD by the authors' own Lean function (tested against real Go, not proved from fmt's source: count such statements apart). THE CARD IS WHAT COUNTS. Prove the row's statement (the work); the ties are given (YtnhladaobcnmhaaDoorTie.lean); close each card by the builder's one call (the guide's Derived/Test/ToyasCard.lean, 'card_holds'). Laid BY PROGRAM, IN A SANDBOX (cutbox-door.mjs). By AI agents, Wed Nov 11 2026. No macro, syntax, notation, axiom, sorry.
-/
import Derived.Test.YtnhladaobcnmhaaDoorRows
import GoSem.ClaimSeven
namespace Go.Proofs.YtnhladaobcnmhaaDoor
namespace Rows

/-- THE TIED CARD OF 'laws.FnExactGraphOk'. -/
def fnExactGraphOkCard : Claim7 := { stood := { row := fnExactGraphOkRow, standIns := [], harness := (true, "9130cc936e04389c7dc557d6126621e391f2e41317a79cd37851e9c465384a39"), looks := false }, kinds := [], alts := [], laidByText := true, laidKinds := [.data, .pinned], laidTests := true, laidLooks := .later }
def FnExactGraphOkCardSaid : Prop := Claim7.holds Tryd.pinned (.plain (OpenSpec.ofChange fnExactGraphOkSpec)) fnExactGraphOkCard

/-- THE TIED CARD OF 'laws.FnExactRootsOf'. -/
def fnExactRootsOfCard : Claim7 := { stood := { row := fnExactRootsOfRow, standIns := [], harness := (true, "9130cc936e04389c7dc557d6126621e391f2e41317a79cd37851e9c465384a39"), looks := false }, kinds := [], alts := [], laidByText := true, laidKinds := [.data, .pinned], laidTests := true, laidLooks := .later }
def FnExactRootsOfCardSaid : Prop := Claim7.holds Tryd.pinned (.plain (OpenSpec.ofChange fnExactRootsOfSpec)) fnExactRootsOfCard

/-- THE TIED CARD OF 'laws.FnExactLinesFor'. -/
def fnExactLinesForCard : Claim7 := { stood := { row := fnExactLinesForRow, standIns := [], harness := (true, "9130cc936e04389c7dc557d6126621e391f2e41317a79cd37851e9c465384a39"), looks := false }, kinds := [], alts := [], laidByText := true, laidKinds := [.data, .pinned], laidTests := true, laidLooks := .later }
def FnExactLinesForCardSaid : Prop := Claim7.holds Tryd.pinned (.plain (OpenSpec.ofChange fnExactLinesForSpec)) fnExactLinesForCard

/-- THE TIED CARD OF 'laws.FnForwarded'. -/
def fnForwardedCard : Claim7 := { stood := { row := fnForwardedRow, standIns := [], harness := (true, "9130cc936e04389c7dc557d6126621e391f2e41317a79cd37851e9c465384a39"), looks := false }, kinds := [], alts := [], laidByText := true, laidKinds := [.data, .pinned], laidTests := true, laidLooks := .later }
def FnForwardedCardSaid : Prop := Claim7.holds Tryd.pinned (.plain (OpenSpec.ofChange fnForwardedSpec)) fnForwardedCard

/-- THE SECOND FORM's CARD OF 'laws.FnExactGraphOk'. -/
def fnExactGraphOkUptoCard : Claim7 := { stood := { row := fnExactGraphOkUptoRow, standIns := [], harness := (true, "9130cc936e04389c7dc557d6126621e391f2e41317a79cd37851e9c465384a39"), looks := false }, kinds := [], alts := [], laidByText := true, laidKinds := [.data, .pinned], laidTests := true, laidLooks := .later }
def FnExactGraphOkUptoCardSaid : Prop := Claim7.holds Tryd.pinned (.plain (OpenSpec.upto fnExactGraphOkSpec)) fnExactGraphOkUptoCard

/-- THE SECOND FORM's CARD OF 'laws.FnExactRootsOf'. -/
def fnExactRootsOfUptoCard : Claim7 := { stood := { row := fnExactRootsOfUptoRow, standIns := [], harness := (true, "9130cc936e04389c7dc557d6126621e391f2e41317a79cd37851e9c465384a39"), looks := false }, kinds := [], alts := [], laidByText := true, laidKinds := [.data, .pinned], laidTests := true, laidLooks := .later }
def FnExactRootsOfUptoCardSaid : Prop := Claim7.holds Tryd.pinned (.plain (OpenSpec.upto fnExactRootsOfSpec)) fnExactRootsOfUptoCard

/-- THE SECOND FORM's CARD OF 'laws.FnExactLinesFor'. -/
def fnExactLinesForUptoCard : Claim7 := { stood := { row := fnExactLinesForUptoRow, standIns := [], harness := (true, "9130cc936e04389c7dc557d6126621e391f2e41317a79cd37851e9c465384a39"), looks := false }, kinds := [], alts := [], laidByText := true, laidKinds := [.data, .pinned], laidTests := true, laidLooks := .later }
def FnExactLinesForUptoCardSaid : Prop := Claim7.holds Tryd.pinned (.plain (OpenSpec.upto fnExactLinesForSpec)) fnExactLinesForUptoCard

/-- THE SECOND FORM's CARD OF 'laws.FnForwarded'. -/
def fnForwardedUptoCard : Claim7 := { stood := { row := fnForwardedUptoRow, standIns := [], harness := (true, "9130cc936e04389c7dc557d6126621e391f2e41317a79cd37851e9c465384a39"), looks := false }, kinds := [], alts := [], laidByText := true, laidKinds := [.data, .pinned], laidTests := true, laidLooks := .later }
def FnForwardedUptoCardSaid : Prop := Claim7.holds Tryd.pinned (.plain (OpenSpec.upto fnForwardedSpec)) fnForwardedUptoCard
end Rows
end Go.Proofs.YtnhladaobcnmhaaDoor
