/-
  DERIVED. GIVEN WITH THE SEED: THE CARDS: each row of YtgfeafcgpeclcaaDoorRows.lean that lists a variable, with what it lists TIED to the program's text (the seventh form; the later family's looks); each row that meets fmt, with fmt's text TOLD by the authors' own Lean function (tested against real Go, not proved from fmt's source: count such statements apart). THE CARD IS WHAT COUNTS. Prove the row's statement (the work); the ties are given (YtgfeafcgpeclcaaDoorTie.lean); close each card by the builder's one call (the guide's Derived/Test/ToyasCard.lean, 'card_holds'). Laid BY PROGRAM, IN A SANDBOX (cutbox-door.mjs). By AI agents, Wed Nov 11 2026. No macro, syntax, notation, axiom, sorry.
-/
import Derived.Test.YtgfeafcgpeclcaaDoorRows
import GoSem.ClaimSeven
namespace Go.Proofs.YtgfeafcgpeclcaaDoor
namespace Rows

/-- THE TIED CARD OF 'laws.FnExactNurseryOk'. -/
def fnExactNurseryOkCard : Claim7 := { stood := { row := fnExactNurseryOkRow, standIns := [], harness := (true, "a33c974568409a353ea6fb142232fd8d5f44af3221e840a202000012ed58f488"), looks := false }, kinds := [], alts := [], laidByText := true, laidKinds := [.data, .pinned], laidTests := true, laidLooks := .later }
def FnExactNurseryOkCardSaid : Prop := Claim7.holds Tryd.pinned (.plain (OpenSpec.ofChange fnExactNurseryOkSpec)) fnExactNurseryOkCard

/-- THE TIED CARD OF 'laws.FnExactStarts'. -/
def fnExactStartsCard : Claim7 := { stood := { row := fnExactStartsRow, standIns := [], harness := (true, "a33c974568409a353ea6fb142232fd8d5f44af3221e840a202000012ed58f488"), looks := false }, kinds := [], alts := [], laidByText := true, laidKinds := [.data, .pinned], laidTests := true, laidLooks := .later }
def FnExactStartsCardSaid : Prop := Claim7.holds Tryd.pinned (.plain (OpenSpec.ofChange fnExactStartsSpec)) fnExactStartsCard

/-- THE TIED CARD OF 'laws.FnExactAges'. -/
def fnExactAgesCard : Claim7 := { stood := { row := fnExactAgesRow, standIns := [], harness := (true, "a33c974568409a353ea6fb142232fd8d5f44af3221e840a202000012ed58f488"), looks := false }, kinds := [], alts := [], laidByText := true, laidKinds := [.data, .pinned], laidTests := true, laidLooks := .later }
def FnExactAgesCardSaid : Prop := Claim7.holds Tryd.pinned (.plain (OpenSpec.ofChange fnExactAgesSpec)) fnExactAgesCard

/-- THE TIED CARD OF 'laws.FnExactYoungObject'. -/
def fnExactYoungObjectCard : Claim7 := { stood := { row := fnExactYoungObjectRow, standIns := [], harness := (true, "a33c974568409a353ea6fb142232fd8d5f44af3221e840a202000012ed58f488"), looks := false }, kinds := [], alts := [], laidByText := true, laidKinds := [.data, .pinned], laidTests := true, laidLooks := .later }
def FnExactYoungObjectCardSaid : Prop := Claim7.holds Tryd.pinned (.plain (OpenSpec.ofChange fnExactYoungObjectSpec)) fnExactYoungObjectCard

/-- THE TIED CARD OF 'laws.FnExactYoungAlloc'. -/
def fnExactYoungAllocCard : Claim7 := { stood := { row := fnExactYoungAllocRow, standIns := [], harness := (true, "a33c974568409a353ea6fb142232fd8d5f44af3221e840a202000012ed58f488"), looks := false }, kinds := [], alts := [], laidByText := true, laidKinds := [.data, .pinned], laidTests := true, laidLooks := .later }
def FnExactYoungAllocCardSaid : Prop := Claim7.holds Tryd.pinned (.plain (OpenSpec.ofChange fnExactYoungAllocSpec)) fnExactYoungAllocCard

/-- THE TIED CARD OF 'laws.FnExactYoungSet'. -/
def fnExactYoungSetCard : Claim7 := { stood := { row := fnExactYoungSetRow, standIns := [], harness := (true, "a33c974568409a353ea6fb142232fd8d5f44af3221e840a202000012ed58f488"), looks := false }, kinds := [], alts := [], laidByText := true, laidKinds := [.data, .pinned], laidTests := true, laidLooks := .later }
def FnExactYoungSetCardSaid : Prop := Claim7.holds Tryd.pinned (.plain (OpenSpec.ofChange fnExactYoungSetSpec)) fnExactYoungSetCard

/-- THE TIED CARD OF 'laws.FnExactYoungClosure'. -/
def fnExactYoungClosureCard : Claim7 := { stood := { row := fnExactYoungClosureRow, standIns := [], harness := (true, "a33c974568409a353ea6fb142232fd8d5f44af3221e840a202000012ed58f488"), looks := false }, kinds := [], alts := [], laidByText := true, laidKinds := [.data, .pinned], laidTests := true, laidLooks := .later }
def FnExactYoungClosureCardSaid : Prop := Claim7.holds Tryd.pinned (.plain (OpenSpec.ofChange fnExactYoungClosureSpec)) fnExactYoungClosureCard

/-- THE TIED CARD OF 'laws.FnAlloc'. -/
def fnAllocCard : Claim7 := { stood := { row := fnAllocRow, standIns := [], harness := (true, "a33c974568409a353ea6fb142232fd8d5f44af3221e840a202000012ed58f488"), looks := false }, kinds := [], alts := [], laidByText := true, laidKinds := [.data, .pinned], laidTests := true, laidLooks := .later }
def FnAllocCardSaid : Prop := Claim7.holds Tryd.pinned (.plain (OpenSpec.ofChange fnAllocSpec)) fnAllocCard

/-- THE TIED CARD OF 'laws.FnYoungSet'. -/
def fnYoungSetCard : Claim7 := { stood := { row := fnYoungSetRow, standIns := [], harness := (true, "a33c974568409a353ea6fb142232fd8d5f44af3221e840a202000012ed58f488"), looks := false }, kinds := [], alts := [], laidByText := true, laidKinds := [.data, .pinned], laidTests := true, laidLooks := .later }
def FnYoungSetCardSaid : Prop := Claim7.holds Tryd.pinned (.plain (OpenSpec.ofChange fnYoungSetSpec)) fnYoungSetCard

/-- THE TIED CARD OF 'laws.FnExactMinor'. -/
def fnExactMinorCard : Claim7 := { stood := { row := fnExactMinorRow, standIns := [], harness := (true, "a33c974568409a353ea6fb142232fd8d5f44af3221e840a202000012ed58f488"), looks := false }, kinds := [], alts := [], laidByText := true, laidKinds := [.data, .pinned], laidTests := true, laidLooks := .later }
def FnExactMinorCardSaid : Prop := Claim7.holds Tryd.pinned (.plain (OpenSpec.ofChange fnExactMinorSpec)) fnExactMinorCard

/-- THE TIED CARD OF 'laws.FnClosure'. -/
def fnClosureCard : Claim7 := { stood := { row := fnClosureRow, standIns := [], harness := (true, "a33c974568409a353ea6fb142232fd8d5f44af3221e840a202000012ed58f488"), looks := false }, kinds := [], alts := [], laidByText := true, laidKinds := [.data, .pinned], laidTests := true, laidLooks := .later }
def FnClosureCardSaid : Prop := Claim7.holds Tryd.pinned (.plain (OpenSpec.ofChange fnClosureSpec)) fnClosureCard

/-- THE TIED CARD OF 'laws.FnMinor'. -/
def fnMinorCard : Claim7 := { stood := { row := fnMinorRow, standIns := [], harness := (true, "a33c974568409a353ea6fb142232fd8d5f44af3221e840a202000012ed58f488"), looks := false }, kinds := [], alts := [], laidByText := true, laidKinds := [.data, .pinned], laidTests := true, laidLooks := .later }
def FnMinorCardSaid : Prop := Claim7.holds Tryd.pinned (.plain (OpenSpec.ofChange fnMinorSpec)) fnMinorCard

/-- THE TIED CARD OF 'laws.FnMinorTwice'. -/
def fnMinorTwiceCard : Claim7 := { stood := { row := fnMinorTwiceRow, standIns := [], harness := (true, "a33c974568409a353ea6fb142232fd8d5f44af3221e840a202000012ed58f488"), looks := false }, kinds := [], alts := [], laidByText := true, laidKinds := [.data, .pinned], laidTests := true, laidLooks := .later }
def FnMinorTwiceCardSaid : Prop := Claim7.holds Tryd.pinned (.plain (OpenSpec.ofChange fnMinorTwiceSpec)) fnMinorTwiceCard

/-- THE SECOND FORM's CARD OF 'laws.FnExactNurseryOk'. -/
def fnExactNurseryOkUptoCard : Claim7 := { stood := { row := fnExactNurseryOkUptoRow, standIns := [], harness := (true, "a33c974568409a353ea6fb142232fd8d5f44af3221e840a202000012ed58f488"), looks := false }, kinds := [], alts := [], laidByText := true, laidKinds := [.data, .pinned], laidTests := true, laidLooks := .later }
def FnExactNurseryOkUptoCardSaid : Prop := Claim7.holds Tryd.pinned (.plain (OpenSpec.upto fnExactNurseryOkSpec)) fnExactNurseryOkUptoCard

/-- THE SECOND FORM's CARD OF 'laws.FnExactStarts'. -/
def fnExactStartsUptoCard : Claim7 := { stood := { row := fnExactStartsUptoRow, standIns := [], harness := (true, "a33c974568409a353ea6fb142232fd8d5f44af3221e840a202000012ed58f488"), looks := false }, kinds := [], alts := [], laidByText := true, laidKinds := [.data, .pinned], laidTests := true, laidLooks := .later }
def FnExactStartsUptoCardSaid : Prop := Claim7.holds Tryd.pinned (.plain (OpenSpec.upto fnExactStartsSpec)) fnExactStartsUptoCard

/-- THE SECOND FORM's CARD OF 'laws.FnExactAges'. -/
def fnExactAgesUptoCard : Claim7 := { stood := { row := fnExactAgesUptoRow, standIns := [], harness := (true, "a33c974568409a353ea6fb142232fd8d5f44af3221e840a202000012ed58f488"), looks := false }, kinds := [], alts := [], laidByText := true, laidKinds := [.data, .pinned], laidTests := true, laidLooks := .later }
def FnExactAgesUptoCardSaid : Prop := Claim7.holds Tryd.pinned (.plain (OpenSpec.upto fnExactAgesSpec)) fnExactAgesUptoCard

/-- THE SECOND FORM's CARD OF 'laws.FnExactYoungObject'. -/
def fnExactYoungObjectUptoCard : Claim7 := { stood := { row := fnExactYoungObjectUptoRow, standIns := [], harness := (true, "a33c974568409a353ea6fb142232fd8d5f44af3221e840a202000012ed58f488"), looks := false }, kinds := [], alts := [], laidByText := true, laidKinds := [.data, .pinned], laidTests := true, laidLooks := .later }
def FnExactYoungObjectUptoCardSaid : Prop := Claim7.holds Tryd.pinned (.plain (OpenSpec.upto fnExactYoungObjectSpec)) fnExactYoungObjectUptoCard

/-- THE SECOND FORM's CARD OF 'laws.FnExactYoungAlloc'. -/
def fnExactYoungAllocUptoCard : Claim7 := { stood := { row := fnExactYoungAllocUptoRow, standIns := [], harness := (true, "a33c974568409a353ea6fb142232fd8d5f44af3221e840a202000012ed58f488"), looks := false }, kinds := [], alts := [], laidByText := true, laidKinds := [.data, .pinned], laidTests := true, laidLooks := .later }
def FnExactYoungAllocUptoCardSaid : Prop := Claim7.holds Tryd.pinned (.plain (OpenSpec.upto fnExactYoungAllocSpec)) fnExactYoungAllocUptoCard

/-- THE SECOND FORM's CARD OF 'laws.FnExactYoungSet'. -/
def fnExactYoungSetUptoCard : Claim7 := { stood := { row := fnExactYoungSetUptoRow, standIns := [], harness := (true, "a33c974568409a353ea6fb142232fd8d5f44af3221e840a202000012ed58f488"), looks := false }, kinds := [], alts := [], laidByText := true, laidKinds := [.data, .pinned], laidTests := true, laidLooks := .later }
def FnExactYoungSetUptoCardSaid : Prop := Claim7.holds Tryd.pinned (.plain (OpenSpec.upto fnExactYoungSetSpec)) fnExactYoungSetUptoCard

/-- THE SECOND FORM's CARD OF 'laws.FnExactYoungClosure'. -/
def fnExactYoungClosureUptoCard : Claim7 := { stood := { row := fnExactYoungClosureUptoRow, standIns := [], harness := (true, "a33c974568409a353ea6fb142232fd8d5f44af3221e840a202000012ed58f488"), looks := false }, kinds := [], alts := [], laidByText := true, laidKinds := [.data, .pinned], laidTests := true, laidLooks := .later }
def FnExactYoungClosureUptoCardSaid : Prop := Claim7.holds Tryd.pinned (.plain (OpenSpec.upto fnExactYoungClosureSpec)) fnExactYoungClosureUptoCard

/-- THE SECOND FORM's CARD OF 'laws.FnAlloc'. -/
def fnAllocUptoCard : Claim7 := { stood := { row := fnAllocUptoRow, standIns := [], harness := (true, "a33c974568409a353ea6fb142232fd8d5f44af3221e840a202000012ed58f488"), looks := false }, kinds := [], alts := [], laidByText := true, laidKinds := [.data, .pinned], laidTests := true, laidLooks := .later }
def FnAllocUptoCardSaid : Prop := Claim7.holds Tryd.pinned (.plain (OpenSpec.upto fnAllocSpec)) fnAllocUptoCard

/-- THE SECOND FORM's CARD OF 'laws.FnYoungSet'. -/
def fnYoungSetUptoCard : Claim7 := { stood := { row := fnYoungSetUptoRow, standIns := [], harness := (true, "a33c974568409a353ea6fb142232fd8d5f44af3221e840a202000012ed58f488"), looks := false }, kinds := [], alts := [], laidByText := true, laidKinds := [.data, .pinned], laidTests := true, laidLooks := .later }
def FnYoungSetUptoCardSaid : Prop := Claim7.holds Tryd.pinned (.plain (OpenSpec.upto fnYoungSetSpec)) fnYoungSetUptoCard

/-- THE SECOND FORM's CARD OF 'laws.FnExactMinor'. -/
def fnExactMinorUptoCard : Claim7 := { stood := { row := fnExactMinorUptoRow, standIns := [], harness := (true, "a33c974568409a353ea6fb142232fd8d5f44af3221e840a202000012ed58f488"), looks := false }, kinds := [], alts := [], laidByText := true, laidKinds := [.data, .pinned], laidTests := true, laidLooks := .later }
def FnExactMinorUptoCardSaid : Prop := Claim7.holds Tryd.pinned (.plain (OpenSpec.upto fnExactMinorSpec)) fnExactMinorUptoCard

/-- THE SECOND FORM's CARD OF 'laws.FnClosure'. -/
def fnClosureUptoCard : Claim7 := { stood := { row := fnClosureUptoRow, standIns := [], harness := (true, "a33c974568409a353ea6fb142232fd8d5f44af3221e840a202000012ed58f488"), looks := false }, kinds := [], alts := [], laidByText := true, laidKinds := [.data, .pinned], laidTests := true, laidLooks := .later }
def FnClosureUptoCardSaid : Prop := Claim7.holds Tryd.pinned (.plain (OpenSpec.upto fnClosureSpec)) fnClosureUptoCard

/-- THE SECOND FORM's CARD OF 'laws.FnMinor'. -/
def fnMinorUptoCard : Claim7 := { stood := { row := fnMinorUptoRow, standIns := [], harness := (true, "a33c974568409a353ea6fb142232fd8d5f44af3221e840a202000012ed58f488"), looks := false }, kinds := [], alts := [], laidByText := true, laidKinds := [.data, .pinned], laidTests := true, laidLooks := .later }
def FnMinorUptoCardSaid : Prop := Claim7.holds Tryd.pinned (.plain (OpenSpec.upto fnMinorSpec)) fnMinorUptoCard

/-- THE SECOND FORM's CARD OF 'laws.FnMinorTwice'. -/
def fnMinorTwiceUptoCard : Claim7 := { stood := { row := fnMinorTwiceUptoRow, standIns := [], harness := (true, "a33c974568409a353ea6fb142232fd8d5f44af3221e840a202000012ed58f488"), looks := false }, kinds := [], alts := [], laidByText := true, laidKinds := [.data, .pinned], laidTests := true, laidLooks := .later }
def FnMinorTwiceUptoCardSaid : Prop := Claim7.holds Tryd.pinned (.plain (OpenSpec.upto fnMinorTwiceSpec)) fnMinorTwiceUptoCard
end Rows
end Go.Proofs.YtgfeafcgpeclcaaDoor
