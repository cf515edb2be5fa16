/-
  DERIVED. GIVEN WITH THE SEED: THE CARDS: each row of YtommgpkeicpokaaGreatDoorRows.lean that lists a variable, with what it lists TIED to the program's text (the seventh form; the later family's looks); each row that meets fmt, with fmt's text TOLD by the authors' own Lean function (tested against real Go, not proved from fmt's source: count such statements apart). THE CARD IS WHAT COUNTS. Prove the row's statement (the work); the ties are given (YtommgpkeicpokaaGreatDoorTie.lean); close each card by the builder's one call (the guide's Derived/Test/ToyasCard.lean, 'card_holds'). Laid BY PROGRAM, IN A SANDBOX (cutbox-door.mjs). By AI agents, Wed Nov 11 2026. No macro, syntax, notation, axiom, sorry.
-/
import Derived.Test.YtommgpkeicpokaaGreatDoorRows
import GoSem.ClaimSeven
namespace Go.Proofs.YtommgpkeicpokaaGreatDoor
namespace Rows

/-- THE TIED CARD OF 'laws.FnExactReadGraph'. -/
def fnExactReadGraphCard : Claim7 := { stood := { row := fnExactReadGraphRow, standIns := [], harness := (true, "6d15366fd5ff783645c823d5326758d9de45e861b5ccb41139df92646a1f64b7"), looks := true }, kinds := [], alts := [], laidByText := true, laidKinds := [.data, .data, .data, .data, .sentinel, .sentinel, .pinned], laidTests := true, laidLooks := .later }
def FnExactReadGraphCardSaid : Prop := Claim7.holds Tryz.pinned (.plain (OpenSpec.ofChange fnExactReadGraphSpec)) fnExactReadGraphCard

/-- THE TIED CARD OF 'laws.FnGraphText'. -/
def fnGraphTextCard : Claim7 := { stood := { row := fnGraphTextRow, standIns := [], harness := (true, "6d15366fd5ff783645c823d5326758d9de45e861b5ccb41139df92646a1f64b7"), looks := true }, kinds := [], alts := [], laidByText := true, laidKinds := [.data, .data, .data, .data, .sentinel, .sentinel, .pinned], laidTests := true, laidLooks := .later }
def FnGraphTextCardSaid : Prop := Claim7.holds Tryz.pinned (.plain (OpenSpec.ofChange fnGraphTextSpec)) fnGraphTextCard

/-- THE TIED CARD OF 'laws.FnExactDurables'. -/
def fnExactDurablesCard : Claim7 := { stood := { row := fnExactDurablesRow, standIns := [], harness := (true, "6d15366fd5ff783645c823d5326758d9de45e861b5ccb41139df92646a1f64b7"), looks := true }, kinds := [], alts := [], laidByText := true, laidKinds := [.data, .pinned], laidTests := true, laidLooks := .later }
def FnExactDurablesCardSaid : Prop := Claim7.holds Tryz.pinned (.plain (OpenSpec.ofChange fnExactDurablesSpec)) fnExactDurablesCard

/-- THE TIED CARD OF 'laws.FnDurables'. -/
def fnDurablesCard : Claim7 := { stood := { row := fnDurablesRow, standIns := [], harness := (true, "6d15366fd5ff783645c823d5326758d9de45e861b5ccb41139df92646a1f64b7"), looks := true }, kinds := [], alts := [], laidByText := true, laidKinds := [.data, .pinned], laidTests := true, laidLooks := .later }
def FnDurablesCardSaid : Prop := Claim7.holds Tryz.pinned (.plain (OpenSpec.ofChange fnDurablesSpec)) fnDurablesCard

/-- THE SECOND FORM's CARD OF 'laws.FnExactReadGraph'. -/
def fnExactReadGraphUptoCard : Claim7 := { stood := { row := fnExactReadGraphUptoRow, standIns := [], harness := (true, "6d15366fd5ff783645c823d5326758d9de45e861b5ccb41139df92646a1f64b7"), looks := true }, kinds := [], alts := [], laidByText := true, laidKinds := [.data, .data, .data, .data, .sentinel, .sentinel, .pinned], laidTests := true, laidLooks := .later }
def FnExactReadGraphUptoCardSaid : Prop := Claim7.holds Tryz.pinned (.plain (OpenSpec.upto fnExactReadGraphSpec)) fnExactReadGraphUptoCard

/-- THE SECOND FORM's CARD OF 'laws.FnGraphText'. -/
def fnGraphTextUptoCard : Claim7 := { stood := { row := fnGraphTextUptoRow, standIns := [], harness := (true, "6d15366fd5ff783645c823d5326758d9de45e861b5ccb41139df92646a1f64b7"), looks := true }, kinds := [], alts := [], laidByText := true, laidKinds := [.data, .data, .data, .data, .sentinel, .sentinel, .pinned], laidTests := true, laidLooks := .later }
def FnGraphTextUptoCardSaid : Prop := Claim7.holds Tryz.pinned (.plain (OpenSpec.upto fnGraphTextSpec)) fnGraphTextUptoCard

/-- THE SECOND FORM's CARD OF 'laws.FnExactDurables'. -/
def fnExactDurablesUptoCard : Claim7 := { stood := { row := fnExactDurablesUptoRow, standIns := [], harness := (true, "6d15366fd5ff783645c823d5326758d9de45e861b5ccb41139df92646a1f64b7"), looks := true }, kinds := [], alts := [], laidByText := true, laidKinds := [.data, .pinned], laidTests := true, laidLooks := .later }
def FnExactDurablesUptoCardSaid : Prop := Claim7.holds Tryz.pinned (.plain (OpenSpec.upto fnExactDurablesSpec)) fnExactDurablesUptoCard

/-- THE SECOND FORM's CARD OF 'laws.FnDurables'. -/
def fnDurablesUptoCard : Claim7 := { stood := { row := fnDurablesUptoRow, standIns := [], harness := (true, "6d15366fd5ff783645c823d5326758d9de45e861b5ccb41139df92646a1f64b7"), looks := true }, kinds := [], alts := [], laidByText := true, laidKinds := [.data, .pinned], laidTests := true, laidLooks := .later }
def FnDurablesUptoCardSaid : Prop := Claim7.holds Tryz.pinned (.plain (OpenSpec.upto fnDurablesSpec)) fnDurablesUptoCard
end Rows
end Go.Proofs.YtommgpkeicpokaaGreatDoor
