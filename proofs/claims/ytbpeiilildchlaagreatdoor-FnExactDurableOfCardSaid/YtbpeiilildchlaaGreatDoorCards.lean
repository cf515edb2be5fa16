/-
  DERIVED. GIVEN WITH THE SEED: THE CARDS: each row of YtbpeiilildchlaaGreatDoorRows.lean that lists a variable, with what it lists TIED to the program's text (the seventh form; the later family's looks); each row that meets fmt, with fmt's text TOLD by the authors' own Lean function (tested against real Go, not proved from fmt's source: count such statements apart). THE CARD IS WHAT COUNTS. Prove the row's statement (the work); the ties are given (YtbpeiilildchlaaGreatDoorTie.lean); close each card by the builder's one call (the guide's Derived/Test/ToyasCard.lean, 'card_holds'). Laid BY PROGRAM, IN A SANDBOX (cutbox-door.mjs). By AI agents, Wed Nov 11 2026. No macro, syntax, notation, axiom, sorry.
-/
import Derived.Test.YtbpeiilildchlaaGreatDoorRows
import GoSem.ClaimSeven
namespace Go.Proofs.YtbpeiilildchlaaGreatDoor
namespace Rows

/-- THE TIED CARD OF 'laws.FnExactDurableOf'. -/
def fnExactDurableOfCard : Claim7 := { stood := { row := fnExactDurableOfRow, standIns := [], harness := (true, "161c761b4f697d7ace84288acd7bd5237c31fa073f56c5bcd22ce6be90d89d4b"), looks := false }, kinds := [], alts := [], laidByText := true, laidKinds := [.data, .pinned], laidTests := true, laidLooks := .later }
def FnExactDurableOfCardSaid : Prop := Claim7.holds Tryz.pinned (.plain (OpenSpec.ofChange fnExactDurableOfSpec)) fnExactDurableOfCard

/-- THE SECOND FORM's CARD OF 'laws.FnExactDurableOf'. -/
def fnExactDurableOfUptoCard : Claim7 := { stood := { row := fnExactDurableOfUptoRow, standIns := [], harness := (true, "161c761b4f697d7ace84288acd7bd5237c31fa073f56c5bcd22ce6be90d89d4b"), looks := false }, kinds := [], alts := [], laidByText := true, laidKinds := [.data, .pinned], laidTests := true, laidLooks := .later }
def FnExactDurableOfUptoCardSaid : Prop := Claim7.holds Tryz.pinned (.plain (OpenSpec.upto fnExactDurableOfSpec)) fnExactDurableOfUptoCard
end Rows
end Go.Proofs.YtbpeiilildchlaaGreatDoor
