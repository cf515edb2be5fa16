/-
  DERIVED. GIVEN WITH THE SEED: THE CARDS: each row of YtmciidoohbmipaaDoorRows.lean that lists a variable, with what it lists TIED to the program's text (the seventh form; the later family's looks); each row that meets fmt, with fmt's text TOLD by the authors' own Lean function (tested against real Go, not proved from fmt's source: count such statements apart). THE CARD IS WHAT COUNTS. Prove the row's statement (the work); the ties are given (YtmciidoohbmipaaDoorTie.lean); close each card by the builder's one call (the guide's Derived/Test/ToyasCard.lean, 'card_holds'). Laid BY PROGRAM, IN A SANDBOX (cutbox-door.mjs). By AI agents, Wed Nov 11 2026. No macro, syntax, notation, axiom, sorry.
-/
import Derived.Test.YtmciidoohbmipaaDoorRows
import GoSem.ClaimSeven
namespace Go.Proofs.YtmciidoohbmipaaDoor
namespace Rows

/-- THE TIED CARD OF 'laws.FnExactUndone'. -/
def fnExactUndoneCard : Claim7 := { stood := { row := fnExactUndoneRow, standIns := [], harness := (true, "9f6a83a1d0ef893aecebcde76e82313a7960159bddf5f2ee964b1bbe48dfa407"), looks := false }, kinds := [], alts := [], laidByText := true, laidKinds := [.data, .pinned], laidTests := true, laidLooks := .later }
def FnExactUndoneCardSaid : Prop := Claim7.holds Tryd.pinned (.plain (OpenSpec.ofChange fnExactUndoneSpec)) fnExactUndoneCard

/-- THE SECOND FORM's CARD OF 'laws.FnExactUndone'. -/
def fnExactUndoneUptoCard : Claim7 := { stood := { row := fnExactUndoneUptoRow, standIns := [], harness := (true, "9f6a83a1d0ef893aecebcde76e82313a7960159bddf5f2ee964b1bbe48dfa407"), looks := false }, kinds := [], alts := [], laidByText := true, laidKinds := [.data, .pinned], laidTests := true, laidLooks := .later }
def FnExactUndoneUptoCardSaid : Prop := Claim7.holds Tryd.pinned (.plain (OpenSpec.upto fnExactUndoneSpec)) fnExactUndoneUptoCard
end Rows
end Go.Proofs.YtmciidoohbmipaaDoor
