/-
  DERIVED. GIVEN WITH THE SEED: THE CARDS: each row of YtommgpkeicpokaaDoorRows.lean that lists a variable, with what it lists TIED to the program's text (the seventh form; the later family's looks); each row that meets fmt, with fmt's text TOLD by the authors' own Lean function (tested against real Go, not proved from fmt's source: count such statements apart). THE CARD IS WHAT COUNTS. Prove the row's statement (the work); the ties are given (YtommgpkeicpokaaDoorTie.lean); close each card by the builder's one call (the guide's Derived/Test/ToyasCard.lean, 'card_holds'). Laid BY PROGRAM, IN A SANDBOX (cutbox-door.mjs). By AI agents, Wed Nov 11 2026. No macro, syntax, notation, axiom, sorry.
-/
import Derived.Test.YtommgpkeicpokaaDoorRows
import GoSem.ClaimSeven
namespace Go.Proofs.YtommgpkeicpokaaDoor
namespace Rows

/-- THE TIED CARD OF 'laws.FnExactGraphText'. -/
def fnExactGraphTextCard : Claim7 := { stood := { row := fnExactGraphTextRow, standIns := [], harness := (true, "3a7b8757e4cd36e1debce9cae3e6c08a1cc7bbc50d2a3cb30e4779fc6361732a"), looks := false }, kinds := [], alts := [], laidByText := true, laidKinds := [.data, .data, .data, .data, .pinned], laidTests := true, laidLooks := .later }
def FnExactGraphTextCardSaid : Prop := Claim7.holds Tryd.pinned (.plain (OpenSpec.ofChange fnExactGraphTextSpec)) fnExactGraphTextCard

/-- THE TIED CARD OF 'laws.FnExactReached'. -/
def fnExactReachedCard : Claim7 := { stood := { row := fnExactReachedRow, standIns := [], harness := (true, "3a7b8757e4cd36e1debce9cae3e6c08a1cc7bbc50d2a3cb30e4779fc6361732a"), looks := false }, kinds := [], alts := [], laidByText := true, laidKinds := [.data, .pinned], laidTests := true, laidLooks := .later }
def FnExactReachedCardSaid : Prop := Claim7.holds Tryd.pinned (.plain (OpenSpec.ofChange fnExactReachedSpec)) fnExactReachedCard

/-- THE SECOND FORM's CARD OF 'laws.FnExactGraphText'. -/
def fnExactGraphTextUptoCard : Claim7 := { stood := { row := fnExactGraphTextUptoRow, standIns := [], harness := (true, "3a7b8757e4cd36e1debce9cae3e6c08a1cc7bbc50d2a3cb30e4779fc6361732a"), looks := false }, kinds := [], alts := [], laidByText := true, laidKinds := [.data, .data, .data, .data, .pinned], laidTests := true, laidLooks := .later }
def FnExactGraphTextUptoCardSaid : Prop := Claim7.holds Tryd.pinned (.plain (OpenSpec.upto fnExactGraphTextSpec)) fnExactGraphTextUptoCard

/-- THE SECOND FORM's CARD OF 'laws.FnExactReached'. -/
def fnExactReachedUptoCard : Claim7 := { stood := { row := fnExactReachedUptoRow, standIns := [], harness := (true, "3a7b8757e4cd36e1debce9cae3e6c08a1cc7bbc50d2a3cb30e4779fc6361732a"), looks := false }, kinds := [], alts := [], laidByText := true, laidKinds := [.data, .pinned], laidTests := true, laidLooks := .later }
def FnExactReachedUptoCardSaid : Prop := Claim7.holds Tryd.pinned (.plain (OpenSpec.upto fnExactReachedSpec)) fnExactReachedUptoCard
end Rows
end Go.Proofs.YtommgpkeicpokaaDoor
