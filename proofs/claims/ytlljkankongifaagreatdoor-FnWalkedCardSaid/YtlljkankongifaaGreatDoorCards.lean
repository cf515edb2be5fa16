/-
  DERIVED. GIVEN WITH THE SEED: THE CARDS: each row of YtlljkankongifaaGreatDoorRows.lean that lists a variable, with what it lists TIED to the program's text (the seventh form; the later family's looks); each row that meets fmt, with fmt's text TOLD by the authors' own Lean function (tested against real Go, not proved from fmt's source: count such statements apart). THE CARD IS WHAT COUNTS. Prove the row's statement (the work); the ties are given (YtlljkankongifaaGreatDoorTie.lean); close each card by the builder's one call (the guide's Derived/Test/ToyasCard.lean, 'card_holds'). Laid BY PROGRAM, IN A SANDBOX (cutbox-door.mjs). By AI agents, Wed Nov 11 2026. No macro, syntax, notation, axiom, sorry.
-/
import Derived.Test.YtlljkankongifaaGreatDoorRows
import GoSem.ClaimSeven
namespace Go.Proofs.YtlljkankongifaaGreatDoor
namespace Rows

/-- THE TIED CARD OF 'laws.FnExactLiveMap'. -/
def fnExactLiveMapCard : Claim7 := { stood := { row := fnExactLiveMapRow, standIns := [], harness := (true, "882db582887f47515f3fe8e09e29518f1f846af009fdf8e5379e05ffd5f86039"), looks := false }, kinds := [], alts := [], laidByText := true, laidKinds := [.data, .pinned], laidTests := true, laidLooks := .later }
def FnExactLiveMapCardSaid : Prop := Claim7.holds Tryz.pinned (.plain (OpenSpec.ofChange fnExactLiveMapSpec)) fnExactLiveMapCard

/-- THE TIED CARD OF 'laws.FnExactWalk'. -/
def fnExactWalkCard : Claim7 := { stood := { row := fnExactWalkRow, standIns := [], harness := (true, "882db582887f47515f3fe8e09e29518f1f846af009fdf8e5379e05ffd5f86039"), looks := false }, kinds := [], alts := [], laidByText := true, laidKinds := [.data, .pinned], laidTests := true, laidLooks := .later }
def FnExactWalkCardSaid : Prop := Claim7.holds Tryz.pinned (.plain (OpenSpec.ofChange fnExactWalkSpec)) fnExactWalkCard

/-- THE TIED CARD OF 'laws.FnExactDurableOf'. -/
def fnExactDurableOfCard : Claim7 := { stood := { row := fnExactDurableOfRow, standIns := [], harness := (true, "882db582887f47515f3fe8e09e29518f1f846af009fdf8e5379e05ffd5f86039"), looks := false }, kinds := [], alts := [], laidByText := true, laidKinds := [.data, .pinned], laidTests := true, laidLooks := .later }
def FnExactDurableOfCardSaid : Prop := Claim7.holds Tryz.pinned (.plain (OpenSpec.ofChange fnExactDurableOfSpec)) fnExactDurableOfCard

/-- THE TIED CARD OF 'laws.FnWalked'. -/
def fnWalkedCard : Claim7 := { stood := { row := fnWalkedRow, standIns := [], harness := (true, "882db582887f47515f3fe8e09e29518f1f846af009fdf8e5379e05ffd5f86039"), looks := false }, kinds := [], alts := [], laidByText := true, laidKinds := [.data, .pinned], laidTests := true, laidLooks := .later }
def FnWalkedCardSaid : Prop := Claim7.holds Tryz.pinned (.plain (OpenSpec.ofChange fnWalkedSpec)) fnWalkedCard

/-- THE SECOND FORM's CARD OF 'laws.FnExactLiveMap'. -/
def fnExactLiveMapUptoCard : Claim7 := { stood := { row := fnExactLiveMapUptoRow, standIns := [], harness := (true, "882db582887f47515f3fe8e09e29518f1f846af009fdf8e5379e05ffd5f86039"), looks := false }, kinds := [], alts := [], laidByText := true, laidKinds := [.data, .pinned], laidTests := true, laidLooks := .later }
def FnExactLiveMapUptoCardSaid : Prop := Claim7.holds Tryz.pinned (.plain (OpenSpec.upto fnExactLiveMapSpec)) fnExactLiveMapUptoCard

/-- THE SECOND FORM's CARD OF 'laws.FnExactWalk'. -/
def fnExactWalkUptoCard : Claim7 := { stood := { row := fnExactWalkUptoRow, standIns := [], harness := (true, "882db582887f47515f3fe8e09e29518f1f846af009fdf8e5379e05ffd5f86039"), looks := false }, kinds := [], alts := [], laidByText := true, laidKinds := [.data, .pinned], laidTests := true, laidLooks := .later }
def FnExactWalkUptoCardSaid : Prop := Claim7.holds Tryz.pinned (.plain (OpenSpec.upto fnExactWalkSpec)) fnExactWalkUptoCard

/-- THE SECOND FORM's CARD OF 'laws.FnExactDurableOf'. -/
def fnExactDurableOfUptoCard : Claim7 := { stood := { row := fnExactDurableOfUptoRow, standIns := [], harness := (true, "882db582887f47515f3fe8e09e29518f1f846af009fdf8e5379e05ffd5f86039"), looks := false }, kinds := [], alts := [], laidByText := true, laidKinds := [.data, .pinned], laidTests := true, laidLooks := .later }
def FnExactDurableOfUptoCardSaid : Prop := Claim7.holds Tryz.pinned (.plain (OpenSpec.upto fnExactDurableOfSpec)) fnExactDurableOfUptoCard

/-- THE SECOND FORM's CARD OF 'laws.FnWalked'. -/
def fnWalkedUptoCard : Claim7 := { stood := { row := fnWalkedUptoRow, standIns := [], harness := (true, "882db582887f47515f3fe8e09e29518f1f846af009fdf8e5379e05ffd5f86039"), looks := false }, kinds := [], alts := [], laidByText := true, laidKinds := [.data, .pinned], laidTests := true, laidLooks := .later }
def FnWalkedUptoCardSaid : Prop := Claim7.holds Tryz.pinned (.plain (OpenSpec.upto fnWalkedSpec)) fnWalkedUptoCard
end Rows
end Go.Proofs.YtlljkankongifaaGreatDoor
