/-
  NARROWER THAN 'FOR EVERY INPUT', by the rows' own cells (each row's printed sentence says how): FnLogged: laid · FnEnded: laid · FnNoted: laid · FnExactRolledBack: laid.
  DERIVED. THE GIVEN ROWS OF THIS SEAT. 4 by the template 'for every input the law returns true; each argument reads behind the call as it read before'; 0 by the template 'total and deterministic' (their statements: YtmciidoohbmipaaGreatDoorTotals.lean).
  GIVEN WITH THE SEED: the statements are not yours to turn. If you find one false, say at which input.
  Laid BY PROGRAM, IN A SANDBOX (cutbox-rows.mjs): the forced cells as the released guide's own fill.sh prints them over the translation 2587ca8e29ff4859… (all of the seat's roots in one cut). By AI agents, Wed Nov 11 2026. No macro, syntax, notation, axiom, sorry.
-/
import Derived.Test.YtmciidoohbmipaaGreatDoorChecked
import GoSem.PinnedTables
import GoSem.Claim
import GoSem.ClaimJoined
import GoSem.ClaimMapViews
import Derived.JoinedTies
import Derived.KernelRfl
namespace Go.Proofs.YtmciidoohbmipaaGreatDoor
/- THE CELL 'sum', in the pinned program and in every row, IS THE sha256 OF THE DUMP (.gsa) THAT YtmciidoohbmipaaGreatDoorProg.lean LOADS. Nothing in Lean hashes anything: it is a label: what it is worth is what the hold of that sum in a sandbox is worth. -/
noncomputable def Tryz.pinned : Pinned := { name := "ytmciidoohbmipaagreatdoor", sum := "2587ca8e29ff4859d5c249eab41d82bad0c54e331586324c72472976332f803a", checked := Tryz.checked }
namespace Rows
def none {H : Type} : Left H := { results := [], args := [] }

/- WHAT THE LISTED PACKAGE-LEVEL VARIABLES READ AS WHEN THE CALL BEGINS. Each datum BY PROGRAM (the guide's laid-datum.mjs) off the statement by which the dump's own 'gosem.cut.vars' lays the variable. In a bare row this is a premise. The card (YtmciidoohbmipaaGreatDoorCards.lean) ties it to the program's text. -/
def laid_unicode_utf8_acceptRanges {H : Type} : DataW H := .agg [.agg [.lit (.int .u8 128), .lit (.int .u8 191)], .agg [.lit (.int .u8 160), .lit (.int .u8 191)], .agg [.lit (.int .u8 128), .lit (.int .u8 159)], .agg [.lit (.int .u8 144), .lit (.int .u8 191)], .agg [.lit (.int .u8 128), .lit (.int .u8 143)], .agg [.lit (.int .u8 0), .lit (.int .u8 0)], .agg [.lit (.int .u8 0), .lit (.int .u8 0)], .agg [.lit (.int .u8 0), .lit (.int .u8 0)], .agg [.lit (.int .u8 0), .lit (.int .u8 0)], .agg [.lit (.int .u8 0), .lit (.int .u8 0)], .agg [.lit (.int .u8 0), .lit (.int .u8 0)], .agg [.lit (.int .u8 0), .lit (.int .u8 0)], .agg [.lit (.int .u8 0), .lit (.int .u8 0)], .agg [.lit (.int .u8 0), .lit (.int .u8 0)], .agg [.lit (.int .u8 0), .lit (.int .u8 0)], .agg [.lit (.int .u8 0), .lit (.int .u8 0)]]
/-- One of Go's own tables, pinned by name: the form's constant. -/
def laid_unicode_utf8_first : DataW Unit := Go.Pinned.utf8First

/-- 'laws.FnLogged': WHATEVER THE INPUT: true; the input reads as it did. -/
def fnLoggedSpec : ChangeSpec := { name := "fnLogged", fn := fun _ => fun
  | [d] => { results := [.lit (.bool true)], args := [d] }
  | _ => none }
def fnLoggedRow : OpenClaim := { program := "ytmciidoohbmipaagreatdoor", sum := "2587ca8e29ff4859d5c249eab41d82bad0c54e331586324c72472976332f803a", func := "loop.example/g00648/laws.FnLogged", spec := "fnLogged", inPlace := ["internal/bytealg.IndexByteString", "internal/bytealg.IndexString", "internal/abi.NoEscape", "internal/bytealg.MakeNoZero", "slices.overlaps[loop.example/g00648/impl.Line]"], unfollowed := true, recurses := true, named := ["unicode/utf8.first", "unicode/utf8.acceptRanges", "internal/bytealg.MaxLen"], apart := false, laid := [("unicode/utf8.acceptRanges", laid_unicode_utf8_acceptRanges), ("unicode/utf8.first", laid_unicode_utf8_first)] }
def FnLoggedSaid : Prop := fnLoggedRow.holds Tryz.pinned (OpenSpec.ofChange fnLoggedSpec)

/-- ITS FALSE NEIGHBOUR: 'it returns false'. Refute it at one input. -/
def fnLoggedWrong : ChangeSpec := { name := "fnLogged", fn := fun _ => fun
  | [d] => { results := [.lit (.bool false)], args := [d] }
  | _ => none }
def FnLoggedWrongFalsely : Prop := fnLoggedRow.holds Tryz.pinned (OpenSpec.ofChange fnLoggedWrong)

/-- 'laws.FnEnded': WHATEVER THE INPUT: true; the input reads as it did. -/
def fnEndedSpec : ChangeSpec := { name := "fnEnded", fn := fun _ => fun
  | [d] => { results := [.lit (.bool true)], args := [d] }
  | _ => none }
def fnEndedRow : OpenClaim := { program := "ytmciidoohbmipaagreatdoor", sum := "2587ca8e29ff4859d5c249eab41d82bad0c54e331586324c72472976332f803a", func := "loop.example/g00648/laws.FnEnded", spec := "fnEnded", inPlace := ["internal/bytealg.IndexByteString", "internal/bytealg.IndexString", "internal/abi.NoEscape", "internal/bytealg.MakeNoZero", "slices.overlaps[loop.example/g00648/impl.Line]"], unfollowed := true, recurses := true, named := ["unicode/utf8.first", "unicode/utf8.acceptRanges", "internal/bytealg.MaxLen"], apart := false, laid := [("unicode/utf8.acceptRanges", laid_unicode_utf8_acceptRanges), ("unicode/utf8.first", laid_unicode_utf8_first)] }
def FnEndedSaid : Prop := fnEndedRow.holds Tryz.pinned (OpenSpec.ofChange fnEndedSpec)

/-- ITS FALSE NEIGHBOUR: 'it returns false'. Refute it at one input. -/
def fnEndedWrong : ChangeSpec := { name := "fnEnded", fn := fun _ => fun
  | [d] => { results := [.lit (.bool false)], args := [d] }
  | _ => none }
def FnEndedWrongFalsely : Prop := fnEndedRow.holds Tryz.pinned (OpenSpec.ofChange fnEndedWrong)

/-- 'laws.FnNoted': WHATEVER THE INPUT: true; the input reads as it did. -/
def fnNotedSpec : ChangeSpec := { name := "fnNoted", fn := fun _ => fun
  | [d] => { results := [.lit (.bool true)], args := [d] }
  | _ => none }
def fnNotedRow : OpenClaim := { program := "ytmciidoohbmipaagreatdoor", sum := "2587ca8e29ff4859d5c249eab41d82bad0c54e331586324c72472976332f803a", func := "loop.example/g00648/laws.FnNoted", spec := "fnNoted", inPlace := ["internal/bytealg.IndexByteString", "internal/bytealg.IndexString", "internal/abi.NoEscape", "internal/bytealg.MakeNoZero", "slices.overlaps[loop.example/g00648/impl.Line]"], unfollowed := true, recurses := true, named := ["unicode/utf8.first", "unicode/utf8.acceptRanges", "internal/bytealg.MaxLen"], apart := false, laid := [("unicode/utf8.acceptRanges", laid_unicode_utf8_acceptRanges), ("unicode/utf8.first", laid_unicode_utf8_first)] }
def FnNotedSaid : Prop := fnNotedRow.holds Tryz.pinned (OpenSpec.ofChange fnNotedSpec)

/-- ITS FALSE NEIGHBOUR: 'it returns false'. Refute it at one input. -/
def fnNotedWrong : ChangeSpec := { name := "fnNoted", fn := fun _ => fun
  | [d] => { results := [.lit (.bool false)], args := [d] }
  | _ => none }
def FnNotedWrongFalsely : Prop := fnNotedRow.holds Tryz.pinned (OpenSpec.ofChange fnNotedWrong)

/-- 'laws.FnExactRolledBack': WHATEVER THE INPUT: true; the input reads as it did. -/
def fnExactRolledBackSpec : ChangeSpec := { name := "fnExactRolledBack", fn := fun _ => fun
  | [d1, d2] => { results := [.lit (.bool true)], args := [d1, d2] }
  | _ => none }
def fnExactRolledBackRow : OpenClaim := { program := "ytmciidoohbmipaagreatdoor", sum := "2587ca8e29ff4859d5c249eab41d82bad0c54e331586324c72472976332f803a", func := "loop.example/g00648/laws.FnExactRolledBack", spec := "fnExactRolledBack", inPlace := ["internal/bytealg.IndexByteString", "internal/bytealg.IndexString", "internal/abi.NoEscape", "internal/bytealg.MakeNoZero", "slices.overlaps[loop.example/g00648/impl.Line]"], unfollowed := true, recurses := true, named := ["unicode/utf8.first", "unicode/utf8.acceptRanges", "internal/bytealg.MaxLen"], apart := false, laid := [("unicode/utf8.acceptRanges", laid_unicode_utf8_acceptRanges), ("unicode/utf8.first", laid_unicode_utf8_first)] }
def FnExactRolledBackSaid : Prop := fnExactRolledBackRow.holds Tryz.pinned (OpenSpec.ofChange fnExactRolledBackSpec)

/-- ITS FALSE NEIGHBOUR: 'it returns false'. Refute it at one input. -/
def fnExactRolledBackWrong : ChangeSpec := { name := "fnExactRolledBack", fn := fun _ => fun
  | [d1, d2] => { results := [.lit (.bool false)], args := [d1, d2] }
  | _ => none }
def FnExactRolledBackWrongFalsely : Prop := fnExactRolledBackRow.holds Tryz.pinned (OpenSpec.ofChange fnExactRolledBackWrong)

/- THE SECOND FORM. 'bulk': how many values and letters a reading holds, each counted each time it is reached (what is shared counts as often as it is met; a slice's spare places count too). A statement '..UptoSaid' is the law's where the arguments, and the package variables that the reading takes, are together of bulk at most 1048576: NARROWER than '..Said'. Prove '..Said' where nothing that the law and all that it calls make is longer than what came in: it says more and counts as full. Else prove '..UptoSaid'. A law counts once. -/
mutual
def uptoBulk {H : Type} : DataW H → Nat
  | .lit (.string bytes) => bytes.length + 1
  | .lit _ => 1
  | .nil => 1
  | .ptr d => uptoBulk d + 1
  | .slice elems spare => uptoBulkAll elems + uptoBulkAll spare + 1
  | .agg parts => uptoBulkAll parts + 1
  | .iface _ d => uptoBulk d + 1
  | .map entries => uptoBulkEntries entries + 1
  | .held _ => 1
def uptoBulkAll {H : Type} : List (DataW H) → Nat
  | [] => 0
  | d :: r => uptoBulk d + uptoBulkAll r
def uptoBulkEntries {H : Type} : List (Lit × DataW H) → Nat
  | [] => 0
  | x :: r => uptoBulkEntry x + uptoBulkEntries r
def uptoBulkEntry {H : Type} : Lit × DataW H → Nat
  | (.string bytes, d) => bytes.length + uptoBulk d + 1
  | (_, d) => uptoBulk d + 1
 end
def uptoSmall : (H : Type) → List (DataW H) → Bool := fun _ ds => decide (uptoBulkAll ds ≤ 1048576)
def OpenSpec.upto (s : _root_.Go.ChangeSpec) : _root_.Go.OpenSpec := { _root_.Go.OpenSpec.ofChange s with cond := some uptoSmall }

/-- 'laws.FnLogged', WHERE WHAT IT READS IS OF BULK AT MOST 1048576: true; the input reads as it did. -/
def fnLoggedUptoRow : OpenClaim := { program := "ytmciidoohbmipaagreatdoor", sum := "2587ca8e29ff4859d5c249eab41d82bad0c54e331586324c72472976332f803a", func := "loop.example/g00648/laws.FnLogged", spec := "fnLogged", inPlace := ["internal/bytealg.IndexByteString", "internal/bytealg.IndexString", "internal/abi.NoEscape", "internal/bytealg.MakeNoZero", "slices.overlaps[loop.example/g00648/impl.Line]"], unfollowed := true, recurses := true, named := ["unicode/utf8.first", "unicode/utf8.acceptRanges", "internal/bytealg.MaxLen"], apart := false, laid := [("unicode/utf8.acceptRanges", laid_unicode_utf8_acceptRanges), ("unicode/utf8.first", laid_unicode_utf8_first)], narrowed := true }
def FnLoggedUptoSaid : Prop := fnLoggedUptoRow.holds Tryz.pinned (OpenSpec.upto fnLoggedSpec)

/-- 'laws.FnEnded', WHERE WHAT IT READS IS OF BULK AT MOST 1048576: true; the input reads as it did. -/
def fnEndedUptoRow : OpenClaim := { program := "ytmciidoohbmipaagreatdoor", sum := "2587ca8e29ff4859d5c249eab41d82bad0c54e331586324c72472976332f803a", func := "loop.example/g00648/laws.FnEnded", spec := "fnEnded", inPlace := ["internal/bytealg.IndexByteString", "internal/bytealg.IndexString", "internal/abi.NoEscape", "internal/bytealg.MakeNoZero", "slices.overlaps[loop.example/g00648/impl.Line]"], unfollowed := true, recurses := true, named := ["unicode/utf8.first", "unicode/utf8.acceptRanges", "internal/bytealg.MaxLen"], apart := false, laid := [("unicode/utf8.acceptRanges", laid_unicode_utf8_acceptRanges), ("unicode/utf8.first", laid_unicode_utf8_first)], narrowed := true }
def FnEndedUptoSaid : Prop := fnEndedUptoRow.holds Tryz.pinned (OpenSpec.upto fnEndedSpec)

/-- 'laws.FnNoted', WHERE WHAT IT READS IS OF BULK AT MOST 1048576: true; the input reads as it did. -/
def fnNotedUptoRow : OpenClaim := { program := "ytmciidoohbmipaagreatdoor", sum := "2587ca8e29ff4859d5c249eab41d82bad0c54e331586324c72472976332f803a", func := "loop.example/g00648/laws.FnNoted", spec := "fnNoted", inPlace := ["internal/bytealg.IndexByteString", "internal/bytealg.IndexString", "internal/abi.NoEscape", "internal/bytealg.MakeNoZero", "slices.overlaps[loop.example/g00648/impl.Line]"], unfollowed := true, recurses := true, named := ["unicode/utf8.first", "unicode/utf8.acceptRanges", "internal/bytealg.MaxLen"], apart := false, laid := [("unicode/utf8.acceptRanges", laid_unicode_utf8_acceptRanges), ("unicode/utf8.first", laid_unicode_utf8_first)], narrowed := true }
def FnNotedUptoSaid : Prop := fnNotedUptoRow.holds Tryz.pinned (OpenSpec.upto fnNotedSpec)

/-- 'laws.FnExactRolledBack', WHERE WHAT IT READS IS OF BULK AT MOST 1048576: true; the input reads as it did. -/
def fnExactRolledBackUptoRow : OpenClaim := { program := "ytmciidoohbmipaagreatdoor", sum := "2587ca8e29ff4859d5c249eab41d82bad0c54e331586324c72472976332f803a", func := "loop.example/g00648/laws.FnExactRolledBack", spec := "fnExactRolledBack", inPlace := ["internal/bytealg.IndexByteString", "internal/bytealg.IndexString", "internal/abi.NoEscape", "internal/bytealg.MakeNoZero", "slices.overlaps[loop.example/g00648/impl.Line]"], unfollowed := true, recurses := true, named := ["unicode/utf8.first", "unicode/utf8.acceptRanges", "internal/bytealg.MaxLen"], apart := false, laid := [("unicode/utf8.acceptRanges", laid_unicode_utf8_acceptRanges), ("unicode/utf8.first", laid_unicode_utf8_first)], narrowed := true }
def FnExactRolledBackUptoSaid : Prop := fnExactRolledBackUptoRow.holds Tryz.pinned (OpenSpec.upto fnExactRolledBackSpec)

end Rows
end Go.Proofs.YtmciidoohbmipaaGreatDoor
