/-
  NARROWER THAN 'FOR EVERY INPUT', by the rows' own cells (each row's printed sentence says how): FnExactNurseryOk: laid · FnExactStarts: laid · FnExactAges: laid · FnExactYoungObject: laid · FnExactYoungAlloc: laid · FnExactYoungSet: laid · FnExactYoungClosure: laid · FnAlloc: laid · FnYoungSet: laid · FnExactMinor: laid · FnClosure: laid · FnMinor: laid · FnMinorTwice: laid.
  DERIVED. THE GIVEN ROWS OF THIS SEAT. 13 by the template 'for every input the law returns true; each argument reads behind the call as it read before'; 0 by the template 'total and deterministic' (their statements: YtgfeafcgpeclcaaDoorTotals.lean).
  GIVEN WITH THE SEED: the statements are not yours to turn. If you find one false, say at which input.
  Laid BY PROGRAM, IN A SANDBOX (cutbox-rows.mjs): the forced cells as the released guide's own fill.sh prints them over the translation 5d6a8d772a53e679… (all of the seat's roots in one cut). By AI agents, Wed Nov 11 2026. No macro, syntax, notation, axiom, sorry.
-/
import Derived.Test.YtgfeafcgpeclcaaDoorChecked
import GoSem.PinnedTables
import GoSem.Claim
import GoSem.ClaimJoined
import GoSem.ClaimMapViews
import Derived.JoinedTies
import Derived.KernelRfl
namespace Go.Proofs.YtgfeafcgpeclcaaDoor
/- THE CELL 'sum', in the pinned program and in every row, IS THE sha256 OF THE DUMP (.gsa) THAT YtgfeafcgpeclcaaDoorProg.lean LOADS. Nothing in Lean hashes anything: it is a label: what it is worth is what the hold of that sum in a sandbox is worth. -/
noncomputable def Tryd.pinned : Pinned := { name := "ytgfeafcgpeclcaadoor", sum := "5d6a8d772a53e6790758d7a894ad1c5617e657d8ad37a6c28fd64f2c924403ea", checked := Tryd.checked }
namespace Rows
def none {H : Type} : Left H := { results := [], args := [] }

/- WHAT THE LISTED PACKAGE-LEVEL VARIABLES READ AS WHEN THE CALL BEGINS. Each datum BY PROGRAM (the guide's laid-datum.mjs) off the statement by which the dump's own 'gosem.cut.vars' lays the variable. In a bare row this is a premise. The card (YtgfeafcgpeclcaaDoorCards.lean) ties it to the program's text. -/
def laid_unicode_utf8_acceptRanges {H : Type} : DataW H := .agg [.agg [.lit (.int .u8 128), .lit (.int .u8 191)], .agg [.lit (.int .u8 160), .lit (.int .u8 191)], .agg [.lit (.int .u8 128), .lit (.int .u8 159)], .agg [.lit (.int .u8 144), .lit (.int .u8 191)], .agg [.lit (.int .u8 128), .lit (.int .u8 143)], .agg [.lit (.int .u8 0), .lit (.int .u8 0)], .agg [.lit (.int .u8 0), .lit (.int .u8 0)], .agg [.lit (.int .u8 0), .lit (.int .u8 0)], .agg [.lit (.int .u8 0), .lit (.int .u8 0)], .agg [.lit (.int .u8 0), .lit (.int .u8 0)], .agg [.lit (.int .u8 0), .lit (.int .u8 0)], .agg [.lit (.int .u8 0), .lit (.int .u8 0)], .agg [.lit (.int .u8 0), .lit (.int .u8 0)], .agg [.lit (.int .u8 0), .lit (.int .u8 0)], .agg [.lit (.int .u8 0), .lit (.int .u8 0)], .agg [.lit (.int .u8 0), .lit (.int .u8 0)]]
/-- One of Go's own tables, pinned by name: the form's constant. -/
def laid_unicode_utf8_first : DataW Unit := Go.Pinned.utf8First

/-- 'laws.FnExactNurseryOk': WHATEVER THE INPUT: true; the input reads as it did. -/
def fnExactNurseryOkSpec : ChangeSpec := { name := "fnExactNurseryOk", fn := fun _ => fun
  | [d1, d2] => { results := [.lit (.bool true)], args := [d1, d2] }
  | _ => none }
def fnExactNurseryOkRow : OpenClaim := { program := "ytgfeafcgpeclcaadoor", sum := "5d6a8d772a53e6790758d7a894ad1c5617e657d8ad37a6c28fd64f2c924403ea", func := "loop.example/g00648/laws.FnExactNurseryOk", spec := "fnExactNurseryOk", inPlace := ["internal/bytealg.IndexByteString", "internal/bytealg.IndexString"], unfollowed := true, recurses := true, named := ["unicode/utf8.first", "unicode/utf8.acceptRanges", "internal/bytealg.MaxLen"], apart := false, laid := [("unicode/utf8.acceptRanges", laid_unicode_utf8_acceptRanges), ("unicode/utf8.first", laid_unicode_utf8_first)] }
def FnExactNurseryOkSaid : Prop := fnExactNurseryOkRow.holds Tryd.pinned (OpenSpec.ofChange fnExactNurseryOkSpec)

/-- ITS FALSE NEIGHBOUR: 'it returns false'. Refute it at one input. -/
def fnExactNurseryOkWrong : ChangeSpec := { name := "fnExactNurseryOk", fn := fun _ => fun
  | [d1, d2] => { results := [.lit (.bool false)], args := [d1, d2] }
  | _ => none }
def FnExactNurseryOkWrongFalsely : Prop := fnExactNurseryOkRow.holds Tryd.pinned (OpenSpec.ofChange fnExactNurseryOkWrong)

/-- 'laws.FnExactStarts': WHATEVER THE INPUT: true; the input reads as it did. -/
def fnExactStartsSpec : ChangeSpec := { name := "fnExactStarts", fn := fun _ => fun
  | [d1, d2] => { results := [.lit (.bool true)], args := [d1, d2] }
  | _ => none }
def fnExactStartsRow : OpenClaim := { program := "ytgfeafcgpeclcaadoor", sum := "5d6a8d772a53e6790758d7a894ad1c5617e657d8ad37a6c28fd64f2c924403ea", func := "loop.example/g00648/laws.FnExactStarts", spec := "fnExactStarts", inPlace := ["internal/bytealg.IndexByteString", "internal/bytealg.IndexString"], unfollowed := true, recurses := true, named := ["unicode/utf8.first", "unicode/utf8.acceptRanges", "internal/bytealg.MaxLen"], apart := false, laid := [("unicode/utf8.acceptRanges", laid_unicode_utf8_acceptRanges), ("unicode/utf8.first", laid_unicode_utf8_first)] }
def FnExactStartsSaid : Prop := fnExactStartsRow.holds Tryd.pinned (OpenSpec.ofChange fnExactStartsSpec)

/-- ITS FALSE NEIGHBOUR: 'it returns false'. Refute it at one input. -/
def fnExactStartsWrong : ChangeSpec := { name := "fnExactStarts", fn := fun _ => fun
  | [d1, d2] => { results := [.lit (.bool false)], args := [d1, d2] }
  | _ => none }
def FnExactStartsWrongFalsely : Prop := fnExactStartsRow.holds Tryd.pinned (OpenSpec.ofChange fnExactStartsWrong)

/-- 'laws.FnExactAges': WHATEVER THE INPUT: true; the input reads as it did. -/
def fnExactAgesSpec : ChangeSpec := { name := "fnExactAges", fn := fun _ => fun
  | [d1, d2] => { results := [.lit (.bool true)], args := [d1, d2] }
  | _ => none }
def fnExactAgesRow : OpenClaim := { program := "ytgfeafcgpeclcaadoor", sum := "5d6a8d772a53e6790758d7a894ad1c5617e657d8ad37a6c28fd64f2c924403ea", func := "loop.example/g00648/laws.FnExactAges", spec := "fnExactAges", inPlace := ["internal/bytealg.IndexByteString", "internal/bytealg.IndexString"], unfollowed := true, recurses := true, named := ["unicode/utf8.first", "unicode/utf8.acceptRanges", "internal/bytealg.MaxLen"], apart := false, laid := [("unicode/utf8.acceptRanges", laid_unicode_utf8_acceptRanges), ("unicode/utf8.first", laid_unicode_utf8_first)] }
def FnExactAgesSaid : Prop := fnExactAgesRow.holds Tryd.pinned (OpenSpec.ofChange fnExactAgesSpec)

/-- ITS FALSE NEIGHBOUR: 'it returns false'. Refute it at one input. -/
def fnExactAgesWrong : ChangeSpec := { name := "fnExactAges", fn := fun _ => fun
  | [d1, d2] => { results := [.lit (.bool false)], args := [d1, d2] }
  | _ => none }
def FnExactAgesWrongFalsely : Prop := fnExactAgesRow.holds Tryd.pinned (OpenSpec.ofChange fnExactAgesWrong)

/-- 'laws.FnExactYoungObject': WHATEVER THE INPUT: true; the input reads as it did. -/
def fnExactYoungObjectSpec : ChangeSpec := { name := "fnExactYoungObject", fn := fun _ => fun
  | [d1, d2, d3] => { results := [.lit (.bool true)], args := [d1, d2, d3] }
  | _ => none }
def fnExactYoungObjectRow : OpenClaim := { program := "ytgfeafcgpeclcaadoor", sum := "5d6a8d772a53e6790758d7a894ad1c5617e657d8ad37a6c28fd64f2c924403ea", func := "loop.example/g00648/laws.FnExactYoungObject", spec := "fnExactYoungObject", inPlace := ["internal/bytealg.IndexByteString", "internal/bytealg.IndexString"], unfollowed := true, recurses := true, named := ["unicode/utf8.first", "unicode/utf8.acceptRanges", "internal/bytealg.MaxLen"], apart := false, laid := [("unicode/utf8.acceptRanges", laid_unicode_utf8_acceptRanges), ("unicode/utf8.first", laid_unicode_utf8_first)] }
def FnExactYoungObjectSaid : Prop := fnExactYoungObjectRow.holds Tryd.pinned (OpenSpec.ofChange fnExactYoungObjectSpec)

/-- ITS FALSE NEIGHBOUR: 'it returns false'. Refute it at one input. -/
def fnExactYoungObjectWrong : ChangeSpec := { name := "fnExactYoungObject", fn := fun _ => fun
  | [d1, d2, d3] => { results := [.lit (.bool false)], args := [d1, d2, d3] }
  | _ => none }
def FnExactYoungObjectWrongFalsely : Prop := fnExactYoungObjectRow.holds Tryd.pinned (OpenSpec.ofChange fnExactYoungObjectWrong)

/-- 'laws.FnExactYoungAlloc': WHATEVER THE INPUT: true; the input reads as it did. -/
def fnExactYoungAllocSpec : ChangeSpec := { name := "fnExactYoungAlloc", fn := fun _ => fun
  | [d1, d2, d3] => { results := [.lit (.bool true)], args := [d1, d2, d3] }
  | _ => none }
def fnExactYoungAllocRow : OpenClaim := { program := "ytgfeafcgpeclcaadoor", sum := "5d6a8d772a53e6790758d7a894ad1c5617e657d8ad37a6c28fd64f2c924403ea", func := "loop.example/g00648/laws.FnExactYoungAlloc", spec := "fnExactYoungAlloc", inPlace := ["internal/bytealg.IndexByteString", "internal/bytealg.IndexString"], unfollowed := true, recurses := true, named := ["unicode/utf8.first", "unicode/utf8.acceptRanges", "internal/bytealg.MaxLen"], apart := false, laid := [("unicode/utf8.acceptRanges", laid_unicode_utf8_acceptRanges), ("unicode/utf8.first", laid_unicode_utf8_first)] }
def FnExactYoungAllocSaid : Prop := fnExactYoungAllocRow.holds Tryd.pinned (OpenSpec.ofChange fnExactYoungAllocSpec)

/-- ITS FALSE NEIGHBOUR: 'it returns false'. Refute it at one input. -/
def fnExactYoungAllocWrong : ChangeSpec := { name := "fnExactYoungAlloc", fn := fun _ => fun
  | [d1, d2, d3] => { results := [.lit (.bool false)], args := [d1, d2, d3] }
  | _ => none }
def FnExactYoungAllocWrongFalsely : Prop := fnExactYoungAllocRow.holds Tryd.pinned (OpenSpec.ofChange fnExactYoungAllocWrong)

/-- 'laws.FnExactYoungSet': WHATEVER THE INPUT: true; the input reads as it did. -/
def fnExactYoungSetSpec : ChangeSpec := { name := "fnExactYoungSet", fn := fun _ => fun
  | [d1, d2, d3, d4, d5] => { results := [.lit (.bool true)], args := [d1, d2, d3, d4, d5] }
  | _ => none }
def fnExactYoungSetRow : OpenClaim := { program := "ytgfeafcgpeclcaadoor", sum := "5d6a8d772a53e6790758d7a894ad1c5617e657d8ad37a6c28fd64f2c924403ea", func := "loop.example/g00648/laws.FnExactYoungSet", spec := "fnExactYoungSet", inPlace := ["internal/bytealg.IndexByteString", "internal/bytealg.IndexString"], unfollowed := true, recurses := true, named := ["unicode/utf8.first", "unicode/utf8.acceptRanges", "internal/bytealg.MaxLen"], apart := false, laid := [("unicode/utf8.acceptRanges", laid_unicode_utf8_acceptRanges), ("unicode/utf8.first", laid_unicode_utf8_first)] }
def FnExactYoungSetSaid : Prop := fnExactYoungSetRow.holds Tryd.pinned (OpenSpec.ofChange fnExactYoungSetSpec)

/-- ITS FALSE NEIGHBOUR: 'it returns false'. Refute it at one input. -/
def fnExactYoungSetWrong : ChangeSpec := { name := "fnExactYoungSet", fn := fun _ => fun
  | [d1, d2, d3, d4, d5] => { results := [.lit (.bool false)], args := [d1, d2, d3, d4, d5] }
  | _ => none }
def FnExactYoungSetWrongFalsely : Prop := fnExactYoungSetRow.holds Tryd.pinned (OpenSpec.ofChange fnExactYoungSetWrong)

/-- 'laws.FnExactYoungClosure': WHATEVER THE INPUT: true; the input reads as it did. -/
def fnExactYoungClosureSpec : ChangeSpec := { name := "fnExactYoungClosure", fn := fun _ => fun
  | [d1, d2, d3] => { results := [.lit (.bool true)], args := [d1, d2, d3] }
  | _ => none }
def fnExactYoungClosureRow : OpenClaim := { program := "ytgfeafcgpeclcaadoor", sum := "5d6a8d772a53e6790758d7a894ad1c5617e657d8ad37a6c28fd64f2c924403ea", func := "loop.example/g00648/laws.FnExactYoungClosure", spec := "fnExactYoungClosure", inPlace := ["internal/bytealg.IndexByteString", "internal/bytealg.IndexString"], unfollowed := true, recurses := true, named := ["unicode/utf8.first", "unicode/utf8.acceptRanges", "internal/bytealg.MaxLen"], apart := false, laid := [("unicode/utf8.acceptRanges", laid_unicode_utf8_acceptRanges), ("unicode/utf8.first", laid_unicode_utf8_first)] }
def FnExactYoungClosureSaid : Prop := fnExactYoungClosureRow.holds Tryd.pinned (OpenSpec.ofChange fnExactYoungClosureSpec)

/-- ITS FALSE NEIGHBOUR: 'it returns false'. Refute it at one input. -/
def fnExactYoungClosureWrong : ChangeSpec := { name := "fnExactYoungClosure", fn := fun _ => fun
  | [d1, d2, d3] => { results := [.lit (.bool false)], args := [d1, d2, d3] }
  | _ => none }
def FnExactYoungClosureWrongFalsely : Prop := fnExactYoungClosureRow.holds Tryd.pinned (OpenSpec.ofChange fnExactYoungClosureWrong)

/-- 'laws.FnAlloc': WHATEVER THE INPUT: true; the input reads as it did. -/
def fnAllocSpec : ChangeSpec := { name := "fnAlloc", fn := fun _ => fun
  | [d] => { results := [.lit (.bool true)], args := [d] }
  | _ => none }
def fnAllocRow : OpenClaim := { program := "ytgfeafcgpeclcaadoor", sum := "5d6a8d772a53e6790758d7a894ad1c5617e657d8ad37a6c28fd64f2c924403ea", func := "loop.example/g00648/laws.FnAlloc", spec := "fnAlloc", inPlace := ["internal/bytealg.IndexByteString", "internal/bytealg.IndexString"], unfollowed := true, recurses := true, named := ["unicode/utf8.first", "unicode/utf8.acceptRanges", "internal/bytealg.MaxLen"], apart := false, laid := [("unicode/utf8.acceptRanges", laid_unicode_utf8_acceptRanges), ("unicode/utf8.first", laid_unicode_utf8_first)] }
def FnAllocSaid : Prop := fnAllocRow.holds Tryd.pinned (OpenSpec.ofChange fnAllocSpec)

/-- ITS FALSE NEIGHBOUR: 'it returns false'. Refute it at one input. -/
def fnAllocWrong : ChangeSpec := { name := "fnAlloc", fn := fun _ => fun
  | [d] => { results := [.lit (.bool false)], args := [d] }
  | _ => none }
def FnAllocWrongFalsely : Prop := fnAllocRow.holds Tryd.pinned (OpenSpec.ofChange fnAllocWrong)

/-- 'laws.FnYoungSet': WHATEVER THE INPUT: true; the input reads as it did. -/
def fnYoungSetSpec : ChangeSpec := { name := "fnYoungSet", fn := fun _ => fun
  | [d] => { results := [.lit (.bool true)], args := [d] }
  | _ => none }
def fnYoungSetRow : OpenClaim := { program := "ytgfeafcgpeclcaadoor", sum := "5d6a8d772a53e6790758d7a894ad1c5617e657d8ad37a6c28fd64f2c924403ea", func := "loop.example/g00648/laws.FnYoungSet", spec := "fnYoungSet", inPlace := ["internal/bytealg.IndexByteString", "internal/bytealg.IndexString"], unfollowed := true, recurses := true, named := ["unicode/utf8.first", "unicode/utf8.acceptRanges", "internal/bytealg.MaxLen"], apart := false, laid := [("unicode/utf8.acceptRanges", laid_unicode_utf8_acceptRanges), ("unicode/utf8.first", laid_unicode_utf8_first)] }
def FnYoungSetSaid : Prop := fnYoungSetRow.holds Tryd.pinned (OpenSpec.ofChange fnYoungSetSpec)

/-- ITS FALSE NEIGHBOUR: 'it returns false'. Refute it at one input. -/
def fnYoungSetWrong : ChangeSpec := { name := "fnYoungSet", fn := fun _ => fun
  | [d] => { results := [.lit (.bool false)], args := [d] }
  | _ => none }
def FnYoungSetWrongFalsely : Prop := fnYoungSetRow.holds Tryd.pinned (OpenSpec.ofChange fnYoungSetWrong)

/-- 'laws.FnExactMinor': WHATEVER THE INPUT: true; the input reads as it did. -/
def fnExactMinorSpec : ChangeSpec := { name := "fnExactMinor", fn := fun _ => fun
  | [d1, d2, d3] => { results := [.lit (.bool true)], args := [d1, d2, d3] }
  | _ => none }
def fnExactMinorRow : OpenClaim := { program := "ytgfeafcgpeclcaadoor", sum := "5d6a8d772a53e6790758d7a894ad1c5617e657d8ad37a6c28fd64f2c924403ea", func := "loop.example/g00648/laws.FnExactMinor", spec := "fnExactMinor", inPlace := ["internal/bytealg.IndexByteString", "internal/bytealg.IndexString"], unfollowed := true, recurses := true, named := ["unicode/utf8.first", "unicode/utf8.acceptRanges", "internal/bytealg.MaxLen"], apart := false, laid := [("unicode/utf8.acceptRanges", laid_unicode_utf8_acceptRanges), ("unicode/utf8.first", laid_unicode_utf8_first)] }
def FnExactMinorSaid : Prop := fnExactMinorRow.holds Tryd.pinned (OpenSpec.ofChange fnExactMinorSpec)

/-- ITS FALSE NEIGHBOUR: 'it returns false'. Refute it at one input. -/
def fnExactMinorWrong : ChangeSpec := { name := "fnExactMinor", fn := fun _ => fun
  | [d1, d2, d3] => { results := [.lit (.bool false)], args := [d1, d2, d3] }
  | _ => none }
def FnExactMinorWrongFalsely : Prop := fnExactMinorRow.holds Tryd.pinned (OpenSpec.ofChange fnExactMinorWrong)

/-- 'laws.FnClosure': WHATEVER THE INPUT: true; the input reads as it did. -/
def fnClosureSpec : ChangeSpec := { name := "fnClosure", fn := fun _ => fun
  | [d] => { results := [.lit (.bool true)], args := [d] }
  | _ => none }
def fnClosureRow : OpenClaim := { program := "ytgfeafcgpeclcaadoor", sum := "5d6a8d772a53e6790758d7a894ad1c5617e657d8ad37a6c28fd64f2c924403ea", func := "loop.example/g00648/laws.FnClosure", spec := "fnClosure", inPlace := ["internal/bytealg.IndexByteString", "internal/bytealg.IndexString"], unfollowed := true, recurses := true, named := ["unicode/utf8.first", "unicode/utf8.acceptRanges", "internal/bytealg.MaxLen"], apart := false, laid := [("unicode/utf8.acceptRanges", laid_unicode_utf8_acceptRanges), ("unicode/utf8.first", laid_unicode_utf8_first)] }
def FnClosureSaid : Prop := fnClosureRow.holds Tryd.pinned (OpenSpec.ofChange fnClosureSpec)

/-- ITS FALSE NEIGHBOUR: 'it returns false'. Refute it at one input. -/
def fnClosureWrong : ChangeSpec := { name := "fnClosure", fn := fun _ => fun
  | [d] => { results := [.lit (.bool false)], args := [d] }
  | _ => none }
def FnClosureWrongFalsely : Prop := fnClosureRow.holds Tryd.pinned (OpenSpec.ofChange fnClosureWrong)

/-- 'laws.FnMinor': WHATEVER THE INPUT: true; the input reads as it did. -/
def fnMinorSpec : ChangeSpec := { name := "fnMinor", fn := fun _ => fun
  | [d] => { results := [.lit (.bool true)], args := [d] }
  | _ => none }
def fnMinorRow : OpenClaim := { program := "ytgfeafcgpeclcaadoor", sum := "5d6a8d772a53e6790758d7a894ad1c5617e657d8ad37a6c28fd64f2c924403ea", func := "loop.example/g00648/laws.FnMinor", spec := "fnMinor", inPlace := ["internal/bytealg.IndexByteString", "internal/bytealg.IndexString"], unfollowed := true, recurses := true, named := ["unicode/utf8.first", "unicode/utf8.acceptRanges", "internal/bytealg.MaxLen"], apart := false, laid := [("unicode/utf8.acceptRanges", laid_unicode_utf8_acceptRanges), ("unicode/utf8.first", laid_unicode_utf8_first)] }
def FnMinorSaid : Prop := fnMinorRow.holds Tryd.pinned (OpenSpec.ofChange fnMinorSpec)

/-- ITS FALSE NEIGHBOUR: 'it returns false'. Refute it at one input. -/
def fnMinorWrong : ChangeSpec := { name := "fnMinor", fn := fun _ => fun
  | [d] => { results := [.lit (.bool false)], args := [d] }
  | _ => none }
def FnMinorWrongFalsely : Prop := fnMinorRow.holds Tryd.pinned (OpenSpec.ofChange fnMinorWrong)

/-- 'laws.FnMinorTwice': WHATEVER THE INPUT: true; the input reads as it did. -/
def fnMinorTwiceSpec : ChangeSpec := { name := "fnMinorTwice", fn := fun _ => fun
  | [d] => { results := [.lit (.bool true)], args := [d] }
  | _ => none }
def fnMinorTwiceRow : OpenClaim := { program := "ytgfeafcgpeclcaadoor", sum := "5d6a8d772a53e6790758d7a894ad1c5617e657d8ad37a6c28fd64f2c924403ea", func := "loop.example/g00648/laws.FnMinorTwice", spec := "fnMinorTwice", inPlace := ["internal/bytealg.IndexByteString", "internal/bytealg.IndexString"], unfollowed := true, recurses := true, named := ["unicode/utf8.first", "unicode/utf8.acceptRanges", "internal/bytealg.MaxLen"], apart := false, laid := [("unicode/utf8.acceptRanges", laid_unicode_utf8_acceptRanges), ("unicode/utf8.first", laid_unicode_utf8_first)] }
def FnMinorTwiceSaid : Prop := fnMinorTwiceRow.holds Tryd.pinned (OpenSpec.ofChange fnMinorTwiceSpec)

/-- ITS FALSE NEIGHBOUR: 'it returns false'. Refute it at one input. -/
def fnMinorTwiceWrong : ChangeSpec := { name := "fnMinorTwice", fn := fun _ => fun
  | [d] => { results := [.lit (.bool false)], args := [d] }
  | _ => none }
def FnMinorTwiceWrongFalsely : Prop := fnMinorTwiceRow.holds Tryd.pinned (OpenSpec.ofChange fnMinorTwiceWrong)

/- THE SECOND FORM. 'bulk': how many values and letters a reading holds, each counted each time it is reached (what is shared counts as often as it is met; a slice's spare places count too). A statement '..UptoSaid' is the law's where the arguments, and the package variables that the reading takes, are together of bulk at most 1048576: NARROWER than '..Said'. Prove '..Said' where nothing that the law and all that it calls make is longer than what came in: it says more and counts as full. Else prove '..UptoSaid'. A law counts once. -/
mutual
def uptoBulk {H : Type} : DataW H → Nat
  | .lit (.string bytes) => bytes.length + 1
  | .lit _ => 1
  | .nil => 1
  | .ptr d => uptoBulk d + 1
  | .slice elems spare => uptoBulkAll elems + uptoBulkAll spare + 1
  | .agg parts => uptoBulkAll parts + 1
  | .iface _ d => uptoBulk d + 1
  | .map entries => uptoBulkEntries entries + 1
  | .held _ => 1
def uptoBulkAll {H : Type} : List (DataW H) → Nat
  | [] => 0
  | d :: r => uptoBulk d + uptoBulkAll r
def uptoBulkEntries {H : Type} : List (Lit × DataW H) → Nat
  | [] => 0
  | x :: r => uptoBulkEntry x + uptoBulkEntries r
def uptoBulkEntry {H : Type} : Lit × DataW H → Nat
  | (.string bytes, d) => bytes.length + uptoBulk d + 1
  | (_, d) => uptoBulk d + 1
 end
def uptoSmall : (H : Type) → List (DataW H) → Bool := fun _ ds => decide (uptoBulkAll ds ≤ 1048576)
def OpenSpec.upto (s : _root_.Go.ChangeSpec) : _root_.Go.OpenSpec := { _root_.Go.OpenSpec.ofChange s with cond := some uptoSmall }

/-- 'laws.FnExactNurseryOk', WHERE WHAT IT READS IS OF BULK AT MOST 1048576: true; the input reads as it did. -/
def fnExactNurseryOkUptoRow : OpenClaim := { program := "ytgfeafcgpeclcaadoor", sum := "5d6a8d772a53e6790758d7a894ad1c5617e657d8ad37a6c28fd64f2c924403ea", func := "loop.example/g00648/laws.FnExactNurseryOk", spec := "fnExactNurseryOk", inPlace := ["internal/bytealg.IndexByteString", "internal/bytealg.IndexString"], unfollowed := true, recurses := true, named := ["unicode/utf8.first", "unicode/utf8.acceptRanges", "internal/bytealg.MaxLen"], apart := false, laid := [("unicode/utf8.acceptRanges", laid_unicode_utf8_acceptRanges), ("unicode/utf8.first", laid_unicode_utf8_first)], narrowed := true }
def FnExactNurseryOkUptoSaid : Prop := fnExactNurseryOkUptoRow.holds Tryd.pinned (OpenSpec.upto fnExactNurseryOkSpec)

/-- 'laws.FnExactStarts', WHERE WHAT IT READS IS OF BULK AT MOST 1048576: true; the input reads as it did. -/
def fnExactStartsUptoRow : OpenClaim := { program := "ytgfeafcgpeclcaadoor", sum := "5d6a8d772a53e6790758d7a894ad1c5617e657d8ad37a6c28fd64f2c924403ea", func := "loop.example/g00648/laws.FnExactStarts", spec := "fnExactStarts", inPlace := ["internal/bytealg.IndexByteString", "internal/bytealg.IndexString"], unfollowed := true, recurses := true, named := ["unicode/utf8.first", "unicode/utf8.acceptRanges", "internal/bytealg.MaxLen"], apart := false, laid := [("unicode/utf8.acceptRanges", laid_unicode_utf8_acceptRanges), ("unicode/utf8.first", laid_unicode_utf8_first)], narrowed := true }
def FnExactStartsUptoSaid : Prop := fnExactStartsUptoRow.holds Tryd.pinned (OpenSpec.upto fnExactStartsSpec)

/-- 'laws.FnExactAges', WHERE WHAT IT READS IS OF BULK AT MOST 1048576: true; the input reads as it did. -/
def fnExactAgesUptoRow : OpenClaim := { program := "ytgfeafcgpeclcaadoor", sum := "5d6a8d772a53e6790758d7a894ad1c5617e657d8ad37a6c28fd64f2c924403ea", func := "loop.example/g00648/laws.FnExactAges", spec := "fnExactAges", inPlace := ["internal/bytealg.IndexByteString", "internal/bytealg.IndexString"], unfollowed := true, recurses := true, named := ["unicode/utf8.first", "unicode/utf8.acceptRanges", "internal/bytealg.MaxLen"], apart := false, laid := [("unicode/utf8.acceptRanges", laid_unicode_utf8_acceptRanges), ("unicode/utf8.first", laid_unicode_utf8_first)], narrowed := true }
def FnExactAgesUptoSaid : Prop := fnExactAgesUptoRow.holds Tryd.pinned (OpenSpec.upto fnExactAgesSpec)

/-- 'laws.FnExactYoungObject', WHERE WHAT IT READS IS OF BULK AT MOST 1048576: true; the input reads as it did. -/
def fnExactYoungObjectUptoRow : OpenClaim := { program := "ytgfeafcgpeclcaadoor", sum := "5d6a8d772a53e6790758d7a894ad1c5617e657d8ad37a6c28fd64f2c924403ea", func := "loop.example/g00648/laws.FnExactYoungObject", spec := "fnExactYoungObject", inPlace := ["internal/bytealg.IndexByteString", "internal/bytealg.IndexString"], unfollowed := true, recurses := true, named := ["unicode/utf8.first", "unicode/utf8.acceptRanges", "internal/bytealg.MaxLen"], apart := false, laid := [("unicode/utf8.acceptRanges", laid_unicode_utf8_acceptRanges), ("unicode/utf8.first", laid_unicode_utf8_first)], narrowed := true }
def FnExactYoungObjectUptoSaid : Prop := fnExactYoungObjectUptoRow.holds Tryd.pinned (OpenSpec.upto fnExactYoungObjectSpec)

/-- 'laws.FnExactYoungAlloc', WHERE WHAT IT READS IS OF BULK AT MOST 1048576: true; the input reads as it did. -/
def fnExactYoungAllocUptoRow : OpenClaim := { program := "ytgfeafcgpeclcaadoor", sum := "5d6a8d772a53e6790758d7a894ad1c5617e657d8ad37a6c28fd64f2c924403ea", func := "loop.example/g00648/laws.FnExactYoungAlloc", spec := "fnExactYoungAlloc", inPlace := ["internal/bytealg.IndexByteString", "internal/bytealg.IndexString"], unfollowed := true, recurses := true, named := ["unicode/utf8.first", "unicode/utf8.acceptRanges", "internal/bytealg.MaxLen"], apart := false, laid := [("unicode/utf8.acceptRanges", laid_unicode_utf8_acceptRanges), ("unicode/utf8.first", laid_unicode_utf8_first)], narrowed := true }
def FnExactYoungAllocUptoSaid : Prop := fnExactYoungAllocUptoRow.holds Tryd.pinned (OpenSpec.upto fnExactYoungAllocSpec)

/-- 'laws.FnExactYoungSet', WHERE WHAT IT READS IS OF BULK AT MOST 1048576: true; the input reads as it did. -/
def fnExactYoungSetUptoRow : OpenClaim := { program := "ytgfeafcgpeclcaadoor", sum := "5d6a8d772a53e6790758d7a894ad1c5617e657d8ad37a6c28fd64f2c924403ea", func := "loop.example/g00648/laws.FnExactYoungSet", spec := "fnExactYoungSet", inPlace := ["internal/bytealg.IndexByteString", "internal/bytealg.IndexString"], unfollowed := true, recurses := true, named := ["unicode/utf8.first", "unicode/utf8.acceptRanges", "internal/bytealg.MaxLen"], apart := false, laid := [("unicode/utf8.acceptRanges", laid_unicode_utf8_acceptRanges), ("unicode/utf8.first", laid_unicode_utf8_first)], narrowed := true }
def FnExactYoungSetUptoSaid : Prop := fnExactYoungSetUptoRow.holds Tryd.pinned (OpenSpec.upto fnExactYoungSetSpec)

/-- 'laws.FnExactYoungClosure', WHERE WHAT IT READS IS OF BULK AT MOST 1048576: true; the input reads as it did. -/
def fnExactYoungClosureUptoRow : OpenClaim := { program := "ytgfeafcgpeclcaadoor", sum := "5d6a8d772a53e6790758d7a894ad1c5617e657d8ad37a6c28fd64f2c924403ea", func := "loop.example/g00648/laws.FnExactYoungClosure", spec := "fnExactYoungClosure", inPlace := ["internal/bytealg.IndexByteString", "internal/bytealg.IndexString"], unfollowed := true, recurses := true, named := ["unicode/utf8.first", "unicode/utf8.acceptRanges", "internal/bytealg.MaxLen"], apart := false, laid := [("unicode/utf8.acceptRanges", laid_unicode_utf8_acceptRanges), ("unicode/utf8.first", laid_unicode_utf8_first)], narrowed := true }
def FnExactYoungClosureUptoSaid : Prop := fnExactYoungClosureUptoRow.holds Tryd.pinned (OpenSpec.upto fnExactYoungClosureSpec)

/-- 'laws.FnAlloc', WHERE WHAT IT READS IS OF BULK AT MOST 1048576: true; the input reads as it did. -/
def fnAllocUptoRow : OpenClaim := { program := "ytgfeafcgpeclcaadoor", sum := "5d6a8d772a53e6790758d7a894ad1c5617e657d8ad37a6c28fd64f2c924403ea", func := "loop.example/g00648/laws.FnAlloc", spec := "fnAlloc", inPlace := ["internal/bytealg.IndexByteString", "internal/bytealg.IndexString"], unfollowed := true, recurses := true, named := ["unicode/utf8.first", "unicode/utf8.acceptRanges", "internal/bytealg.MaxLen"], apart := false, laid := [("unicode/utf8.acceptRanges", laid_unicode_utf8_acceptRanges), ("unicode/utf8.first", laid_unicode_utf8_first)], narrowed := true }
def FnAllocUptoSaid : Prop := fnAllocUptoRow.holds Tryd.pinned (OpenSpec.upto fnAllocSpec)

/-- 'laws.FnYoungSet', WHERE WHAT IT READS IS OF BULK AT MOST 1048576: true; the input reads as it did. -/
def fnYoungSetUptoRow : OpenClaim := { program := "ytgfeafcgpeclcaadoor", sum := "5d6a8d772a53e6790758d7a894ad1c5617e657d8ad37a6c28fd64f2c924403ea", func := "loop.example/g00648/laws.FnYoungSet", spec := "fnYoungSet", inPlace := ["internal/bytealg.IndexByteString", "internal/bytealg.IndexString"], unfollowed := true, recurses := true, named := ["unicode/utf8.first", "unicode/utf8.acceptRanges", "internal/bytealg.MaxLen"], apart := false, laid := [("unicode/utf8.acceptRanges", laid_unicode_utf8_acceptRanges), ("unicode/utf8.first", laid_unicode_utf8_first)], narrowed := true }
def FnYoungSetUptoSaid : Prop := fnYoungSetUptoRow.holds Tryd.pinned (OpenSpec.upto fnYoungSetSpec)

/-- 'laws.FnExactMinor', WHERE WHAT IT READS IS OF BULK AT MOST 1048576: true; the input reads as it did. -/
def fnExactMinorUptoRow : OpenClaim := { program := "ytgfeafcgpeclcaadoor", sum := "5d6a8d772a53e6790758d7a894ad1c5617e657d8ad37a6c28fd64f2c924403ea", func := "loop.example/g00648/laws.FnExactMinor", spec := "fnExactMinor", inPlace := ["internal/bytealg.IndexByteString", "internal/bytealg.IndexString"], unfollowed := true, recurses := true, named := ["unicode/utf8.first", "unicode/utf8.acceptRanges", "internal/bytealg.MaxLen"], apart := false, laid := [("unicode/utf8.acceptRanges", laid_unicode_utf8_acceptRanges), ("unicode/utf8.first", laid_unicode_utf8_first)], narrowed := true }
def FnExactMinorUptoSaid : Prop := fnExactMinorUptoRow.holds Tryd.pinned (OpenSpec.upto fnExactMinorSpec)

/-- 'laws.FnClosure', WHERE WHAT IT READS IS OF BULK AT MOST 1048576: true; the input reads as it did. -/
def fnClosureUptoRow : OpenClaim := { program := "ytgfeafcgpeclcaadoor", sum := "5d6a8d772a53e6790758d7a894ad1c5617e657d8ad37a6c28fd64f2c924403ea", func := "loop.example/g00648/laws.FnClosure", spec := "fnClosure", inPlace := ["internal/bytealg.IndexByteString", "internal/bytealg.IndexString"], unfollowed := true, recurses := true, named := ["unicode/utf8.first", "unicode/utf8.acceptRanges", "internal/bytealg.MaxLen"], apart := false, laid := [("unicode/utf8.acceptRanges", laid_unicode_utf8_acceptRanges), ("unicode/utf8.first", laid_unicode_utf8_first)], narrowed := true }
def FnClosureUptoSaid : Prop := fnClosureUptoRow.holds Tryd.pinned (OpenSpec.upto fnClosureSpec)

/-- 'laws.FnMinor', WHERE WHAT IT READS IS OF BULK AT MOST 1048576: true; the input reads as it did. -/
def fnMinorUptoRow : OpenClaim := { program := "ytgfeafcgpeclcaadoor", sum := "5d6a8d772a53e6790758d7a894ad1c5617e657d8ad37a6c28fd64f2c924403ea", func := "loop.example/g00648/laws.FnMinor", spec := "fnMinor", inPlace := ["internal/bytealg.IndexByteString", "internal/bytealg.IndexString"], unfollowed := true, recurses := true, named := ["unicode/utf8.first", "unicode/utf8.acceptRanges", "internal/bytealg.MaxLen"], apart := false, laid := [("unicode/utf8.acceptRanges", laid_unicode_utf8_acceptRanges), ("unicode/utf8.first", laid_unicode_utf8_first)], narrowed := true }
def FnMinorUptoSaid : Prop := fnMinorUptoRow.holds Tryd.pinned (OpenSpec.upto fnMinorSpec)

/-- 'laws.FnMinorTwice', WHERE WHAT IT READS IS OF BULK AT MOST 1048576: true; the input reads as it did. -/
def fnMinorTwiceUptoRow : OpenClaim := { program := "ytgfeafcgpeclcaadoor", sum := "5d6a8d772a53e6790758d7a894ad1c5617e657d8ad37a6c28fd64f2c924403ea", func := "loop.example/g00648/laws.FnMinorTwice", spec := "fnMinorTwice", inPlace := ["internal/bytealg.IndexByteString", "internal/bytealg.IndexString"], unfollowed := true, recurses := true, named := ["unicode/utf8.first", "unicode/utf8.acceptRanges", "internal/bytealg.MaxLen"], apart := false, laid := [("unicode/utf8.acceptRanges", laid_unicode_utf8_acceptRanges), ("unicode/utf8.first", laid_unicode_utf8_first)], narrowed := true }
def FnMinorTwiceUptoSaid : Prop := fnMinorTwiceUptoRow.holds Tryd.pinned (OpenSpec.upto fnMinorTwiceSpec)

end Rows
end Go.Proofs.YtgfeafcgpeclcaaDoor
