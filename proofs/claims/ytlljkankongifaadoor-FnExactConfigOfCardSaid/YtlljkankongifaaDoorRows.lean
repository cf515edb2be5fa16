/-
  NARROWER THAN 'FOR EVERY INPUT', by the rows' own cells (each row's printed sentence says how): FnExactPlanned: laid · FnExactConfigOf: laid · FnPlanned: laid · FnObjects: laid · FnExactOldObject: laid.
  DERIVED. THE GIVEN ROWS OF THIS SEAT. 5 by the template 'for every input the law returns true; each argument reads behind the call as it read before'; 0 by the template 'total and deterministic' (their statements: YtlljkankongifaaDoorTotals.lean).
  GIVEN WITH THE SEED: the statements are not yours to turn. If you find one false, say at which input.
  Laid BY PROGRAM, IN A SANDBOX (cutbox-rows.mjs): the forced cells as the released guide's own fill.sh prints them over the translation 6c239f9d8a533c61… (all of the seat's roots in one cut). By AI agents, Wed Nov 11 2026. No macro, syntax, notation, axiom, sorry.
-/
import Derived.Test.YtlljkankongifaaDoorChecked
import GoSem.PinnedTables
import GoSem.Claim
import GoSem.ClaimJoined
import GoSem.ClaimMapViews
import Derived.JoinedTies
import Derived.KernelRfl
namespace Go.Proofs.YtlljkankongifaaDoor
/- THE CELL 'sum', in the pinned program and in every row, IS THE sha256 OF THE DUMP (.gsa) THAT YtlljkankongifaaDoorProg.lean LOADS. Nothing in Lean hashes anything: it is a label: what it is worth is what the hold of that sum in a sandbox is worth. -/
noncomputable def Tryd.pinned : Pinned := { name := "ytlljkankongifaadoor", sum := "6c239f9d8a533c61af162b223076f0ef0d42fc2c981dc5ee1a3590d51a18df3d", checked := Tryd.checked }
namespace Rows
def none {H : Type} : Left H := { results := [], args := [] }

/- WHAT THE LISTED PACKAGE-LEVEL VARIABLES READ AS WHEN THE CALL BEGINS. Each datum BY PROGRAM (the guide's laid-datum.mjs) off the statement by which the dump's own 'gosem.cut.vars' lays the variable. In a bare row this is a premise. The card (YtlljkankongifaaDoorCards.lean) ties it to the program's text. -/
def laid_unicode_utf8_acceptRanges {H : Type} : DataW H := .agg [.agg [.lit (.int .u8 128), .lit (.int .u8 191)], .agg [.lit (.int .u8 160), .lit (.int .u8 191)], .agg [.lit (.int .u8 128), .lit (.int .u8 159)], .agg [.lit (.int .u8 144), .lit (.int .u8 191)], .agg [.lit (.int .u8 128), .lit (.int .u8 143)], .agg [.lit (.int .u8 0), .lit (.int .u8 0)], .agg [.lit (.int .u8 0), .lit (.int .u8 0)], .agg [.lit (.int .u8 0), .lit (.int .u8 0)], .agg [.lit (.int .u8 0), .lit (.int .u8 0)], .agg [.lit (.int .u8 0), .lit (.int .u8 0)], .agg [.lit (.int .u8 0), .lit (.int .u8 0)], .agg [.lit (.int .u8 0), .lit (.int .u8 0)], .agg [.lit (.int .u8 0), .lit (.int .u8 0)], .agg [.lit (.int .u8 0), .lit (.int .u8 0)], .agg [.lit (.int .u8 0), .lit (.int .u8 0)], .agg [.lit (.int .u8 0), .lit (.int .u8 0)]]
/-- One of Go's own tables, pinned by name: the form's constant. -/
def laid_unicode_utf8_first : DataW Unit := Go.Pinned.utf8First

/-- 'laws.FnExactPlanned': WHATEVER THE INPUT: true; the input reads as it did. -/
def fnExactPlannedSpec : ChangeSpec := { name := "fnExactPlanned", fn := fun _ => fun
  | [d1, d2, d3] => { results := [.lit (.bool true)], args := [d1, d2, d3] }
  | _ => none }
def fnExactPlannedRow : OpenClaim := { program := "ytlljkankongifaadoor", sum := "6c239f9d8a533c61af162b223076f0ef0d42fc2c981dc5ee1a3590d51a18df3d", func := "loop.example/g00648/laws.FnExactPlanned", spec := "fnExactPlanned", inPlace := ["internal/bytealg.IndexByteString", "internal/bytealg.IndexString", "internal/abi.NoEscape", "internal/bytealg.MakeNoZero"], unfollowed := true, recurses := true, named := ["unicode/utf8.first", "unicode/utf8.acceptRanges", "internal/bytealg.MaxLen"], apart := false, laid := [("unicode/utf8.acceptRanges", laid_unicode_utf8_acceptRanges), ("unicode/utf8.first", laid_unicode_utf8_first)] }
def FnExactPlannedSaid : Prop := fnExactPlannedRow.holds Tryd.pinned (OpenSpec.ofChange fnExactPlannedSpec)

/-- ITS FALSE NEIGHBOUR: 'it returns false'. Refute it at one input. -/
def fnExactPlannedWrong : ChangeSpec := { name := "fnExactPlanned", fn := fun _ => fun
  | [d1, d2, d3] => { results := [.lit (.bool false)], args := [d1, d2, d3] }
  | _ => none }
def FnExactPlannedWrongFalsely : Prop := fnExactPlannedRow.holds Tryd.pinned (OpenSpec.ofChange fnExactPlannedWrong)

/-- 'laws.FnExactConfigOf': WHATEVER THE INPUT: true; the input reads as it did. -/
def fnExactConfigOfSpec : ChangeSpec := { name := "fnExactConfigOf", fn := fun _ => fun
  | [d] => { results := [.lit (.bool true)], args := [d] }
  | _ => none }
def fnExactConfigOfRow : OpenClaim := { program := "ytlljkankongifaadoor", sum := "6c239f9d8a533c61af162b223076f0ef0d42fc2c981dc5ee1a3590d51a18df3d", func := "loop.example/g00648/laws.FnExactConfigOf", spec := "fnExactConfigOf", inPlace := ["internal/bytealg.IndexByteString", "internal/bytealg.IndexString", "internal/abi.NoEscape", "internal/bytealg.MakeNoZero"], unfollowed := true, recurses := true, named := ["unicode/utf8.first", "unicode/utf8.acceptRanges", "internal/bytealg.MaxLen"], apart := false, laid := [("unicode/utf8.acceptRanges", laid_unicode_utf8_acceptRanges), ("unicode/utf8.first", laid_unicode_utf8_first)] }
def FnExactConfigOfSaid : Prop := fnExactConfigOfRow.holds Tryd.pinned (OpenSpec.ofChange fnExactConfigOfSpec)

/-- ITS FALSE NEIGHBOUR: 'it returns false'. Refute it at one input. -/
def fnExactConfigOfWrong : ChangeSpec := { name := "fnExactConfigOf", fn := fun _ => fun
  | [d] => { results := [.lit (.bool false)], args := [d] }
  | _ => none }
def FnExactConfigOfWrongFalsely : Prop := fnExactConfigOfRow.holds Tryd.pinned (OpenSpec.ofChange fnExactConfigOfWrong)

/-- 'laws.FnPlanned': WHATEVER THE INPUT: true; the input reads as it did. -/
def fnPlannedSpec : ChangeSpec := { name := "fnPlanned", fn := fun _ => fun
  | [d] => { results := [.lit (.bool true)], args := [d] }
  | _ => none }
def fnPlannedRow : OpenClaim := { program := "ytlljkankongifaadoor", sum := "6c239f9d8a533c61af162b223076f0ef0d42fc2c981dc5ee1a3590d51a18df3d", func := "loop.example/g00648/laws.FnPlanned", spec := "fnPlanned", inPlace := ["internal/bytealg.IndexByteString", "internal/bytealg.IndexString", "internal/abi.NoEscape", "internal/bytealg.MakeNoZero"], unfollowed := true, recurses := true, named := ["unicode/utf8.first", "unicode/utf8.acceptRanges", "internal/bytealg.MaxLen"], apart := false, laid := [("unicode/utf8.acceptRanges", laid_unicode_utf8_acceptRanges), ("unicode/utf8.first", laid_unicode_utf8_first)] }
def FnPlannedSaid : Prop := fnPlannedRow.holds Tryd.pinned (OpenSpec.ofChange fnPlannedSpec)

/-- ITS FALSE NEIGHBOUR: 'it returns false'. Refute it at one input. -/
def fnPlannedWrong : ChangeSpec := { name := "fnPlanned", fn := fun _ => fun
  | [d] => { results := [.lit (.bool false)], args := [d] }
  | _ => none }
def FnPlannedWrongFalsely : Prop := fnPlannedRow.holds Tryd.pinned (OpenSpec.ofChange fnPlannedWrong)

/-- 'laws.FnObjects': WHATEVER THE INPUT: true; the input reads as it did. -/
def fnObjectsSpec : ChangeSpec := { name := "fnObjects", fn := fun _ => fun
  | [d] => { results := [.lit (.bool true)], args := [d] }
  | _ => none }
def fnObjectsRow : OpenClaim := { program := "ytlljkankongifaadoor", sum := "6c239f9d8a533c61af162b223076f0ef0d42fc2c981dc5ee1a3590d51a18df3d", func := "loop.example/g00648/laws.FnObjects", spec := "fnObjects", inPlace := ["internal/bytealg.IndexByteString", "internal/bytealg.IndexString", "internal/abi.NoEscape", "internal/bytealg.MakeNoZero"], unfollowed := true, recurses := true, named := ["unicode/utf8.first", "unicode/utf8.acceptRanges", "internal/bytealg.MaxLen"], apart := false, laid := [("unicode/utf8.acceptRanges", laid_unicode_utf8_acceptRanges), ("unicode/utf8.first", laid_unicode_utf8_first)] }
def FnObjectsSaid : Prop := fnObjectsRow.holds Tryd.pinned (OpenSpec.ofChange fnObjectsSpec)

/-- ITS FALSE NEIGHBOUR: 'it returns false'. Refute it at one input. -/
def fnObjectsWrong : ChangeSpec := { name := "fnObjects", fn := fun _ => fun
  | [d] => { results := [.lit (.bool false)], args := [d] }
  | _ => none }
def FnObjectsWrongFalsely : Prop := fnObjectsRow.holds Tryd.pinned (OpenSpec.ofChange fnObjectsWrong)

/-- 'laws.FnExactOldObject': WHATEVER THE INPUT: true; the input reads as it did. -/
def fnExactOldObjectSpec : ChangeSpec := { name := "fnExactOldObject", fn := fun _ => fun
  | [d1, d2, d3] => { results := [.lit (.bool true)], args := [d1, d2, d3] }
  | _ => none }
def fnExactOldObjectRow : OpenClaim := { program := "ytlljkankongifaadoor", sum := "6c239f9d8a533c61af162b223076f0ef0d42fc2c981dc5ee1a3590d51a18df3d", func := "loop.example/g00648/laws.FnExactOldObject", spec := "fnExactOldObject", inPlace := ["internal/bytealg.IndexByteString", "internal/bytealg.IndexString", "internal/abi.NoEscape", "internal/bytealg.MakeNoZero"], unfollowed := true, recurses := true, named := ["unicode/utf8.first", "unicode/utf8.acceptRanges", "internal/bytealg.MaxLen"], apart := false, laid := [("unicode/utf8.acceptRanges", laid_unicode_utf8_acceptRanges), ("unicode/utf8.first", laid_unicode_utf8_first)] }
def FnExactOldObjectSaid : Prop := fnExactOldObjectRow.holds Tryd.pinned (OpenSpec.ofChange fnExactOldObjectSpec)

/-- ITS FALSE NEIGHBOUR: 'it returns false'. Refute it at one input. -/
def fnExactOldObjectWrong : ChangeSpec := { name := "fnExactOldObject", fn := fun _ => fun
  | [d1, d2, d3] => { results := [.lit (.bool false)], args := [d1, d2, d3] }
  | _ => none }
def FnExactOldObjectWrongFalsely : Prop := fnExactOldObjectRow.holds Tryd.pinned (OpenSpec.ofChange fnExactOldObjectWrong)

/- THE SECOND FORM. 'bulk': how many values and letters a reading holds, each counted each time it is reached (what is shared counts as often as it is met; a slice's spare places count too). A statement '..UptoSaid' is the law's where the arguments, and the package variables that the reading takes, are together of bulk at most 1048576: NARROWER than '..Said'. Prove '..Said' where nothing that the law and all that it calls make is longer than what came in: it says more and counts as full. Else prove '..UptoSaid'. A law counts once. -/
mutual
def uptoBulk {H : Type} : DataW H → Nat
  | .lit (.string bytes) => bytes.length + 1
  | .lit _ => 1
  | .nil => 1
  | .ptr d => uptoBulk d + 1
  | .slice elems spare => uptoBulkAll elems + uptoBulkAll spare + 1
  | .agg parts => uptoBulkAll parts + 1
  | .iface _ d => uptoBulk d + 1
  | .map entries => uptoBulkEntries entries + 1
  | .held _ => 1
def uptoBulkAll {H : Type} : List (DataW H) → Nat
  | [] => 0
  | d :: r => uptoBulk d + uptoBulkAll r
def uptoBulkEntries {H : Type} : List (Lit × DataW H) → Nat
  | [] => 0
  | x :: r => uptoBulkEntry x + uptoBulkEntries r
def uptoBulkEntry {H : Type} : Lit × DataW H → Nat
  | (.string bytes, d) => bytes.length + uptoBulk d + 1
  | (_, d) => uptoBulk d + 1
 end
def uptoSmall : (H : Type) → List (DataW H) → Bool := fun _ ds => decide (uptoBulkAll ds ≤ 1048576)
def OpenSpec.upto (s : _root_.Go.ChangeSpec) : _root_.Go.OpenSpec := { _root_.Go.OpenSpec.ofChange s with cond := some uptoSmall }

/-- 'laws.FnExactPlanned', WHERE WHAT IT READS IS OF BULK AT MOST 1048576: true; the input reads as it did. -/
def fnExactPlannedUptoRow : OpenClaim := { program := "ytlljkankongifaadoor", sum := "6c239f9d8a533c61af162b223076f0ef0d42fc2c981dc5ee1a3590d51a18df3d", func := "loop.example/g00648/laws.FnExactPlanned", spec := "fnExactPlanned", inPlace := ["internal/bytealg.IndexByteString", "internal/bytealg.IndexString", "internal/abi.NoEscape", "internal/bytealg.MakeNoZero"], unfollowed := true, recurses := true, named := ["unicode/utf8.first", "unicode/utf8.acceptRanges", "internal/bytealg.MaxLen"], apart := false, laid := [("unicode/utf8.acceptRanges", laid_unicode_utf8_acceptRanges), ("unicode/utf8.first", laid_unicode_utf8_first)], narrowed := true }
def FnExactPlannedUptoSaid : Prop := fnExactPlannedUptoRow.holds Tryd.pinned (OpenSpec.upto fnExactPlannedSpec)

/-- 'laws.FnExactConfigOf', WHERE WHAT IT READS IS OF BULK AT MOST 1048576: true; the input reads as it did. -/
def fnExactConfigOfUptoRow : OpenClaim := { program := "ytlljkankongifaadoor", sum := "6c239f9d8a533c61af162b223076f0ef0d42fc2c981dc5ee1a3590d51a18df3d", func := "loop.example/g00648/laws.FnExactConfigOf", spec := "fnExactConfigOf", inPlace := ["internal/bytealg.IndexByteString", "internal/bytealg.IndexString", "internal/abi.NoEscape", "internal/bytealg.MakeNoZero"], unfollowed := true, recurses := true, named := ["unicode/utf8.first", "unicode/utf8.acceptRanges", "internal/bytealg.MaxLen"], apart := false, laid := [("unicode/utf8.acceptRanges", laid_unicode_utf8_acceptRanges), ("unicode/utf8.first", laid_unicode_utf8_first)], narrowed := true }
def FnExactConfigOfUptoSaid : Prop := fnExactConfigOfUptoRow.holds Tryd.pinned (OpenSpec.upto fnExactConfigOfSpec)

/-- 'laws.FnPlanned', WHERE WHAT IT READS IS OF BULK AT MOST 1048576: true; the input reads as it did. -/
def fnPlannedUptoRow : OpenClaim := { program := "ytlljkankongifaadoor", sum := "6c239f9d8a533c61af162b223076f0ef0d42fc2c981dc5ee1a3590d51a18df3d", func := "loop.example/g00648/laws.FnPlanned", spec := "fnPlanned", inPlace := ["internal/bytealg.IndexByteString", "internal/bytealg.IndexString", "internal/abi.NoEscape", "internal/bytealg.MakeNoZero"], unfollowed := true, recurses := true, named := ["unicode/utf8.first", "unicode/utf8.acceptRanges", "internal/bytealg.MaxLen"], apart := false, laid := [("unicode/utf8.acceptRanges", laid_unicode_utf8_acceptRanges), ("unicode/utf8.first", laid_unicode_utf8_first)], narrowed := true }
def FnPlannedUptoSaid : Prop := fnPlannedUptoRow.holds Tryd.pinned (OpenSpec.upto fnPlannedSpec)

/-- 'laws.FnObjects', WHERE WHAT IT READS IS OF BULK AT MOST 1048576: true; the input reads as it did. -/
def fnObjectsUptoRow : OpenClaim := { program := "ytlljkankongifaadoor", sum := "6c239f9d8a533c61af162b223076f0ef0d42fc2c981dc5ee1a3590d51a18df3d", func := "loop.example/g00648/laws.FnObjects", spec := "fnObjects", inPlace := ["internal/bytealg.IndexByteString", "internal/bytealg.IndexString", "internal/abi.NoEscape", "internal/bytealg.MakeNoZero"], unfollowed := true, recurses := true, named := ["unicode/utf8.first", "unicode/utf8.acceptRanges", "internal/bytealg.MaxLen"], apart := false, laid := [("unicode/utf8.acceptRanges", laid_unicode_utf8_acceptRanges), ("unicode/utf8.first", laid_unicode_utf8_first)], narrowed := true }
def FnObjectsUptoSaid : Prop := fnObjectsUptoRow.holds Tryd.pinned (OpenSpec.upto fnObjectsSpec)

/-- 'laws.FnExactOldObject', WHERE WHAT IT READS IS OF BULK AT MOST 1048576: true; the input reads as it did. -/
def fnExactOldObjectUptoRow : OpenClaim := { program := "ytlljkankongifaadoor", sum := "6c239f9d8a533c61af162b223076f0ef0d42fc2c981dc5ee1a3590d51a18df3d", func := "loop.example/g00648/laws.FnExactOldObject", spec := "fnExactOldObject", inPlace := ["internal/bytealg.IndexByteString", "internal/bytealg.IndexString", "internal/abi.NoEscape", "internal/bytealg.MakeNoZero"], unfollowed := true, recurses := true, named := ["unicode/utf8.first", "unicode/utf8.acceptRanges", "internal/bytealg.MaxLen"], apart := false, laid := [("unicode/utf8.acceptRanges", laid_unicode_utf8_acceptRanges), ("unicode/utf8.first", laid_unicode_utf8_first)], narrowed := true }
def FnExactOldObjectUptoSaid : Prop := fnExactOldObjectUptoRow.holds Tryd.pinned (OpenSpec.upto fnExactOldObjectSpec)

end Rows
end Go.Proofs.YtlljkankongifaaDoor
