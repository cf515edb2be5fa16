/-
  No cell of these rows narrows 'for every input' (looked for: loops, veiled, ifaces, maps, wideKeys, modest, calm, conditions, laid).
  DERIVED. THE GIVEN ROWS OF THIS SEAT. 8 by the template 'for every input the law returns true; each argument reads behind the call as it read before'; 0 by the template 'total and deterministic' (their statements: YtnhladaobcnmhaaTotals.lean).
  GIVEN WITH THE SEED: the statements are not yours to turn. If you find one false, say at which input.
  Laid BY PROGRAM, IN A SANDBOX (cutbox-rows.mjs): the forced cells as the released guide's own fill.sh prints them over the translation cfad3915a3a50bb7… (all of the seat's roots in one cut). By AI agents, Wed Nov 11 2026. No macro, syntax, notation, axiom, sorry.
-/
import Derived.Test.YtnhladaobcnmhaaChecked
import GoSem.Claim
import GoSem.ClaimJoined
import GoSem.ClaimMapViews
import Derived.JoinedTies
import Derived.KernelRfl
namespace Go.Proofs.Ytnhladaobcnmhaa
/- THE CELL 'sum', in the pinned program and in every row, IS THE sha256 OF THE DUMP (.gsa) THAT YtnhladaobcnmhaaProg.lean LOADS. Nothing in Lean hashes anything: it is a label: what it is worth is what the hold of that sum in a sandbox is worth. -/
noncomputable def Try.pinned : Pinned := { name := "ytnhladaobcnmhaa", sum := "cfad3915a3a50bb79beb98734bde51845507f48856e7b5453186357a1028ad4d", checked := Try.checked }
namespace Rows
def none {H : Type} : Left H := { results := [], args := [] }

/-- 'laws.FnExactBarrier': WHATEVER THE INPUT: true; the input reads as it did. -/
def fnExactBarrierSpec : ChangeSpec := { name := "fnExactBarrier", fn := fun _ => fun
  | [d1, d2, d3] => { results := [.lit (.bool true)], args := [d1, d2, d3] }
  | _ => none }
def fnExactBarrierRow : OpenClaim := { program := "ytnhladaobcnmhaa", sum := "cfad3915a3a50bb79beb98734bde51845507f48856e7b5453186357a1028ad4d", func := "loop.example/g00648/laws.FnExactBarrier", spec := "fnExactBarrier", inPlace := ["slices.overlaps[int64]"], apart := false }
def FnExactBarrierSaid : Prop := fnExactBarrierRow.holds Try.pinned (OpenSpec.ofChange fnExactBarrierSpec)

/-- ITS FALSE NEIGHBOUR: 'it returns false'. Refute it at one input. -/
def fnExactBarrierWrong : ChangeSpec := { name := "fnExactBarrier", fn := fun _ => fun
  | [d1, d2, d3] => { results := [.lit (.bool false)], args := [d1, d2, d3] }
  | _ => none }
def FnExactBarrierWrongFalsely : Prop := fnExactBarrierRow.holds Try.pinned (OpenSpec.ofChange fnExactBarrierWrong)

/-- 'laws.FnPatched': WHATEVER THE INPUT: true; the input reads as it did. -/
def fnPatchedSpec : ChangeSpec := { name := "fnPatched", fn := fun _ => fun
  | [d] => { results := [.lit (.bool true)], args := [d] }
  | _ => none }
def fnPatchedRow : OpenClaim := { program := "ytnhladaobcnmhaa", sum := "cfad3915a3a50bb79beb98734bde51845507f48856e7b5453186357a1028ad4d", func := "loop.example/g00648/laws.FnPatched", spec := "fnPatched", unfollowed := true, recurses := true, apart := false }
def FnPatchedSaid : Prop := fnPatchedRow.holds Try.pinned (OpenSpec.ofChange fnPatchedSpec)

/-- ITS FALSE NEIGHBOUR: 'it returns false'. Refute it at one input. -/
def fnPatchedWrong : ChangeSpec := { name := "fnPatched", fn := fun _ => fun
  | [d] => { results := [.lit (.bool false)], args := [d] }
  | _ => none }
def FnPatchedWrongFalsely : Prop := fnPatchedRow.holds Try.pinned (OpenSpec.ofChange fnPatchedWrong)

/-- 'laws.FnRoom': WHATEVER THE INPUT: true; the input reads as it did. -/
def fnRoomSpec : ChangeSpec := { name := "fnRoom", fn := fun _ => fun
  | [d] => { results := [.lit (.bool true)], args := [d] }
  | _ => none }
def fnRoomRow : OpenClaim := { program := "ytnhladaobcnmhaa", sum := "cfad3915a3a50bb79beb98734bde51845507f48856e7b5453186357a1028ad4d", func := "loop.example/g00648/laws.FnRoom", spec := "fnRoom", inPlace := ["internal/abi.NoEscape", "internal/bytealg.MakeNoZero"], apart := false }
def FnRoomSaid : Prop := fnRoomRow.holds Try.pinned (OpenSpec.ofChange fnRoomSpec)

/-- ITS FALSE NEIGHBOUR: 'it returns false'. Refute it at one input. -/
def fnRoomWrong : ChangeSpec := { name := "fnRoom", fn := fun _ => fun
  | [d] => { results := [.lit (.bool false)], args := [d] }
  | _ => none }
def FnRoomWrongFalsely : Prop := fnRoomRow.holds Try.pinned (OpenSpec.ofChange fnRoomWrong)

/-- 'laws.FnFound': WHATEVER THE INPUT: true; the input reads as it did. -/
def fnFoundSpec : ChangeSpec := { name := "fnFound", fn := fun _ => fun
  | [d] => { results := [.lit (.bool true)], args := [d] }
  | _ => none }
def fnFoundRow : OpenClaim := { program := "ytnhladaobcnmhaa", sum := "cfad3915a3a50bb79beb98734bde51845507f48856e7b5453186357a1028ad4d", func := "loop.example/g00648/laws.FnFound", spec := "fnFound", inPlace := ["internal/abi.NoEscape", "internal/bytealg.MakeNoZero"], apart := false }
def FnFoundSaid : Prop := fnFoundRow.holds Try.pinned (OpenSpec.ofChange fnFoundSpec)

/-- ITS FALSE NEIGHBOUR: 'it returns false'. Refute it at one input. -/
def fnFoundWrong : ChangeSpec := { name := "fnFound", fn := fun _ => fun
  | [d] => { results := [.lit (.bool false)], args := [d] }
  | _ => none }
def FnFoundWrongFalsely : Prop := fnFoundRow.holds Try.pinned (OpenSpec.ofChange fnFoundWrong)

/-- 'laws.FnMaps': WHATEVER THE INPUT: true; the input reads as it did. -/
def fnMapsSpec : ChangeSpec := { name := "fnMaps", fn := fun _ => fun
  | [d] => { results := [.lit (.bool true)], args := [d] }
  | _ => none }
def fnMapsRow : OpenClaim := { program := "ytnhladaobcnmhaa", sum := "cfad3915a3a50bb79beb98734bde51845507f48856e7b5453186357a1028ad4d", func := "loop.example/g00648/laws.FnMaps", spec := "fnMaps", inPlace := ["internal/abi.NoEscape", "internal/bytealg.MakeNoZero"], apart := false }
def FnMapsSaid : Prop := fnMapsRow.holds Try.pinned (OpenSpec.ofChange fnMapsSpec)

/-- ITS FALSE NEIGHBOUR: 'it returns false'. Refute it at one input. -/
def fnMapsWrong : ChangeSpec := { name := "fnMaps", fn := fun _ => fun
  | [d] => { results := [.lit (.bool false)], args := [d] }
  | _ => none }
def FnMapsWrongFalsely : Prop := fnMapsRow.holds Try.pinned (OpenSpec.ofChange fnMapsWrong)

/-- 'laws.FnBarrier': WHATEVER THE INPUT: true; the input reads as it did. -/
def fnBarrierSpec : ChangeSpec := { name := "fnBarrier", fn := fun _ => fun
  | [d] => { results := [.lit (.bool true)], args := [d] }
  | _ => none }
def fnBarrierRow : OpenClaim := { program := "ytnhladaobcnmhaa", sum := "cfad3915a3a50bb79beb98734bde51845507f48856e7b5453186357a1028ad4d", func := "loop.example/g00648/laws.FnBarrier", spec := "fnBarrier", inPlace := ["slices.overlaps[int64]"], apart := false }
def FnBarrierSaid : Prop := fnBarrierRow.holds Try.pinned (OpenSpec.ofChange fnBarrierSpec)

/-- ITS FALSE NEIGHBOUR: 'it returns false'. Refute it at one input. -/
def fnBarrierWrong : ChangeSpec := { name := "fnBarrier", fn := fun _ => fun
  | [d] => { results := [.lit (.bool false)], args := [d] }
  | _ => none }
def FnBarrierWrongFalsely : Prop := fnBarrierRow.holds Try.pinned (OpenSpec.ofChange fnBarrierWrong)

/-- 'laws.FnPicked': WHATEVER THE INPUT: true; the input reads as it did. -/
def fnPickedSpec : ChangeSpec := { name := "fnPicked", fn := fun _ => fun
  | [d] => { results := [.lit (.bool true)], args := [d] }
  | _ => none }
def fnPickedRow : OpenClaim := { program := "ytnhladaobcnmhaa", sum := "cfad3915a3a50bb79beb98734bde51845507f48856e7b5453186357a1028ad4d", func := "loop.example/g00648/laws.FnPicked", spec := "fnPicked", inPlace := ["internal/abi.NoEscape"], unfollowed := true, recurses := true, apart := false }
def FnPickedSaid : Prop := fnPickedRow.holds Try.pinned (OpenSpec.ofChange fnPickedSpec)

/-- ITS FALSE NEIGHBOUR: 'it returns false'. Refute it at one input. -/
def fnPickedWrong : ChangeSpec := { name := "fnPicked", fn := fun _ => fun
  | [d] => { results := [.lit (.bool false)], args := [d] }
  | _ => none }
def FnPickedWrongFalsely : Prop := fnPickedRow.holds Try.pinned (OpenSpec.ofChange fnPickedWrong)

/-- 'laws.FnTaken': WHATEVER THE INPUT: true; the input reads as it did. -/
def fnTakenSpec : ChangeSpec := { name := "fnTaken", fn := fun _ => fun
  | [d] => { results := [.lit (.bool true)], args := [d] }
  | _ => none }
def fnTakenRow : OpenClaim := { program := "ytnhladaobcnmhaa", sum := "cfad3915a3a50bb79beb98734bde51845507f48856e7b5453186357a1028ad4d", func := "loop.example/g00648/laws.FnTaken", spec := "fnTaken", inPlace := ["internal/abi.NoEscape", "internal/bytealg.MakeNoZero"], apart := false }
def FnTakenSaid : Prop := fnTakenRow.holds Try.pinned (OpenSpec.ofChange fnTakenSpec)

/-- ITS FALSE NEIGHBOUR: 'it returns false'. Refute it at one input. -/
def fnTakenWrong : ChangeSpec := { name := "fnTaken", fn := fun _ => fun
  | [d] => { results := [.lit (.bool false)], args := [d] }
  | _ => none }
def FnTakenWrongFalsely : Prop := fnTakenRow.holds Try.pinned (OpenSpec.ofChange fnTakenWrong)

/- THE SECOND FORM. 'bulk': how many values and letters a reading holds, each counted each time it is reached (what is shared counts as often as it is met; a slice's spare places count too). A statement '..UptoSaid' is the law's where the arguments, and the package variables that the reading takes, are together of bulk at most 1048576: NARROWER than '..Said'. Prove '..Said' where nothing that the law and all that it calls make is longer than what came in: it says more and counts as full. Else prove '..UptoSaid'. A law counts once. -/
mutual
def uptoBulk {H : Type} : DataW H → Nat
  | .lit (.string bytes) => bytes.length + 1
  | .lit _ => 1
  | .nil => 1
  | .ptr d => uptoBulk d + 1
  | .slice elems spare => uptoBulkAll elems + uptoBulkAll spare + 1
  | .agg parts => uptoBulkAll parts + 1
  | .iface _ d => uptoBulk d + 1
  | .map entries => uptoBulkEntries entries + 1
  | .held _ => 1
def uptoBulkAll {H : Type} : List (DataW H) → Nat
  | [] => 0
  | d :: r => uptoBulk d + uptoBulkAll r
def uptoBulkEntries {H : Type} : List (Lit × DataW H) → Nat
  | [] => 0
  | x :: r => uptoBulkEntry x + uptoBulkEntries r
def uptoBulkEntry {H : Type} : Lit × DataW H → Nat
  | (.string bytes, d) => bytes.length + uptoBulk d + 1
  | (_, d) => uptoBulk d + 1
 end
def uptoSmall : (H : Type) → List (DataW H) → Bool := fun _ ds => decide (uptoBulkAll ds ≤ 1048576)
def OpenSpec.upto (s : _root_.Go.ChangeSpec) : _root_.Go.OpenSpec := { _root_.Go.OpenSpec.ofChange s with cond := some uptoSmall }

/-- 'laws.FnExactBarrier', WHERE WHAT IT READS IS OF BULK AT MOST 1048576: true; the input reads as it did. -/
def fnExactBarrierUptoRow : OpenClaim := { program := "ytnhladaobcnmhaa", sum := "cfad3915a3a50bb79beb98734bde51845507f48856e7b5453186357a1028ad4d", func := "loop.example/g00648/laws.FnExactBarrier", spec := "fnExactBarrier", inPlace := ["slices.overlaps[int64]"], apart := false, narrowed := true }
def FnExactBarrierUptoSaid : Prop := fnExactBarrierUptoRow.holds Try.pinned (OpenSpec.upto fnExactBarrierSpec)

/-- 'laws.FnPatched', WHERE WHAT IT READS IS OF BULK AT MOST 1048576: true; the input reads as it did. -/
def fnPatchedUptoRow : OpenClaim := { program := "ytnhladaobcnmhaa", sum := "cfad3915a3a50bb79beb98734bde51845507f48856e7b5453186357a1028ad4d", func := "loop.example/g00648/laws.FnPatched", spec := "fnPatched", unfollowed := true, recurses := true, apart := false, narrowed := true }
def FnPatchedUptoSaid : Prop := fnPatchedUptoRow.holds Try.pinned (OpenSpec.upto fnPatchedSpec)

/-- 'laws.FnRoom', WHERE WHAT IT READS IS OF BULK AT MOST 1048576: true; the input reads as it did. -/
def fnRoomUptoRow : OpenClaim := { program := "ytnhladaobcnmhaa", sum := "cfad3915a3a50bb79beb98734bde51845507f48856e7b5453186357a1028ad4d", func := "loop.example/g00648/laws.FnRoom", spec := "fnRoom", inPlace := ["internal/abi.NoEscape", "internal/bytealg.MakeNoZero"], apart := false, narrowed := true }
def FnRoomUptoSaid : Prop := fnRoomUptoRow.holds Try.pinned (OpenSpec.upto fnRoomSpec)

/-- 'laws.FnFound', WHERE WHAT IT READS IS OF BULK AT MOST 1048576: true; the input reads as it did. -/
def fnFoundUptoRow : OpenClaim := { program := "ytnhladaobcnmhaa", sum := "cfad3915a3a50bb79beb98734bde51845507f48856e7b5453186357a1028ad4d", func := "loop.example/g00648/laws.FnFound", spec := "fnFound", inPlace := ["internal/abi.NoEscape", "internal/bytealg.MakeNoZero"], apart := false, narrowed := true }
def FnFoundUptoSaid : Prop := fnFoundUptoRow.holds Try.pinned (OpenSpec.upto fnFoundSpec)

/-- 'laws.FnMaps', WHERE WHAT IT READS IS OF BULK AT MOST 1048576: true; the input reads as it did. -/
def fnMapsUptoRow : OpenClaim := { program := "ytnhladaobcnmhaa", sum := "cfad3915a3a50bb79beb98734bde51845507f48856e7b5453186357a1028ad4d", func := "loop.example/g00648/laws.FnMaps", spec := "fnMaps", inPlace := ["internal/abi.NoEscape", "internal/bytealg.MakeNoZero"], apart := false, narrowed := true }
def FnMapsUptoSaid : Prop := fnMapsUptoRow.holds Try.pinned (OpenSpec.upto fnMapsSpec)

/-- 'laws.FnBarrier', WHERE WHAT IT READS IS OF BULK AT MOST 1048576: true; the input reads as it did. -/
def fnBarrierUptoRow : OpenClaim := { program := "ytnhladaobcnmhaa", sum := "cfad3915a3a50bb79beb98734bde51845507f48856e7b5453186357a1028ad4d", func := "loop.example/g00648/laws.FnBarrier", spec := "fnBarrier", inPlace := ["slices.overlaps[int64]"], apart := false, narrowed := true }
def FnBarrierUptoSaid : Prop := fnBarrierUptoRow.holds Try.pinned (OpenSpec.upto fnBarrierSpec)

/-- 'laws.FnPicked', WHERE WHAT IT READS IS OF BULK AT MOST 1048576: true; the input reads as it did. -/
def fnPickedUptoRow : OpenClaim := { program := "ytnhladaobcnmhaa", sum := "cfad3915a3a50bb79beb98734bde51845507f48856e7b5453186357a1028ad4d", func := "loop.example/g00648/laws.FnPicked", spec := "fnPicked", inPlace := ["internal/abi.NoEscape"], unfollowed := true, recurses := true, apart := false, narrowed := true }
def FnPickedUptoSaid : Prop := fnPickedUptoRow.holds Try.pinned (OpenSpec.upto fnPickedSpec)

/-- 'laws.FnTaken', WHERE WHAT IT READS IS OF BULK AT MOST 1048576: true; the input reads as it did. -/
def fnTakenUptoRow : OpenClaim := { program := "ytnhladaobcnmhaa", sum := "cfad3915a3a50bb79beb98734bde51845507f48856e7b5453186357a1028ad4d", func := "loop.example/g00648/laws.FnTaken", spec := "fnTaken", inPlace := ["internal/abi.NoEscape", "internal/bytealg.MakeNoZero"], apart := false, narrowed := true }
def FnTakenUptoSaid : Prop := fnTakenUptoRow.holds Try.pinned (OpenSpec.upto fnTakenSpec)

end Rows
end Go.Proofs.Ytnhladaobcnmhaa
