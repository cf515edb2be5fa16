/-
  No cell of these rows narrows 'for every input' (looked for: loops, veiled, ifaces, maps, wideKeys, modest, calm, conditions, laid).
  DERIVED. THE GIVEN ROWS OF THIS SEAT. 12 by the template 'for every input the law returns true; each argument reads behind the call as it read before'; 0 by the template 'total and deterministic' (their statements: YtpeimlpipopeoaaTotals.lean).
  GIVEN WITH THE SEED: the statements are not yours to turn. If you find one false, say at which input.
  Laid BY PROGRAM, IN A SANDBOX (cutbox-rows.mjs): the forced cells as the released guide's own fill.sh prints them over the translation fdb8fba6edc53e78… (all of the seat's roots in one cut). By AI agents, Wed Nov 11 2026. No macro, syntax, notation, axiom, sorry.
-/
import Derived.Test.YtpeimlpipopeoaaChecked
import GoSem.Claim
import GoSem.ClaimJoined
import GoSem.ClaimMapViews
import Derived.JoinedTies
import Derived.KernelRfl
namespace Go.Proofs.Ytpeimlpipopeoaa
/- THE CELL 'sum', in the pinned program and in every row, IS THE sha256 OF THE DUMP (.gsa) THAT YtpeimlpipopeoaaProg.lean LOADS. Nothing in Lean hashes anything: it is a label: what it is worth is what the hold of that sum in a sandbox is worth. -/
noncomputable def Try.pinned : Pinned := { name := "ytpeimlpipopeoaa", sum := "fdb8fba6edc53e78e81c76552b015ff51234f21264b5b9399e315ed7abf73b88", checked := Try.checked }
namespace Rows
def none {H : Type} : Left H := { results := [], args := [] }

/-- 'laws.FnExactSetOk': WHATEVER THE INPUT: true; the input reads as it did. -/
def fnExactSetOkSpec : ChangeSpec := { name := "fnExactSetOk", fn := fun _ => fun
  | [d] => { results := [.lit (.bool true)], args := [d] }
  | _ => none }
def fnExactSetOkRow : OpenClaim := { program := "ytpeimlpipopeoaa", sum := "fdb8fba6edc53e78e81c76552b015ff51234f21264b5b9399e315ed7abf73b88", func := "loop.example/g00648/laws.FnExactSetOk", spec := "fnExactSetOk", apart := false }
def FnExactSetOkSaid : Prop := fnExactSetOkRow.holds Try.pinned (OpenSpec.ofChange fnExactSetOkSpec)

/-- ITS FALSE NEIGHBOUR: 'it returns false'. Refute it at one input. -/
def fnExactSetOkWrong : ChangeSpec := { name := "fnExactSetOk", fn := fun _ => fun
  | [d] => { results := [.lit (.bool false)], args := [d] }
  | _ => none }
def FnExactSetOkWrongFalsely : Prop := fnExactSetOkRow.holds Try.pinned (OpenSpec.ofChange fnExactSetOkWrong)

/-- 'laws.FnExactCardsOf': WHATEVER THE INPUT: true; the input reads as it did. -/
def fnExactCardsOfSpec : ChangeSpec := { name := "fnExactCardsOf", fn := fun _ => fun
  | [d] => { results := [.lit (.bool true)], args := [d] }
  | _ => none }
def fnExactCardsOfRow : OpenClaim := { program := "ytpeimlpipopeoaa", sum := "fdb8fba6edc53e78e81c76552b015ff51234f21264b5b9399e315ed7abf73b88", func := "loop.example/g00648/laws.FnExactCardsOf", spec := "fnExactCardsOf", apart := false }
def FnExactCardsOfSaid : Prop := fnExactCardsOfRow.holds Try.pinned (OpenSpec.ofChange fnExactCardsOfSpec)

/-- ITS FALSE NEIGHBOUR: 'it returns false'. Refute it at one input. -/
def fnExactCardsOfWrong : ChangeSpec := { name := "fnExactCardsOf", fn := fun _ => fun
  | [d] => { results := [.lit (.bool false)], args := [d] }
  | _ => none }
def FnExactCardsOfWrongFalsely : Prop := fnExactCardsOfRow.holds Try.pinned (OpenSpec.ofChange fnExactCardsOfWrong)

/-- 'laws.FnExactYoungWords': WHATEVER THE INPUT: true; the input reads as it did. -/
def fnExactYoungWordsSpec : ChangeSpec := { name := "fnExactYoungWords", fn := fun _ => fun
  | [d1, d2] => { results := [.lit (.bool true)], args := [d1, d2] }
  | _ => none }
def fnExactYoungWordsRow : OpenClaim := { program := "ytpeimlpipopeoaa", sum := "fdb8fba6edc53e78e81c76552b015ff51234f21264b5b9399e315ed7abf73b88", func := "loop.example/g00648/laws.FnExactYoungWords", spec := "fnExactYoungWords", apart := false }
def FnExactYoungWordsSaid : Prop := fnExactYoungWordsRow.holds Try.pinned (OpenSpec.ofChange fnExactYoungWordsSpec)

/-- ITS FALSE NEIGHBOUR: 'it returns false'. Refute it at one input. -/
def fnExactYoungWordsWrong : ChangeSpec := { name := "fnExactYoungWords", fn := fun _ => fun
  | [d1, d2] => { results := [.lit (.bool false)], args := [d1, d2] }
  | _ => none }
def FnExactYoungWordsWrongFalsely : Prop := fnExactYoungWordsRow.holds Try.pinned (OpenSpec.ofChange fnExactYoungWordsWrong)

/-- 'laws.FnCards': WHATEVER THE INPUT: true; the input reads as it did. -/
def fnCardsSpec : ChangeSpec := { name := "fnCards", fn := fun _ => fun
  | [d] => { results := [.lit (.bool true)], args := [d] }
  | _ => none }
def fnCardsRow : OpenClaim := { program := "ytpeimlpipopeoaa", sum := "fdb8fba6edc53e78e81c76552b015ff51234f21264b5b9399e315ed7abf73b88", func := "loop.example/g00648/laws.FnCards", spec := "fnCards", apart := false }
def FnCardsSaid : Prop := fnCardsRow.holds Try.pinned (OpenSpec.ofChange fnCardsSpec)

/-- ITS FALSE NEIGHBOUR: 'it returns false'. Refute it at one input. -/
def fnCardsWrong : ChangeSpec := { name := "fnCards", fn := fun _ => fun
  | [d] => { results := [.lit (.bool false)], args := [d] }
  | _ => none }
def FnCardsWrongFalsely : Prop := fnCardsRow.holds Try.pinned (OpenSpec.ofChange fnCardsWrong)

/-- 'laws.FnExactPatched': WHATEVER THE INPUT: true; the input reads as it did. -/
def fnExactPatchedSpec : ChangeSpec := { name := "fnExactPatched", fn := fun _ => fun
  | [d1, d2, d3, d4] => { results := [.lit (.bool true)], args := [d1, d2, d3, d4] }
  | _ => none }
def fnExactPatchedRow : OpenClaim := { program := "ytpeimlpipopeoaa", sum := "fdb8fba6edc53e78e81c76552b015ff51234f21264b5b9399e315ed7abf73b88", func := "loop.example/g00648/laws.FnExactPatched", spec := "fnExactPatched", unfollowed := true, recurses := true, apart := false }
def FnExactPatchedSaid : Prop := fnExactPatchedRow.holds Try.pinned (OpenSpec.ofChange fnExactPatchedSpec)

/-- ITS FALSE NEIGHBOUR: 'it returns false'. Refute it at one input. -/
def fnExactPatchedWrong : ChangeSpec := { name := "fnExactPatched", fn := fun _ => fun
  | [d1, d2, d3, d4] => { results := [.lit (.bool false)], args := [d1, d2, d3, d4] }
  | _ => none }
def FnExactPatchedWrongFalsely : Prop := fnExactPatchedRow.holds Try.pinned (OpenSpec.ofChange fnExactPatchedWrong)

/-- 'laws.FnExactFreeOf': WHATEVER THE INPUT: true; the input reads as it did. -/
def fnExactFreeOfSpec : ChangeSpec := { name := "fnExactFreeOf", fn := fun _ => fun
  | [d1, d2, d3] => { results := [.lit (.bool true)], args := [d1, d2, d3] }
  | _ => none }
def fnExactFreeOfRow : OpenClaim := { program := "ytpeimlpipopeoaa", sum := "fdb8fba6edc53e78e81c76552b015ff51234f21264b5b9399e315ed7abf73b88", func := "loop.example/g00648/laws.FnExactFreeOf", spec := "fnExactFreeOf", inPlace := ["internal/abi.NoEscape", "internal/bytealg.MakeNoZero"], apart := false }
def FnExactFreeOfSaid : Prop := fnExactFreeOfRow.holds Try.pinned (OpenSpec.ofChange fnExactFreeOfSpec)

/-- ITS FALSE NEIGHBOUR: 'it returns false'. Refute it at one input. -/
def fnExactFreeOfWrong : ChangeSpec := { name := "fnExactFreeOf", fn := fun _ => fun
  | [d1, d2, d3] => { results := [.lit (.bool false)], args := [d1, d2, d3] }
  | _ => none }
def FnExactFreeOfWrongFalsely : Prop := fnExactFreeOfRow.holds Try.pinned (OpenSpec.ofChange fnExactFreeOfWrong)

/-- 'laws.FnExactMapOf': WHATEVER THE INPUT: true; the input reads as it did. -/
def fnExactMapOfSpec : ChangeSpec := { name := "fnExactMapOf", fn := fun _ => fun
  | [d] => { results := [.lit (.bool true)], args := [d] }
  | _ => none }
def fnExactMapOfRow : OpenClaim := { program := "ytpeimlpipopeoaa", sum := "fdb8fba6edc53e78e81c76552b015ff51234f21264b5b9399e315ed7abf73b88", func := "loop.example/g00648/laws.FnExactMapOf", spec := "fnExactMapOf", inPlace := ["internal/abi.NoEscape", "internal/bytealg.MakeNoZero"], apart := false }
def FnExactMapOfSaid : Prop := fnExactMapOfRow.holds Try.pinned (OpenSpec.ofChange fnExactMapOfSpec)

/-- ITS FALSE NEIGHBOUR: 'it returns false'. Refute it at one input. -/
def fnExactMapOfWrong : ChangeSpec := { name := "fnExactMapOf", fn := fun _ => fun
  | [d] => { results := [.lit (.bool false)], args := [d] }
  | _ => none }
def FnExactMapOfWrongFalsely : Prop := fnExactMapOfRow.holds Try.pinned (OpenSpec.ofChange fnExactMapOfWrong)

/-- 'laws.FnExactLinesOf': WHATEVER THE INPUT: true; the input reads as it did. -/
def fnExactLinesOfSpec : ChangeSpec := { name := "fnExactLinesOf", fn := fun _ => fun
  | [d] => { results := [.lit (.bool true)], args := [d] }
  | _ => none }
def fnExactLinesOfRow : OpenClaim := { program := "ytpeimlpipopeoaa", sum := "fdb8fba6edc53e78e81c76552b015ff51234f21264b5b9399e315ed7abf73b88", func := "loop.example/g00648/laws.FnExactLinesOf", spec := "fnExactLinesOf", inPlace := ["internal/abi.NoEscape", "internal/bytealg.MakeNoZero"], apart := false }
def FnExactLinesOfSaid : Prop := fnExactLinesOfRow.holds Try.pinned (OpenSpec.ofChange fnExactLinesOfSpec)

/-- ITS FALSE NEIGHBOUR: 'it returns false'. Refute it at one input. -/
def fnExactLinesOfWrong : ChangeSpec := { name := "fnExactLinesOf", fn := fun _ => fun
  | [d] => { results := [.lit (.bool false)], args := [d] }
  | _ => none }
def FnExactLinesOfWrongFalsely : Prop := fnExactLinesOfRow.holds Try.pinned (OpenSpec.ofChange fnExactLinesOfWrong)

/-- 'laws.FnExactFindRun': WHATEVER THE INPUT: true; the input reads as it did. -/
def fnExactFindRunSpec : ChangeSpec := { name := "fnExactFindRun", fn := fun _ => fun
  | [d1, d2, d3, d4] => { results := [.lit (.bool true)], args := [d1, d2, d3, d4] }
  | _ => none }
def fnExactFindRunRow : OpenClaim := { program := "ytpeimlpipopeoaa", sum := "fdb8fba6edc53e78e81c76552b015ff51234f21264b5b9399e315ed7abf73b88", func := "loop.example/g00648/laws.FnExactFindRun", spec := "fnExactFindRun", inPlace := ["internal/abi.NoEscape", "internal/bytealg.MakeNoZero"], apart := false }
def FnExactFindRunSaid : Prop := fnExactFindRunRow.holds Try.pinned (OpenSpec.ofChange fnExactFindRunSpec)

/-- ITS FALSE NEIGHBOUR: 'it returns false'. Refute it at one input. -/
def fnExactFindRunWrong : ChangeSpec := { name := "fnExactFindRun", fn := fun _ => fun
  | [d1, d2, d3, d4] => { results := [.lit (.bool false)], args := [d1, d2, d3, d4] }
  | _ => none }
def FnExactFindRunWrongFalsely : Prop := fnExactFindRunRow.holds Try.pinned (OpenSpec.ofChange fnExactFindRunWrong)

/-- 'laws.FnExactGiveRun': WHATEVER THE INPUT: true; the input reads as it did. -/
def fnExactGiveRunSpec : ChangeSpec := { name := "fnExactGiveRun", fn := fun _ => fun
  | [d1, d2, d3] => { results := [.lit (.bool true)], args := [d1, d2, d3] }
  | _ => none }
def fnExactGiveRunRow : OpenClaim := { program := "ytpeimlpipopeoaa", sum := "fdb8fba6edc53e78e81c76552b015ff51234f21264b5b9399e315ed7abf73b88", func := "loop.example/g00648/laws.FnExactGiveRun", spec := "fnExactGiveRun", inPlace := ["internal/abi.NoEscape", "internal/bytealg.MakeNoZero"], apart := false }
def FnExactGiveRunSaid : Prop := fnExactGiveRunRow.holds Try.pinned (OpenSpec.ofChange fnExactGiveRunSpec)

/-- ITS FALSE NEIGHBOUR: 'it returns false'. Refute it at one input. -/
def fnExactGiveRunWrong : ChangeSpec := { name := "fnExactGiveRun", fn := fun _ => fun
  | [d1, d2, d3] => { results := [.lit (.bool false)], args := [d1, d2, d3] }
  | _ => none }
def FnExactGiveRunWrongFalsely : Prop := fnExactGiveRunRow.holds Try.pinned (OpenSpec.ofChange fnExactGiveRunWrong)

/-- 'laws.FnExactTakeRun': WHATEVER THE INPUT: true; the input reads as it did. -/
def fnExactTakeRunSpec : ChangeSpec := { name := "fnExactTakeRun", fn := fun _ => fun
  | [d1, d2, d3] => { results := [.lit (.bool true)], args := [d1, d2, d3] }
  | _ => none }
def fnExactTakeRunRow : OpenClaim := { program := "ytpeimlpipopeoaa", sum := "fdb8fba6edc53e78e81c76552b015ff51234f21264b5b9399e315ed7abf73b88", func := "loop.example/g00648/laws.FnExactTakeRun", spec := "fnExactTakeRun", inPlace := ["internal/abi.NoEscape", "internal/bytealg.MakeNoZero"], apart := false }
def FnExactTakeRunSaid : Prop := fnExactTakeRunRow.holds Try.pinned (OpenSpec.ofChange fnExactTakeRunSpec)

/-- ITS FALSE NEIGHBOUR: 'it returns false'. Refute it at one input. -/
def fnExactTakeRunWrong : ChangeSpec := { name := "fnExactTakeRun", fn := fun _ => fun
  | [d1, d2, d3] => { results := [.lit (.bool false)], args := [d1, d2, d3] }
  | _ => none }
def FnExactTakeRunWrongFalsely : Prop := fnExactTakeRunRow.holds Try.pinned (OpenSpec.ofChange fnExactTakeRunWrong)

/-- 'laws.FnExactGaps': WHATEVER THE INPUT: true; the input reads as it did. -/
def fnExactGapsSpec : ChangeSpec := { name := "fnExactGaps", fn := fun _ => fun
  | [d1, d2, d3] => { results := [.lit (.bool true)], args := [d1, d2, d3] }
  | _ => none }
def fnExactGapsRow : OpenClaim := { program := "ytpeimlpipopeoaa", sum := "fdb8fba6edc53e78e81c76552b015ff51234f21264b5b9399e315ed7abf73b88", func := "loop.example/g00648/laws.FnExactGaps", spec := "fnExactGaps", inPlace := ["internal/abi.NoEscape", "internal/bytealg.MakeNoZero"], apart := false }
def FnExactGapsSaid : Prop := fnExactGapsRow.holds Try.pinned (OpenSpec.ofChange fnExactGapsSpec)

/-- ITS FALSE NEIGHBOUR: 'it returns false'. Refute it at one input. -/
def fnExactGapsWrong : ChangeSpec := { name := "fnExactGaps", fn := fun _ => fun
  | [d1, d2, d3] => { results := [.lit (.bool false)], args := [d1, d2, d3] }
  | _ => none }
def FnExactGapsWrongFalsely : Prop := fnExactGapsRow.holds Try.pinned (OpenSpec.ofChange fnExactGapsWrong)

/- THE SECOND FORM. 'bulk': how many values and letters a reading holds, each counted each time it is reached (what is shared counts as often as it is met; a slice's spare places count too). A statement '..UptoSaid' is the law's where the arguments, and the package variables that the reading takes, are together of bulk at most 1048576: NARROWER than '..Said'. Prove '..Said' where nothing that the law and all that it calls make is longer than what came in: it says more and counts as full. Else prove '..UptoSaid'. A law counts once. -/
mutual
def uptoBulk {H : Type} : DataW H → Nat
  | .lit (.string bytes) => bytes.length + 1
  | .lit _ => 1
  | .nil => 1
  | .ptr d => uptoBulk d + 1
  | .slice elems spare => uptoBulkAll elems + uptoBulkAll spare + 1
  | .agg parts => uptoBulkAll parts + 1
  | .iface _ d => uptoBulk d + 1
  | .map entries => uptoBulkEntries entries + 1
  | .held _ => 1
def uptoBulkAll {H : Type} : List (DataW H) → Nat
  | [] => 0
  | d :: r => uptoBulk d + uptoBulkAll r
def uptoBulkEntries {H : Type} : List (Lit × DataW H) → Nat
  | [] => 0
  | x :: r => uptoBulkEntry x + uptoBulkEntries r
def uptoBulkEntry {H : Type} : Lit × DataW H → Nat
  | (.string bytes, d) => bytes.length + uptoBulk d + 1
  | (_, d) => uptoBulk d + 1
 end
def uptoSmall : (H : Type) → List (DataW H) → Bool := fun _ ds => decide (uptoBulkAll ds ≤ 1048576)
def OpenSpec.upto (s : _root_.Go.ChangeSpec) : _root_.Go.OpenSpec := { _root_.Go.OpenSpec.ofChange s with cond := some uptoSmall }

/-- 'laws.FnExactSetOk', WHERE WHAT IT READS IS OF BULK AT MOST 1048576: true; the input reads as it did. -/
def fnExactSetOkUptoRow : OpenClaim := { program := "ytpeimlpipopeoaa", sum := "fdb8fba6edc53e78e81c76552b015ff51234f21264b5b9399e315ed7abf73b88", func := "loop.example/g00648/laws.FnExactSetOk", spec := "fnExactSetOk", apart := false, narrowed := true }
def FnExactSetOkUptoSaid : Prop := fnExactSetOkUptoRow.holds Try.pinned (OpenSpec.upto fnExactSetOkSpec)

/-- 'laws.FnExactCardsOf', WHERE WHAT IT READS IS OF BULK AT MOST 1048576: true; the input reads as it did. -/
def fnExactCardsOfUptoRow : OpenClaim := { program := "ytpeimlpipopeoaa", sum := "fdb8fba6edc53e78e81c76552b015ff51234f21264b5b9399e315ed7abf73b88", func := "loop.example/g00648/laws.FnExactCardsOf", spec := "fnExactCardsOf", apart := false, narrowed := true }
def FnExactCardsOfUptoSaid : Prop := fnExactCardsOfUptoRow.holds Try.pinned (OpenSpec.upto fnExactCardsOfSpec)

/-- 'laws.FnExactYoungWords', WHERE WHAT IT READS IS OF BULK AT MOST 1048576: true; the input reads as it did. -/
def fnExactYoungWordsUptoRow : OpenClaim := { program := "ytpeimlpipopeoaa", sum := "fdb8fba6edc53e78e81c76552b015ff51234f21264b5b9399e315ed7abf73b88", func := "loop.example/g00648/laws.FnExactYoungWords", spec := "fnExactYoungWords", apart := false, narrowed := true }
def FnExactYoungWordsUptoSaid : Prop := fnExactYoungWordsUptoRow.holds Try.pinned (OpenSpec.upto fnExactYoungWordsSpec)

/-- 'laws.FnCards', WHERE WHAT IT READS IS OF BULK AT MOST 1048576: true; the input reads as it did. -/
def fnCardsUptoRow : OpenClaim := { program := "ytpeimlpipopeoaa", sum := "fdb8fba6edc53e78e81c76552b015ff51234f21264b5b9399e315ed7abf73b88", func := "loop.example/g00648/laws.FnCards", spec := "fnCards", apart := false, narrowed := true }
def FnCardsUptoSaid : Prop := fnCardsUptoRow.holds Try.pinned (OpenSpec.upto fnCardsSpec)

/-- 'laws.FnExactPatched', WHERE WHAT IT READS IS OF BULK AT MOST 1048576: true; the input reads as it did. -/
def fnExactPatchedUptoRow : OpenClaim := { program := "ytpeimlpipopeoaa", sum := "fdb8fba6edc53e78e81c76552b015ff51234f21264b5b9399e315ed7abf73b88", func := "loop.example/g00648/laws.FnExactPatched", spec := "fnExactPatched", unfollowed := true, recurses := true, apart := false, narrowed := true }
def FnExactPatchedUptoSaid : Prop := fnExactPatchedUptoRow.holds Try.pinned (OpenSpec.upto fnExactPatchedSpec)

/-- 'laws.FnExactFreeOf', WHERE WHAT IT READS IS OF BULK AT MOST 1048576: true; the input reads as it did. -/
def fnExactFreeOfUptoRow : OpenClaim := { program := "ytpeimlpipopeoaa", sum := "fdb8fba6edc53e78e81c76552b015ff51234f21264b5b9399e315ed7abf73b88", func := "loop.example/g00648/laws.FnExactFreeOf", spec := "fnExactFreeOf", inPlace := ["internal/abi.NoEscape", "internal/bytealg.MakeNoZero"], apart := false, narrowed := true }
def FnExactFreeOfUptoSaid : Prop := fnExactFreeOfUptoRow.holds Try.pinned (OpenSpec.upto fnExactFreeOfSpec)

/-- 'laws.FnExactMapOf', WHERE WHAT IT READS IS OF BULK AT MOST 1048576: true; the input reads as it did. -/
def fnExactMapOfUptoRow : OpenClaim := { program := "ytpeimlpipopeoaa", sum := "fdb8fba6edc53e78e81c76552b015ff51234f21264b5b9399e315ed7abf73b88", func := "loop.example/g00648/laws.FnExactMapOf", spec := "fnExactMapOf", inPlace := ["internal/abi.NoEscape", "internal/bytealg.MakeNoZero"], apart := false, narrowed := true }
def FnExactMapOfUptoSaid : Prop := fnExactMapOfUptoRow.holds Try.pinned (OpenSpec.upto fnExactMapOfSpec)

/-- 'laws.FnExactLinesOf', WHERE WHAT IT READS IS OF BULK AT MOST 1048576: true; the input reads as it did. -/
def fnExactLinesOfUptoRow : OpenClaim := { program := "ytpeimlpipopeoaa", sum := "fdb8fba6edc53e78e81c76552b015ff51234f21264b5b9399e315ed7abf73b88", func := "loop.example/g00648/laws.FnExactLinesOf", spec := "fnExactLinesOf", inPlace := ["internal/abi.NoEscape", "internal/bytealg.MakeNoZero"], apart := false, narrowed := true }
def FnExactLinesOfUptoSaid : Prop := fnExactLinesOfUptoRow.holds Try.pinned (OpenSpec.upto fnExactLinesOfSpec)

/-- 'laws.FnExactFindRun', WHERE WHAT IT READS IS OF BULK AT MOST 1048576: true; the input reads as it did. -/
def fnExactFindRunUptoRow : OpenClaim := { program := "ytpeimlpipopeoaa", sum := "fdb8fba6edc53e78e81c76552b015ff51234f21264b5b9399e315ed7abf73b88", func := "loop.example/g00648/laws.FnExactFindRun", spec := "fnExactFindRun", inPlace := ["internal/abi.NoEscape", "internal/bytealg.MakeNoZero"], apart := false, narrowed := true }
def FnExactFindRunUptoSaid : Prop := fnExactFindRunUptoRow.holds Try.pinned (OpenSpec.upto fnExactFindRunSpec)

/-- 'laws.FnExactGiveRun', WHERE WHAT IT READS IS OF BULK AT MOST 1048576: true; the input reads as it did. -/
def fnExactGiveRunUptoRow : OpenClaim := { program := "ytpeimlpipopeoaa", sum := "fdb8fba6edc53e78e81c76552b015ff51234f21264b5b9399e315ed7abf73b88", func := "loop.example/g00648/laws.FnExactGiveRun", spec := "fnExactGiveRun", inPlace := ["internal/abi.NoEscape", "internal/bytealg.MakeNoZero"], apart := false, narrowed := true }
def FnExactGiveRunUptoSaid : Prop := fnExactGiveRunUptoRow.holds Try.pinned (OpenSpec.upto fnExactGiveRunSpec)

/-- 'laws.FnExactTakeRun', WHERE WHAT IT READS IS OF BULK AT MOST 1048576: true; the input reads as it did. -/
def fnExactTakeRunUptoRow : OpenClaim := { program := "ytpeimlpipopeoaa", sum := "fdb8fba6edc53e78e81c76552b015ff51234f21264b5b9399e315ed7abf73b88", func := "loop.example/g00648/laws.FnExactTakeRun", spec := "fnExactTakeRun", inPlace := ["internal/abi.NoEscape", "internal/bytealg.MakeNoZero"], apart := false, narrowed := true }
def FnExactTakeRunUptoSaid : Prop := fnExactTakeRunUptoRow.holds Try.pinned (OpenSpec.upto fnExactTakeRunSpec)

/-- 'laws.FnExactGaps', WHERE WHAT IT READS IS OF BULK AT MOST 1048576: true; the input reads as it did. -/
def fnExactGapsUptoRow : OpenClaim := { program := "ytpeimlpipopeoaa", sum := "fdb8fba6edc53e78e81c76552b015ff51234f21264b5b9399e315ed7abf73b88", func := "loop.example/g00648/laws.FnExactGaps", spec := "fnExactGaps", inPlace := ["internal/abi.NoEscape", "internal/bytealg.MakeNoZero"], apart := false, narrowed := true }
def FnExactGapsUptoSaid : Prop := fnExactGapsUptoRow.holds Try.pinned (OpenSpec.upto fnExactGapsSpec)

end Rows
end Go.Proofs.Ytpeimlpipopeoaa
