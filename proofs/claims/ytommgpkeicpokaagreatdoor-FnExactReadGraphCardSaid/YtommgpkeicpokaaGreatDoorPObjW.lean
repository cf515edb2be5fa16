/- An object of valid types. No condition. -/
import Derived.Test.YtommgpkeicpokaaGreatDoorPTypes
import Derived.Test.YtommgpkeicpokaaGreatDoorPLoop
namespace Go.Proofs.YtommgpkeicpokaaGreatDoor.Abs.Pu
open Go Go.RowKit
set_option linter.unusedVariables false
set_option linter.unusedSectionVars false
set_option linter.unusedSimpArgs false
/-- An object of valid types, its references such that p holds. -/
def objW (p : Int → Bool) (types : List ByteArray) (o : Int × List Int) : Bool :=
  (decide (0 ≤ o.1) && decide (o.1 ≤ (types.length : Int) - 1)) && (decide (o.2.length = (rdOf ByteArray.empty types o.1).size) && refsB p (rdOf ByteArray.empty types o.1) 0 o.2)
theorem type_size {types : List ByteArray} (ht : typesOk types = true) (t : Int) : (rdOf ByteArray.empty types t).size ≤ 23 := by
  unfold typesOk at ht
  rw [Bool.and_eq_true, List.all_eq_true] at ht
  unfold rdOf
  by_cases h : t.toNat < types.length
  · have := ht.2 _ (List.getElem_mem h)
    rw [List.getD_eq_getElem?_getD, List.getElem?_eq_getElem h]
    unfold typeOk at this
    simp only [Bool.and_eq_true, decide_eq_true_eq] at this
    exact this.1.2
  · rw [List.getD_eq_getElem?_getD, List.getElem?_eq_none (by omega)]
    exact Nat.zero_le _
theorem types_len {types : List ByteArray} (ht : typesOk types = true) : 1 ≤ types.length ∧ types.length ≤ 12 := by
  unfold typesOk at ht
  rw [Bool.and_eq_true] at ht
  simpa using ht.1
end Go.Proofs.YtommgpkeicpokaaGreatDoor.Abs.Pu
