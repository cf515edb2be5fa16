/- Nodes of graphs: one appended; as they are read where their values are rows from the second place on. -/
import Derived.Test.YtommgpkeicpokaaGreatDoorPBase
namespace Go.Proofs.YtommgpkeicpokaaGreatDoor.Abs.Pu
open Go Go.RowKit
set_option linter.unusedVariables false
set_option linter.unusedSectionVars false
set_option linter.unusedSimpArgs false
theorem set_snoc (a : List (Int × List Int)) (t : Int) (vs : List Int) : (a ++ ([(t, vs)] : List (Int × List Int))).set a.length (((a ++ ([(t, vs)] : List (Int × List Int))).getD a.length (0, [])).1, vs) = a ++ [(t, vs)] := by
  rw [List.getD_eq_getElem?_getD, List.getElem?_append_right (Nat.le_refl _), Nat.sub_self, List.set_append_right _ _ (Nat.le_refl _), Nat.sub_self]
  rfl
/-- Nodes as they are read: the first number of each row left out. -/
def cutN (l : List (Int × List Int)) : List (Int × List Int) := l.map fun x => (x.1, x.2.drop 1)
theorem cut_eq (l : List (Int × List Int)) : Ty.cut (.pair (.int .i64) (.sl (.int .i64))) 1 l = cutN l := rfl
end Go.Proofs.YtommgpkeicpokaaGreatDoor.Abs.Pu
