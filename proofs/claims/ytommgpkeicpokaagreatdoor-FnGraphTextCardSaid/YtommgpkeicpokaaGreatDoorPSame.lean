/- sameInts: a list is the same as itself. For lists of at most 2^40 numbers. -/
import Derived.Test.YtommgpkeicpokaaGreatDoorPBase
import Derived.Test.YtommgpkeicpokaaGreatDoorF3
namespace Go.Proofs.YtommgpkeicpokaaGreatDoor.Abs.Pu
open Go Go.RowKit
set_option linter.unusedVariables false
set_option linter.unusedSectionVars false
set_option linter.unusedSimpArgs false
theorem sameInts_ev (l : List Int) (hl : l.length ≤ 1099511627776) : Ev (fun k => laws_sameInts.f k l l) true := by
  have lp : ∀ (d i : Nat), l.length - i = d → i ≤ l.length → Ev (fun k => laws_sameInts.p14 k l l (i : Int)) true := by
    intro d
    induction d with
    | zero =>
      intro i hd hi
      exact Ev.step (fun k => by rw [laws_sameInts.p14]) (Ev.neg (by omega) (Ev.eq rfl))
    | succ d ih =>
      intro i hd hi
      refine Ev.step (fun k => by rw [laws_sameInts.p14]) ?_
      rw [show wrap64 ((i : Int) + 1) = ((i + 1 : Nat) : Int) from by rw [w64 (by omega) (by omega)]; omega]
      exact Ev.pos (by omega) (Ev.pos (by omega) (Ev.pos (by omega) (Ev.pos (by omega) (Ev.pos (by omega) (Ev.pos rfl (ih (i + 1) (by omega) (by omega)))))))
  unfold laws_sameInts.f
  exact Ev.pos rfl (lp _ 0 rfl (by omega))
end Go.Proofs.YtommgpkeicpokaaGreatDoor.Abs.Pu
