/- Lists of whole numbers in the laws: their size, a copy, the comparison with itself. -/
import Derived.Test.YtgfeafcgpeclcaaDoorPLoop
import Derived.Test.YtgfeafcgpeclcaaDoorPIntEq
import Derived.Test.YtgfeafcgpeclcaaDoorF3
namespace Go.Proofs.YtgfeafcgpeclcaaDoor.Abs
open Go Go.RowKit
set_option linter.unusedVariables false
set_option linter.unusedSectionVars false
set_option linter.unusedSimpArgs false
theorem szInt64S_f (l : List Int) (hl : l.length ≤ maxLen) (left : Int) (h0 : 0 ≤ left) (h1 : left ≤ 1048576) : ∃ r, laws_szInt64S.f l left = some r ∧ (0 ≤ r → r ≤ left ∧ l.length ≤ 1048576) := by
  unfold maxLen at hl
  unfold laws_szInt64S.f
  rw [w64 (x := left - (l.length : Int)) (by omega) (by omega)]
  by_cases c : left - (l.length : Int) < 0
  · exact ⟨-1, by rw [if_pos c], fun h => by omega⟩
  · exact ⟨_, by rw [if_neg c], fun h => ⟨by omega, by omega⟩⟩
theorem toInt64S_ev (l : List Int) (hl : l.length ≤ 1048576) : Ev (fun k => laws_toInt64S.f k l) l := by
  unfold laws_toInt64S.f
  refine Ev.pos (by omega) (Ev.pos (by omega) ?_)
  rw [Int.toNat_natCast]
  refine fill_ev (g := fun k out i => laws_toInt64S.p8 k l out i) _ (fun i hi out ho r hr => ?_) (fun out ho => ?_)
  · refine Ev.step (fun k => by rw [laws_toInt64S.p8]) ?_
    rw [rd_get hi, w64s (by omega), Int.toNat_natCast]
    exact Ev.pos (by omega) (Ev.pos (by omega) (Ev.pos (by omega) (Ev.pos (by omega) (Ev.pos (by omega) hr))))
  · refine Ev.step (fun k => by rw [laws_toInt64S.p8]) ?_
    exact Ev.neg (by omega) (Ev.eq rfl)
end Go.Proofs.YtgfeafcgpeclcaaDoor.Abs
