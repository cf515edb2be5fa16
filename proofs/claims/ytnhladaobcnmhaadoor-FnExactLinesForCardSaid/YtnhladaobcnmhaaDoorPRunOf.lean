/- The number of lines of a type. For texts of at most 2^20 bytes. -/
import Derived.Test.YtnhladaobcnmhaaDoorPTypes
namespace Go.Proofs.YtnhladaobcnmhaaDoor.Abs.Pu
open Go Go.RowKit
set_option linter.unusedVariables false
set_option linter.unusedSectionVars false
set_option linter.unusedSimpArgs false
def runL (t : ByteArray) : Int := ((t.size : Int) + 8) / 8
theorem impl_runOf_f (t : ByteArray) (h : t.size ≤ 1048576) : impl_runOf.f t = some (runL t) := by
  unfold impl_runOf.f runL
  rw [w64 (x := (t.size : Int) + 8) (by omega) (by omega), Int.tdiv_eq_ediv_of_nonneg (by omega), w64 (by omega) (by omega)]
theorem spec_RunOf_ev (t : ByteArray) (h : t.size ≤ 1048576) : Ev (fun k => spec_RunOf.f k t) (if typeOk t = true then runL t else 0) := by
  unfold spec_RunOf.f runL
  refine Ev.bind (l3Type_ev t h) ?_
  by_cases c : typeOk t = true
  · refine Ev.pos c (Ev.eq ?_)
    rw [if_pos c, w64 (x := 1 + (t.size : Int)) (by omega) (by omega), w64 (x := 1 + (t.size : Int) + 7) (by omega) (by omega), Int.tdiv_eq_ediv_of_nonneg (by omega), w64 (by omega) (by omega)]
    congr 1
    omega
  · refine Ev.neg c (Ev.eq ?_)
    rw [if_neg c]
end Go.Proofs.YtnhladaobcnmhaaDoor.Abs.Pu
