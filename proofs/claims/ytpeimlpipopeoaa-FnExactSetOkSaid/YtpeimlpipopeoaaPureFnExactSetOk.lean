/- FnExactSetOk: the program's SetOk answers as the reference's, for every list, and leaves it as it was. No condition. -/
import Derived.Test.YtpeimlpipopeoaaXLawsFnExactSetOk
import Derived.Test.YtpeimlpipopeoaaQInts
import Derived.Test.YtpeimlpipopeoaaQSets
namespace Go.Proofs.Ytpeimlpipopeoaa.Pure
open Go.RowKit Go.Proofs.Ytpeimlpipopeoaa.X Go.Proofs.YtpeimlpipopeoaaW.PrintWords Go.Proofs.YtpeimlpipopeoaaW.PrintLast

theorem FnExactSetOk : laws_FnExactSetOk.Pure := by
  intro l _ hl hw
  have hl : l.length ≤ 1099511627776 ∨ (l.length : Int) > 1048576 := by omega
  refine Ev.rounds ?_
  unfold laws_FnExactSetOk.f
  refine Ev.cases (fun h => Ev.eq rfl) (fun h => ?_)
  have hl : l.length ≤ 1099511627776 := by omega
  refine Ev.bind (toInt64S_ev l hl) (Ev.bind (spec_SetOk_ev l hl) (Ev.bind (toInt64S_ev l hl) (Ev.bind (impl_SetOk_ev l hl) ?_)))
  refine Ev.neg (by simp) ?_
  refine Ev.bind (toInt64S_ev l hl) (Ev.bind (eqInt64S_same l hl) ?_)
  exact Ev.pos rfl (Ev.eq rfl)
end Go.Proofs.Ytpeimlpipopeoaa.Pure
