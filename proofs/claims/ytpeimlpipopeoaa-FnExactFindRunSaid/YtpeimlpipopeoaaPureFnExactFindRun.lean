/- FnExactFindRun: the program's FindRun answers as the reference's, for every map, range and length. No condition. -/
import Derived.Test.YtpeimlpipopeoaaXLawsFnExactFindRun
import Derived.Test.YtpeimlpipopeoaaQFinds
namespace Go.Proofs.Ytpeimlpipopeoaa.Pure
open Go.RowKit Go.Proofs.Ytpeimlpipopeoaa.X Go.Proofs.YtpeimlpipopeoaaW.PrintWords Go.Proofs.YtpeimlpipopeoaaW.PrintLast
theorem FnExactFindRun : laws_FnExactFindRun.Pure := by
  intro s a b n _ _ _ _
  refine Ev.rounds ?_
  unfold laws_FnExactFindRun.f
  refine Ev.cases (fun _ => Ev.eq rfl) (fun _ => ?_)
  exact Ev.bind (spec_FindRun_ev s a b n) (Ev.bind (impl_FindRun_ev s a b n) (Ev.pos rfl (Ev.eq rfl)))
end Go.Proofs.Ytpeimlpipopeoaa.Pure
