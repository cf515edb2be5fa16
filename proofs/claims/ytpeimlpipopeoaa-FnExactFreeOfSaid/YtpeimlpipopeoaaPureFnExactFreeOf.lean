/- FnExactFreeOf: the program's FreeOf answers as the reference's, for every map and range. No condition. -/
import Derived.Test.YtpeimlpipopeoaaXLawsFnExactFreeOf
import Derived.Test.YtpeimlpipopeoaaQFinds
namespace Go.Proofs.Ytpeimlpipopeoaa.Pure
open Go.RowKit Go.Proofs.Ytpeimlpipopeoaa.X Go.Proofs.YtpeimlpipopeoaaW.PrintWords Go.Proofs.YtpeimlpipopeoaaW.PrintLast
theorem FnExactFreeOf : laws_FnExactFreeOf.Pure := by
  intro s a b _ _ _
  refine Ev.rounds ?_
  unfold laws_FnExactFreeOf.f
  refine Ev.cases (fun _ => Ev.eq rfl) (fun _ => ?_)
  exact Ev.bind (spec_FreeOf_ev s a b) (Ev.bind (impl_FreeOf_ev s a b) (Ev.pos rfl (Ev.eq rfl)))
end Go.Proofs.Ytpeimlpipopeoaa.Pure
