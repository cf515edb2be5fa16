/- FnExactCardsOf: the program's CardsOf answers as the reference's, for every list, leaves it as it was, and hands back memory of its own. No condition. -/
import Derived.Test.YtpeimlpipopeoaaXLawsFnExactCardsOf
import Derived.Test.YtpeimlpipopeoaaQInts
import Derived.Test.YtpeimlpipopeoaaQCards
namespace Go.Proofs.Ytpeimlpipopeoaa.Pure
open Go.RowKit Go.Proofs.Ytpeimlpipopeoaa.X Go.Proofs.YtpeimlpipopeoaaW.PrintWords Go.Proofs.YtpeimlpipopeoaaW.PrintLast
theorem FnExactCardsOf : laws_FnExactCardsOf.Pure := by
  intro l _ hl8 _
  refine Ev.rounds ?_
  unfold laws_FnExactCardsOf.f
  refine Ev.cases (fun _ => Ev.eq rfl) (fun _ => ?_)
  have hl : l.length ≤ 1099511627776 := by omega
  have hn : (cardsOf l).length ≤ 1099511627776 := by have := cardsOf_length l; omega
  refine Ev.bind (toInt64S_ev l hl) (Ev.bind (spec_CardsOf_ev l hl) (Ev.bind (toInt64S_ev l hl) (Ev.bind (impl_CardsOf_ev l hl) (Ev.bind (eqInt64S_same _ hn) (Ev.pos rfl ?_)))))
  refine Ev.bind (toInt64S_ev l hl) (Ev.bind (eqInt64S_same l hl) (Ev.pos rfl (Ev.bind (markInt64S_ev l 1 (by omega) (by omega) hl) (Ev.neg (by simp only []; omega) (Ev.bind (eqInt64S_same _ hn) ?_)))))
  refine Ev.step (fun k => by rw [laws_FnExactCardsOf.j0]) (Ev.neg (by simp) ?_)
  refine Ev.bind (markInt64S_ev _ 1 (by omega) (by omega) hn) (Ev.bind (heldInt64S_ev 1 _ (by omega) (by omega) hn) (Ev.neg (by omega) (Ev.pos rfl ?_)))
  refine Ev.bind (toInt64S_ev l hl) (Ev.bind (impl_CardsOf_ev l hl) (Ev.bind (eqInt64S_same _ hn) (Ev.pos rfl ?_)))
  exact Ev.bind (heldInt64S_ev 1 _ (by omega) (by omega) hn) (Ev.neg (by omega) (Ev.pos rfl (Ev.eq rfl)))
end Go.Proofs.Ytpeimlpipopeoaa.Pure
