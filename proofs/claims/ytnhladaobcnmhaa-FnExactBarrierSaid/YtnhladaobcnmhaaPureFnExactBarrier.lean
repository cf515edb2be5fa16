/- FnExactBarrier: the program's Barrier answers as the reference's, for every set, word and reference, leaves the set as it was, and hands back memory of its own. No condition. -/
import Derived.Test.YtnhladaobcnmhaaXLawsFnExactBarrier
import Derived.Test.YtnhladaobcnmhaaQInts
import Derived.Test.YtnhladaobcnmhaaQBarrier
namespace Go.Proofs.Ytnhladaobcnmhaa.Pure
open Go.RowKit Go.Proofs.Ytnhladaobcnmhaa.X Go.Proofs.YtnhladaobcnmhaaW.PrintWords Go.Proofs.YtnhladaobcnmhaaW.PrintLast
theorem FnExactBarrier : laws_FnExactBarrier.Pure := by
  intro l word ref _ hl8 _ _ _
  refine Ev.rounds ?_
  unfold laws_FnExactBarrier.f
  refine Ev.cases (fun _ => Ev.eq rfl) (fun h0 => ?_)
  have hl : l.length ≤ 1099511627776 := by omega
  have e1 := spec_Barrier_ev l word ref hl
  have e2 := impl_Barrier_ev l word ref hl
  have hn := barrierR_length l word ref
  generalize barrierR l word ref = r at *
  have hn : r.1.length ≤ 1099511627776 := by omega
  refine Ev.bind (toInt64S_ev l hl) (Ev.bind e1 (Ev.bind (toInt64S_ev l hl) (Ev.bind e2 (Ev.bind (eqInt64S_same r.1 hn) (Ev.pos rfl ?_)))))
  refine Ev.step (fun k => by rw [laws_FnExactBarrier.j0]) (Ev.neg (by simp) ?_)
  refine Ev.bind (toInt64S_ev l hl) (Ev.bind (eqInt64S_same l hl) (Ev.pos rfl (Ev.bind (markInt64S_ev l 1 (by omega) (by omega) hl) (Ev.neg (by simp only []; omega) (Ev.bind (eqInt64S_same r.1 hn) (Ev.pos rfl ?_))))))
  refine Ev.step (fun k => by rw [laws_FnExactBarrier.j1]) (Ev.neg (by simp) ?_)
  refine Ev.bind (markInt64S_ev r.1 1 (by omega) (by omega) hn) (Ev.bind (heldInt64S_ev 1 r.1.length (by omega) (by omega) hn) (Ev.neg (by omega) (Ev.pos rfl ?_)))
  refine Ev.bind (toInt64S_ev l hl) (Ev.bind e2 (Ev.bind (eqInt64S_same r.1 hn) (Ev.pos rfl ?_)))
  refine Ev.step (fun k => by rw [laws_FnExactBarrier.j2]) (Ev.neg (by simp) ?_)
  exact Ev.bind (heldInt64S_ev 1 r.1.length (by omega) (by omega) hn) (Ev.neg (by omega) (Ev.pos rfl (Ev.eq rfl)))
end Go.Proofs.Ytnhladaobcnmhaa.Pure
