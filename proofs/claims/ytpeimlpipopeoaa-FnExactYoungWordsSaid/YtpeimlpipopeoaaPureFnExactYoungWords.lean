/- FnExactYoungWords: the program's YoungWords answers as the reference's, for every image and set, leaves the set as it was, and hands back memory of its own. No condition. -/
import Derived.Test.YtpeimlpipopeoaaXLawsFnExactYoungWords
import Derived.Test.YtpeimlpipopeoaaQInts
import Derived.Test.YtpeimlpipopeoaaQYoungs
namespace Go.Proofs.Ytpeimlpipopeoaa.Pure
open Go.RowKit Go.Proofs.Ytpeimlpipopeoaa.X Go.Proofs.YtpeimlpipopeoaaW.PrintWords Go.Proofs.YtpeimlpipopeoaaW.PrintLast

theorem FnExactYoungWords : laws_FnExactYoungWords.Pure := by
  intro s l hs _ hl8 hw
  have hs : s.size ≤ 140737488355328 := by omega
  refine Ev.rounds ?_
  unfold laws_FnExactYoungWords.f
  refine Ev.cases (fun _ => Ev.eq rfl) (fun h0 => Ev.cases (fun _ => Ev.eq rfl) (fun h1 => ?_))
  have hl : l.length ≤ 1099511627776 := by omega
  obtain ⟨r, b, hr⟩ : ∃ r b, youngWords s l = (r, b) := ⟨_, _, rfl⟩
  have hn : r.length ≤ 1099511627776 := by
    unfold youngWords at hr
    split at hr
    · split at hr
      · rename_i q hq
        have := youngs_length hq
        cases hr
        omega
      · cases hr; simp
    · cases hr; simp
  have e1 := spec_YoungWords_ev s l hs hl
  have e2 := impl_YoungWords_ev s l hs hl
  rw [hr] at e1 e2
  refine Ev.bind (toInt64S_ev l hl) (Ev.bind e1 (Ev.bind (toInt64S_ev l hl) (Ev.bind e2 (Ev.bind (eqInt64S_same r hn) (Ev.pos rfl ?_)))))
  refine Ev.step (fun k => by rw [laws_FnExactYoungWords.j0]) (Ev.neg (by simp) ?_)
  refine Ev.bind (toInt64S_ev l hl) (Ev.bind (eqInt64S_same l hl) (Ev.pos rfl (Ev.bind (markInt64S_ev l 1 (by omega) (by omega) hl) (Ev.neg (by simp only []; omega) (Ev.bind (eqInt64S_same r hn) (Ev.pos rfl ?_))))))
  refine Ev.step (fun k => by rw [laws_FnExactYoungWords.j1]) (Ev.neg (by simp) ?_)
  refine Ev.bind (markInt64S_ev r 1 (by omega) (by omega) hn) (Ev.bind (heldInt64S_ev 1 r.length (by omega) (by omega) hn) (Ev.neg (by omega) (Ev.pos rfl ?_)))
  refine Ev.bind (toInt64S_ev l hl) (Ev.bind e2 (Ev.bind (eqInt64S_same r hn) (Ev.pos rfl ?_)))
  refine Ev.step (fun k => by rw [laws_FnExactYoungWords.j2]) (Ev.neg (by simp) ?_)
  exact Ev.bind (heldInt64S_ev 1 r.length (by omega) (by omega) hn) (Ev.neg (by omega) (Ev.pos rfl (Ev.eq rfl)))
end Go.Proofs.Ytpeimlpipopeoaa.Pure
