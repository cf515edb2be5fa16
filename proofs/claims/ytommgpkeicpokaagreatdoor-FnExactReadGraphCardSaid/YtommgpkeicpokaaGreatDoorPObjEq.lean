/- Graphs in the laws: the comparison with itself. -/
import Derived.Test.YtommgpkeicpokaaGreatDoorPIntEq
namespace Go.Proofs.YtommgpkeicpokaaGreatDoor.Abs
open Go Go.RowKit
set_option linter.unusedVariables false
set_option linter.unusedSectionVars false
set_option linter.unusedSimpArgs false
theorem eqObj_ev (o : Int × List Int) (hl : o.2.length ≤ 1048576) : Ev (fun k => laws_eqObj.f k o.1 o.2 o.1 o.2) true := by
  unfold laws_eqObj.f
  exact Ev.pos rfl (Ev.bind (eqInt64S_ev o.2 hl) (Ev.pos rfl (Ev.eq rfl)))
theorem eqObjS_ev (l : List (Int × List Int)) (hl : l.length ≤ 1048576) (hs : ∀ x ∈ l, x.2.length ≤ 1048576) : Ev (fun k => laws_eqObjS.f k l l) true := by
  unfold laws_eqObjS.f
  refine Ev.pos rfl ?_
  refine each_ev (n := l.length) (g := fun k i => laws_eqObjS.p14 k l l i) (fun i hi hr => ?_) ?_
  · refine Ev.step (fun k => by rw [laws_eqObjS.p14]) ?_
    rw [w64s (by omega), rdg hi]
    exact Ev.pos (by omega) (Ev.pos (by omega) (Ev.pos (by omega) (Ev.pos (by omega) (Ev.pos (by omega) (Ev.bind (eqObj_ev l[i] (hs _ (List.getElem_mem hi))) (Ev.pos rfl hr))))))
  · refine Ev.step (fun k => by rw [laws_eqObjS.p14]) ?_
    exact Ev.neg (by omega) (Ev.eq rfl)
theorem eqGraph_ev (g : List Int × List (Int × List Int)) (h1 : g.1.length ≤ 1048576) (h2 : g.2.length ≤ 1048576) (hs : ∀ x ∈ g.2, x.2.length ≤ 1048576) : Ev (fun k => laws_eqGraph.f k g.1 g.2 g.1 g.2) true := by
  unfold laws_eqGraph.f
  exact Ev.bind (eqInt64S_ev g.1 h1) (Ev.pos rfl (Ev.bind (eqObjS_ev g.2 h2 hs) (Ev.pos rfl (Ev.eq rfl))))
end Go.Proofs.YtommgpkeicpokaaGreatDoor.Abs
