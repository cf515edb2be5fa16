/- FnExactRootsOf: of all arguments the program's RootsOf answers as the reference's does, leaves them as they are, and shares no memory. No condition. -/
import Derived.Test.YtnhladaobcnmhaaDoorPRootsOf
import Derived.Test.YtnhladaobcnmhaaDoorPIntEq
import Derived.Test.YtnhladaobcnmhaaDoorPMarkI
namespace Go.Proofs.YtnhladaobcnmhaaDoor.Abs.Pu
open Go Go.RowKit
set_option linter.unusedVariables false
set_option linter.unusedSectionVars false
set_option linter.unusedSimpArgs false
theorem FnExactRootsOf : laws_FnExactRootsOf.Pure := by
  intro c s oc os
  obtain ⟨_, _, _, tl, ts⟩ := oc
  refine Ev.rounds ?_
  unfold laws_FnExactRootsOf.f
  refine Ev.cases (fun _ => Ev.eq rfl) (fun c0 => ?_)
  obtain ⟨r, e, hr⟩ := szConfig_ev c tl ts 1048576 (by omega) (by omega)
  refine Ev.bind e (Ev.cases (fun _ => Ev.eq rfl) (fun c1 => ?_))
  obtain ⟨_, hl, hs⟩ := hr (by omega)
  have t1 := toConfig_ev c hl
  have e1 := spec_RootsOf_ev c s hl hs
  have e2 := impl_RootsOf_ev c s hs
  have hlen := rootsR_length c s
  generalize rootsR c s = R at *
  have q := eqInt64S_ev R.1 (by omega)
  obtain ⟨l', m1⟩ := markStringS_ev c.2.2.2 1 (by omega) (by omega) hl
  have m2 := markInt64S_ev R.1 1 (by omega) (by omega) (by omega)
  have m3 := heldInt64S_ev 1 R.1.length (by omega) (by omega) (by omega)
  refine Ev.bind t1 (Ev.bind e1 (Ev.bind t1 (Ev.bind e2 (Ev.bind q (Ev.pos rfl ?_)))))
  refine Ev.step (fun k => by rw [laws_FnExactRootsOf.p31]) ?_
  refine Ev.neg (by simp) (Ev.bind t1 (Ev.bind (eqConfig_ev c hl) (Ev.pos rfl ?_)))
  refine Ev.bind (a := (l', 1 + (c.2.2.2.length : Int))) ?_ ?_
  · unfold laws_markConfig.f
    exact Ev.bind m1 (Ev.eq rfl)
  refine Ev.neg (by simp only []; omega) (Ev.bind q (Ev.pos rfl ?_))
  refine Ev.step (fun k => by rw [laws_FnExactRootsOf.p51]) ?_
  refine Ev.neg (by simp) (Ev.bind m2 (Ev.bind m3 (Ev.neg (by omega) (Ev.pos rfl ?_))))
  exact Ev.bind t1 (Ev.bind e2 (Ev.bind q (Ev.pos rfl (Ev.pos rfl (Ev.bind m3 (Ev.neg (by omega) (Ev.pos rfl (Ev.eq rfl))))))))
end Go.Proofs.YtnhladaobcnmhaaDoor.Abs.Pu
