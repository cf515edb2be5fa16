/- FnExactOldObject: of all arguments the program's OldObject answers as the reference's does, leaves them as they are, and shares no memory. No condition. -/
import Derived.Test.YtlljkankongifaaDoorPOldObj
import Derived.Test.YtlljkankongifaaDoorPIntEq
import Derived.Test.YtlljkankongifaaDoorPMarkI
namespace Go.Proofs.YtlljkankongifaaDoor.Abs.Pu
open Go Go.RowKit
set_option linter.unusedVariables false
set_option linter.unusedSectionVars false
set_option linter.unusedSimpArgs false
theorem eqObj1_ev (o : Int × List Int) (hl : o.2.length ≤ 1048576) : Ev (fun k => laws_eqObj.f k o.1 o.2 o.1 o.2) true := by
  unfold laws_eqObj.f
  exact Ev.pos rfl (Ev.bind (eqInt64S_ev o.2 hl) (Ev.pos rfl (Ev.eq rfl)))
theorem FnExactOldObject : laws_FnExactOldObject.Pure := by
  intro c s line oc os oline
  obtain ⟨_, _, _, tl, ts⟩ := oc
  refine Ev.rounds ?_
  unfold laws_FnExactOldObject.f
  refine Ev.cases (fun _ => Ev.eq rfl) (fun c0 => ?_)
  obtain ⟨r, e, hr⟩ := szConfig_ev c tl ts 1048576 (by omega) (by omega)
  refine Ev.bind e (Ev.cases (fun _ => Ev.eq rfl) (fun c1 => ?_))
  obtain ⟨_, hl, hs⟩ := hr (by omega)
  have t1 := toConfig_ev c hl
  have e1 := spec_OldObject_ev c s line hl hs
  have e2 := impl_OldObject_ev c s line hs
  have hlen : (oldO c s line).1.2.length ≤ 23 := by
    unfold oldO
    split
    · exact oldR_length _ _ _
    · exact Nat.zero_le _
  generalize oldO c s line = R at *
  have q := eqObj1_ev R.1 (by omega)
  obtain ⟨l', m1⟩ := markStringS_ev c.2.2.2 1 (by omega) (by omega) hl
  have m2 := markInt64S_ev R.1.2 1 (by omega) (by omega) (by omega)
  have m3 := heldInt64S_ev 1 R.1.2.length (by omega) (by omega) (by omega)
  have m2' : Ev (fun k => laws_markObj.f k R.1.1 R.1.2 1) (marks 1 R.1.2.length, 1 + (R.1.2.length : Int)) := by
    unfold laws_markObj.f
    exact Ev.bind m2 (Ev.eq rfl)
  have m3' : Ev (fun k => laws_heldObj.f k R.1.1 (marks 1 R.1.2.length) 1) (1 + (R.1.2.length : Int)) := by
    unfold laws_heldObj.f
    exact Ev.bind m3 (Ev.neg (by omega) (Ev.eq rfl))
  refine Ev.bind t1 (Ev.bind e1 (Ev.bind t1 (Ev.bind e2 (Ev.bind q (Ev.pos rfl ?_)))))
  refine Ev.step (fun k => by rw [laws_FnExactOldObject.p31]) ?_
  refine Ev.neg (by simp) (Ev.bind t1 (Ev.bind (eqConfig_ev c hl) (Ev.pos rfl ?_)))
  refine Ev.bind (a := (l', 1 + (c.2.2.2.length : Int))) ?_ ?_
  · unfold laws_markConfig.f
    exact Ev.bind m1 (Ev.eq rfl)
  refine Ev.neg (by simp only []; omega) (Ev.bind q (Ev.pos rfl ?_))
  refine Ev.step (fun k => by rw [laws_FnExactOldObject.p51]) ?_
  refine Ev.neg (by simp) (Ev.bind m2' (Ev.bind m3' (Ev.neg (by omega) (Ev.pos rfl ?_))))
  exact Ev.bind t1 (Ev.bind e2 (Ev.bind q (Ev.pos rfl (Ev.pos rfl (Ev.bind m3' (Ev.neg (by omega) (Ev.pos rfl (Ev.eq rfl))))))))
end Go.Proofs.YtlljkankongifaaDoor.Abs.Pu
