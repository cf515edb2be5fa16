/- ObjOk: the reference and the program ask the same. For at most 2^20 types of at most 2^20 bytes. -/
import Derived.Test.YtlljkankongifaaDoorPTypes
import Derived.Test.YtlljkankongifaaDoorPRefs
import Derived.Test.YtlljkankongifaaDoorPObjW
namespace Go.Proofs.YtlljkankongifaaDoor.Abs.Pu
open Go Go.RowKit
set_option linter.unusedVariables false
set_option linter.unusedSectionVars false
set_option linter.unusedSimpArgs false
def okRef (x : Int) : Bool := decide (refk x ≥ 0)
def objOkB (types : List ByteArray) (o : Int × List Int) : Bool := typesOk types && objW okRef types o
theorem impl_ObjOk_ev (types : List ByteArray) (o : Int × List Int) (hs : ∀ x ∈ types, x.size ≤ 1048576) : Ev (fun k => impl_ObjOk.f k types o.1 o.2) (objOkB types o) := by
  unfold impl_ObjOk.f objOkB
  refine Ev.bind (impl_TypesOk_ev types hs) (Ev.cases (fun ht => ?_) (fun ht => by rw [Bool.eq_false_iff.2 ht, Bool.false_and]; exact Ev.eq rfl))
  rw [ht, Bool.true_and]
  have htl := types_len ht
  have hts := type_size ht o.1
  refine Ev.bind (a := objW okRef types o) ?_ (Ev.eq rfl)
  unfold impl_isObject_at_impl_ObjOk_1.f impl_size_string.f objW
  refine Ev.bindo rfl (Ev.bindo (within_f _ _ _) ?_)
  rw [w64 (x := (types.length : Int) - 1) (by omega) (by omega)]
  refine Ev.cases (fun c => ?_) (fun c => ?_)
  · rw [c, Bool.true_and]
    simp only [Bool.and_eq_true, decide_eq_true_eq] at c
    refine Ev.pos c.1 (Ev.pos (by omega) ?_)
    by_cases c2 : o.2.length = (rdOf ByteArray.empty types o.1).size
    · rw [decide_eq_true c2, Bool.true_and]
      refine Ev.pos (by omega) ?_
      refine refs_ev (g := fun k i => impl_isObject_at_impl_ObjOk_1.p14 k types o.1 o.2 o.2 (o.2.length : Int) i) (t := fun _ x => impl_ObjOk_1.f x) c.1 (by omega) c2 (by omega) (fun k i => by rw [impl_isObject_at_impl_ObjOk_1.p14]) (fun x _ => ?_)
      unfold impl_ObjOk_1.f
      exact Ev.bindo (impl_RefKind_f x) (Ev.eq rfl)
    · rw [decide_eq_false c2, Bool.false_and]
      exact Ev.neg (by omega) (Ev.eq rfl)
  · rw [Bool.eq_false_iff.2 c, Bool.false_and]
    exact Ev.eq rfl
theorem spec_ObjOk_ev (types : List ByteArray) (o : Int × List Int) (hl : types.length ≤ 1048576) (hs : ∀ x ∈ types, x.size ≤ 1048576) : Ev (fun k => spec_ObjOk.f k types o.1 o.2) (objOkB types o) := by
  unfold spec_ObjOk.f objOkB
  refine Ev.bind (spec_TypesOk_ev types hl hs) (Ev.cases (fun ht => ?_) (fun ht => by rw [Bool.eq_false_iff.2 ht, Bool.false_and]; exact Ev.eq rfl))
  rw [ht, Bool.true_and]
  have htl := types_len ht
  have hts := type_size ht o.1
  unfold objW
  rw [w64 (x := (types.length : Int) - 1) (by omega) (by omega)]
  refine Ev.bindo (l1In_f _ _ _) (Ev.cases (fun c => ?_) (fun c => by rw [Bool.eq_false_iff.2 c, Bool.false_and]; exact Ev.eq rfl))
  rw [c, Bool.true_and]
  simp only [Bool.and_eq_true, decide_eq_true_eq] at c
  obtain ⟨tp, vals⟩ := o
  simp only [] at *
  refine Ev.pos c.1 (Ev.pos (by omega) ?_)
  by_cases c2 : vals.length = (rdOf ByteArray.empty types tp).size
  rotate_left
  · rw [decide_eq_false c2, Bool.false_and]
    exact Ev.neg (by omega) (Ev.eq rfl)
  rw [decide_eq_true c2, Bool.true_and]
  refine Ev.pos (by omega) ?_
  have key : ∀ i, i ≤ vals.length → Ev (fun k => spec_ObjOk.p14 k types tp vals (i : Int)) (refsB okRef (rdOf ByteArray.empty types tp) i (vals.drop i)) := by
    refine down ?_ ?_
    · rw [List.drop_eq_nil_of_le (Nat.le_refl _)]
      refine Ev.step (fun k => by rw [spec_ObjOk.p14]) ?_
      exact Ev.neg (by omega) (Ev.eq rfl)
    · intro i hi ih
      refine Ev.step (fun k => by rw [spec_ObjOk.p14]) ?_
      rw [rd_get hi, w64s (by omega), List.drop_eq_getElem_cons hi, refsB]
      refine Ev.pos (by omega) (Ev.pos c.1 (Ev.pos (by omega) (Ev.pos (by omega) (Ev.pos (by omega) ?_))))
      by_cases c3 : bt (rdOf ByteArray.empty types tp) (i : Int) = 114
      · rw [if_pos c3]
        refine Ev.pos c3 (Ev.pos (by omega) (Ev.pos (by omega) (Ev.bindo (spec_RefKind_f _) ?_)))
        by_cases c4 : refk vals[i] < 0
        · rw [show okRef vals[i] = false from decide_eq_false (by omega), Bool.false_and]
          exact Ev.pos c4 (Ev.eq rfl)
        · rw [show okRef vals[i] = true from decide_eq_true (by omega), Bool.true_and]
          exact Ev.neg c4 ih
      · rw [if_neg c3]
        exact Ev.neg c3 ih
  have h := key 0 (Nat.zero_le _)
  rw [List.drop_zero] at h
  exact h
end Go.Proofs.YtlljkankongifaaDoor.Abs.Pu
