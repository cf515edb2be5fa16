/- RootsOf: the reference and the program come to the same. -/
import Derived.Test.YtnhladaobcnmhaaDoorPImage
import Derived.Test.YtnhladaobcnmhaaDoorPAny
namespace Go.Proofs.YtnhladaobcnmhaaDoor.Abs.Pu
open Go Go.RowKit
set_option linter.unusedVariables false
set_option linter.unusedSectionVars false
set_option linter.unusedSimpArgs false
def rootsR (c : Cfg) (s : ByteArray) : List Int × Bool := if isImageB c s = true then (if (slotsR s).all (dataRefB c) = true then (slotsR s, true) else ([], false)) else ([], false)
theorem impl_RootsOf_ev (c : Cfg) (s : ByteArray) (hs : ∀ x ∈ c.2.2.2, x.size ≤ 1048576) : Ev (fun k => impl_RootsOf.f k c.1 c.2.1 c.2.2.1 c.2.2.2 s) (rootsR c s) := by
  unfold impl_RootsOf.f rootsR
  refine Ev.bind (impl_isImage_ev c s hs) ?_
  by_cases h : isImageB c s = true
  rotate_left
  · rw [if_neg h]
    exact Ev.neg h (Ev.eq rfl)
  rw [if_pos h]
  obtain ⟨hc, hz⟩ := isImageB_facts h
  have hf := configOk_facts hc
  have hl : (slotsR s).length = 8 := by simp [slotsR]
  refine Ev.pos h (Ev.bind (impl_wordsOf_ev s (by omega) (by omega)) ?_)
  have hany : Ev (fun k => slices_ContainsFunc_int64_at_impl_RootsOf_1.f k (slotsR s) (c.1, (c.2.1, (c.2.2.1, c.2.2.2)))) ((slotsR s).any fun x => !dataRefB c x) := by
    unfold slices_ContainsFunc_int64_at_impl_RootsOf_1.f slices_IndexFunc_int64_at_impl_RootsOf_1.f
    refine contains_ev (d := 0) (l := slotsR s) (by omega) (g := fun k i => slices_IndexFunc_int64_at_impl_RootsOf_1.p6 k (slotsR s) (c.1, (c.2.1, (c.2.2.1, c.2.2.2))) ((slotsR s).length : Int) i) (t := fun _ x => impl_RootsOf_1.f x (c.1, (c.2.1, (c.2.2.1, c.2.2.2)))) (f := fun x => !dataRefB c x) (fun k i => by rw [slices_IndexFunc_int64_at_impl_RootsOf_1.p6]; rfl) (fun x hx => ?_)
    unfold impl_RootsOf_1.f
    exact Ev.bindo (impl_isDataRef_f c hc x) (Ev.eq rfl)
  refine Ev.bind hany ?_
  by_cases h2 : (slotsR s).all (dataRefB c) = true
  · rw [if_pos h2]
    refine Ev.neg ?_ (Ev.eq rfl)
    rw [List.all_eq_not_any_not] at h2
    simpa using h2
  · rw [if_neg h2]
    refine Ev.pos ?_ (Ev.eq rfl)
    rw [List.all_eq_not_any_not] at h2
    simpa using h2
theorem spec_RootsOf_ev (c : Cfg) (s : ByteArray) (hl : c.2.2.2.length ≤ 1048576) (hs : ∀ x ∈ c.2.2.2, x.size ≤ 1048576) : Ev (fun k => spec_RootsOf.f k c.1 c.2.1 c.2.2.1 c.2.2.2 s) (rootsR c s) := by
  unfold spec_RootsOf.f rootsR
  refine Ev.bind (spec_l5Image_ev c s hl hs) ?_
  by_cases h : isImageB c s = true
  rotate_left
  · rw [if_neg h]
    exact Ev.neg h (Ev.eq rfl)
  rw [if_pos h]
  obtain ⟨hc, hz⟩ := isImageB_facts h
  have hf := configOk_facts hc
  have hsl : (slotsR s).length = 8 := by simp [slotsR]
  have e := spec_l10Slots_ev s (by omega) (by omega)
  refine Ev.pos h (Ev.bind e (Ev.bind (spec_l10Refs_ev c hc _ (by omega)) ?_))
  by_cases h2 : (slotsR s).all (dataRefB c) = true
  · rw [if_pos h2]
    exact Ev.pos h2 (Ev.bind e (Ev.eq rfl))
  · rw [if_neg h2]
    exact Ev.neg h2 (Ev.eq rfl)
theorem rootsR_length (c : Cfg) (s : ByteArray) : (rootsR c s).1.length ≤ 8 := by
  unfold rootsR
  split
  · split
    · simp [slotsR]
    · simp
  · simp
end Go.Proofs.YtnhladaobcnmhaaDoor.Abs.Pu
