/- ConfigOk: the reference and the program ask the same. For at most 2^20 types of at most 2^20 bytes. -/
import Derived.Test.YtlljkankongifaaDoorPTypes
import Derived.Test.YtlljkankongifaaDoorPLoop
namespace Go.Proofs.YtlljkankongifaaDoor.Abs.Pu
open Go Go.RowKit
set_option linter.unusedVariables false
set_option linter.unusedSectionVars false
set_option linter.unusedSimpArgs false
abbrev Cfg := Int × Int × Int × List ByteArray
def configOk (c : Cfg) : Bool := (decide (8 ≤ c.1) && decide (c.1 ≤ 128)) && ((decide (1 ≤ c.2.1) && decide (c.2.1 ≤ 32 ∧ c.2.1 ≤ c.1 - 5)) && ((decide (2 ≤ c.2.2.1) && decide (c.2.2.1 ≤ 400)) && typesOk c.2.2.2))
theorem impl_ConfigOk_ev (c : Cfg) (hs : ∀ x ∈ c.2.2.2, x.size ≤ 1048576) : Ev (fun k => impl_ConfigOk.f k c.1 c.2.1 c.2.2.1 c.2.2.2) (configOk c) := by
  unfold impl_ConfigOk.f configOk
  refine Ev.bindo (within_f _ _ _) (Ev.cases (fun h => ?_) (fun h => by rw [Bool.eq_false_iff.2 h, Bool.false_and]; exact Ev.eq rfl))
  rw [h, Bool.true_and]
  simp only [Bool.and_eq_true, decide_eq_true_eq] at h
  rw [w64 (x := c.1 - 5) (by omega) (by omega)]
  have e : (decide (1 ≤ c.2.1) && decide (c.2.1 ≤ (if c.1 - 5 < 32 then c.1 - 5 else 32))) = (decide (1 ≤ c.2.1) && decide (c.2.1 ≤ 32 ∧ c.2.1 ≤ c.1 - 5)) := by
    congr 1
    rw [decide_eq_decide]
    split <;> omega
  refine Ev.bindo (within_f _ _ _) ?_
  rw [e]
  refine Ev.cases (fun h2 => ?_) (fun h2 => by rw [Bool.eq_false_iff.2 h2, Bool.false_and]; exact Ev.eq rfl)
  rw [h2, Bool.true_and]
  refine Ev.bindo (within_f _ _ _) (Ev.cases (fun h3 => ?_) (fun h3 => by rw [Bool.eq_false_iff.2 h3, Bool.false_and]; exact Ev.eq rfl))
  rw [h3, Bool.true_and]
  exact Ev.bind (impl_TypesOk_ev _ hs) (Ev.eq rfl)
theorem spec_ConfigOk_ev (c : Cfg) (hl : c.2.2.2.length ≤ 1048576) (hs : ∀ x ∈ c.2.2.2, x.size ≤ 1048576) : Ev (fun k => spec_ConfigOk.f k c.1 c.2.1 c.2.2.1 c.2.2.2) (configOk c) := by
  unfold spec_ConfigOk.f configOk
  refine Ev.bindo (l1In_f _ _ _) (Ev.cases (fun h => ?_) (fun h => by rw [Bool.eq_false_iff.2 h, Bool.false_and]; exact Ev.eq rfl))
  rw [h, Bool.true_and]
  simp only [Bool.and_eq_true, decide_eq_true_eq] at h
  rw [w64 (x := c.1 - 5) (by omega) (by omega)]
  refine Ev.bindo (l1In_f _ _ _) (Ev.cases (fun h2 => ?_) (fun h2 => ?_))
  · simp only [Bool.and_eq_true, decide_eq_true_eq] at h2
    refine Ev.cases (fun h4 => ?_) (fun h4 => ?_)
    · rw [decide_eq_true h2.1, decide_eq_true (show c.2.1 ≤ 32 ∧ c.2.1 ≤ c.1 - 5 from ⟨h2.2, h4⟩), Bool.true_and, Bool.true_and]
      refine Ev.bindo (l1In_f _ _ _) (Ev.cases (fun h3 => ?_) (fun h3 => by rw [Bool.eq_false_iff.2 h3, Bool.false_and]; exact Ev.eq rfl))
      rw [h3, Bool.true_and]
      exact Ev.bind (spec_TypesOk_ev _ hl hs) (Ev.eq rfl)
    · rw [decide_eq_false (show ¬ (c.2.1 ≤ 32 ∧ c.2.1 ≤ c.1 - 5) from fun h => h4 h.2), Bool.and_false, Bool.false_and]
      exact Ev.eq rfl
  · have : (decide (1 ≤ c.2.1) && decide (c.2.1 ≤ 32 ∧ c.2.1 ≤ c.1 - 5)) = false := by
      rw [Bool.eq_false_iff]
      intro h3
      apply h2
      simp only [Bool.and_eq_true, decide_eq_true_eq] at h3 ⊢
      omega
    rw [this, Bool.false_and]
    exact Ev.eq rfl
theorem configOk_facts {c : Cfg} (h : configOk c = true) : 8 ≤ c.1 ∧ c.1 ≤ 128 ∧ 1 ≤ c.2.1 ∧ c.2.1 ≤ 32 ∧ c.2.1 ≤ c.1 - 5 ∧ 2 ≤ c.2.2.1 ∧ c.2.2.1 ≤ 400 ∧ typesOk c.2.2.2 = true := by
  unfold configOk at h
  simp only [Bool.and_eq_true, decide_eq_true_eq] at h
  exact ⟨h.1.1, h.1.2, h.2.1.1, h.2.1.2.1, h.2.1.2.2, h.2.2.1.1, h.2.2.1.2, h.2.2.2⟩
end Go.Proofs.YtlljkankongifaaDoor.Abs.Pu
