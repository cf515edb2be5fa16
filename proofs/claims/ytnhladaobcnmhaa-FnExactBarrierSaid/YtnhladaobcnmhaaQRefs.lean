/- References: what RefKind of the reference and of the program come to: one function of the number. No condition. -/
import Derived.Test.YtnhladaobcnmhaaQSets
import Derived.Test.YtnhladaobcnmhaaXSpecRefKind
import Derived.Test.YtnhladaobcnmhaaXImplRefKind
import Derived.Test.YtnhladaobcnmhaaXImplqisYoung
namespace Go.Proofs.Ytnhladaobcnmhaa.Pure
open Go.RowKit Go.Proofs.Ytnhladaobcnmhaa.X Go.Proofs.YtnhladaobcnmhaaW.PrintWords Go.Proofs.YtnhladaobcnmhaaW.PrintLast
set_option linter.unusedVariables false
set_option linter.unusedSimpArgs false

def refk (a : Int) : Int := if a = 0 then 0 else if 2 ≤ a ∧ a ≤ 254 ∧ a % 2 = 0 then 1 else if 1 ≤ a ∧ a ≤ 799 ∧ a % 2 = 1 then 2 else -1
theorem refk_cases (a : Int) : refk a = 0 ∨ refk a = 1 ∨ refk a = 2 ∨ refk a = -1 := by
  unfold refk
  repeat' split
  all_goals simp
theorem tmod2 {a : Int} (h : 0 ≤ a) : Int.tmod a 2 = a % 2 := Int.tmod_eq_emod_of_nonneg h
theorem spec_RefKind_ev (a : Int) : Ev (fun k => spec_RefKind.f k a) (refk a) := by
  have j : ∀ b : Bool, (b = true → 2 ≤ a ∧ a ≤ 254 ∧ a % 2 = 0) → (b = false → ¬ (2 ≤ a ∧ a ≤ 254 ∧ a % 2 = 0)) → ¬ a = 0 → Ev (fun k => spec_RefKind.j0 k a b) (refk a) := by
    intro b h1 h2 h0
    refine Ev.step (fun k => by rw [spec_RefKind.j0]) ?_
    refine Ev.cases (fun e => Ev.eq ?_) (fun e => ?_)
    · unfold refk; rw [if_neg h0, if_pos (h1 e)]
    · have h2 := h2 (by simpa using e)
      refine Ev.bindo (l1In_f _ _ _) (Ev.cases (fun c => ?_) (fun c => Ev.eq ?_))
      · simp only [Bool.and_eq_true, decide_eq_true_eq] at c
        rw [tmod2 (by omega)]
        refine Ev.cases (fun c2 => Ev.eq ?_) (fun c2 => Ev.eq ?_)
        · unfold refk; rw [if_neg h0, if_neg h2, if_pos ⟨c.1, c.2, c2⟩]
        · unfold refk; rw [if_neg h0, if_neg h2, if_neg (by omega)]
      · unfold refk; rw [if_neg h0, if_neg h2, if_neg (fun x => c (by simp [x.1, x.2.1]))]
  unfold spec_RefKind.f
  refine Ev.cases (fun e => Ev.eq ?_) (fun e => ?_)
  · unfold refk; rw [if_pos e]
  · refine Ev.bindo (l1In_f _ _ _) (Ev.cases (fun c => ?_) (fun c => ?_))
    · simp only [Bool.and_eq_true, decide_eq_true_eq] at c
      rw [tmod2 (by omega)]
      exact j _ (fun h => ⟨c.1, c.2, by simpa using h⟩) (fun h x => by simp [x.2.2] at h) e
    · exact j _ (fun h => by cases h) (fun _ x => c (by simp [x.1, x.2.1])) e
theorem impl_RefKind_ev (a : Int) : Ev (fun k => impl_RefKind.f k a) (refk a) := by
  have j : ∀ b : Bool, (b = true → 2 ≤ a ∧ a ≤ 254 ∧ a % 2 = 0) → (b = false → ¬ (2 ≤ a ∧ a ≤ 254 ∧ a % 2 = 0)) → ¬ a = 0 → Ev (fun k => impl_RefKind.j0 k a b) (refk a) := by
    intro b h1 h2 h0
    refine Ev.step (fun k => by rw [impl_RefKind.j0]) ?_
    refine Ev.cases (fun e => Ev.eq ?_) (fun e => ?_)
    · unfold refk; rw [if_neg h0, if_pos (h1 e)]
    · have h2 := h2 (by simpa using e)
      refine Ev.bindo (within_f _ _ _) (Ev.cases (fun c => ?_) (fun c => Ev.eq ?_))
      · simp only [Bool.and_eq_true, decide_eq_true_eq] at c
        rw [tmod2 (by omega)]
        refine Ev.cases (fun c2 => Ev.eq ?_) (fun c2 => Ev.eq ?_)
        · unfold refk; rw [if_neg h0, if_neg h2, if_pos ⟨c.1, c.2, c2⟩]
        · unfold refk; rw [if_neg h0, if_neg h2, if_neg (by omega)]
      · unfold refk; rw [if_neg h0, if_neg h2, if_neg (fun x => c (by simp [x.1, x.2.1]))]
  unfold impl_RefKind.f
  refine Ev.cases (fun e => Ev.eq ?_) (fun e => ?_)
  · unfold refk; rw [if_pos e]
  · refine Ev.bindo (within_f _ _ _) (Ev.cases (fun c => ?_) (fun c => ?_))
    · simp only [Bool.and_eq_true, decide_eq_true_eq] at c
      rw [tmod2 (by omega)]
      exact j _ (fun h => ⟨c.1, c.2, by simpa using h⟩) (fun h x => by simp [x.2.2] at h) e
    · exact j _ (fun h => by cases h) (fun _ x => c (by simp [x.1, x.2.1])) e
theorem impl_isYoung_ev (a : Int) : Ev (fun k => impl_isYoung.f k a) (decide (refk a = 2)) := by
  unfold impl_isYoung.f
  refine Ev.bind (impl_RefKind_ev a) (Ev.eq ?_)
  by_cases h : refk a = 2 <;> simp [h]
end Go.Proofs.Ytnhladaobcnmhaa.Pure
