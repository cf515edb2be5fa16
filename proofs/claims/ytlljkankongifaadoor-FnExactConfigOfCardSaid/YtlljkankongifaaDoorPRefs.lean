/- References: what RefKind of the reference and of the program come to: one function of the number. No condition. -/
import Derived.Test.YtlljkankongifaaDoorPIn
import Derived.Test.YtlljkankongifaaDoorF3
namespace Go.Proofs.YtlljkankongifaaDoor.Abs
open Go Go.RowKit
set_option linter.unusedVariables false
set_option linter.unusedSectionVars false
set_option linter.unusedSimpArgs false

def refk (a : Int) : Int := if a = 0 then 0 else if 2 ≤ a ∧ a ≤ 254 ∧ a % 2 = 0 then 1 else if 1 ≤ a ∧ a ≤ 799 ∧ a % 2 = 1 then 2 else -1
theorem refk_cases (a : Int) : refk a = 0 ∨ refk a = 1 ∨ refk a = 2 ∨ refk a = -1 := by
  unfold refk
  repeat' split
  all_goals simp
theorem tmod2 {a : Int} (h : 0 ≤ a) : Int.tmod a 2 = a % 2 := Int.tmod_eq_emod_of_nonneg h
theorem refKind_body (a : Int) (w : Int → Int → Int → Option Bool) (hw : ∀ a lo hi, w a lo hi = some (decide (lo ≤ a) && decide (a ≤ hi))) :
    (if a = 0 then (some 0) else ((w a 2 254).bind fun t1 => (if t1 = true then (if (Int.tmod a 2) = 0 then (some 1) else ((w a 1 799).bind fun t2 => (if t2 = true then (if (Int.tmod a 2) = 1 then (some 2) else (some (-1))) else (some (-1))))) else ((w a 1 799).bind fun t3 => (if t3 = true then (if (Int.tmod a 2) = 1 then (some 2) else (some (-1))) else (some (-1))))))) = some (refk a) := by
  simp only [hw, Option.bind_some, Bool.and_eq_true, decide_eq_true_eq]
  unfold refk
  by_cases ha : 0 ≤ a
  · simp only [tmod2 ha]
    (repeat' split) <;> first | rfl | (exfalso; omega)
  · (repeat' split) <;> first | rfl | (exfalso; omega)
theorem spec_RefKind_f (a : Int) : spec_RefKind.f a = some (refk a) := refKind_body a spec_l1In.f l1In_f
theorem impl_RefKind_f (a : Int) : impl_RefKind.f a = some (refk a) := refKind_body a impl_within.f within_f
end Go.Proofs.YtlljkankongifaaDoor.Abs
