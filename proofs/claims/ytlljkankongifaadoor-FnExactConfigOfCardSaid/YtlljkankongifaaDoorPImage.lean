/- Images and references to their data: what the reference and the program ask. For texts of at most 2^47 bytes. -/
import Derived.Test.YtlljkankongifaaDoorPConfigOk
import Derived.Test.YtlljkankongifaaDoorPReads
import Derived.Test.YtlljkankongifaaDoorPRefs
namespace Go.Proofs.YtlljkankongifaaDoor.Abs.Pu
open Go Go.RowKit
set_option linter.unusedVariables false
set_option linter.unusedSectionVars false
set_option linter.unusedSimpArgs false
def isImageB (c : Cfg) (s : ByteArray) : Bool := configOk c && decide ((s.size : Int) = 64 * c.1)
theorem impl_isImage_ev (c : Cfg) (s : ByteArray) (hs : ∀ x ∈ c.2.2.2, x.size ≤ 1048576) : Ev (fun k => impl_isImage.f k c.1 c.2.1 c.2.2.1 c.2.2.2 s) (isImageB c s) := by
  unfold impl_isImage.f isImageB
  refine Ev.bind (impl_ConfigOk_ev c hs) (Ev.cases (fun h => ?_) (fun h => by rw [Bool.eq_false_iff.2 h, Bool.false_and]; exact Ev.eq rfl))
  have := configOk_facts h
  rw [h, Bool.true_and, w64 (x := 64 * c.1) (by omega) (by omega)]
  exact Ev.eq rfl
theorem spec_l5Image_ev (c : Cfg) (s : ByteArray) (hl : c.2.2.2.length ≤ 1048576) (hs : ∀ x ∈ c.2.2.2, x.size ≤ 1048576) : Ev (fun k => spec_l5Image.f k c.1 c.2.1 c.2.2.1 c.2.2.2 s) (isImageB c s) := by
  unfold spec_l5Image.f isImageB
  refine Ev.bind (spec_ConfigOk_ev c hl hs) (Ev.cases (fun h => ?_) (fun h => by rw [Bool.eq_false_iff.2 h, Bool.false_and]; exact Ev.eq rfl))
  have := configOk_facts h
  rw [h, Bool.true_and, w64 (x := 64 * c.1) (by omega) (by omega)]
  exact Ev.eq rfl
theorem isImageB_facts {c : Cfg} {s : ByteArray} (h : isImageB c s = true) : configOk c = true ∧ (s.size : Int) = 64 * c.1 := by
  unfold isImageB at h
  simpa using h
/-- A line of data. -/
def isDataB (c : Cfg) (line : Int) : Bool := decide (4 + c.2.1 ≤ line) && decide (line ≤ c.1 - 1)
def dataRefB (c : Cfg) (x : Int) : Bool := decide (x = 0) || (decide (refk x = 1) && isDataB c (x / 2))
theorem impl_isData_f (c : Cfg) (h : configOk c = true) (line : Int) : impl_isData.f c.1 c.2.1 c.2.2.1 c.2.2.2 line = some (isDataB c line) := by
  have := configOk_facts h
  unfold impl_isData.f isDataB
  rw [w64 (x := 4 + c.2.1) (by omega) (by omega), w64 (x := c.1 - 1) (by omega) (by omega), within_f]
  rfl
theorem spec_l10Line_f (c : Cfg) (h : configOk c = true) (line : Int) : spec_l10Line.f c.1 c.2.1 c.2.2.1 c.2.2.2 line = some (isDataB c line) := by
  have := configOk_facts h
  unfold spec_l10Line.f isDataB
  rw [w64 (x := 4 + c.2.1) (by omega) (by omega), w64 (x := c.1 - 1) (by omega) (by omega), l1In_f]
  rfl
theorem refk_one {x : Int} (h : refk x = 1) : 2 ≤ x ∧ x ≤ 254 ∧ x % 2 = 0 := by
  unfold refk at h
  split at h
  · omega
  · split at h
    · omega
    · split at h
      · omega
      · omega
theorem impl_isDataRef_f (c : Cfg) (h : configOk c = true) (x : Int) : impl_isDataRef.f c.1 c.2.1 c.2.2.1 c.2.2.2 x = some (dataRefB c x) := by
  unfold impl_isDataRef.f dataRefB impl_isOld.f
  by_cases c0 : x = 0
  · rw [if_pos c0, decide_eq_true c0, Bool.true_or]
  · rw [if_neg c0, decide_eq_false c0, Bool.false_or, impl_RefKind_f, Option.bind_some, Option.bind_some]
    by_cases c1 : refk x = 1
    · have := refk_one c1
      rw [if_pos (by simpa using c1), Int.tdiv_eq_ediv_of_nonneg (by omega), w64 (x := x / 2) (by omega) (by omega), impl_isData_f c h, decide_eq_true c1]
      rfl
    · rw [if_neg (by simpa using c1), decide_eq_false c1]
      rfl
theorem spec_l10Ref_f (c : Cfg) (h : configOk c = true) (x : Int) : spec_l10Ref.f c.1 c.2.1 c.2.2.1 c.2.2.2 x = some (dataRefB c x) := by
  unfold spec_l10Ref.f dataRefB
  by_cases c0 : x = 0
  · rw [if_pos c0, decide_eq_true c0, Bool.true_or]
  · rw [if_neg c0, decide_eq_false c0, Bool.false_or, spec_RefKind_f, Option.bind_some]
    by_cases c1 : refk x = 1
    · have := refk_one c1
      rw [if_pos c1, Int.tdiv_eq_ediv_of_nonneg (by omega), w64 (x := x / 2) (by omega) (by omega), spec_l10Line_f c h, decide_eq_true c1]
      rfl
    · rw [if_neg c1, decide_eq_false c1]
      rfl
end Go.Proofs.YtlljkankongifaaDoor.Abs.Pu
