/- Whole numbers of 64 bits, and drawn references. For codes of at most 2^40 bytes. -/
import Derived.Test.YtlljkankongifaaDoorPDraws
namespace Go.Proofs.YtlljkankongifaaDoor.Abs.Pu
open Go Go.RowKit
set_option linter.unusedVariables false
set_option linter.unusedSectionVars false
set_option linter.unusedSimpArgs false
def Ints (l : List Int) : Prop := ∀ x ∈ l, -9223372036854775808 ≤ x ∧ x ≤ 9223372036854775807
theorem Ints.snoc {l : List Int} (h : Ints l) {x : Int} (hx : -9223372036854775808 ≤ x ∧ x ≤ 9223372036854775807) : Ints (l ++ [x]) := by
  intro y hy
  rcases List.mem_append.1 hy with hy | hy
  · exact h y hy
  · simp only [List.mem_singleton] at hy
    subst hy
    exact hx
theorem Ints.set {l : List Int} (h : Ints l) (i : Nat) {x : Int} (hx : -9223372036854775808 ≤ x ∧ x ≤ 9223372036854775807) : Ints (l.set i x) := by
  intro y hy
  rcases List.mem_or_eq_of_mem_set hy with hy | rfl
  · exact h y hy
  · exact hx
theorem Ints.at_ {l : List Int} (h : Ints l) (i : Int) : -9223372036854775808 ≤ rd l i ∧ rd l i ≤ 9223372036854775807 := by
  unfold rd
  rw [List.getD_eq_getElem?_getD]
  cases hg : l[i.toNat]? with
  | none => exact ⟨by decide, by decide⟩
  | some x => exact h x (List.mem_of_getElem? hg)
theorem wrap_ok (x : Int) : -9223372036854775808 ≤ wrap64 x ∧ wrap64 x ≤ 9223372036854775807 := wrap64_range x
theorem ref_ev {l : List Int} {p : Int} (h : Rd l p) : ∃ v q, Ev (fun k => spec_l1Rd_ref.f k l p) (l, q, v) ∧ (-9223372036854775808 ≤ v ∧ v ≤ 9223372036854775807) ∧ Rd l q := by
  obtain ⟨a, q, ea, ha0, ha1, hq⟩ := below_f h 12 (by omega) (by omega)
  obtain ⟨v, q2, e2, hv0, hv1, hq2⟩ := below_f hq 20 (by omega) (by omega)
  unfold spec_l1Rd_ref.f
  by_cases c0 : a = 0
  · obtain ⟨v, q2, e2, hv0, hv1, hq2⟩ := off_ev hq 0 254 (by omega) (by omega) (by omega) (by omega)
    exact ⟨_, _, Ev.bindo ea (Ev.pos c0 (Ev.bind e2 (Ev.eq rfl))), ⟨hv0, hv1⟩, hq2⟩
  by_cases c1 : a = 1
  · obtain ⟨v, q2, e2, hv0, hv1, hq2⟩ := off_ev hq 0 799 (by omega) (by omega) (by omega) (by omega)
    exact ⟨_, _, Ev.bindo ea (Ev.neg c0 (Ev.pos c1 (Ev.bind e2 (Ev.eq rfl)))), ⟨hv0, hv1⟩, hq2⟩
  by_cases c2 : a = 2
  · exact ⟨0, q, Ev.bindo ea (Ev.neg c0 (Ev.neg c1 (Ev.pos c2 (Ev.eq rfl)))), ⟨by decide, by decide⟩, hq⟩
  by_cases c3 : a = 3
  · exact ⟨0, q, Ev.bindo ea (Ev.neg c0 (Ev.neg c1 (Ev.neg c2 (Ev.pos c3 (Ev.eq rfl))))), ⟨by decide, by decide⟩, hq⟩
  by_cases c4 : a = 4
  · exact ⟨_, _, Ev.bindo ea (Ev.neg c0 (Ev.neg c1 (Ev.neg c2 (Ev.neg c3 (Ev.pos c4 (Ev.bindo e2 (Ev.eq rfl))))))), wrap_ok _, hq2⟩
  by_cases c5 : a = 5
  · exact ⟨_, _, Ev.bindo ea (Ev.neg c0 (Ev.neg c1 (Ev.neg c2 (Ev.neg c3 (Ev.neg c4 (Ev.pos c5 (Ev.bindo e2 (Ev.eq rfl)))))))), wrap_ok _, hq2⟩
  by_cases c6 : a = 6
  · exact ⟨_, _, Ev.bindo ea (Ev.neg c0 (Ev.neg c1 (Ev.neg c2 (Ev.neg c3 (Ev.neg c4 (Ev.neg c5 (Ev.pos c6 (Ev.bindo e2 (Ev.eq rfl))))))))), wrap_ok _, hq2⟩
  · exact ⟨_, _, Ev.bindo ea (Ev.neg c0 (Ev.neg c1 (Ev.neg c2 (Ev.neg c3 (Ev.neg c4 (Ev.neg c5 (Ev.neg c6 (Ev.bindo e2 (Ev.eq rfl))))))))), wrap_ok _, hq2⟩
end Go.Proofs.YtlljkankongifaaDoor.Abs.Pu
