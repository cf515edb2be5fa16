/- Place: whether a number is in a list. For lists of at most 2^40 numbers. -/
import Derived.Test.YtommgpkeicpokaaDoorPBase
import Derived.Test.YtommgpkeicpokaaDoorF3
namespace Go.Proofs.YtommgpkeicpokaaDoor.Abs
open Go Go.RowKit
set_option linter.unusedVariables false
set_option linter.unusedSectionVars false
set_option linter.unusedSimpArgs false
theorem placeIn_ev (l : List Int) (x : Int) (hl : l.length ≤ 1099511627776) : ∃ r, Ev (fun k => spec_l7Place.f k l x) r ∧ ((0 ≤ r ∧ x ∈ l) ∨ (r = -1 ∧ x ∉ l)) := by
  have lp : ∀ (d i : Nat), l.length - i = d → i ≤ l.length → x ∉ l.take i → ∃ r, Ev (fun k => spec_l7Place.p6 k l x (i : Int)) r ∧ ((0 ≤ r ∧ x ∈ l) ∨ (r = -1 ∧ x ∉ l)) := by
    intro d
    induction d with
    | zero =>
      intro i hd hi hx
      refine ⟨-1, Ev.step (fun k => by rw [spec_l7Place.p6]) (Ev.neg (by omega) (Ev.eq rfl)), .inr ⟨rfl, ?_⟩⟩
      rwa [List.take_of_length_le (by omega)] at hx
    | succ d ih =>
      intro i hd hi hx
      have hlt : i < l.length := by omega
      by_cases e : l[i] = x
      · refine ⟨i, Ev.step (fun k => by rw [spec_l7Place.p6]) ?_, .inl ⟨by omega, e ▸ List.getElem_mem hlt⟩⟩
        rw [rd_get hlt]
        exact Ev.pos (by omega) (Ev.pos (by omega) (Ev.pos (by omega) (Ev.pos e (Ev.eq rfl))))
      · obtain ⟨r, hr, hp⟩ := ih (i + 1) (by omega) (by omega) (by
          rw [take_snoc2 l i hlt, List.mem_append]
          simp only [List.mem_singleton]
          rintro (h | h)
          · exact hx h
          · exact e h.symm)
        refine ⟨r, Ev.step (fun k => by rw [spec_l7Place.p6]) ?_, hp⟩
        rw [rd_get hlt, show wrap64 ((i : Int) + 1) = ((i + 1 : Nat) : Int) from by rw [w64 (by omega) (by omega)]; omega]
        exact Ev.pos (by omega) (Ev.pos (by omega) (Ev.pos (by omega) (Ev.neg e hr)))
  unfold spec_l7Place.f
  exact lp _ 0 rfl (by omega) (by simp)
end Go.Proofs.YtommgpkeicpokaaDoor.Abs
