/- A drawn size: it answers, and lies in its range. For codes of at most 2^40 bytes. -/
import Derived.Test.YtommgpkeicpokaaGreatDoorPDraws
namespace Go.Proofs.YtommgpkeicpokaaGreatDoor.Abs.Pu
open Go Go.RowKit
set_option linter.unusedVariables false
set_option linter.unusedSectionVars false
set_option linter.unusedSimpArgs false
theorem size_f {l : List Int} {p : Int} (h : Rd l p) (per most : Int) (hp : 1 ≤ per) (hm : 1 ≤ most) (hm2 : most ≤ 60000) : ∃ v q, spec_l1Rd_size.f l p per most = some (l, q, v) ∧ 1 ≤ v ∧ v ≤ most ∧ Rd l q := by
  have hl := h.len
  have h0 : 0 ≤ (l.length : Int) / per := Int.ediv_nonneg (by omega) (by omega)
  have h1 : (l.length : Int) / per ≤ l.length := Int.ediv_le_self _ (by omega)
  unfold spec_l1Rd_size.f
  rw [if_neg (by omega), Int.tdiv_eq_ediv_of_nonneg (by omega), w64 (x := (l.length : Int) / per) (by omega) (by omega), w64 (x := 1 + (l.length : Int) / per) (by omega) (by omega)]
  split
  · obtain ⟨v, q, e, hv0, hv1, hq⟩ := below_f h most hm (by omega)
    refine ⟨_, q, by rw [e]; rfl, ?_, ?_, hq⟩
    all_goals simp only []; rw [w64 (x := 1 + v) (by omega) (by omega)]; omega
  · obtain ⟨v, q, e, hv0, hv1, hq⟩ := below_f h (1 + (l.length : Int) / per) (by omega) (by omega)
    refine ⟨_, q, by rw [e]; rfl, ?_, ?_, hq⟩
    all_goals simp only []; rw [w64 (x := 1 + v) (by omega) (by omega)]; omega
end Go.Proofs.YtommgpkeicpokaaGreatDoor.Abs.Pu
