/- Drawn nurseries and types for YoungAlloc: every draw answers. For codes of at most 2^40 bytes. -/
import Derived.Test.YtgfeafcgpeclcaaDoorPDrawNur
namespace Go.Proofs.YtgfeafcgpeclcaaDoor.Abs.Pu
open Go Go.RowKit
set_option linter.unusedVariables false
set_option linter.unusedSimpArgs false
set_option linter.unusedSectionVars false
theorem drawYoungAlloc_ev {l : List Int} (hb : isBytes l) (hl : l.length ≤ 1099511627776) : ∃ types sz words t, Ev (fun k => spec_DrawYoungAlloc.f k l) (types, sz, words, t) ∧ types.length ≤ 100 ∧ (∀ x ∈ types, x.size ≤ 100) ∧ Ints words ∧ words.length ≤ 1001 := by
  obtain ⟨ts, q, e, h1, h2, hs, hq⟩ := drawTypes_ev (Rd.start hb hl)
  obtain ⟨sz, words, q2, e2, hn, hq2⟩ := nursery_ev hq ts h1 h2 hs
  obtain ⟨sz3, words3, q3, e3, hi, hw, hq3⟩ := hurtNursery_ev hq2 sz words hn
  obtain ⟨t, q4, e4, ht0, ht1, hq4⟩ := off_ev hq3 0 ((ts.length : Int) - 1) (by omega) (by omega) (by omega) (by omega)
  refine ⟨ts, sz3, words3, t, ?_, h2, hs, hi, hw⟩
  unfold spec_DrawYoungAlloc.f
  refine Ev.bindo rfl (Ev.bind e (Ev.bind e2 (Ev.bind e3 ?_)))
  simp only []
  rw [w64 (x := (ts.length : Int) - 1) (by omega) (by omega)]
  exact Ev.bind e4 (Ev.eq rfl)
end Go.Proofs.YtgfeafcgpeclcaaDoor.Abs.Pu
