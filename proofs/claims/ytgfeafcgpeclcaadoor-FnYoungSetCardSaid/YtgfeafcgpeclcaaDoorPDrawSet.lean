/- Drawn nurseries, references and values for YoungSet: every draw answers. For codes of at most 2^40 bytes. -/
import Derived.Test.YtgfeafcgpeclcaaDoorPDrawNur
namespace Go.Proofs.YtgfeafcgpeclcaaDoor.Abs.Pu
open Go Go.RowKit
set_option linter.unusedVariables false
set_option linter.unusedSectionVars false
set_option linter.unusedSimpArgs false
theorem drawYoungSet_ev {l : List Int} (hb : isBytes l) (hl : l.length ≤ 1099511627776) : ∃ types sz words ref i v, Ev (fun k => spec_DrawYoungSet.f k l) (types, sz, words, ref, i, v) ∧ types.length ≤ 100 ∧ (∀ x ∈ types, x.size ≤ 100) ∧ Ints words ∧ words.length ≤ 1001 ∧ (-9223372036854775808 ≤ v ∧ v ≤ 9223372036854775807) := by
  obtain ⟨ts, q, e, h1, h2, hs, hq⟩ := drawTypes_ev (Rd.start hb hl)
  obtain ⟨sz, words, q2, e2, hn, hq2⟩ := nursery_ev hq ts h1 h2 hs
  obtain ⟨ref, q3, e3, hr, hq3⟩ := youngRef_ev hq2 ts sz words h2 hs hn
  obtain ⟨v, q4, e4, hv, hq4⟩ := youngRef_ev hq3 ts sz words h2 hs hn
  obtain ⟨sz5, words5, q5, e5, hi, hw, hq5⟩ := hurtNursery_ev hq4 sz words hn
  obtain ⟨i, q6, e6, hi0, hi1, hq6⟩ := off_ev hq5 0 2 (by omega) (by omega) (by omega) (by omega)
  refine ⟨ts, sz5, words5, ref, i, v, ?_, h2, hs, hi, hw, hv⟩
  unfold spec_DrawYoungSet.f
  exact Ev.bindo rfl (Ev.bind e (Ev.bind e2 (Ev.bind e3 (Ev.bind e4 (Ev.bind e5 (Ev.bind e6 (Ev.eq rfl)))))))
end Go.Proofs.YtgfeafcgpeclcaaDoor.Abs.Pu
