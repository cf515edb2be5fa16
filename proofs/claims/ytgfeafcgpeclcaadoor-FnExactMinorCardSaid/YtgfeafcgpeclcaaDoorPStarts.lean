/- Starts and Ages: what the reference and the program come to. For at most 2^20 types of at most 2^20 bytes. -/
import Derived.Test.YtgfeafcgpeclcaaDoorPNursery
namespace Go.Proofs.YtgfeafcgpeclcaaDoor.Abs.Pu
open Go Go.RowKit
set_option linter.unusedVariables false
set_option linter.unusedSectionVars false
set_option linter.unusedSimpArgs false
theorem headsR_some {types : List ByteArray} {sz : Int} {words st : List Int} (h : headsR types sz words = some st) : parsed types sz words = some st ∧ nurB types words st st = true := by
  unfold headsR at h
  obtain ⟨m, hm, h⟩ := Option.bind_eq_some_iff.1 h
  split at h
  · rename_i c
    obtain rfl := Option.some.inj h
    exact ⟨hm, c⟩
  · cases h
theorem headsR_length (types : List ByteArray) (sz : Int) (words : List Int) : ((headsR types sz words).getD []).length ≤ 400 := by
  cases h : headsR types sz words with
  | none => simp
  | some st => exact (parsed_facts (headsR_some h).1).2.2.2.2
theorem spec_Starts_ev (types : List ByteArray) (sz : Int) (words : List Int) (hl : types.length ≤ 1048576) (hs : ∀ x ∈ types, x.size ≤ 1048576) (hw : ∀ x ∈ words, -9223372036854775808 ≤ x ∧ x ≤ 9223372036854775807) : Ev (fun k => spec_Starts.f k types sz words) ((headsR types sz words).getD []) := by
  unfold spec_Starts.f
  refine Ev.bind (spec_NurseryOk_ev types sz words hl hs hw) ?_
  cases h : headsR types sz words with
  | none => exact Ev.neg (by simp) (Ev.eq rfl)
  | some st =>
    have hp := spec_l8Parse_ev types sz words hl hs hw
    rw [(headsR_some h).1] at hp
    exact Ev.pos rfl (Ev.bind hp (Ev.eq rfl))
theorem impl_Starts_ev (types : List ByteArray) (sz : Int) (words : List Int) (hs : ∀ x ∈ types, x.size ≤ 1048576) (hw : ∀ x ∈ words, -9223372036854775808 ≤ x ∧ x ≤ 9223372036854775807) : Ev (fun k => impl_Starts.f k types sz words) ((headsR types sz words).getD []) := by
  unfold impl_Starts.f
  refine Ev.bind (impl_heads_ev types sz words hs hw) (Ev.eq ?_)
  cases headsR types sz words <;> rfl
end Go.Proofs.YtgfeafcgpeclcaaDoor.Abs.Pu
