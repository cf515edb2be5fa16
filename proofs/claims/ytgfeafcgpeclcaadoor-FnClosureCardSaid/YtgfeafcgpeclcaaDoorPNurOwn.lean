/- A nursery in new memory, and whether it is right. For at most 2^20 types of at most 2^20 bytes. -/
import Derived.Test.YtgfeafcgpeclcaaDoorPStarts
namespace Go.Proofs.YtgfeafcgpeclcaaDoor.Abs.Pu
open Go Go.RowKit
set_option linter.unusedVariables false
set_option linter.unusedSectionVars false
set_option linter.unusedSimpArgs false
theorem heads_some {types : List ByteArray} {sz : Int} {words : List Int} (h : (headsR types sz words).isSome = true) : typesOk types = true ∧ (2 ≤ sz ∧ sz ≤ 400) ∧ (words.length : Int) ≤ sz := by
  obtain ⟨st, h⟩ := Option.isSome_iff_exists.1 h
  have h := (headsR_some h).1
  unfold parsed at h
  split at h
  · assumption
  · cases h
theorem type_size {types : List ByteArray} (ht : typesOk types = true) (t : Int) : (rdOf ByteArray.empty types t).size ≤ 23 := by
  have h := parse_size ht (4 * t)
  unfold kindsAt at h
  rwa [Int.mul_ediv_cancel_left _ (by decide)] at h
theorem impl_NurseryOk_ev (types : List ByteArray) (sz : Int) (words : List Int) (hs : ∀ x ∈ types, x.size ≤ 1048576) (hw : ∀ x ∈ words, -9223372036854775808 ≤ x ∧ x ≤ 9223372036854775807) : Ev (fun k => impl_NurseryOk.f k types sz words) (headsR types sz words).isSome := by
  unfold impl_NurseryOk.f
  refine Ev.bind (impl_heads_ev types sz words hs hw) (Ev.eq ?_)
  cases headsR types sz words <;> rfl
theorem ownNursery_f (sz : Int) (words : List Int) (h : words.length ≤ 400) : impl_ownNursery.f sz words = some (sz, words) := by
  unfold impl_ownNursery.f slices_Clone_int64.f
  rw [if_pos (by omega)]
  rfl
theorem l8Copy_f (sz : Int) (words : List Int) (h : words.length ≤ 400) : spec_l8Copy.f sz words = some (sz, words) := by
  unfold spec_l8Copy.f
  rw [if_pos (by omega), List.nil_append]
end Go.Proofs.YtgfeafcgpeclcaaDoor.Abs.Pu
