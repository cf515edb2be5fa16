/- YoungAlloc: what the program comes to. For at most 2^20 types of at most 2^20 bytes. -/
import Derived.Test.YtgfeafcgpeclcaaDoorPSetSpec
import Derived.Test.YtgfeafcgpeclcaaDoorPAllocSpec
namespace Go.Proofs.YtgfeafcgpeclcaaDoor.Abs.Pu
open Go Go.RowKit
set_option linter.unusedVariables false
set_option linter.unusedSimpArgs false
set_option linter.unusedSectionVars false
theorem impl_YoungAlloc_ev (types : List ByteArray) (sz : Int) (words : List Int) (t : Int) (hs : ∀ x ∈ types, x.size ≤ 1048576) (hw : ∀ x ∈ words, -9223372036854775808 ≤ x ∧ x ≤ 9223372036854775807) : Ev (fun k => impl_YoungAlloc.f k types sz words t) (allocR types sz words t) := by
  unfold impl_YoungAlloc.f allocR
  refine Ev.bind (impl_NurseryOk_ev types sz words hs hw) (Ev.cases (fun c => ?_) (fun c => ?_))
  · obtain ⟨ht, hz, hl⟩ := heads_some c
    have htl := types_length ht
    have hk := type_size ht t
    rw [if_pos c]
    refine Ev.bindo (show impl_size_string.f types = some (types.length : Int) from rfl) ?_
    rw [w64 (x := (types.length : Int) - 1) (by omega) (by omega)]
    refine Ev.bindo (within_f t 0 ((types.length : Int) - 1)) (Ev.cases (fun c2 => ?_) (fun c2 => ?_))
    · rw [if_pos c2]
      simp only [Bool.and_eq_true, decide_eq_true_eq] at c2
      refine Ev.bindo (show impl_size_int64.f words = some (words.length : Int) from rfl) ?_
      refine Ev.pos (by omega) ?_
      refine Ev.pos (by omega) ?_
      rw [w64 (x := (words.length : Int) + 1) (by omega) (by omega), w64 (x := (words.length : Int) + 1 + ((rdOf ByteArray.empty types t).size : Int)) (by omega) (by omega)]
      generalize rdOf ByteArray.empty types t = kk at *
      refine Ev.cases (fun c3 => ?_) (fun c3 => ?_)
      · rw [if_pos c3]
        exact Ev.eq rfl
      · rw [if_neg c3]
        refine Ev.bindo (ownNursery_f sz words (by omega)) ?_
        refine Ev.pos (by simp only []; omega) (Ev.pos (by omega) (Ev.pos (by omega) (Ev.pos (by omega) ?_)))
        refine Ev.pos (by simp only [List.length_append, List.length_cons, List.length_nil, List.length_replicate]; omega) ?_
        refine Ev.bindo (show impl_size_int64.f words = some (words.length : Int) from rfl) ?_
        have hy : impl_YoungRef.f (words.length : Int) = some (2 * (words.length : Int) + 1) := by
          unfold impl_YoungRef.f
          rw [within_f, Option.bind_some, if_pos (by simp; omega), w64 (x := 2 * (words.length : Int)) (by omega) (by omega), w64 (x := 2 * (words.length : Int) + 1) (by omega) (by omega)]
        refine Ev.bindo hy (Ev.eq ?_)
        rw [w64 (x := 4 * t) (by omega) (by omega), Int.toNat_natCast]
    · rw [if_neg c2]
      exact Ev.eq rfl
  · rw [if_neg c]
    exact Ev.eq rfl
end Go.Proofs.YtgfeafcgpeclcaaDoor.Abs.Pu
