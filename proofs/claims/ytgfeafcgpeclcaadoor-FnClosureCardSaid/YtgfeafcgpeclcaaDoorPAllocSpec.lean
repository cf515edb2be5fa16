/- YoungAlloc: what the reference comes to. For at most 2^20 types of at most 2^20 bytes. -/
import Derived.Test.YtgfeafcgpeclcaaDoorPNurOwn
namespace Go.Proofs.YtgfeafcgpeclcaaDoor.Abs.Pu
open Go Go.RowKit
set_option linter.unusedVariables false
set_option linter.unusedSectionVars false
set_option linter.unusedSimpArgs false
def allocR (types : List ByteArray) (sz : Int) (words : List Int) (t : Int) : Int × List Int × Int × Int :=
  if (headsR types sz words).isSome = true then
    if (decide (0 ≤ t) && decide (t ≤ (types.length : Int) - 1)) = true then
      if (words.length : Int) + 1 + ((rdOf ByteArray.empty types t).size : Int) > sz then (0, [], 0, 3)
      else (sz, words ++ [4 * t] ++ List.replicate (rdOf ByteArray.empty types t).size 0, 2 * (words.length : Int) + 1, 0)
    else (0, [], 0, 2)
  else (0, [], 0, 1)
theorem spec_YoungAlloc_ev (types : List ByteArray) (sz : Int) (words : List Int) (t : Int) (hl : types.length ≤ 1048576) (hs : ∀ x ∈ types, x.size ≤ 1048576) (hw : ∀ x ∈ words, -9223372036854775808 ≤ x ∧ x ≤ 9223372036854775807) : Ev (fun k => spec_YoungAlloc.f k types sz words t) (allocR types sz words t) := by
  unfold spec_YoungAlloc.f allocR
  refine Ev.bind (spec_NurseryOk_ev types sz words hl hs hw) (Ev.cases (fun c => ?_) (fun c => ?_))
  · obtain ⟨ht, hz, hl⟩ := heads_some c
    have htl := types_length ht
    have hk := type_size ht t
    rw [if_pos c]
    rw [w64 (x := (types.length : Int) - 1) (by omega) (by omega)]
    refine Ev.bindo (l1In_f t 0 ((types.length : Int) - 1)) (Ev.cases (fun c2 => ?_) (fun c2 => ?_))
    · rw [if_pos c2]
      simp only [Bool.and_eq_true, decide_eq_true_eq] at c2
      refine Ev.pos (by omega) ?_
      refine Ev.pos (by omega) ?_
      rw [w64 (x := (words.length : Int) + 1) (by omega) (by omega), w64 (x := (words.length : Int) + 1 + ((rdOf ByteArray.empty types t).size : Int)) (by omega) (by omega)]
      generalize rdOf ByteArray.empty types t = kk at *
      refine Ev.cases (fun c3 => ?_) (fun c3 => ?_)
      · rw [if_pos c3]
        exact Ev.eq rfl
      · rw [if_neg c3]
        refine Ev.bindo (l8Copy_f sz words (by omega)) ?_
        refine Ev.pos (by simp only []; omega) (Ev.pos (by omega) (Ev.pos (by omega) (Ev.pos (by omega) ?_)))
        refine Ev.pos (by simp only [List.length_append, List.length_cons, List.length_nil, List.length_replicate]; omega) (Ev.eq ?_)
        rw [w64 (x := 4 * t) (by omega) (by omega), Int.toNat_natCast, w64 (x := 2 * (words.length : Int)) (by omega) (by omega), w64 (x := 2 * (words.length : Int) + 1) (by omega) (by omega)]
    · rw [if_neg c2]
      exact Ev.eq rfl
  · rw [if_neg c]
    exact Ev.eq rfl
theorem allocR_length (types : List ByteArray) (sz : Int) (words : List Int) (t : Int) : (allocR types sz words t).2.1.length ≤ 1000 := by
  unfold allocR
  split
  · rename_i h
    obtain ⟨ht, hz, hl⟩ := heads_some h
    have hk := type_size ht t
    split
    · split
      · simp
      · simp only [List.length_append, List.length_cons, List.length_nil, List.length_replicate]
        omega
    · simp
  · simp
end Go.Proofs.YtgfeafcgpeclcaaDoor.Abs.Pu
