/- YoungSet: what the reference comes to. For at most 2^20 types of at most 2^20 bytes. -/
import Derived.Test.YtgfeafcgpeclcaaDoorPYoungObj
import Derived.Test.YtgfeafcgpeclcaaDoorPNurOwn
namespace Go.Proofs.YtgfeafcgpeclcaaDoor.Abs.Pu
open Go Go.RowKit
set_option linter.unusedVariables false
set_option linter.unusedSectionVars false
set_option linter.unusedSimpArgs false
def setR (types : List ByteArray) (sz : Int) (words : List Int) (ref i v : Int) : Int × List Int × Bool :=
  match headsR types sz words with
  | some st => if isHeadB st ref = true then
      (if (decide (0 ≤ i) && decide (i ≤ ((rdOf ByteArray.empty types (rd words (ref / 2) / 4)).size : Int) - 1)) = true then
        (if bt (rdOf ByteArray.empty types (rd words (ref / 2) / 4)) i = 114 then (if refOk st v = true then (sz, words.set (ref / 2 + 1 + i).toNat v, true) else (0, [], false)) else (sz, words.set (ref / 2 + 1 + i).toNat v, true))
      else (0, [], false)) else (0, [], false)
  | none => (0, [], false)
theorem setR_length (types : List ByteArray) (sz : Int) (words : List Int) (ref i v : Int) (h : words.length ≤ 1048576) : (setR types sz words ref i v).2.1.length ≤ 1048576 := by
  unfold setR
  split
  · split
    · split
      · split
        · split
          · simpa using h
          · simp
        · simpa using h
      · simp
    · simp
  · simp
theorem spec_set_bad (ref i v sz : Int) (words : List Int) : Ev (fun k => spec_YoungSet.p7 k ref i v sz words 0 true) (0, [], false) := by
  refine Ev.step (fun k => by rw [spec_YoungSet.p7]) ?_
  exact Ev.pos rfl (Ev.eq rfl)
theorem spec_set_good (ref i v sz : Int) (words : List Int) (hwl : words.length ≤ 400) (hr : 0 ≤ ref) (hr2 : ref ≤ 1000) (hi : 0 ≤ i) (hi2 : ref / 2 + 1 + i < words.length) : Ev (fun k => spec_YoungSet.p7 k ref i v sz words 0 false) (sz, words.set (ref / 2 + 1 + i).toNat v, true) := by
  refine Ev.step (fun k => by rw [spec_YoungSet.p7]) ?_
  refine Ev.neg (by simp) (Ev.bindo (l8Copy_f sz words hwl) ?_)
  rw [Int.tdiv_eq_ediv_of_nonneg (a := ref) (by omega), w64 (x := ref / 2) (by omega) (by omega), w64 (x := ref / 2 + 1) (by omega) (by omega), w64 (x := ref / 2 + 1 + i) (by omega) (by omega)]
  exact Ev.pos (by omega) (Ev.pos (by simp only []; omega) (Ev.eq rfl))
theorem spec_YoungSet_ev (types : List ByteArray) (sz : Int) (words : List Int) (ref i v : Int) (hl : types.length ≤ 1048576) (hs : ∀ x ∈ types, x.size ≤ 1048576) (hw : ∀ x ∈ words, -9223372036854775808 ≤ x ∧ x ≤ 9223372036854775807) : Ev (fun k => spec_YoungSet.f k types sz words ref i v) (setR types sz words ref i v) := by
  unfold spec_YoungSet.f
  refine Ev.bind (spec_YoungObject_ev types sz words ref hl hs hw) ?_
  have hst := spec_Starts_ev types sz words hl hs hw
  unfold youngR setR
  cases h : headsR types sz words with
  | none => exact Ev.neg (by simp) (spec_set_bad ..)
  | some st =>
    obtain ⟨ht, hwl, hfit, hsrt, hlen⟩ := parsed_facts (headsR_some h).1
    rw [h] at hst
    simp only [Option.getD_some] at hst
    simp only []
    by_cases c : isHeadB st ref = true
    rotate_left
    · simp only [if_neg c]
      exact Ev.neg (by simp) (spec_set_bad ..)
    · simp only [if_pos c]
      obtain ⟨hr, hm, hf, he⟩ := head_fits hfit c
      have hp := refk_pos hr
      have hvl := vals_length hf
      refine Ev.pos trivial ?_
      generalize hn : (ref / 2).toNat = n at *
      obtain ⟨m, e, h1, h2, h3, h4⟩ := hf
      obtain rfl : m = n := by omega
      have hrr := rd_range hw h1
      have hk := parse_size ht (rd words m)
      rw [hvl]
      rw [he]
      have hkk : rdOf ByteArray.empty types (rd words (m : Int) / 4) = kindsAt types (rd words m) := rfl
      rw [hkk]
      generalize kindsAt types (rd words m) = kk at *
      rw [w64 (x := (kk.size : Int) - 1) (by omega) (by omega)]
      refine Ev.bindo (l1In_f i 0 ((kk.size : Int) - 1)) (Ev.cases (fun c2 => ?_) (fun c2 => ?_))
      · rw [if_pos c2]
        simp only [Bool.and_eq_true, decide_eq_true_eq] at c2
        refine Ev.pos (by omega) (Ev.pos h3 (Ev.pos c2.1 (Ev.pos (by omega) (Ev.cases (fun (c3 : bt kk i = 114) => ?_) (fun (c3 : ¬ bt kk i = 114) => ?_)))))
        · rw [if_pos c3]
          refine Ev.bind hst (Ev.bind (spec_l8Ref_ev st v (by omega)) ?_)
          by_cases c4 : refOk st v = true
          · rw [if_pos c4, c4, ← he]
            exact spec_set_good ref i v sz words hwl (by omega) (by omega) c2.1 (by omega)
          · rw [if_neg c4, Bool.eq_false_iff.2 c4]
            exact spec_set_bad ..
        · rw [if_neg c3, ← he]
          exact spec_set_good ref i v sz words hwl (by omega) (by omega) c2.1 (by omega)
      · rw [if_neg c2]
        exact spec_set_bad ..
end Go.Proofs.YtgfeafcgpeclcaaDoor.Abs.Pu
