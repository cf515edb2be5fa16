/- YoungSet: what the program comes to. For at most 2^20 types of at most 2^20 bytes. -/
import Derived.Test.YtgfeafcgpeclcaaDoorPSetSpec
namespace Go.Proofs.YtgfeafcgpeclcaaDoor.Abs.Pu
open Go Go.RowKit
set_option linter.unusedVariables false
set_option linter.unusedSectionVars false
set_option linter.unusedSimpArgs false
theorem impl_set_bad (ref i v sz : Int) (words : List Int) : Ev (fun k => impl_YoungSet.p17 k ref i v sz words 0 true) (0, [], false) := by
  refine Ev.step (fun k => by rw [impl_YoungSet.p17]) ?_
  exact Ev.pos rfl (Ev.eq rfl)
theorem impl_set_good (ref i v sz : Int) (words : List Int) (hwl : words.length ≤ 400) (hr : 0 ≤ ref) (hr2 : ref ≤ 1000) (hi : 0 ≤ i) (hi2 : ref / 2 + 1 + i < words.length) : Ev (fun k => impl_YoungSet.p17 k ref i v sz words 0 false) (sz, words.set (ref / 2 + 1 + i).toNat v, true) := by
  refine Ev.step (fun k => by rw [impl_YoungSet.p17]) ?_
  refine Ev.neg (by simp) (Ev.bindo (ownNursery_f sz words hwl) ?_)
  rw [Int.tdiv_eq_ediv_of_nonneg (a := ref) (by omega), w64 (x := ref / 2) (by omega) (by omega), w64 (x := ref / 2 + 1) (by omega) (by omega), w64 (x := ref / 2 + 1 + i) (by omega) (by omega)]
  exact Ev.pos (by omega) (Ev.pos (by simp only []; omega) (Ev.eq rfl))
theorem impl_YoungSet_ev (types : List ByteArray) (sz : Int) (words : List Int) (ref i v : Int) (hs : ∀ x ∈ types, x.size ≤ 1048576) (hw : ∀ x ∈ words, -9223372036854775808 ≤ x ∧ x ≤ 9223372036854775807) : Ev (fun k => impl_YoungSet.f k types sz words ref i v) (setR types sz words ref i v) := by
  unfold impl_YoungSet.f setR
  refine Ev.bind (impl_heads_ev types sz words hs hw) ?_
  have bad : ∀ st, Ev (fun k => impl_YoungSet.p7 k types ref i v sz words 0 st true) (0, [], false) := fun st => by
    refine Ev.step (fun k => by rw [impl_YoungSet.p7]) ?_
    exact Ev.pos rfl (Ev.eq rfl)
  cases h : headsR types sz words with
  | none => exact Ev.neg (by simp [finL]) (bad _)
  | some st =>
    obtain ⟨ht, hwl, hfit, hsrt, hlen⟩ := parsed_facts (headsR_some h).1
    simp only [finL, List.nil_append]
    refine Ev.pos trivial (Ev.bind (impl_isHead_ev st ref hsrt (by omega)) ?_)
    cases c : isHeadB st ref with
    | false => exact Ev.val (bad _) (by simp)
    | true =>
      refine Ev.step (fun k => by rw [impl_YoungSet.p7]) ?_
      obtain ⟨hr, hm, hf, he⟩ := head_fits hfit c
      have hp := refk_pos hr
      refine Ev.neg (by simp) ?_
      rw [Int.tdiv_eq_ediv_of_nonneg (by omega), w64 (x := ref / 2) (by omega) (by omega), if_pos rfl]
      generalize hn : (ref / 2).toNat = n at *
      obtain ⟨m, e, h1, h2, h3, h4⟩ := hf
      obtain rfl : m = n := by omega
      have hrr := rd_range hw h1
      have hk := parse_size ht (rd words m)
      rw [he, tdiv4 h2, w64 (x := rd words (m : Int) / 4) (by omega) (by omega)]
      have hkk : rdOf ByteArray.empty types (rd words (m : Int) / 4) = kindsAt types (rd words m) := rfl
      rw [hkk]
      generalize kindsAt types (rd words m) = kk at *
      refine Ev.pos (by omega) (Ev.pos (by omega) (Ev.pos (by omega) (Ev.pos h3 ?_)))
      rw [w64 (x := (kk.size : Int) - 1) (by omega) (by omega)]
      refine Ev.bindo (within_f i 0 ((kk.size : Int) - 1)) (Ev.cases (fun c2 => ?_) (fun c2 => ?_))
      · rw [if_pos c2]
        simp only [Bool.and_eq_true, decide_eq_true_eq] at c2
        refine Ev.pos c2.1 (Ev.pos (by omega) (Ev.cases (fun (c3 : bt kk i = 114) => ?_) (fun (c3 : ¬ bt kk i = 114) => ?_)))
        · rw [if_pos c3]
          refine Ev.bind (impl_isRef_ev st v hsrt (by omega)) ?_
          by_cases c4 : refOk st v = true
          · rw [if_pos c4, c4, ← he]
            exact impl_set_good ref i v sz words hwl (by omega) (by omega) c2.1 (by omega)
          · rw [if_neg c4, Bool.eq_false_iff.2 c4]
            exact impl_set_bad ..
        · rw [if_neg c3, ← he]
          exact impl_set_good ref i v sz words hwl (by omega) (by omega) c2.1 (by omega)
      · rw [if_neg c2]
        exact impl_set_bad ..
end Go.Proofs.YtgfeafcgpeclcaaDoor.Abs.Pu
