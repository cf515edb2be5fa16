/- YoungObject: what the reference and the program come to. For at most 2^20 types of at most 2^20 bytes. -/
import Derived.Test.YtgfeafcgpeclcaaDoorPYoung
import Derived.Test.YtgfeafcgpeclcaaDoorPStarts
namespace Go.Proofs.YtgfeafcgpeclcaaDoor.Abs.Pu
open Go Go.RowKit
set_option linter.unusedVariables false
set_option linter.unusedSectionVars false
set_option linter.unusedSimpArgs false
def isHeadB (st : List Int) (x : Int) : Bool := decide (refk x = 2) && decide (x / 2 ∈ st)
theorem impl_isHead_ev (st : List Int) (x : Int) (hs : st.Pairwise (· < ·)) (hl : st.length ≤ 1099511627776) : Ev (fun k => impl_isHead.f k x st) (isHeadB st x) := by
  unfold impl_isHead.f isHeadB
  refine Ev.bindo (impl_isYoung_f x) (Ev.cases (fun c2 => ?_) (fun c2 => Ev.eq ?_))
  · have c2 := of_decide_eq_true c2
    have hp := refk_pos c2
    rw [Int.tdiv_eq_ediv_of_nonneg (by omega), w64 (x := x / 2) (by omega) (by omega)]
    obtain ⟨i, f, hev, hi, hlo, hup, ht, hf⟩ := bsearch_ev st (x / 2) hs hl
    refine Ev.bind hev (Ev.eq ?_)
    simp only [c2, decide_true, Bool.true_and]
    cases hfc : f with
    | true =>
      obtain ⟨h, e⟩ := ht hfc
      exact (decide_eq_true (e ▸ List.getElem_mem h)).symm
    | false =>
      refine (decide_eq_false (fun hm => ?_)).symm
      obtain ⟨j, hj, e⟩ := List.getElem_of_mem hm
      rcases Nat.lt_trichotomy j i with c | c | c
      · have := hlo j hj c; omega
      · subst c
        have := hf hfc hj
        omega
      · have := hup j hj c; omega
  · have : ¬ refk x = 2 := by simpa using c2
    simp [this]
def youngR (types : List ByteArray) (sz : Int) (words : List Int) (ref : Int) : Int × List Int × Bool :=
  match headsR types sz words with
  | some st => if isHeadB st ref = true then (rd words (ref / 2) / 4, valsAt types words (ref / 2).toNat, true) else (0, [], false)
  | none => (0, [], false)
theorem l8Obj_f (types : List ByteArray) (words : List Int) (sz : Int) (n : Nat) (ht : typesOk types = true) (hl : words.length ≤ 400) (hw : ∀ x ∈ words, -9223372036854775808 ≤ x ∧ x ≤ 9223372036854775807) (h : Fits types words (n : Int)) :
    spec_l8Obj.f types sz words (n : Int) = some (rd words n / 4, valsAt types words n) := by
  have hvl := vals_length h
  obtain ⟨m, e, h1, h2, h3, h4⟩ := h
  obtain rfl : m = n := by omega
  have hr := rd_range hw h1
  have hk := parse_size ht (rd words m)
  unfold spec_l8Obj.f
  rw [tdiv4 h2, w64 (x := rd words (m : Int) / 4) (by omega) (by omega), w64 (x := (m : Int) + 1) (by omega) (by omega)]
  have hkk : rdOf ByteArray.empty types (rd words (m : Int) / 4) = kindsAt types (rd words m) := rfl
  rw [hkk, w64 (x := (m : Int) + 1 + ((kindsAt types (rd words m)).size : Int)) (by omega) (by omega)]
  rw [show ((m : Int) + 1 + ((kindsAt types (rd words m)).size : Int)).toNat = m + 1 + (kindsAt types (rd words m)).size from by omega, show ((m : Int) + 1).toNat = m + 1 from by omega]
  have e2 : (words.take (m + 1 + (kindsAt types (rd words m)).size)).drop (m + 1) = valsAt types words m := rfl
  rw [e2, if_pos (by omega), if_pos (by omega), if_pos (by omega), if_pos h3, if_pos (by omega), if_pos (by omega), if_pos (by omega), if_pos (by omega), if_pos (by omega)]
  rfl
theorem head_fits {types : List ByteArray} {words st : List Int} {ref : Int} (hfit : ∀ x ∈ st, Fits types words x) (h : isHeadB st ref = true) : refk ref = 2 ∧ ref / 2 ∈ st ∧ Fits types words (((ref / 2).toNat : Nat) : Int) ∧ ref / 2 = (((ref / 2).toNat : Nat) : Int) := by
  unfold isHeadB at h
  simp only [Bool.and_eq_true, decide_eq_true_eq] at h
  have hf := hfit _ h.2
  obtain ⟨n, e, _⟩ := id hf
  refine ⟨h.1, h.2, ?_, by omega⟩
  rw [show (((ref / 2).toNat : Nat) : Int) = ref / 2 from by omega]
  exact hf
theorem impl_YoungObject_ev (types : List ByteArray) (sz : Int) (words : List Int) (ref : Int) (hs : ∀ x ∈ types, x.size ≤ 1048576) (hw : ∀ x ∈ words, -9223372036854775808 ≤ x ∧ x ≤ 9223372036854775807) : Ev (fun k => impl_YoungObject.f k types sz words ref) (youngR types sz words ref) := by
  unfold impl_YoungObject.f youngR
  refine Ev.bind (impl_heads_ev types sz words hs hw) ?_
  cases h : headsR types sz words with
  | none => exact Ev.neg (by simp [finL]) (Ev.eq rfl)
  | some st =>
    obtain ⟨ht, hwl, hfit, hsrt, hlen⟩ := parsed_facts (headsR_some h).1
    simp only [finL, List.nil_append]
    refine Ev.pos trivial (Ev.bind (impl_isHead_ev st ref hsrt (by omega)) (Ev.cases (fun c => ?_) (fun c => ?_)))
    · obtain ⟨hr, hm, hf, he⟩ := head_fits hfit c
      have hp := refk_pos hr
      rw [if_pos c, Int.tdiv_eq_ediv_of_nonneg (by omega), w64 (x := ref / 2) (by omega) (by omega), he]
      refine Ev.bindo (youngObject_f types words sz _ ht hwl hw hf) (Ev.eq ?_)
      rw [Int.toNat_natCast]
    · rw [if_neg c]
      exact Ev.eq rfl
theorem spec_YoungObject_ev (types : List ByteArray) (sz : Int) (words : List Int) (ref : Int) (hl : types.length ≤ 1048576) (hs : ∀ x ∈ types, x.size ≤ 1048576) (hw : ∀ x ∈ words, -9223372036854775808 ≤ x ∧ x ≤ 9223372036854775807) : Ev (fun k => spec_YoungObject.f k types sz words ref) (youngR types sz words ref) := by
  unfold spec_YoungObject.f youngR
  refine Ev.bindo (spec_RefKind_f ref) (Ev.cases (fun c => ?_) (fun c => ?_))
  · have hp := refk_pos c
    rw [Int.tdiv_eq_ediv_of_nonneg (by omega), w64 (x := ref / 2) (by omega) (by omega)]
    refine Ev.bind (spec_Starts_ev types sz words hl hs hw) ?_
    have hlen := headsR_length types sz words
    obtain ⟨r, hr, hm⟩ := placeIn_ev ((headsR types sz words).getD []) (ref / 2) (by omega)
    refine Ev.bind hr ?_
    cases h : headsR types sz words with
    | none =>
      rw [h] at hm
      simp only [Option.getD_none, List.not_mem_nil, and_false, false_or, not_false_eq_true, and_true] at hm
      exact Ev.pos (by omega) (Ev.eq rfl)
    | some st =>
      rw [h] at hm
      obtain ⟨ht, hwl, hfit, hsrt, hlen2⟩ := parsed_facts (headsR_some h).1
      rcases hm with ⟨h0, hm⟩ | ⟨h0, hm⟩
      · have hB : isHeadB st ref = true := by unfold isHeadB; simp [c]; exact hm
        obtain ⟨_, _, hf, he⟩ := head_fits hfit hB
        simp only [hB, if_true]
        refine Ev.neg (by omega) ?_
        rw [he]
        refine Ev.bindo (l8Obj_f types words sz _ ht hwl hw hf) (Ev.eq ?_)
        rw [Int.toNat_natCast]
      · have hB : isHeadB st ref = false := by unfold isHeadB; simp [c]; exact hm
        simp only [hB]
        exact Ev.pos (by omega) (Ev.eq rfl)
  · refine Ev.eq ?_
    have hB : ∀ st, isHeadB st ref = false := fun st => by unfold isHeadB; simp [c]
    split
    · simp [hB]
    · rfl
theorem youngR_length (types : List ByteArray) (sz : Int) (words : List Int) (ref : Int) : (youngR types sz words ref).2.1.length ≤ 400 := by
  unfold youngR
  split
  · rename_i st h
    obtain ⟨ht, hwl, hfit, hsrt, hlen⟩ := parsed_facts (headsR_some h).1
    split
    · unfold valsAt
      simp only [List.length_drop, List.length_take]
      omega
    · simp
  · simp
end Go.Proofs.YtgfeafcgpeclcaaDoor.Abs.Pu
