/- ObjectBytes and ReadObject: what the reference and the program come to. For at most 2^20 types of at most 2^20 bytes, texts of at most 2^47 bytes. -/
import Derived.Test.YtlljkankongifaaDoorPReadR
import Derived.Test.YtlljkankongifaaDoorPWordBytes
import Derived.Test.YtlljkankongifaaDoorPZeros
import Derived.Test.YtlljkankongifaaDoorPObjOk
import Derived.Test.YtlljkankongifaaDoorPReads
namespace Go.Proofs.YtlljkankongifaaDoor.Abs.Pu
open Go Go.RowKit
set_option linter.unusedVariables false
set_option linter.unusedSectionVars false
set_option linter.unusedSimpArgs false
theorem objOk8_eq (types : List ByteArray) (o : Int × List Int) : objOkB types o = objOk8 types o := rfl
theorem type_at {types : List ByteArray} (ht : typesOk types = true) {t : Int} (h0 : 0 ≤ t) (h1 : t < types.length) : typeOk (rdOf ByteArray.empty types t) = true := by
  unfold typesOk at ht
  rw [Bool.and_eq_true, List.all_eq_true] at ht
  have h : t.toNat < types.length := by omega
  have e := rdg (d := ByteArray.empty) h
  rw [Int.toNat_of_nonneg h0] at e
  rw [e]
  exact ht.2 _ (List.getElem_mem h)
theorem spec_RunOf_ev {types : List ByteArray} (ht : typesOk types = true) {t : Int} (h0 : 0 ≤ t) (h1 : t < types.length) : Ev (fun k => spec_RunOf.f k (rdOf ByteArray.empty types t)) (runL types t : Int) := by
  have hz := type_size ht t
  unfold spec_RunOf.f
  refine Ev.bind (l3Type_ev _ (by omega)) (Ev.pos (type_at ht h0 h1) (Ev.eq ?_))
  unfold runL
  rw [w64 (x := 1 + ((rdOf ByteArray.empty types t).size : Int)) (by omega) (by omega), w64 (x := 1 + ((rdOf ByteArray.empty types t).size : Int) + 7) (by omega) (by omega), Int.tdiv_eq_ediv_of_nonneg (by omega), w64 (by omega) (by omega)]
  omega
theorem impl_runOf_f {types : List ByteArray} (ht : typesOk types = true) (t : Int) : impl_runOf.f (rdOf ByteArray.empty types t) = some (runL types t : Int) := by
  have hz := type_size ht t
  unfold impl_runOf.f runL
  rw [w64 (x := ((rdOf ByteArray.empty types t).size : Int) + 8) (by omega) (by omega), Int.tdiv_eq_ediv_of_nonneg (by omega), w64 (by omega) (by omega)]
  refine congrArg some ?_
  omega
def SB (l : List Int) : ByteArray := strOfNums (WL l)
theorem SB_size (l : List Int) : (SB l).size = 8 * l.length := by rw [SB, strOfNums_size, WL_length]
theorem SB_snoc (l : List Int) (n : Int) : SB (l ++ [n]) = SB l ++ wordB n := by
  unfold SB wordB
  rw [WL_append, strOfNums_append, WL, WL, List.append_nil]
theorem SB_one (n : Int) : wordB n = SB [n] := by
  unfold SB wordB
  rw [WL, WL, List.append_nil]
theorem objB8_eq (types : List ByteArray) (o : Int × List Int) : objB8 types o = SB ((o.1 + 1) :: o.2) ++ zerosB (64 * runL types o.1 - 8 * (o.2.length + 1)) := by
  unfold objB8 SB zerosB
  rw [strOfNums_append]
theorem spec_ObjectBytes_ev (types : List ByteArray) (o : Int × List Int) (hl : types.length ≤ 1048576) (hs : ∀ x ∈ types, x.size ≤ 1048576) : Ev (fun k => spec_ObjectBytes.f k types o.1 o.2) (bytesR types o) := by
  unfold spec_ObjectBytes.f bytesR
  refine Ev.bind (spec_ObjOk_ev types o hl hs) ?_
  rw [objOk8_eq]
  by_cases c : objOk8 types o = true
  rotate_left
  · rw [if_neg c]; exact Ev.neg c (Ev.eq rfl)
  rw [if_pos c]
  refine Ev.pos c ?_
  obtain ⟨ht, h0, h1, h2, h3, h4, h5⟩ := objOk8_facts c
  have hr := runL_bound ht o.1
  rw [w64 (x := o.1 + 1) (by omega) (by omega)]
  refine Ev.bind (spec_WordBytes_ev (o.1 + 1)) ?_
  rw [SB_one, objB8_eq]
  obtain ⟨tp, vals⟩ := o
  simp only [] at *
  have hrun := spec_RunOf_ev ht h0 h1
  have key : ∀ i, i ≤ vals.length → Ev (fun k => spec_ObjectBytes.p16 k types tp vals (SB ((tp + 1) :: vals.take i)) (i : Int)) (SB ((tp + 1) :: vals) ++ zerosB (64 * runL types tp - 8 * (vals.length + 1))) := by
    refine down ?_ ?_
    · refine Ev.step (fun k => by rw [spec_ObjectBytes.p16]) ?_
      rw [List.take_of_length_le (Nat.le_refl _)]
      have hz := SB_size ((tp + 1) :: vals)
      rw [List.length_cons] at hz
      have hzz := spec_l1Zeros_f (64 * runL types tp - 8 * (vals.length + 1)) (by omega)
      have hzs := zerosB_size (64 * runL types tp - 8 * (vals.length + 1))
      refine Ev.neg (by omega) (Ev.pos h0 (Ev.pos h1 (Ev.bind hrun ?_)))
      rw [w64 (x := 64 * (runL types tp : Int)) (by omega) (by omega), w64 (x := 64 * (runL types tp : Int) - ((SB ((tp + 1) :: vals)).size : Int)) (by omega) (by omega), show 64 * (runL types tp : Int) - ((SB ((tp + 1) :: vals)).size : Int) = ((64 * runL types tp - 8 * (vals.length + 1) : Nat) : Int) from by omega]
      exact Ev.bindo hzz (Ev.pos (by omega) (Ev.eq rfl))
    · intro i hi ih
      refine Ev.step (fun k => by rw [spec_ObjectBytes.p16]) ?_
      rw [rd_get hi, w64s (i := i) (by omega)]
      rw [take_snoc2 vals i hi, ← List.cons_append, SB_snoc] at ih
      have hz := SB_size ((tp + 1) :: vals.take i)
      rw [List.length_cons, List.length_take] at hz
      have hz2 := wordB_size vals[i]
      exact Ev.pos (by omega) (Ev.pos (by omega) (Ev.pos (by omega) (Ev.bind (spec_WordBytes_ev _) (Ev.pos (by omega) ih))))
  exact key 0 (Nat.zero_le _)
theorem impl_ObjectBytes_ev (types : List ByteArray) (o : Int × List Int) (hs : ∀ x ∈ types, x.size ≤ 1048576) : Ev (fun k => impl_ObjectBytes.f k types o.1 o.2) (bytesR types o) := by
  unfold impl_ObjectBytes.f bytesR
  refine Ev.bind (impl_ObjOk_ev types o hs) ?_
  rw [objOk8_eq]
  by_cases c : objOk8 types o = true
  rotate_left
  · rw [if_neg c]; exact Ev.neg c (Ev.eq rfl)
  rw [if_pos c]
  refine Ev.pos c (Ev.bind (a := objB8 types o) ?_ (Ev.eq rfl))
  obtain ⟨ht, h0, h1, h2, h3, h4, h5⟩ := objOk8_facts c
  have hr := runL_bound ht o.1
  unfold impl_objectBytes.f
  rw [w64 (x := o.1 + 1) (by omega) (by omega)]
  refine Ev.bind (impl_WordBytes_ev (o.1 + 1)) ?_
  rw [SB_one, objB8_eq]
  obtain ⟨tp, vals⟩ := o
  simp only [] at *
  have hrun := impl_runOf_f ht tp
  have key : ∀ i, i ≤ vals.length → Ev (fun k => impl_objectBytes.p8 k types tp vals (SB ((tp + 1) :: vals.take i)) vals (vals.length : Int) (i : Int)) (SB ((tp + 1) :: vals) ++ zerosB (64 * runL types tp - 8 * (vals.length + 1))) := by
    refine down ?_ ?_
    · refine Ev.step (fun k => by rw [impl_objectBytes.p8]) ?_
      rw [List.take_of_length_le (Nat.le_refl _)]
      have hz := SB_size ((tp + 1) :: vals)
      rw [List.length_cons] at hz
      have hzz := impl_zeros_f (64 * runL types tp - 8 * (vals.length + 1)) (by omega)
      have hzs := zerosB_size (64 * runL types tp - 8 * (vals.length + 1))
      refine Ev.neg (by omega) (Ev.pos h0 (Ev.pos h1 (Ev.bindo hrun ?_)))
      rw [w64 (x := 64 * (runL types tp : Int)) (by omega) (by omega), w64 (x := 64 * (runL types tp : Int) - ((SB ((tp + 1) :: vals)).size : Int)) (by omega) (by omega), show 64 * (runL types tp : Int) - ((SB ((tp + 1) :: vals)).size : Int) = ((64 * runL types tp - 8 * (vals.length + 1) : Nat) : Int) from by omega]
      exact Ev.bindo hzz (Ev.pos (by omega) (Ev.eq rfl))
    · intro i hi ih
      refine Ev.step (fun k => by rw [impl_objectBytes.p8]) ?_
      rw [rd_get hi, w64s (i := i) (by omega)]
      rw [take_snoc2 vals i hi, ← List.cons_append, SB_snoc] at ih
      have hz := SB_size ((tp + 1) :: vals.take i)
      rw [List.length_cons, List.length_take] at hz
      have hz2 := wordB_size vals[i]
      exact Ev.pos (by omega) (Ev.pos (by omega) (Ev.pos (by omega) (Ev.bind (impl_WordBytes_ev _) (Ev.pos (by omega) ih))))
  exact key 0 (Nat.zero_le _)
theorem valsOf_length (s : ByteArray) (n : Nat) : (valsOf s n).length = n := by simp [valsOf]
theorem valsOf_get (s : ByteArray) (n i : Nat) (h : i < (valsOf s n).length) : (valsOf s n)[i] = wordv s (8 + 8 * i) := by simp [valsOf]
theorem readR_no {types : List ByteArray} {s : ByteArray} (h : ¬ (typesOk types = true ∧ 64 ≤ s.size ∧ (1 ≤ wordv s 0 ∧ wordv s 0 ≤ types.length) ∧ s.size = 64 * runL types (wordv s 0 - 1) ∧ bytesR types (readO types s) = s)) : readR types s = ((0, []), false) := by
  unfold readR
  rw [if_neg h]
def out3 (r : (Int × List Int) × Bool) : Int × List Int × Bool := (r.1.1, r.1.2, r.2)
theorem spec_ReadObject_ev (types : List ByteArray) (s : ByteArray) (hl : types.length ≤ 1048576) (hs : ∀ x ∈ types, x.size ≤ 1048576) (hz : s.size ≤ 140737488355328) : Ev (fun k => spec_ReadObject.f k types s) (out3 (readR types s)) := by
  have bad : ∀ b, b = true → readR types s = ((0, []), false) → Ev (fun k => spec_ReadObject.p5 k types s 0 b) (out3 (readR types s)) := by
    intro b hb h
    refine Ev.step (fun k => by rw [spec_ReadObject.p5]) ?_
    rw [hb, h]
    exact Ev.pos rfl (Ev.eq rfl)
  unfold spec_ReadObject.f
  refine Ev.bind (spec_TypesOk_ev types hl hs) (Ev.cases (fun ht => ?_) (fun ht => bad _ rfl (readR_no (fun h => ht h.1))))
  have htl := types_len ht
  by_cases c : 64 ≤ s.size
  rotate_left
  · exact bad _ (decide_eq_true (by omega)) (readR_no (fun h => c h.2.1))
  rw [decide_eq_false (by omega)]
  refine Ev.step (fun k => by rw [spec_ReadObject.p5]) ?_
  refine Ev.neg (by simp) (Ev.pos (by omega) (Ev.bind (spec_ReadWord_ev _ (by rw [ByteArray.size_extract]; omega)) ?_))
  have hw := wordv_extract s 0 (by omega)
  rw [Nat.zero_add] at hw
  rw [hw]
  simp only []
  refine Ev.bindo (l1In_f _ _ _) (Ev.cases (fun c1 => ?_) (fun c1 => ?_))
  rotate_left
  · rw [readR_no (fun h => c1 (by simp; exact h.2.2.1))]
    exact Ev.eq rfl
  simp only [Bool.and_eq_true, decide_eq_true_eq] at c1
  have hb := runL_bound ht (wordv s 0 - 1)
  have hts := type_size ht (wordv s 0 - 1)
  rw [w64 (x := wordv s 0 - 1) (by omega) (by omega)]
  refine Ev.pos (by omega) (Ev.pos (by omega) (Ev.bind (spec_RunOf_ev ht (by omega) (by omega)) ?_))
  rw [w64 (x := 64 * (runL types (wordv s 0 - 1) : Int)) (by omega) (by omega)]
  by_cases c2 : s.size = 64 * runL types (wordv s 0 - 1)
  rotate_left
  · rw [readR_no (fun h => c2 h.2.2.2.1)]
    exact Ev.neg (by omega) (Ev.eq rfl)
  refine Ev.pos (by omega) ?_
  have hO := spec_ObjectBytes_ev types (readO types s) hl hs
  have key : ∀ i, i ≤ (rdOf ByteArray.empty types (wordv s 0 - 1)).size → Ev (fun k => spec_ReadObject.p26 k types s 0 (wordv s 0) (wordv s 0 - 1) ((valsOf s (rdOf ByteArray.empty types (wordv s 0 - 1)).size).take i) (i : Int)) (out3 (readR types s)) := by
    have hvl := valsOf_length s (rdOf ByteArray.empty types (wordv s 0 - 1)).size
    have hvg := valsOf_get s (rdOf ByteArray.empty types (wordv s 0 - 1)).size
    refine down ?_ ?_
    · refine Ev.step (fun k => by rw [spec_ReadObject.p26]) ?_
      rw [w64 (x := wordv s 0 - 1) (by omega) (by omega), List.take_of_length_le (by omega)]
      refine Ev.pos (by omega) (Ev.pos (by omega) (Ev.neg (by omega) (Ev.bind hO ?_)))
      by_cases c3 : bytesR types (readO types s) = s
      · refine Ev.pos (toList_inj.2 c3) (Ev.eq ?_)
        unfold readR
        rw [if_pos ⟨ht, c, c1, c2, c3⟩]
        rfl
      · rw [readR_no (fun h => c3 h.2.2.2.2)]
        exact Ev.neg (fun h => c3 (toList_inj.1 h)) (Ev.eq rfl)
    · intro i hi ih
      have hi2 : i < (valsOf s (rdOf ByteArray.empty types (wordv s 0 - 1)).size).length := by omega
      refine Ev.step (fun k => by rw [spec_ReadObject.p26]) ?_
      rw [take_snoc2 _ i hi2, hvg i hi2] at ih
      have hle : ((valsOf s (rdOf ByteArray.empty types (wordv s 0 - 1)).size).take i).length + 1 ≤ 17592186044416 := by rw [List.length_take]; omega
      generalize (valsOf s (rdOf ByteArray.empty types (wordv s 0 - 1)).size).take i = V at *
      rw [w64 (x := wordv s 0 - 1) (by omega) (by omega), w64s (i := i) (by omega), w64 (x := 8 * (i : Int)) (by omega) (by omega), w64 (x := 16 + 8 * (i : Int)) (by omega) (by omega), w64 (x := 8 + 8 * (i : Int)) (by omega) (by omega)]
      rw [show (8 + 8 * (i : Int)).toNat = 8 + 8 * i from by omega, show (16 + 8 * (i : Int)).toNat = 8 + 8 * i + 8 from by omega]
      refine Ev.pos (by omega) (Ev.pos (by omega) (Ev.pos (by omega) (Ev.pos (by omega) (Ev.pos (by omega) (Ev.pos (by omega) (Ev.pos (by omega) (Ev.bind (spec_ReadWord_ev _ (by rw [ByteArray.size_extract]; omega)) (Ev.pos hle ?_))))))))
      rw [wordv_extract s (8 + 8 * i) (by omega)]
      exact ih
  exact key 0 (Nat.zero_le _)
theorem impl_objectOf_ev {types : List ByteArray} (ht : typesOk types = true) {t : Int} (h0 : 0 ≤ t) (h1 : t < types.length) (s : ByteArray) (hs : s.size = 64 * runL types t) : Ev (fun k => impl_objectOf.f k types t s) (t, valsOf s (rdOf ByteArray.empty types t).size) := by
  have hb := runL_bound ht t
  have hts := type_size ht t
  have hvl := valsOf_length s (rdOf ByteArray.empty types t).size
  have hvg := valsOf_get s (rdOf ByteArray.empty types t).size
  have key : ∀ i, i ≤ (rdOf ByteArray.empty types t).size → Ev (fun k => impl_objectOf.p8 k s 0 t ((valsOf s (rdOf ByteArray.empty types t).size).take i) ((rdOf ByteArray.empty types t).size : Int) (i : Int)) (t, valsOf s (rdOf ByteArray.empty types t).size) := by
    refine down ?_ ?_
    · refine Ev.step (fun k => by rw [impl_objectOf.p8]) ?_
      rw [List.take_of_length_le (by omega)]
      exact Ev.neg (by omega) (Ev.eq rfl)
    · intro i hi ih
      have hi2 : i < (valsOf s (rdOf ByteArray.empty types t).size).length := by omega
      refine Ev.step (fun k => by rw [impl_objectOf.p8]) ?_
      rw [take_snoc2 _ i hi2, hvg i hi2] at ih
      have hle : ((valsOf s (rdOf ByteArray.empty types t).size).take i).length + 1 ≤ 17592186044416 := by rw [List.length_take]; omega
      rw [w64s (i := i) (by omega), w64 (x := 8 * (i : Int)) (by omega) (by omega), w64 (x := 8 + 8 * (i : Int)) (by omega) (by omega), show 8 + 8 * (i : Int) = ((8 + 8 * i : Nat) : Int) from by omega]
      exact Ev.pos (by omega) (Ev.bind (impl_wordAt_ev s (8 + 8 * i) (by omega) (by omega)) (Ev.pos hle ih))
  unfold impl_objectOf.f
  exact Ev.pos h0 (Ev.pos h1 (key 0 (Nat.zero_le _)))
theorem impl_ReadObject_ev (types : List ByteArray) (s : ByteArray) (hs : ∀ x ∈ types, x.size ≤ 1048576) (hz : s.size ≤ 140737488355328) : Ev (fun k => impl_ReadObject.f k types s) (out3 (readR types s)) := by
  have bad : ∀ b, b = true → readR types s = ((0, []), false) → Ev (fun k => impl_ReadObject.p5 k types s 0 b) (out3 (readR types s)) := by
    intro b hb h
    refine Ev.step (fun k => by rw [impl_ReadObject.p5]) ?_
    rw [hb, h]
    exact Ev.pos rfl (Ev.eq rfl)
  unfold impl_ReadObject.f
  refine Ev.bind (impl_TypesOk_ev types hs) (Ev.cases (fun ht => ?_) (fun ht => bad _ rfl (readR_no (fun h => ht h.1))))
  have htl := types_len ht
  by_cases c : 8 ≤ s.size
  rotate_left
  · exact bad _ (decide_eq_true (by omega)) (readR_no (fun h => by have := h.2.1; omega))
  rw [decide_eq_false (by omega)]
  refine Ev.step (fun k => by rw [impl_ReadObject.p5]) ?_
  refine Ev.neg (by simp) (Ev.bind (impl_wordAt_ev s 0 (by omega) hz) (Ev.bindo rfl (Ev.bindo (within_f _ _ _) ?_)))
  have bad2 : ∀ b, b = true → readR types s = ((0, []), false) → Ev (fun k => impl_ReadObject.p15 k types s 0 (wordv s 0) b) (out3 (readR types s)) := by
    intro b hb h
    refine Ev.step (fun k => by rw [impl_ReadObject.p15]) ?_
    rw [hb, h]
    exact Ev.pos rfl (Ev.eq rfl)
  refine Ev.cases (fun c1 => ?_) (fun c1 => bad2 _ rfl (readR_no (fun h => c1 (by simp; exact h.2.2.1))))
  simp only [Bool.and_eq_true, decide_eq_true_eq] at c1
  have hb := runL_bound ht (wordv s 0 - 1)
  have hts := type_size ht (wordv s 0 - 1)
  rw [w64 (x := wordv s 0 - 1) (by omega) (by omega)]
  refine Ev.pos (by omega) (Ev.pos (by omega) (Ev.bindo (impl_runOf_f ht _) ?_))
  rw [w64 (x := 64 * (runL types (wordv s 0 - 1) : Int)) (by omega) (by omega)]
  by_cases c2 : s.size = 64 * runL types (wordv s 0 - 1)
  rotate_left
  · exact bad2 _ (by rw [decide_eq_false (by omega)]; rfl) (readR_no (fun h => c2 h.2.2.2.1))
  rw [decide_eq_true (by omega)]
  refine Ev.step (fun k => by rw [impl_ReadObject.p15]) ?_
  rw [w64 (x := wordv s 0 - 1) (by omega) (by omega)]
  have hO := impl_ObjectBytes_ev types (readO types s) hs
  refine Ev.neg (by simp) (Ev.bind (impl_objectOf_ev ht (by omega) (by omega) s c2) (Ev.bind hO ?_))
  by_cases c3 : bytesR types (readO types s) = s
  · refine Ev.pos (toList_inj.2 c3) (Ev.eq ?_)
    unfold readR
    rw [if_pos ⟨ht, by omega, c1, c2, c3⟩]
    rfl
  · rw [readR_no (fun h => c3 h.2.2.2.2)]
    exact Ev.neg (fun h => c3 (toList_inj.1 h)) (Ev.eq rfl)
end Go.Proofs.YtlljkankongifaaDoor.Abs.Pu
