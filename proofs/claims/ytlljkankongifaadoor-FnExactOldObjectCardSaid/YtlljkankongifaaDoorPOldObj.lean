/- OldObject: what the reference and the program come to. For at most 2^20 types of at most 2^20 bytes. -/
import Derived.Test.YtlljkankongifaaDoorPOldR
import Derived.Test.YtlljkankongifaaDoorPObjBytesR
namespace Go.Proofs.YtlljkankongifaaDoor.Abs.Pu
open Go Go.RowKit
set_option linter.unusedVariables false
set_option linter.unusedSectionVars false
set_option linter.unusedSimpArgs false
theorem isObject_data_ev (c : Cfg) (hc : configOk c = true) (o : Int × List Int) : Ev (fun k => impl_isObject_at_impl_oldObject_1.f k c.2.2.2 o.1 o.2 (c.1, (c.2.1, (c.2.2.1, c.2.2.2)))) (objW (dataRefB c) c.2.2.2 o) := by
  have hf := configOk_facts hc
  have ht := hf.2.2.2.2.2.2.2
  have htl := types_len ht
  have hts := type_size ht o.1
  unfold impl_isObject_at_impl_oldObject_1.f impl_size_string.f objW
  refine Ev.bindo rfl (Ev.bindo (within_f _ _ _) ?_)
  rw [w64 (x := (c.2.2.2.length : Int) - 1) (by omega) (by omega)]
  refine Ev.cases (fun k => ?_) (fun k => ?_)
  · rw [k, Bool.true_and]
    simp only [Bool.and_eq_true, decide_eq_true_eq] at k
    refine Ev.pos k.1 (Ev.pos (by omega) ?_)
    by_cases c2 : o.2.length = (rdOf ByteArray.empty c.2.2.2 o.1).size
    · rw [decide_eq_true c2, Bool.true_and]
      refine Ev.pos (by omega) ?_
      refine refs_ev (g := fun k i => impl_isObject_at_impl_oldObject_1.p14 k c.2.2.2 (c.1, (c.2.1, (c.2.2.1, c.2.2.2))) o.1 o.2 o.2 (o.2.length : Int) i) (t := fun _ x => impl_oldObject_1.f x (c.1, (c.2.1, (c.2.2.1, c.2.2.2)))) k.1 (by omega) c2 (by omega) (fun k i => by rw [impl_isObject_at_impl_oldObject_1.p14]) (fun x _ => ?_)
      unfold impl_oldObject_1.f
      exact Ev.bindo (impl_isDataRef_f c hc x) (Ev.eq rfl)
    · rw [decide_eq_false c2, Bool.false_and]
      exact Ev.neg (by omega) (Ev.eq rfl)
  · rw [Bool.eq_false_iff.2 k, Bool.false_and]
    exact Ev.eq rfl
/-- The facts that both need. -/
theorem old_facts {c : Cfg} {image : ByteArray} (hc : configOk c = true) (hz : (image.size : Int) = 64 * c.1) {n : Nat} (hd : isDataB c (n : Int) = true) : n + 1 ≤ 128 ∧ (n : Int) + 1 ≤ c.1 ∧ 64 * n + 64 ≤ image.size ∧ image.size ≤ 8192 := by
  have hf := configOk_facts hc
  have h := isDataB_facts hd
  omega
theorem oldR_no {c : Cfg} {image : ByteArray} {line : Int} (h : ¬ (isDataB c line = true ∧ (0 ≤ typeAt image line ∧ typeAt image line < c.2.2.2.length) ∧ line + runL c.2.2.2 (typeAt image line) ≤ c.1 ∧ (readR c.2.2.2 (partAt c image line)).2 = true ∧ refsB (dataRefB c) (rdOf ByteArray.empty c.2.2.2 (readR c.2.2.2 (partAt c image line)).1.1) 0 (readR c.2.2.2 (partAt c image line)).1.2 = true)) : oldR c image line = ((0, []), false) := by
  unfold oldR
  rw [if_neg h]
theorem impl_oldObject_ev (c : Cfg) (image : ByteArray) (line : Int) (hc : configOk c = true) (hz : (image.size : Int) = 64 * c.1) (hs : ∀ x ∈ c.2.2.2, x.size ≤ 1048576) : Ev (fun k => impl_oldObject.f k c.1 c.2.1 c.2.2.1 c.2.2.2 image line) (out3 (oldR c image line)) := by
  have hf := configOk_facts hc
  have ht := hf.2.2.2.2.2.2.2
  have htl := types_len ht
  unfold impl_oldObject.f
  refine Ev.bindo (impl_isData_f c hc line) (Ev.cases (fun hd => ?_) (fun hd => by rw [oldR_no (fun h => hd h.1)]; exact Ev.eq rfl))
  have hdf := isDataB_facts hd
  obtain ⟨n, rfl⟩ := Int.eq_ofNat_of_zero_le (show 0 ≤ line by omega)
  obtain ⟨f1, f2, f3, f4⟩ := old_facts hc hz hd
  rw [w64 (x := 64 * (n : Int)) (by omega) (by omega), show 64 * (n : Int) = ((64 * n : Nat) : Int) from by omega]
  refine Ev.bind (impl_wordAt_ev image (64 * n) (by omega) (by omega)) (Ev.bindo rfl (Ev.bindo (within_f _ _ _) ?_))
  have hT : typeAt image (n : Int) = wordv image (64 * n) - 1 := by unfold typeAt; rw [Int.toNat_natCast]
  have bad : ∀ b, b = true → oldR c image (n : Int) = ((0, []), false) → Ev (fun k => impl_oldObject.p15 k image (n : Int) c.1 c.2.1 c.2.2.1 c.2.2.2 0 (wordv image (64 * n)) b) (out3 (oldR c image (n : Int))) := by
    intro b hb h
    refine Ev.step (fun k => by rw [impl_oldObject.p15]) ?_
    rw [hb, h]
    exact Ev.pos rfl (Ev.eq rfl)
  refine Ev.cases (fun c1 => ?_) (fun c1 => bad _ rfl (oldR_no (fun h => c1 (by simp; have := h.2.1; omega))))
  simp only [Bool.and_eq_true, decide_eq_true_eq] at c1
  have hb := runL_bound ht (wordv image (64 * n) - 1)
  rw [w64 (x := wordv image (64 * n) - 1) (by omega) (by omega)]
  refine Ev.pos (by omega) (Ev.pos (by omega) (Ev.bindo (impl_runOf_f ht _) ?_))
  rw [w64 (x := (n : Int) + (runL c.2.2.2 (wordv image (64 * n) - 1) : Int)) (by omega) (by omega)]
  by_cases c2 : (n : Int) + (runL c.2.2.2 (wordv image (64 * n) - 1) : Int) ≤ c.1
  rotate_left
  · exact bad _ (decide_eq_true (by omega)) (oldR_no (fun h => c2 (by rw [← hT]; exact h.2.2.1)))
  rw [decide_eq_false (by omega)]
  refine Ev.step (fun k => by rw [impl_oldObject.p15]) ?_
  rw [w64 (x := wordv image (64 * n) - 1) (by omega) (by omega)]
  refine Ev.neg (by simp) (Ev.pos (by omega) (Ev.pos (by omega) (Ev.bindo (impl_runOf_f ht _) ?_)))
  rw [w64 (x := (n : Int) + (runL c.2.2.2 (wordv image (64 * n) - 1) : Int)) (by omega) (by omega), w64 (x := 64 * ((n : Int) + (runL c.2.2.2 (wordv image (64 * n) - 1) : Int))) (by omega) (by omega), w64 (x := 64 * (n : Int)) (by omega) (by omega),
    show (64 * ((n : Int) + (runL c.2.2.2 (wordv image (64 * n) - 1) : Int))).toNat = 64 * (n + runL c.2.2.2 (wordv image (64 * n) - 1)) from by omega, show (64 * (n : Int)).toNat = 64 * n from by omega]
  have hP : partAt c image (n : Int) = image.extract (64 * n) (64 * (n + runL c.2.2.2 (wordv image (64 * n) - 1))) := by unfold partAt; rw [hT, Int.toNat_natCast]
  rw [← hP]
  have hps : (partAt c image (n : Int)).size ≤ 140737488355328 := by rw [hP, ByteArray.size_extract]; omega
  refine Ev.pos (by omega) (Ev.pos (by omega) (Ev.pos (by omega) (Ev.pos (by omega) (Ev.bind (impl_ReadObject_ev c.2.2.2 _ hs hps) ?_))))
  by_cases c3 : (readR c.2.2.2 (partAt c image (n : Int))).2 = true
  rotate_left
  · rw [oldR_no (fun h => c3 h.2.2.2.1)]
    exact Ev.neg c3 (Ev.eq rfl)
  obtain ⟨r1, _, r3, _, _⟩ := readR_yes c3
  rw [← r1] at r3
  refine Ev.pos c3 (Ev.bind (isObject_data_ev c hc (readR c.2.2.2 (partAt c image (n : Int))).1) ?_)
  obtain ⟨o1, o2, o3, o4, o5, o6, o7⟩ := objOk8_facts r3
  have hW : objW (dataRefB c) c.2.2.2 (readR c.2.2.2 (partAt c image (n : Int))).1 = refsB (dataRefB c) (rdOf ByteArray.empty c.2.2.2 (readR c.2.2.2 (partAt c image (n : Int))).1.1) 0 (readR c.2.2.2 (partAt c image (n : Int))).1.2 := by
    unfold objW
    rw [decide_eq_true o2, decide_eq_true (by omega), decide_eq_true o5]
    rfl
  rw [hW]
  refine Ev.cases (fun c4 => Ev.eq ?_) (fun c4 => ?_)
  · unfold oldR
    rw [if_pos ⟨hd, by omega, by rw [hT]; exact c2, c3, c4⟩]
    rfl
  · rw [oldR_no (fun h => c4 h.2.2.2.2)]
    exact Ev.eq rfl
theorem spec_l10Old_ev (c : Cfg) (image : ByteArray) (line : Int) (hc : configOk c = true) (hz : (image.size : Int) = 64 * c.1) (hl : c.2.2.2.length ≤ 1048576) (hs : ∀ x ∈ c.2.2.2, x.size ≤ 1048576) (hd : isDataB c line = true) : Ev (fun k => spec_l10Old.f k c.1 c.2.1 c.2.2.1 c.2.2.2 image line) (out3 (oldR c image line)) := by
  have hf := configOk_facts hc
  have ht := hf.2.2.2.2.2.2.2
  have htl := types_len ht
  have hdf := isDataB_facts hd
  obtain ⟨n, rfl⟩ := Int.eq_ofNat_of_zero_le (show 0 ≤ line by omega)
  obtain ⟨f1, f2, f3, f4⟩ := old_facts hc hz hd
  have hT : typeAt image (n : Int) = wordv image (64 * n) - 1 := by unfold typeAt; rw [Int.toNat_natCast]
  unfold spec_l10Old.f
  have bad : oldR c image (n : Int) = ((0, []), false) → ∀ {g : Nat → Option (Int × List Int × Bool)}, Ev g (0, [], false) → Ev (fun k => (g k).bind fun t1 => (if t1.2.2 = true then (spec_l10Old.p16 k c.1 c.2.1 c.2.2.1 c.2.2.2 0 t1.1 t1.2.1 0) else (some (0, ([] : List Int), false)))) (out3 (oldR c image (n : Int))) := by
    intro h g hg
    rw [h]
    exact Ev.bind hg (Ev.neg (by simp) (Ev.eq rfl))
  have hw := spec_l9Word_ev image (8 * n) (by omega) (by omega)
  rw [show 8 * (8 * n) = 64 * n from by omega] at hw
  by_cases c1 : 1 ≤ wordv image (64 * n) ∧ wordv image (64 * n) ≤ c.2.2.2.length
  rotate_left
  · refine bad (oldR_no (fun h => c1 (by have := h.2.1; omega))) ?_
    unfold spec_l10Obj.f
    rw [w64 (x := 8 * (n : Int)) (by omega) (by omega), show 8 * (n : Int) = ((8 * n : Nat) : Int) from by omega]
    refine Ev.bind hw (Ev.bindo (l1In_f _ _ _) (Ev.neg (by simp only [Bool.and_eq_true, decide_eq_true_eq]; exact c1) (Ev.eq rfl)))
  have hb := runL_bound ht (wordv image (64 * n) - 1)
  have hrun := spec_RunOf_ev ht (t := wordv image (64 * n) - 1) (by omega) (by omega)
  by_cases c2 : (n : Int) + (runL c.2.2.2 (wordv image (64 * n) - 1) : Int) ≤ c.1
  rotate_left
  · refine bad (oldR_no (fun h => c2 (by rw [← hT]; exact h.2.2.1))) ?_
    unfold spec_l10Obj.f
    rw [w64 (x := 8 * (n : Int)) (by omega) (by omega), show 8 * (n : Int) = ((8 * n : Nat) : Int) from by omega]
    refine Ev.bind hw (Ev.bindo (l1In_f _ _ _) (Ev.pos (by simp only [Bool.and_eq_true, decide_eq_true_eq]; exact c1) ?_))
    rw [w64 (x := wordv image (64 * n) - 1) (by omega) (by omega)]
    refine Ev.pos (by omega) (Ev.pos (by omega) (Ev.bind hrun ?_))
    rw [w64 (x := (n : Int) + (runL c.2.2.2 (wordv image (64 * n) - 1) : Int)) (by omega) (by omega), w64 (x := 64 * ((n : Int) + (runL c.2.2.2 (wordv image (64 * n) - 1) : Int))) (by omega) (by omega)]
    exact Ev.pos (by omega) (Ev.eq rfl)
  have hP : partAt c image (n : Int) = image.extract (64 * n) (64 * (n + runL c.2.2.2 (wordv image (64 * n) - 1))) := by unfold partAt; rw [hT, Int.toNat_natCast]
  have hps : (partAt c image (n : Int)).size ≤ 140737488355328 := by rw [hP, ByteArray.size_extract]; omega
  have hobj : Ev (fun k => spec_l10Obj.f k c.1 c.2.1 c.2.2.1 c.2.2.2 image (n : Int)) (out3 (readR c.2.2.2 (partAt c image (n : Int)))) := by
    unfold spec_l10Obj.f
    rw [w64 (x := 8 * (n : Int)) (by omega) (by omega), show 8 * (n : Int) = ((8 * n : Nat) : Int) from by omega]
    refine Ev.bind hw (Ev.bindo (l1In_f _ _ _) (Ev.pos (by simp only [Bool.and_eq_true, decide_eq_true_eq]; exact c1) ?_))
    rw [w64 (x := wordv image (64 * n) - 1) (by omega) (by omega)]
    refine Ev.pos (by omega) (Ev.pos (by omega) (Ev.bind hrun ?_))
    rw [w64 (x := (n : Int) + (runL c.2.2.2 (wordv image (64 * n) - 1) : Int)) (by omega) (by omega), w64 (x := 64 * ((n : Int) + (runL c.2.2.2 (wordv image (64 * n) - 1) : Int))) (by omega) (by omega), w64 (x := 64 * (n : Int)) (by omega) (by omega),
      show (64 * ((n : Int) + (runL c.2.2.2 (wordv image (64 * n) - 1) : Int))).toNat = 64 * (n + runL c.2.2.2 (wordv image (64 * n) - 1)) from by omega, show (64 * (n : Int)).toNat = 64 * n from by omega, ← hP]
    exact Ev.neg (by omega) (Ev.pos (by omega) (Ev.pos (by omega) (Ev.pos (by omega) (Ev.pos (by omega) (Ev.bind (spec_ReadObject_ev c.2.2.2 _ hl hs hps) (Ev.eq rfl))))))
  refine Ev.bind hobj ?_
  by_cases c3 : (readR c.2.2.2 (partAt c image (n : Int))).2 = true
  rotate_left
  · rw [oldR_no (fun h => c3 h.2.2.2.1)]
    exact Ev.neg c3 (Ev.eq rfl)
  obtain ⟨r1, _, r3, _, _⟩ := readR_yes c3
  rw [← r1] at r3
  obtain ⟨o1, o2, o3, o4, o5, o6, o7⟩ := objOk8_facts r3
  refine Ev.pos c3 ?_
  have hR : oldR c image (n : Int) = if refsB (dataRefB c) (rdOf ByteArray.empty c.2.2.2 (readR c.2.2.2 (partAt c image (n : Int))).1.1) 0 (readR c.2.2.2 (partAt c image (n : Int))).1.2 = true then ((readR c.2.2.2 (partAt c image (n : Int))).1, true) else ((0, []), false) := by
    split
    · rename_i c4
      unfold oldR
      rw [if_pos ⟨hd, by omega, by rw [hT]; exact c2, c3, c4⟩]
    · rename_i c4
      exact oldR_no (fun h => c4 h.2.2.2.2)
  rw [hR]
  generalize (readR c.2.2.2 (partAt c image (n : Int))) = R at *
  obtain ⟨⟨tp, vals⟩, b⟩ := R
  simp only [out3] at *
  have key : ∀ i, i ≤ vals.length → Ev (fun k => spec_l10Old.p16 k c.1 c.2.1 c.2.2.1 c.2.2.2 0 tp vals (i : Int)) (out3 (if refsB (dataRefB c) (rdOf ByteArray.empty c.2.2.2 tp) i (vals.drop i) = true then ((tp, vals), true) else ((0, []), false))) := by
    refine down ?_ ?_
    · refine Ev.step (fun k => by rw [spec_l10Old.p16]) ?_
      rw [List.drop_eq_nil_of_le (Nat.le_refl _)]
      exact Ev.neg (by omega) (Ev.eq rfl)
    · intro i hi ih
      refine Ev.step (fun k => by rw [spec_l10Old.p16]) ?_
      rw [rd_get hi, w64s (i := i) (by omega), List.drop_eq_getElem_cons hi, refsB]
      refine Ev.pos (by omega) (Ev.pos o2 (Ev.pos o3 (Ev.pos (by omega) (Ev.pos (by omega) ?_))))
      by_cases k1 : bt (rdOf ByteArray.empty c.2.2.2 tp) (i : Int) = 114
      · rw [if_pos k1]
        refine Ev.pos k1 (Ev.pos (by omega) (Ev.pos (by omega) (Ev.bindo (spec_l10Ref_f c hc _) (Ev.cases (fun k2 => ?_) (fun k2 => ?_)))))
        · rw [k2, Bool.true_and]
          exact ih
        · rw [Bool.eq_false_iff.2 k2, Bool.false_and]
          exact Ev.eq rfl
      · rw [if_neg k1]
        exact Ev.neg k1 ih
  have := key 0 (Nat.zero_le _)
  rw [List.drop_zero] at this
  exact this
def oldO (c : Cfg) (image : ByteArray) (line : Int) : (Int × List Int) × Bool := if isImageB c image = true then oldR c image line else ((0, []), false)
theorem impl_OldObject_ev (c : Cfg) (image : ByteArray) (line : Int) (hs : ∀ x ∈ c.2.2.2, x.size ≤ 1048576) : Ev (fun k => impl_OldObject.f k c.1 c.2.1 c.2.2.1 c.2.2.2 image line) (out3 (oldO c image line)) := by
  unfold impl_OldObject.f oldO
  refine Ev.bind (impl_isImage_ev c image hs) (Ev.cases (fun h => ?_) (fun h => by rw [if_neg h]; exact Ev.eq rfl))
  obtain ⟨hc, hz⟩ := isImageB_facts h
  rw [if_pos h]
  exact Ev.bind (impl_oldObject_ev c image line hc hz hs) (Ev.eq rfl)
theorem spec_OldObject_ev (c : Cfg) (image : ByteArray) (line : Int) (hl : c.2.2.2.length ≤ 1048576) (hs : ∀ x ∈ c.2.2.2, x.size ≤ 1048576) : Ev (fun k => spec_OldObject.f k c.1 c.2.1 c.2.2.1 c.2.2.2 image line) (out3 (oldO c image line)) := by
  unfold spec_OldObject.f oldO
  refine Ev.bind (spec_l5Image_ev c image hl hs) (Ev.cases (fun h => ?_) (fun h => by rw [if_neg h]; exact Ev.eq rfl))
  obtain ⟨hc, hz⟩ := isImageB_facts h
  rw [if_pos h]
  refine Ev.bindo (spec_l10Line_f c hc line) (Ev.cases (fun hd => ?_) (fun hd => by rw [oldR_no (fun h => hd h.1)]; exact Ev.eq rfl))
  exact Ev.bind (spec_l10Old_ev c image line hc hz hl hs hd) (Ev.eq rfl)
end Go.Proofs.YtlljkankongifaaDoor.Abs.Pu
