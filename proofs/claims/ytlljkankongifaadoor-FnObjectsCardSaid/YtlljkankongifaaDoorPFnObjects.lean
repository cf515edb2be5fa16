/- FnObjects: of every code: objects are recovered from their bytes, and the program writes and reads as the reference does. No condition. -/
import Derived.Test.YtlljkankongifaaDoorPDrawObj2
import Derived.Test.YtlljkankongifaaDoorPHurtS
import Derived.Test.YtlljkankongifaaDoorPObjBytesR
import Derived.Test.YtlljkankongifaaDoorPSame
namespace Go.Proofs.YtlljkankongifaaDoor.Abs.Pu
open Go Go.RowKit
set_option linter.unusedVariables false
set_option linter.unusedSectionVars false
set_option linter.unusedSimpArgs false
theorem sameObj2_ev (o : Int × List Int) (hl : o.2.length ≤ 1099511627776) : Ev (fun k => laws_sameObj.f k o.1 o.2 o.1 o.2) true := by
  unfold laws_sameObj.f
  exact Ev.pos rfl (Ev.bind (sameInts_ev o.2 hl) (Ev.eq rfl))
theorem bytesR_size (types : List ByteArray) (o : Int × List Int) : (bytesR types o).size ≤ 192 := by
  unfold bytesR
  split
  · rename_i h
    obtain ⟨ht, _, _, _, h3, _, _⟩ := objOk8_facts h
    have := objB8_size ht h3
    have := runL_bound ht o.1
    omega
  · exact Nat.zero_le _
theorem drawObjectBytes_ev {l : List Int} (hb : isBytes l) (hl : l.length ≤ 1099511627776) : ∃ (types : List ByteArray) (o : Int × List Int), Ev (fun k => spec_DrawObjectBytes.f k l) (types, o.1, o.2) ∧ types.length ≤ 200 ∧ (∀ x ∈ types, x.size ≤ 200) ∧ o.2.length ≤ 100 ∧ Ints o.2 := by
  obtain ⟨ts, q, e, h1, h2, hs, hq⟩ := drawTypes1_ev (Rd.start hb hl)
  obtain ⟨t, vals, q2, e2, hv, hi, hq2⟩ := obj2_ev hq ts h1 h2 hs
  obtain ⟨ts', q3, e3, h3, h4, hq3⟩ := hurtTypes_ev hq2 ts h1 h2 (fun x hx => (hs x hx).2)
  refine ⟨ts', (t, vals), ?_, h3, h4, hv, hi⟩
  unfold spec_DrawObjectBytes.f spec_DrawObjOk.f
  exact Ev.bind (Ev.bindo rfl (Ev.bind e (Ev.bind e2 (Ev.bind e3 (Ev.eq rfl))))) (Ev.eq rfl)
theorem drawReadObject_ev {l : List Int} (hb : isBytes l) (hl : l.length ≤ 1099511627776) : ∃ (types : List ByteArray) (s : ByteArray), Ev (fun k => spec_DrawReadObject.f k l) (types, s) ∧ types.length ≤ 200 ∧ (∀ x ∈ types, x.size ≤ 200) ∧ s.size ≤ 1000 := by
  obtain ⟨ts, q, e, h1, h2, hs, hq⟩ := drawTypes1_ev (Rd.start hb hl)
  obtain ⟨t, vals, q2, e2, hv, hi, hq2⟩ := obj2_ev hq ts h1 h2 hs
  obtain ⟨a, q3, ea, ha0, ha1, hq3⟩ := below_f hq2 6 (by omega) (by omega)
  have hs' : ∀ x ∈ ts, x.size ≤ 1048576 := fun x hx => by have := hs x hx; omega
  have hs2 : ∀ x ∈ ts, x.size ≤ 200 := fun x hx => by have := hs x hx; omega
  have hO := spec_ObjectBytes_ev ts (t, vals) (by omega) hs'
  have hbz := bytesR_size ts (t, vals)
  generalize bytesR ts (t, vals) = s at *
  unfold spec_DrawReadObject.f
  by_cases c0 : a = 0
  · obtain ⟨s', q4, e4, hs4, _⟩ := hurt_f hq3 s (by omega)
    exact ⟨ts, s', Ev.bindo rfl (Ev.bind e (Ev.bind e2 (Ev.bind hO (Ev.bindo ea (Ev.pos c0 (Ev.bindo e4 (Ev.eq rfl))))))), by omega, hs2, by omega⟩
  by_cases c1 : a = 1
  · by_cases c3 : s.toList = (⟨#[]⟩ : ByteArray).toList
    · exact ⟨ts, s, Ev.bindo rfl (Ev.bind e (Ev.bind e2 (Ev.bind hO (Ev.bindo ea (Ev.neg c0 (Ev.pos c1 (Ev.pos c3 (Ev.eq rfl)))))))), by omega, hs2, by omega⟩
    · have hpos : 1 ≤ s.size := by
        by_cases hz : s.size = 0
        · exact absurd (toList_inj.2 (bytesOf_inj (List.eq_nil_of_length_eq_zero (by rw [bytesOf_length]; exact hz)))) c3
        · omega
      obtain ⟨b, q4, e4, hb0, hb1, hq4⟩ := below_f hq3 (s.size : Int) (by omega) (by omega)
      obtain ⟨d, q5, e5, hd0, hd1, hq5⟩ := below_f hq4 4 (by omega) (by omega)
      have hone : (strOf [d % 256]).size = 1 := strOfNums_size _
      have hw : ∃ r, spec_l2With.f s b (strOf [d % 256]) = some r ∧ r.size ≤ 1000 := by
        unfold spec_l2With.f
        rw [hone, w64 (x := b + ((1 : Nat) : Int)) (by omega) (by omega), if_pos hb0, if_pos (by omega), if_pos (by rw [ByteArray.size_extract]; omega), if_pos (by omega), if_pos (by omega), if_pos (by rw [ByteArray.size_append, ByteArray.size_extract, ByteArray.size_extract, hone]; omega)]
        exact ⟨_, rfl, by rw [ByteArray.size_append, ByteArray.size_append, ByteArray.size_extract, ByteArray.size_extract, hone]; omega⟩
      obtain ⟨r, er, hr⟩ := hw
      exact ⟨ts, r, Ev.bindo rfl (Ev.bind e (Ev.bind e2 (Ev.bind hO (Ev.bindo ea (Ev.neg c0 (Ev.pos c1 (Ev.neg c3 (Ev.bindo e4 (Ev.bindo e5 (Ev.bindo er (Ev.eq rfl))))))))))), by omega, hs2, hr⟩
  by_cases c2 : a = 2
  · have hzz := zerosB_size 64
    exact ⟨ts, s ++ zerosB 64, Ev.bindo rfl (Ev.bind e (Ev.bind e2 (Ev.bind hO (Ev.bindo ea (Ev.neg c0 (Ev.neg c1 (Ev.pos c2 (Ev.bindo (spec_l1Zeros_f 64 (by omega)) (Ev.pos (by omega) (Ev.eq rfl)))))))))), by omega, hs2, by rw [ByteArray.size_append]; omega⟩
  · exact ⟨ts, s, Ev.bindo rfl (Ev.bind e (Ev.bind e2 (Ev.bind hO (Ev.bindo ea (Ev.neg c0 (Ev.neg c1 (Ev.neg c2 (Ev.eq rfl)))))))), by omega, hs2, by omega⟩
theorem FnObjects : laws_FnObjects.Pure := by
  intro l hb
  have hb := hb.2
  refine Ev.rounds ?_
  unfold laws_FnObjects.f laws_big.f
  refine Ev.bindo rfl (Ev.cases (fun _ => Ev.eq rfl) (fun c0 => ?_))
  simp only [decide_eq_true_eq] at c0
  obtain ⟨types, o, e, h1, h2, h3, h4⟩ := drawObjectBytes_ev (isBytes_of hb) (by omega)
  obtain ⟨u, b, e2, h5, h6, h7⟩ := drawReadObject_ev (isBytes_of hb) (by omega)
  have hs : ∀ x ∈ types, x.size ≤ 1048576 := fun x hx => by have := h2 x hx; omega
  have hs2 : ∀ x ∈ u, x.size ≤ 1048576 := fun x hx => by have := h6 x hx; omega
  have b1 := impl_ObjectBytes_ev types o hs
  have b2 := spec_ObjectBytes_ev types o (by omega) hs
  have r1 := impl_ReadObject_ev u b hs2 (by omega)
  have r2 := spec_ReadObject_ev u b (by omega) hs2 (by omega)
  have hrl := readR_length u b
  have q := sameObj2_ev (readR u b).1 (by omega)
  have hbz := bytesR_size types o
  -- the object is recovered
  have p23 : Ev (fun k => laws_FnObjects.p23 k types o.1 o.2 (bytesR types o) false) true := by
    refine Ev.step (fun k => by rw [laws_FnObjects.p23]) ?_
    have r3 := impl_ReadObject_ev types (bytesR types o) hs (by omega)
    have k1 := spec_ObjOk_ev types o (by omega) hs
    have k2 := impl_ObjOk_ev types o hs
    rw [objOk8_eq] at k1 k2
    by_cases c : objOk8 types o = true
    · rw [readR_bytes c h4] at r3
      rw [c] at k1 k2
      obtain ⟨ht, o0, o1, _, oz, _, _⟩ := objOk8_facts c
      have hz := objB8_size ht oz
      have hbe : bytesR types o = objB8 types o := by unfold bytesR; rw [if_pos c]
      have hts := type_size ht o.1
      have hrb := runL_bound ht o.1
      refine Ev.neg (by simp) (Ev.bind r3 (Ev.bind k1 (Ev.pos rfl (Ev.bind k2 (Ev.pos rfl (Ev.pos rfl (Ev.bind (sameObj2_ev o (by omega)) (Ev.pos rfl (Ev.pos o0 (Ev.pos o1 ?_))))))))))
      have hRun : impl_RunOf.f (rdOf ByteArray.empty types o.1) = some (runL types o.1 : Int) := by
        unfold impl_RunOf.f
        rw [isType_f _ (by omega), Option.bind_some, if_pos (type_at ht o0 o1), impl_runOf_f ht]
        rfl
      refine Ev.bindo hRun (Ev.eq ?_)
      rw [w64 (x := 64 * (runL types o.1 : Int)) (by omega) (by omega), hbe, hz]
      simp
    · have hbe : bytesR types o = ByteArray.empty := by unfold bytesR; rw [if_neg c]
      rw [Bool.eq_false_iff.2 c] at k1 k2
      rw [hbe, readR_none] at r3
      rw [hbe]
      exact Ev.neg (by simp) (Ev.bind r3 (Ev.bind k1 (Ev.pos rfl (Ev.bind k2 (Ev.pos rfl (Ev.neg (by simp [out3]) (Ev.eq rfl)))))))
  refine Ev.bind e (Ev.bind b1 (Ev.bind e2 (Ev.bind r1 (Ev.bind r2 (Ev.bind b2 (Ev.pos rfl (Ev.pos rfl (Ev.bind q (Ev.pos rfl ?_)))))))))
  refine Ev.cases (fun c => ?_) (fun c => p23)
  obtain ⟨y1, y2, _, _, _⟩ := readR_yes (types := u) (s := b) c
  have b3 := impl_ObjectBytes_ev u (readR u b).1 hs2
  rw [y1, y2] at b3
  rw [← y1] at b3
  refine Ev.bind b3 ?_
  simp only [decide_true, Bool.not_true]
  exact p23
end Go.Proofs.YtlljkankongifaaDoor.Abs.Pu
