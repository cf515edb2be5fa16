/- Drawn objects: every draw answers; at most a hundred values. For codes of at most 2^40 bytes. -/
import Derived.Test.YtnhladaobcnmhaaDoorPDrawTypes
import Derived.Test.YtnhladaobcnmhaaDoorPInts
import Derived.Test.YtnhladaobcnmhaaDoorPLoop
namespace Go.Proofs.YtnhladaobcnmhaaDoor.Abs.Pu
open Go Go.RowKit
set_option linter.unusedVariables false
set_option linter.unusedSectionVars false
set_option linter.unusedSimpArgs false
theorem odd_ev {l : List Int} {p : Int} (h : Rd l p) : ∃ v q, Ev (fun k => spec_l1Rd_odd.f k l p) (l, q, v) ∧ Rd l q := by
  obtain ⟨a, q, ea, ha0, ha1, hq⟩ := below_f h 5 (by omega) (by omega)
  unfold spec_l1Rd_odd.f
  by_cases c0 : a = 0
  · obtain ⟨w, q2, e2, _, _, hq2⟩ := word_ev hq
    exact ⟨_, _, Ev.bindo ea (Ev.pos c0 (Ev.bind e2 (Ev.eq rfl))), hq2⟩
  by_cases c1 : a = 1
  · obtain ⟨w, q2, e2, hw0, hw1, hq2⟩ := below_f hq 7 (by omega) (by omega)
    exact ⟨_, _, Ev.bindo ea (Ev.neg c0 (Ev.pos c1 (Ev.bindo e2 (Ev.pos hw0 (Ev.pos hw1 (Ev.eq rfl)))))), hq2⟩
  · obtain ⟨w, q2, e2, _, _, hq2⟩ := below_f hq 400 (by omega) (by omega)
    exact ⟨_, _, Ev.bindo ea (Ev.neg c0 (Ev.neg c1 (Ev.bindo e2 (Ev.eq rfl)))), hq2⟩
theorem obj_ev {l : List Int} {p : Int} (h : Rd l p) (ts : List ByteArray) (h1 : 1 ≤ ts.length) (h2 : ts.length ≤ 100) (hs : ∀ x ∈ ts, 1 ≤ x.size ∧ x.size ≤ 100) : ∃ t vals q, Ev (fun k => spec_l1Rd_obj.f k l p ts) (l, q, t, vals) ∧ vals.length ≤ 100 ∧ Rd l q := by
  obtain ⟨t, q, e, ht0, ht1, hq⟩ := below_f h (ts.length : Int) (by omega) (by omega)
  have hz : 1 ≤ (rdOf ByteArray.empty ts t).size ∧ (rdOf ByteArray.empty ts t).size ≤ 100 := by
    have ht : t.toNat < ts.length := by omega
    have e := rdg (d := ByteArray.empty) ht
    rw [Int.toNat_of_nonneg ht0] at e
    rw [e]
    exact hs _ (List.getElem_mem ht)
  have lp : ∀ (d : Nat) (vals : List Int) (p : Int), vals.length + d = (rdOf ByteArray.empty ts t).size → Rd l p → ∃ t' vals' q, Ev (fun k => spec_l1Rd_obj.p8 k l p ts 0 t vals (vals.length : Int)) (l, q, t', vals') ∧ vals'.length ≤ 100 ∧ Rd l q := by
    intro d
    induction d with
    | zero =>
      intro vals p hv hp
      have st : ∀ {r}, Ev (fun k => ((spec_l1Rd_below.f l p 20).bind fun t5 => (if t5.2.2 = 0 then ((spec_l1Rd_off.f k t5.1 t5.2.1 0 (wrap64 ((ts.length : Int) - 1))).bind fun t6 => (some (t6.1, t6.2.1, t6.2.2, vals))) else (if t5.2.2 = 1 then ((spec_l1Rd_below.f t5.1 t5.2.1 (wrap64 ((vals.length : Int) + 1))).bind fun t7 => (if 0 ≤ t7.2.2 then (if t7.2.2 ≤ (vals.length : Int) then (some (t7.1, t7.2.1, t, ((vals.take t7.2.2.toNat).drop 0))) else none) else none)) else (if t5.2.2 = 2 then ((spec_l1Rd_below.f t5.1 t5.2.1 (vals.length : Int)).bind fun t8 => ((spec_l1Rd_ref.f k t8.1 t8.2.1).bind fun t9 => (if 0 ≤ t8.2.2 then (if t8.2.2 < (vals.length : Int) then (some (t9.1, t9.2.1, t, (vals.set t8.2.2.toNat t9.2.2))) else none) else none))) else (some (t5.1, t5.2.1, t, vals))))))) r → Ev (fun k => spec_l1Rd_obj.p8 k l p ts 0 t vals (vals.length : Int)) r := by
        intro r hr
        refine Ev.step (fun k => by rw [spec_l1Rd_obj.p8]) ?_
        exact Ev.pos ht0 (Ev.pos ht1 (Ev.neg (by omega) hr))
      obtain ⟨a, q, ea, ha0, ha1, hq⟩ := below_f hp 20 (by omega) (by omega)
      by_cases c0 : a = 0
      · obtain ⟨w, q2, e2, _, _, hq2⟩ := off_ev hq 0 ((ts.length : Int) - 1) (by omega) (by omega) (by omega) (by omega)
        refine ⟨w, vals, q2, st (Ev.bindo ea (Ev.pos c0 ?_)), ?_, hq2⟩
        · rw [w64 (x := (ts.length : Int) - 1) (by omega) (by omega)]
          exact Ev.bind e2 (Ev.eq rfl)
        · omega
      by_cases c1 : a = 1
      · obtain ⟨w, q2, e2, hw0, hw1, hq2⟩ := below_f hq ((vals.length : Int) + 1) (by omega) (by omega)
        refine ⟨t, (vals.take w.toNat).drop 0, q2, st (Ev.bindo ea (Ev.neg c0 (Ev.pos c1 ?_))), ?_, hq2⟩
        · rw [w64 (x := (vals.length : Int) + 1) (by omega) (by omega)]
          exact Ev.bindo e2 (Ev.pos hw0 (Ev.pos (by simp only []; omega) (Ev.eq rfl)))
        · rw [List.drop_zero, List.length_take]; omega
      by_cases c2 : a = 2
      · obtain ⟨w, q2, e2, hw0, hw1, hq2⟩ := below_f hq (vals.length : Int) (by omega) (by omega)
        obtain ⟨x, q3, e3, _, hq3⟩ := ref_ev hq2
        refine ⟨t, vals.set w.toNat x, q3, st (Ev.bindo ea (Ev.neg c0 (Ev.neg c1 (Ev.pos c2 (Ev.bindo e2 (Ev.bind e3 (Ev.pos hw0 (Ev.pos hw1 (Ev.eq rfl))))))))), ?_, hq3⟩
        rw [List.length_set]; omega
      · exact ⟨t, vals, q, st (Ev.bindo ea (Ev.neg c0 (Ev.neg c1 (Ev.neg c2 (Ev.eq rfl))))), by omega, hq⟩
    | succ d ih =>
      intro vals p hv hp
      obtain ⟨v, q, e, hq⟩ := odd_ev hp
      have hsn : ∀ x : Int, (vals ++ [x]).length = vals.length + 1 := fun x => by simp
      by_cases c : bt (rdOf ByteArray.empty ts t) (vals.length : Int) = 114
      · obtain ⟨a, q2, e2, _, _, hq2⟩ := below_f hq 20 (by omega) (by omega)
        obtain ⟨b, q3, e3, _, _, hq3⟩ := below_f hq2 2 (by omega) (by omega)
        obtain ⟨t', vals', q4, e4, hr⟩ := ih (vals ++ [wrap64 (wrap64 (2 * a) + b)]) q3 (by rw [hsn]; omega) hq3
        refine ⟨t', vals', q4, ?_, hr⟩
        refine Ev.step (fun k => by rw [spec_l1Rd_obj.p8]) ?_
        rw [w64s (i := vals.length) (by omega)]
        rw [hsn] at e4
        exact Ev.pos ht0 (Ev.pos ht1 (Ev.pos (by omega) (Ev.bind e (Ev.pos ht0 (Ev.pos ht1 (Ev.pos (by omega) (Ev.pos (by omega) (Ev.pos c (Ev.bindo e2 (Ev.bindo e3 (Ev.pos (by omega) e4)))))))))))
      · obtain ⟨t', vals', q4, e4, hr⟩ := ih (vals ++ [v]) q (by rw [hsn]; omega) hq
        refine ⟨t', vals', q4, ?_, hr⟩
        refine Ev.step (fun k => by rw [spec_l1Rd_obj.p8]) ?_
        rw [w64s (i := vals.length) (by omega)]
        rw [hsn] at e4
        exact Ev.pos ht0 (Ev.pos ht1 (Ev.pos (by omega) (Ev.bind e (Ev.pos ht0 (Ev.pos ht1 (Ev.pos (by omega) (Ev.pos (by omega) (Ev.neg c (Ev.pos (by omega) e4)))))))))
  obtain ⟨t', vals', q2, e2, hr⟩ := lp (rdOf ByteArray.empty ts t).size [] q (by simp) hq
  refine ⟨t', vals', q2, ?_, hr⟩
  unfold spec_l1Rd_obj.f
  exact Ev.bindo e e2
end Go.Proofs.YtnhladaobcnmhaaDoor.Abs.Pu
