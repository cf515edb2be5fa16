/- Drawn objects, hurt types, hurt texts: every draw answers. For codes of at most 2^40 bytes. -/
import Derived.Test.YtlljkankongifaaDoorPDrawTypes
import Derived.Test.YtlljkankongifaaDoorPInts
import Derived.Test.YtlljkankongifaaDoorPLoop
namespace Go.Proofs.YtlljkankongifaaDoor.Abs.Pu
open Go Go.RowKit
set_option linter.unusedVariables false
set_option linter.unusedSectionVars false
set_option linter.unusedSimpArgs false
theorem oddT {w : Int} (h0 : 0 ≤ w) (h1 : w < 7) : -9223372036854775808 ≤ rd [0, (-1), 1, (-9223372036854775808), 9223372036854775807, 256, (-256)] w ∧ rd [0, (-1), 1, (-9223372036854775808), 9223372036854775807, 256, (-256)] w ≤ 9223372036854775807 := by
  obtain rfl | rfl | rfl | rfl | rfl | rfl | rfl : w = 0 ∨ w = 1 ∨ w = 2 ∨ w = 3 ∨ w = 4 ∨ w = 5 ∨ w = 6 := by omega
  all_goals decide
theorem odd2_ev {l : List Int} {p : Int} (h : Rd l p) : ∃ v q, Ev (fun k => spec_l1Rd_odd.f k l p) (l, q, v) ∧ (-9223372036854775808 ≤ v ∧ v ≤ 9223372036854775807) ∧ Rd l q := by
  obtain ⟨a, q, ea, ha0, ha1, hq⟩ := below_f h 5 (by omega) (by omega)
  unfold spec_l1Rd_odd.f
  by_cases c0 : a = 0
  · obtain ⟨w, q2, e2, _, _, hq2⟩ := word_ev hq
    exact ⟨_, _, Ev.bindo ea (Ev.pos c0 (Ev.bind e2 (Ev.eq rfl))), wrap_ok _, hq2⟩
  by_cases c1 : a = 1
  · obtain ⟨w, q2, e2, hw0, hw1, hq2⟩ := below_f hq 7 (by omega) (by omega)
    refine ⟨_, _, Ev.bindo ea (Ev.neg c0 (Ev.pos c1 (Ev.bindo e2 (Ev.pos hw0 (Ev.pos hw1 (Ev.eq rfl)))))), ?_, hq2⟩
    exact oddT hw0 hw1
  · obtain ⟨w, q2, e2, _, _, hq2⟩ := below_f hq 400 (by omega) (by omega)
    exact ⟨_, _, Ev.bindo ea (Ev.neg c0 (Ev.neg c1 (Ev.bindo e2 (Ev.eq rfl)))), wrap_ok _, hq2⟩
theorem obj2_ev {l : List Int} {p : Int} (h : Rd l p) (ts : List ByteArray) (h1 : 1 ≤ ts.length) (h2 : ts.length ≤ 100) (hs : ∀ x ∈ ts, 1 ≤ x.size ∧ x.size ≤ 100) : ∃ t vals q, Ev (fun k => spec_l1Rd_obj.f k l p ts) (l, q, ts, t, vals) ∧ vals.length ≤ 100 ∧ Ints vals ∧ Rd l q := by
  obtain ⟨t, q, e, ht0, ht1, hq⟩ := below_f h (ts.length : Int) (by omega) (by omega)
  have hz : 1 ≤ (rdOf ByteArray.empty ts t).size ∧ (rdOf ByteArray.empty ts t).size ≤ 100 := by
    have ht : t.toNat < ts.length := by omega
    have e := rdg (d := ByteArray.empty) ht
    rw [Int.toNat_of_nonneg ht0] at e
    rw [e]
    exact hs _ (List.getElem_mem ht)
  have lp : ∀ (d : Nat) (vals : List Int) (p : Int), vals.length + d = (rdOf ByteArray.empty ts t).size → Ints vals → Rd l p → ∃ t' vals' q, Ev (fun k => spec_l1Rd_obj.p8 k l p ts 0 t vals (vals.length : Int)) (l, q, ts, t', vals') ∧ vals'.length ≤ 100 ∧ Ints vals' ∧ Rd l q := by
    intro d
    induction d with
    | zero =>
      intro vals p hv hi hp
      have st : ∀ {r}, Ev (fun k => ((spec_l1Rd_below.f l p 20).bind fun t5 => (if t5.2.2 = 0 then ((spec_l1Rd_off.f k t5.1 t5.2.1 0 (wrap64 ((ts.length : Int) - 1))).bind fun t6 => (some (t6.1, t6.2.1, ts, t6.2.2, vals))) else (if t5.2.2 = 1 then ((spec_l1Rd_below.f t5.1 t5.2.1 (wrap64 ((vals.length : Int) + 1))).bind fun t7 => (if 0 ≤ t7.2.2 then (if t7.2.2 ≤ (vals.length : Int) then (some (t7.1, t7.2.1, ts, t, ((vals.take t7.2.2.toNat).drop 0))) else none) else none)) else (if t5.2.2 = 2 then ((spec_l1Rd_below.f t5.1 t5.2.1 (vals.length : Int)).bind fun t8 => ((spec_l1Rd_ref.f k t8.1 t8.2.1).bind fun t9 => (if 0 ≤ t8.2.2 then (if t8.2.2 < (vals.length : Int) then (some (t9.1, t9.2.1, ts, t, (vals.set t8.2.2.toNat t9.2.2))) else none) else none))) else (some (t5.1, t5.2.1, ts, t, vals))))))) r → Ev (fun k => spec_l1Rd_obj.p8 k l p ts 0 t vals (vals.length : Int)) r := by
        intro r hr
        refine Ev.step (fun k => by rw [spec_l1Rd_obj.p8]) ?_
        exact Ev.pos ht0 (Ev.pos ht1 (Ev.neg (by omega) hr))
      obtain ⟨a, q, ea, ha0, ha1, hq⟩ := below_f hp 20 (by omega) (by omega)
      by_cases c0 : a = 0
      · obtain ⟨w, q2, e2, _, _, hq2⟩ := off_ev hq 0 ((ts.length : Int) - 1) (by omega) (by omega) (by omega) (by omega)
        refine ⟨w, vals, q2, st (Ev.bindo ea (Ev.pos c0 ?_)), ?_, hi, hq2⟩
        · rw [w64 (x := (ts.length : Int) - 1) (by omega) (by omega)]
          exact Ev.bind e2 (Ev.eq rfl)
        · omega
      by_cases c1 : a = 1
      · obtain ⟨w, q2, e2, hw0, hw1, hq2⟩ := below_f hq ((vals.length : Int) + 1) (by omega) (by omega)
        refine ⟨t, (vals.take w.toNat).drop 0, q2, st (Ev.bindo ea (Ev.neg c0 (Ev.pos c1 ?_))), ?_, ?_, hq2⟩
        · rw [w64 (x := (vals.length : Int) + 1) (by omega) (by omega)]
          exact Ev.bindo e2 (Ev.pos hw0 (Ev.pos (by simp only []; omega) (Ev.eq rfl)))
        · rw [List.drop_zero, List.length_take]; omega
        · intro x hx
          rw [List.drop_zero] at hx
          exact hi x (List.mem_of_mem_take hx)
      by_cases c2 : a = 2
      · obtain ⟨w, q2, e2, hw0, hw1, hq2⟩ := below_f hq (vals.length : Int) (by omega) (by omega)
        obtain ⟨x, q3, e3, hx, hq3⟩ := ref_ev hq2
        refine ⟨t, vals.set w.toNat x, q3, st (Ev.bindo ea (Ev.neg c0 (Ev.neg c1 (Ev.pos c2 (Ev.bindo e2 (Ev.bind e3 (Ev.pos hw0 (Ev.pos hw1 (Ev.eq rfl))))))))), ?_, hi.set _ hx, hq3⟩
        rw [List.length_set]; omega
      · exact ⟨t, vals, q, st (Ev.bindo ea (Ev.neg c0 (Ev.neg c1 (Ev.neg c2 (Ev.eq rfl))))), by omega, hi, hq⟩
    | succ d ih =>
      intro vals p hv hi hp
      obtain ⟨v, q, e, hvr, hq⟩ := odd2_ev hp
      have hsn : ∀ x : Int, (vals ++ [x]).length = vals.length + 1 := fun x => by simp
      by_cases c : bt (rdOf ByteArray.empty ts t) (vals.length : Int) = 114
      · obtain ⟨a, q2, e2, _, _, hq2⟩ := below_f hq 20 (by omega) (by omega)
        obtain ⟨b, q3, e3, _, _, hq3⟩ := below_f hq2 2 (by omega) (by omega)
        obtain ⟨t', vals', q4, e4, hr⟩ := ih (vals ++ [wrap64 (wrap64 (2 * a) + b)]) q3 (by rw [hsn]; omega) (hi.snoc (wrap_ok _)) hq3
        refine ⟨t', vals', q4, ?_, hr⟩
        refine Ev.step (fun k => by rw [spec_l1Rd_obj.p8]) ?_
        rw [w64s (i := vals.length) (by omega)]
        rw [hsn] at e4
        exact Ev.pos ht0 (Ev.pos ht1 (Ev.pos (by omega) (Ev.bind e (Ev.pos ht0 (Ev.pos ht1 (Ev.pos (by omega) (Ev.pos (by omega) (Ev.pos c (Ev.bindo e2 (Ev.bindo e3 (Ev.pos (by omega) e4)))))))))))
      · obtain ⟨t', vals', q4, e4, hr⟩ := ih (vals ++ [v]) q (by rw [hsn]; omega) (hi.snoc hvr) hq
        refine ⟨t', vals', q4, ?_, hr⟩
        refine Ev.step (fun k => by rw [spec_l1Rd_obj.p8]) ?_
        rw [w64s (i := vals.length) (by omega)]
        rw [hsn] at e4
        exact Ev.pos ht0 (Ev.pos ht1 (Ev.pos (by omega) (Ev.bind e (Ev.pos ht0 (Ev.pos ht1 (Ev.pos (by omega) (Ev.pos (by omega) (Ev.neg c (Ev.pos (by omega) e4)))))))))
  obtain ⟨t', vals', q2, e2, hr⟩ := lp (rdOf ByteArray.empty ts t).size [] q (by simp) (fun x h => by cases h) hq
  refine ⟨t', vals', q2, ?_, hr⟩
  unfold spec_l1Rd_obj.f
  exact Ev.bindo e e2
theorem sizes_set {ts : List ByteArray} {n : Nat} (h : ∀ x ∈ ts, x.size ≤ n) (i : Nat) {s : ByteArray} (hs : s.size ≤ n) : ∀ x ∈ ts.set i s, x.size ≤ n := by
  intro x hx
  rcases List.mem_or_eq_of_mem_set hx with hx | rfl
  · exact h x hx
  · exact hs
theorem hurtTypes_ev {l : List Int} {p : Int} (h : Rd l p) (ts : List ByteArray) (h1 : 1 ≤ ts.length) (h2 : ts.length ≤ 100) (hs : ∀ x ∈ ts, x.size ≤ 100) : ∃ ts' q, Ev (fun k => spec_l1Rd_hurtTypes.f k l p ts) (l, q, ts') ∧ ts'.length ≤ 200 ∧ (∀ x ∈ ts', x.size ≤ 200) ∧ Rd l q := by
  have hs2 : ∀ x ∈ ts, x.size ≤ 200 := fun x hx => by have := hs x hx; omega
  have hz : (rdOf ByteArray.empty ts 0).size ≤ 100 := by
    have e := rdg (d := ByteArray.empty) (l := ts) (i := 0) (by omega)
    rw [show ((0 : Nat) : Int) = 0 from rfl] at e
    rw [e]
    exact hs _ (List.getElem_mem _)
  obtain ⟨a, q, ea, ha0, ha1, hq⟩ := below_f h 30 (by omega) (by omega)
  unfold spec_l1Rd_hurtTypes.f
  by_cases c0 : a = 0
  · exact ⟨[], q, Ev.bindo ea (Ev.pos c0 (Ev.eq rfl)), by simp, fun x hx => (by cases hx), hq⟩
  by_cases c1 : a = 1
  · exact ⟨_, q, Ev.bindo ea (Ev.neg c0 (Ev.pos c1 (Ev.pos (by omega) (Ev.eq rfl)))), by rw [List.length_set]; omega, sizes_set hs2 0 (by show 0 ≤ 200; omega), hq⟩
  by_cases c2 : a = 2
  · have hz2 : (⟨#[120]⟩ : ByteArray).size = 1 := rfl
    exact ⟨_, q, Ev.bindo ea (Ev.neg c0 (Ev.neg c1 (Ev.pos c2 (Ev.pos (by omega) (Ev.pos (by omega) (Ev.pos (by omega) (Ev.eq rfl))))))), by rw [List.length_set]; omega, sizes_set hs2 0 (by rw [ByteArray.size_append]; omega), hq⟩
  by_cases c3 : a = 3
  · obtain ⟨s, q2, e2, hsz, hq2⟩ := kinds_ev hq 3 (by omega) (by omega)
    have hz3 : (⟨#[105, 105, 105, 105, 105, 105, 105, 105, 105, 105, 105, 105, 105, 105, 105, 105, 105, 105, 105, 105, 105, 105]⟩ : ByteArray).size = 22 := rfl
    exact ⟨_, q2, Ev.bindo ea (Ev.neg c0 (Ev.neg c1 (Ev.neg c2 (Ev.pos c3 (Ev.bind e2 (Ev.pos (by simp only []; omega) (Ev.pos (by omega) (Ev.eq rfl)))))))), by rw [List.length_set]; omega, sizes_set hs2 0 (by simp only [ByteArray.size_append]; omega), hq2⟩
  by_cases c4 : a = 4
  · have lp : ∀ (d i : Nat) (ts : List ByteArray) (p : Int), i + d = 13 → ts.length ≤ 100 + i → (∀ x ∈ ts, x.size ≤ 200) → Rd l p → ∃ ts' q, Ev (fun k => spec_l1Rd_hurtTypes.p30 k l p ts (i : Int)) (l, q, ts') ∧ ts'.length ≤ 200 ∧ (∀ x ∈ ts', x.size ≤ 200) ∧ Rd l q := by
      intro d
      induction d with
      | zero =>
        intro i ts p hi hl hsx hp
        refine ⟨ts, p, Ev.step (fun k => by rw [spec_l1Rd_hurtTypes.p30]) ?_, by omega, hsx, hp⟩
        exact Ev.neg (by omega) (Ev.eq rfl)
      | succ d ih =>
        intro i ts p hi hl hsx hp
        obtain ⟨b, q, eb, hb0, hb1, hq⟩ := below_f hp 3 (by omega) (by omega)
        by_cases c : (ts.length : Int) < wrap64 (11 + b)
        · obtain ⟨ts', q2, e2, hr⟩ := ih (i + 1) (ts ++ [(⟨#[114]⟩ : ByteArray)]) q (by omega) (by rw [List.length_append, List.length_singleton]; omega) (fun x hx => by
            rcases List.mem_append.1 hx with hx | hx
            · exact hsx x hx
            · simp only [List.mem_singleton] at hx
              subst hx
              show 1 ≤ 200; omega) hq
          refine ⟨ts', q2, Ev.step (fun k => by rw [spec_l1Rd_hurtTypes.p30]) ?_, hr⟩
          rw [w64s (i := i) (by omega)]
          exact Ev.pos (by omega) (Ev.bindo eb (Ev.pos c (Ev.pos (by omega) e2)))
        · refine ⟨ts, q, Ev.step (fun k => by rw [spec_l1Rd_hurtTypes.p30]) ?_, by omega, hsx, hq⟩
          exact Ev.pos (by omega) (Ev.bindo eb (Ev.neg c (Ev.eq rfl)))
    obtain ⟨ts', q2, e2, hr⟩ := lp 13 0 ts q rfl (by omega) hs2 hq
    exact ⟨ts', q2, Ev.bindo ea (Ev.neg c0 (Ev.neg c1 (Ev.neg c2 (Ev.neg c3 (Ev.pos c4 e2))))), hr⟩
  · exact ⟨ts, q, Ev.bindo ea (Ev.neg c0 (Ev.neg c1 (Ev.neg c2 (Ev.neg c3 (Ev.neg c4 (Ev.eq rfl)))))), by omega, hs2, hq⟩
end Go.Proofs.YtlljkankongifaaDoor.Abs.Pu
