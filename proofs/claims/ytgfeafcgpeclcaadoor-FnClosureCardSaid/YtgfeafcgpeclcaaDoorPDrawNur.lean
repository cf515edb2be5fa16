/- Drawn nurseries and references into them: every draw answers; the words are whole numbers of 64 bits, at most some thousand. For codes of at most 2^40 bytes. -/
import Derived.Test.YtgfeafcgpeclcaaDoorPDrawTypes
import Derived.Test.YtgfeafcgpeclcaaDoorPSetSpec
import Derived.Test.YtgfeafcgpeclcaaDoorPAllocSpec
namespace Go.Proofs.YtgfeafcgpeclcaaDoor.Abs.Pu
open Go Go.RowKit
set_option linter.unusedVariables false
set_option linter.unusedSectionVars false
set_option linter.unusedSimpArgs false
def Ints (l : List Int) : Prop := ∀ x ∈ l, -9223372036854775808 ≤ x ∧ x ≤ 9223372036854775807
theorem Ints.snoc {l : List Int} (h : Ints l) {x : Int} (hx : -9223372036854775808 ≤ x ∧ x ≤ 9223372036854775807) : Ints (l ++ [x]) := by
  intro y hy
  rcases List.mem_append.1 hy with hy | hy
  · exact h y hy
  · simp only [List.mem_singleton] at hy
    subst hy
    exact hx
theorem Ints.set {l : List Int} (h : Ints l) (i : Nat) {x : Int} (hx : -9223372036854775808 ≤ x ∧ x ≤ 9223372036854775807) : Ints (l.set i x) := by
  intro y hy
  rcases List.mem_or_eq_of_mem_set hy with hy | rfl
  · exact h y hy
  · exact hx
theorem Ints.at_ {l : List Int} (h : Ints l) (i : Int) : -9223372036854775808 ≤ rd l i ∧ rd l i ≤ 9223372036854775807 := by
  unfold rd
  rw [List.getD_eq_getElem?_getD]
  cases hg : l[i.toNat]? with
  | none => exact ⟨by decide, by decide⟩
  | some x => exact h x (List.mem_of_getElem? hg)
theorem wrap_ok (x : Int) : -9223372036854775808 ≤ wrap64 x ∧ wrap64 x ≤ 9223372036854775807 := wrap64_range x
/-- What is drawn: words of 64 bits, not too many. -/
structure Nur (words : List Int) : Prop where
  ints : Ints words
  len : words.length ≤ 1000
theorem Nur.nil : Nur [] := ⟨(fun _ h => nomatch h), Nat.zero_le _⟩
theorem allocR_nur {types : List ByteArray} {sz : Int} {words : List Int} {t : Int} (h : Nur words) : Nur (allocR types sz words t).2.1 := by
  refine ⟨?_, allocR_length types sz words t⟩
  have nil : Ints [] := fun _ h => by cases h
  unfold allocR
  split
  · split
    · rename_i h1 h2
      obtain ⟨ht, hz, hl⟩ := heads_some h1
      have htl := types_length ht
      simp only [Bool.and_eq_true, decide_eq_true_eq] at h2
      split
      · exact nil
      · intro y hy
        rcases List.mem_append.1 hy with hy | hy
        · exact (h.ints.snoc (x := 4 * t) (by omega)) y hy
        · have := (List.mem_replicate.1 hy).2
          omega
    · exact nil
  · exact nil
theorem allocR_ref (types : List ByteArray) (sz : Int) (words : List Int) (t : Int) : -9223372036854775808 ≤ (allocR types sz words t).2.2.1 ∧ (allocR types sz words t).2.2.1 ≤ 9223372036854775807 := by
  unfold allocR
  split
  · split
    · rename_i h1 h2
      obtain ⟨ht, hz, hl⟩ := heads_some h1
      split
      · exact ⟨by decide, by decide⟩
      · show _ ≤ 2 * (words.length : Int) + 1 ∧ 2 * (words.length : Int) + 1 ≤ _
        omega
    · exact ⟨by decide, by decide⟩
  · exact ⟨by decide, by decide⟩
theorem setR_nur {types : List ByteArray} {sz : Int} {words : List Int} {ref i v : Int} (h : Nur words) (hv : -9223372036854775808 ≤ v ∧ v ≤ 9223372036854775807) : Nur (setR types sz words ref i v).2.1 := by
  have nil : Nur [] := Nur.nil
  have st : Nur (words.set (ref / 2 + 1 + i).toNat v) := ⟨h.ints.set _ hv, by rw [List.length_set]; exact h.len⟩
  unfold setR
  split
  · split
    · split
      · split
        · split
          · exact st
          · exact nil
        · exact st
      · exact nil
    · exact nil
  · exact nil
theorem size_f {l : List Int} {p : Int} (h : Rd l p) (per most : Int) (hp : 1 ≤ per) (hm : 1 ≤ most) (hm2 : most ≤ 60000) : ∃ v q, spec_l1Rd_size.f l p per most = some (l, q, v) ∧ 1 ≤ v ∧ v ≤ most ∧ Rd l q := by
  have hl := h.len
  have h0 : 0 ≤ (l.length : Int) / per := Int.ediv_nonneg (by omega) (by omega)
  have h1 : (l.length : Int) / per ≤ l.length := Int.ediv_le_self _ (by omega)
  unfold spec_l1Rd_size.f
  rw [if_neg (by omega), Int.tdiv_eq_ediv_of_nonneg (by omega), w64 (x := (l.length : Int) / per) (by omega) (by omega), w64 (x := 1 + (l.length : Int) / per) (by omega) (by omega)]
  split
  · obtain ⟨v, q, e, hv0, hv1, hq⟩ := below_f h most hm (by omega)
    refine ⟨_, q, by rw [e]; rfl, ?_, ?_, hq⟩
    all_goals simp only []; rw [w64 (x := 1 + v) (by omega) (by omega)]; omega
  · obtain ⟨v, q, e, hv0, hv1, hq⟩ := below_f h (1 + (l.length : Int) / per) (by omega) (by omega)
    refine ⟨_, q, by rw [e]; rfl, ?_, ?_, hq⟩
    all_goals simp only []; rw [w64 (x := 1 + v) (by omega) (by omega)]; omega
theorem nursery_ev {l : List Int} {p : Int} (h : Rd l p) (types : List ByteArray) (h1 : 1 ≤ types.length) (h2 : types.length ≤ 100) (hs : ∀ x ∈ types, x.size ≤ 100) : ∃ sz words q, Ev (fun k => spec_l1Rd_nursery.f k l p types) (l, q, sz, words) ∧ Nur words ∧ Rd l q := by
  have hs' : ∀ x ∈ types, x.size ≤ 1048576 := fun x hx => by have := hs x hx; omega
  have lp : ∀ (d : Nat) (refs : List Int) (p sz : Int) (words : List Int), 1 ≤ refs.length → refs.length + d ≤ 100 → Ints refs → Nur words → Rd l p →
      ∃ sz' words' q, Ev (fun k => spec_l1Rd_nursery.p10 k l p types 0 sz words refs (d : Int)) (l, q, sz', words') ∧ Nur words' ∧ Rd l q := by
    intro d
    induction d with
    | zero =>
      intro refs p sz words hr1 hr2 hri hn hp
      refine ⟨sz, words, p, ?_, hn, hp⟩
      refine Ev.step (fun k => by rw [spec_l1Rd_nursery.p10]) ?_
      exact Ev.neg (by omega) (Ev.eq rfl)
    | succ d ih =>
      have j3 : ∀ (b : Bool) (refs : List Int) (p sz : Int) (words : List Int), (b = true → (words.length : Int) > 0) → 1 ≤ refs.length → refs.length + d ≤ 100 → Ints refs → Nur words → Rd l p →
          ∃ sz' words' q, Ev (fun k => spec_l1Rd_nursery.p43 k l p types 0 sz words refs ((d + 1 : Nat) : Int) b) (l, q, sz', words') ∧ Nur words' ∧ Rd l q := by
        intro b refs p sz words hb hr1 hr2 hri hn hq
        have e1 : wrap64 (((d + 1 : Nat) : Int) - 1) = (d : Int) := by rw [w64 (by omega) (by omega)]; omega
        cases b with
        | true =>
          have hb := hb rfl
          obtain ⟨v, q2, ev, hv0, hv1, hq2⟩ := below_f hq 4 (by omega) (by omega)
          have hn2 : Nur (words.set 0 (wrap64 ((wrap64 ((wrap64 (Int.tdiv (rd words 0) 4)) * 4)) + v))) := ⟨hn.ints.set _ (wrap_ok _), by rw [List.length_set]; exact hn.len⟩
          obtain ⟨sz', words', q3, e3, hr⟩ := ih refs q2 sz _ hr1 hr2 hri hn2 hq2
          refine ⟨sz', words', q3, ?_, hr⟩
          refine Ev.step (fun k => by rw [spec_l1Rd_nursery.p43]) ?_
          refine Ev.pos rfl (Ev.pos (by omega) (Ev.bindo ev (Ev.pos (by omega) ?_)))
          rw [e1]
          exact e3
        | false =>
          obtain ⟨sz', words', q3, e3, hr⟩ := ih refs p sz _ hr1 hr2 hri hn hq
          refine ⟨sz', words', q3, ?_, hr⟩
          refine Ev.step (fun k => by rw [spec_l1Rd_nursery.p43]) ?_
          refine Ev.neg (by simp) ?_
          rw [e1]
          exact e3
      have j2 : ∀ (refs : List Int) (p sz : Int) (words : List Int), 1 ≤ refs.length → refs.length + d ≤ 100 → Ints refs → Nur words → Rd l p →
          ∃ sz' words' q, Ev (fun k => spec_l1Rd_nursery.p41 k l p types 0 sz words refs ((d + 1 : Nat) : Int)) (l, q, sz', words') ∧ Nur words' ∧ Rd l q := by
        intro refs p sz words hr1 hr2 hri hn hp
        by_cases c : (words.length : Int) > 0
        · obtain ⟨b, q, e, hq⟩ := once_f hp 4 (by omega) (by omega)
          obtain ⟨sz', words', q3, e3, hr⟩ := j3 b refs q sz words (fun _ => c) hr1 hr2 hri hn hq
          refine ⟨sz', words', q3, ?_, hr⟩
          refine Ev.step (fun k => by rw [spec_l1Rd_nursery.p41]) ?_
          exact Ev.pos c (Ev.bindo e e3)
        · obtain ⟨sz', words', q3, e3, hr⟩ := j3 false refs p sz words (fun h => by cases h) hr1 hr2 hri hn hp
          refine ⟨sz', words', q3, ?_, hr⟩
          refine Ev.step (fun k => by rw [spec_l1Rd_nursery.p41]) ?_
          exact Ev.neg c e3
      have j1 : ∀ (refs : List Int) (p sz x : Int) (words : List Int), 1 ≤ refs.length → refs.length + d ≤ 100 → Ints refs → Nur words → Rd l p →
          ∃ sz' words' q, Ev (fun k => spec_l1Rd_nursery.p29 k l p types 0 sz words refs ((d + 1 : Nat) : Int) x) (l, q, sz', words') ∧ Nur words' ∧ Rd l q := by
        intro refs p sz x words hr1 hr2 hri hn hp
        obtain ⟨a, q, ea, ha0, ha1, hq⟩ := below_f hp (refs.length : Int) (by omega) (by omega)
        obtain ⟨b, q2, eb, hb0, hb1, hq2⟩ := below_f hq (refs.length : Int) (by omega) (by omega)
        obtain ⟨i, q3, ei, hi0, hi1, hq3⟩ := below_f hq2 3 (by omega) (by omega)
        have es := spec_YoungSet_ev types sz words (rd refs a) i (rd refs b) (by omega) hs' hn.ints
        have hsn := setR_nur (types := types) (sz := sz) (ref := rd refs a) (i := i) (v := rd refs b) hn (hri.at_ b)
        generalize setR types sz words (rd refs a) i (rd refs b) = g at *
        obtain ⟨g1, g2, g3⟩ := g
        cases g3 with
        | true =>
          obtain ⟨sz', words', q4, e4, hr⟩ := j2 refs q3 g1 g2 hr1 hr2 hri hsn hq3
          refine ⟨sz', words', q4, ?_, hr⟩
          refine Ev.step (fun k => by rw [spec_l1Rd_nursery.p29]) ?_
          exact Ev.bindo ea (Ev.pos ha0 (Ev.pos ha1 (Ev.bindo eb (Ev.pos hb0 (Ev.pos hb1 (Ev.bindo ei (Ev.bind es (Ev.pos rfl e4))))))))
        | false =>
          obtain ⟨sz', words', q4, e4, hr⟩ := j2 refs q3 sz words hr1 hr2 hri hn hq3
          refine ⟨sz', words', q4, ?_, hr⟩
          refine Ev.step (fun k => by rw [spec_l1Rd_nursery.p29]) ?_
          refine Ev.bindo ea (Ev.pos ha0 (Ev.pos ha1 (Ev.bindo eb (Ev.pos hb0 (Ev.pos hb1 (Ev.bindo ei (Ev.bind es ?_)))))))
          exact Ev.neg (by simp) e4
      intro refs p sz words hr1 hr2 hri hn hp
      obtain ⟨t, q, et, ht0, ht1, hq⟩ := below_f hp (types.length : Int) (by omega) (by omega)
      have ea := spec_YoungAlloc_ev types sz words t (by omega) hs' hn.ints
      have han := allocR_nur (types := types) (sz := sz) (t := t) hn
      have har := allocR_ref types sz words t
      generalize allocR types sz words t = g at *
      obtain ⟨g1, g2, g3, g4⟩ := g
      by_cases c : g4 = 0
      · obtain ⟨sz', words', q4, e4, hr⟩ := j1 (refs ++ [g3]) q g1 g1 g2 (by simp) (by simp; omega) (hri.snoc har) han hq
        refine ⟨sz', words', q4, ?_, hr⟩
        refine Ev.step (fun k => by rw [spec_l1Rd_nursery.p10]) ?_
        refine Ev.pos (by omega) (Ev.bindo et (Ev.bind ea ?_))
        refine Ev.pos c ?_
        exact Ev.pos (by omega) e4
      · obtain ⟨sz', words', q4, e4, hr⟩ := j1 refs q sz g1 words hr1 (by omega) hri hn hq
        refine ⟨sz', words', q4, ?_, hr⟩
        refine Ev.step (fun k => by rw [spec_l1Rd_nursery.p10]) ?_
        refine Ev.pos (by omega) (Ev.bindo et (Ev.bind ea ?_))
        exact Ev.neg c e4
  obtain ⟨a, q, ea, ha0, ha1, hq⟩ := below_f h 60 (by omega) (by omega)
  obtain ⟨b, q2, eb, hb0, hb1, hq2⟩ := below_f hq 60 (by omega) (by omega)
  obtain ⟨n, q3, en, hn0, hn1, hq3⟩ := size_f hq2 4 14 (by omega) (by omega) (by omega)
  obtain ⟨sz', words', q4, e4, hr⟩ := lp n.toNat [0, wrap64 (2 * (wrap64 (1 + b)))] q3 (wrap64 (6 + a)) [] (by simp) (by simp only [List.length_cons, List.length_nil]; omega) (fun x hx => by
    simp only [List.mem_cons, List.not_mem_nil, or_false] at hx
    rcases hx with rfl | rfl
    · exact ⟨by decide, by decide⟩
    · exact wrap_ok _) Nur.nil hq3
  refine ⟨sz', words', q4, ?_, hr⟩
  unfold spec_l1Rd_nursery.f
  refine Ev.bindo ea (Ev.bindo eb (Ev.bindo en ?_))
  simp only []
  rw [show ((n.toNat : Nat) : Int) = n from by omega] at e4
  exact e4
theorem hurtNursery_ev {l : List Int} {p : Int} (h : Rd l p) (sz : Int) (words : List Int) (hn : Nur words) : ∃ sz' words' q, Ev (fun k => spec_l1Rd_hurtNursery.f k l p sz words) (l, q, sz', words') ∧ Ints words' ∧ words'.length ≤ 1001 ∧ Rd l q := by
  have hlen := hn.len
  obtain ⟨a, q, ea, ha0, ha1, hq⟩ := below_f h 24 (by omega) (by omega)
  unfold spec_l1Rd_hurtNursery.f
  by_cases c0 : a = 0
  · obtain ⟨v, q2, e2, hv0, hv1, hq2⟩ := off_ev hq 2 400 (by omega) (by omega) (by omega) (by omega)
    exact ⟨_, _, _, Ev.bindo ea (Ev.pos c0 (Ev.bind e2 (Ev.eq rfl))), hn.ints, by omega, hq2⟩
  by_cases c1 : a = 1
  · obtain ⟨v, q2, e2, hv0, hv1, hq2⟩ := below_f hq 2 (by omega) (by omega)
    exact ⟨_, _, _, Ev.bindo ea (Ev.neg c0 (Ev.pos c1 (Ev.bindo e2 (Ev.eq rfl)))), hn.ints, by omega, hq2⟩
  by_cases c2 : a = 2
  · by_cases c : (words.length : Int) > 0
    · obtain ⟨i, q2, e2, hi0, hi1, hq2⟩ := below_f hq (words.length : Int) (by omega) (by omega)
      obtain ⟨v, q3, e3, hv0, hv1, hq3⟩ := off_ev hq2 0 12 (by omega) (by omega) (by omega) (by omega)
      exact ⟨_, _, _, Ev.bindo ea (Ev.neg c0 (Ev.neg c1 (Ev.pos c2 (Ev.pos c (Ev.bindo e2 (Ev.bind e3 (Ev.pos hi0 (Ev.pos hi1 (Ev.eq rfl))))))))), hn.ints.set _ ⟨hv0, hv1⟩, by rw [List.length_set]; omega, hq3⟩
    · exact ⟨_, _, _, Ev.bindo ea (Ev.neg c0 (Ev.neg c1 (Ev.pos c2 (Ev.neg c (Ev.eq rfl))))), hn.ints, by omega, hq⟩
  by_cases c3 : a = 3
  · obtain ⟨v, q2, e2, hv0, hv1, hq2⟩ := off_ev hq 0 8 (by omega) (by omega) (by omega) (by omega)
    refine ⟨sz, words ++ [v], q2, ?_, hn.ints.snoc ⟨hv0, hv1⟩, by simp; omega, hq2⟩
    refine Ev.bindo ea (Ev.neg c0 (Ev.neg c1 (Ev.neg c2 (Ev.pos c3 (Ev.bind e2 ?_)))))
    exact Ev.pos (by omega) (Ev.eq rfl)
  · exact ⟨_, _, _, Ev.bindo ea (Ev.neg c0 (Ev.neg c1 (Ev.neg c2 (Ev.neg c3 (Ev.eq rfl))))), hn.ints, by omega, hq⟩
theorem ref_ev {l : List Int} {p : Int} (h : Rd l p) : ∃ v q, Ev (fun k => spec_l1Rd_ref.f k l p) (l, q, v) ∧ (-9223372036854775808 ≤ v ∧ v ≤ 9223372036854775807) ∧ Rd l q := by
  obtain ⟨a, q, ea, ha0, ha1, hq⟩ := below_f h 12 (by omega) (by omega)
  obtain ⟨v, q2, e2, hv0, hv1, hq2⟩ := below_f hq 20 (by omega) (by omega)
  unfold spec_l1Rd_ref.f
  by_cases c0 : a = 0
  · obtain ⟨v, q2, e2, hv0, hv1, hq2⟩ := off_ev hq 0 254 (by omega) (by omega) (by omega) (by omega)
    exact ⟨_, _, Ev.bindo ea (Ev.pos c0 (Ev.bind e2 (Ev.eq rfl))), ⟨hv0, hv1⟩, hq2⟩
  by_cases c1 : a = 1
  · obtain ⟨v, q2, e2, hv0, hv1, hq2⟩ := off_ev hq 0 799 (by omega) (by omega) (by omega) (by omega)
    exact ⟨_, _, Ev.bindo ea (Ev.neg c0 (Ev.pos c1 (Ev.bind e2 (Ev.eq rfl)))), ⟨hv0, hv1⟩, hq2⟩
  by_cases c2 : a = 2
  · exact ⟨0, q, Ev.bindo ea (Ev.neg c0 (Ev.neg c1 (Ev.pos c2 (Ev.eq rfl)))), ⟨by decide, by decide⟩, hq⟩
  by_cases c3 : a = 3
  · exact ⟨0, q, Ev.bindo ea (Ev.neg c0 (Ev.neg c1 (Ev.neg c2 (Ev.pos c3 (Ev.eq rfl))))), ⟨by decide, by decide⟩, hq⟩
  by_cases c4 : a = 4
  · exact ⟨_, _, Ev.bindo ea (Ev.neg c0 (Ev.neg c1 (Ev.neg c2 (Ev.neg c3 (Ev.pos c4 (Ev.bindo e2 (Ev.eq rfl))))))), wrap_ok _, hq2⟩
  by_cases c5 : a = 5
  · exact ⟨_, _, Ev.bindo ea (Ev.neg c0 (Ev.neg c1 (Ev.neg c2 (Ev.neg c3 (Ev.neg c4 (Ev.pos c5 (Ev.bindo e2 (Ev.eq rfl)))))))), wrap_ok _, hq2⟩
  by_cases c6 : a = 6
  · exact ⟨_, _, Ev.bindo ea (Ev.neg c0 (Ev.neg c1 (Ev.neg c2 (Ev.neg c3 (Ev.neg c4 (Ev.neg c5 (Ev.pos c6 (Ev.bindo e2 (Ev.eq rfl))))))))), wrap_ok _, hq2⟩
  · exact ⟨_, _, Ev.bindo ea (Ev.neg c0 (Ev.neg c1 (Ev.neg c2 (Ev.neg c3 (Ev.neg c4 (Ev.neg c5 (Ev.neg c6 (Ev.bindo e2 (Ev.eq rfl))))))))), wrap_ok _, hq2⟩
theorem youngRef_ev {l : List Int} {p : Int} (h : Rd l p) (types : List ByteArray) (sz : Int) (words : List Int) (h2 : types.length ≤ 100) (hs : ∀ x ∈ types, x.size ≤ 100) (hn : Nur words) : ∃ v q, Ev (fun k => spec_l1Rd_youngRef.f k l p types sz words) (l, q, words, v) ∧ (-9223372036854775808 ≤ v ∧ v ≤ 9223372036854775807) ∧ Rd l q := by
  have hs' : ∀ x ∈ types, x.size ≤ 1048576 := fun x hx => by have := hs x hx; omega
  have hst := spec_Starts_ev types sz words (by omega) hs' hn.ints
  have hlen := headsR_length types sz words
  generalize (headsR types sz words).getD [] = st at *
  unfold spec_l1Rd_youngRef.f
  by_cases c : (st.length : Int) = 0
  · obtain ⟨v, q, e, hr⟩ := ref_ev h
    exact ⟨v, q, Ev.bind hst (Ev.pos c (Ev.bind e (Ev.eq rfl))), hr⟩
  · obtain ⟨b, q, e, hq⟩ := once_f h 8 (by omega) (by omega)
    cases b with
    | true =>
      obtain ⟨v, q2, e2, hr⟩ := ref_ev hq
      exact ⟨v, q2, Ev.bind hst (Ev.neg c (Ev.bindo e (Ev.pos rfl (Ev.bind e2 (Ev.eq rfl))))), hr⟩
    | false =>
      obtain ⟨v, q2, e2, hv0, hv1, hq2⟩ := below_f hq (st.length : Int) (by omega) (by omega)
      refine ⟨wrap64 ((wrap64 (2 * (rd st v))) + 1), q2, Ev.bind hst (Ev.neg c (Ev.bindo e ?_)), wrap_ok _, hq2⟩
      exact Ev.neg (by simp) (Ev.bindo e2 (Ev.pos hv0 (Ev.pos hv1 (Ev.eq rfl))))
end Go.Proofs.YtgfeafcgpeclcaaDoor.Abs.Pu
