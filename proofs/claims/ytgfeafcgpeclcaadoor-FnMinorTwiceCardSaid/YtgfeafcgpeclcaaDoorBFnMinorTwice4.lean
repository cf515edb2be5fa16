/- Drawn nurseries and references into them: every draw answers; the words are whole numbers of 64 bits, at most some thousand. For codes of at most 2^40 bytes. (Merged out of this claim's own texts.) -/
import Derived.Test.YtgfeafcgpeclcaaDoorBFnMinorTwice3
import Derived.Test.YtgfeafcgpeclcaaDoorProg
import Derived.Shelf.Strings.Trim
import Derived.Shelf.Small.Utf8
import Derived.Shelf.Small.Strs
import Derived.Shelf.Strings.Search1
import Derived.Shelf.Strings.Runes
import Derived.Shelf.Strings.AsciiSet
import Derived.Shelf.Unicode.DecodeSlow
import Derived.Ground.SlgnProg
import Derived.Shelf.SlicesG.Clone
import Derived.Shelf.SlicesG.SearchI
import Derived.Shelf.SlicesE.Clone
import Derived.Ground.SlgfProg
import Derived.Shelf.SlicesE.IndexFunc
namespace Go.Proofs.YtgfeafcgpeclcaaDoor.Abs.Pu
open Go Go.RowKit
set_option linter.unusedVariables false
set_option linter.unusedSectionVars false
set_option linter.unusedSimpArgs false
/-- What is drawn: words of 64 bits, not too many. -/
structure Nur (words : List Int) : Prop where
  ints : Ints words
  len : words.length ≤ 1000
theorem Nur.nil : Nur [] := ⟨(fun _ h => nomatch h), Nat.zero_le _⟩
theorem allocR_nur {types : List ByteArray} {sz : Int} {words : List Int} {t : Int} (h : Nur words) : Nur (allocR types sz words t).2.1 := by
  refine ⟨?_, allocR_length types sz words t⟩
  have nil : Ints [] := fun _ h => by cases h
  unfold allocR
  split
  · split
    · rename_i h1 h2
      obtain ⟨ht, hz, hl⟩ := heads_some h1
      have htl := types_length ht
      simp only [Bool.and_eq_true, decide_eq_true_eq] at h2
      split
      · exact nil
      · intro y hy
        rcases List.mem_append.1 hy with hy | hy
        · exact (h.ints.snoc (x := 4 * t) (by omega)) y hy
        · have := (List.mem_replicate.1 hy).2
          omega
    · exact nil
  · exact nil
theorem allocR_ref (types : List ByteArray) (sz : Int) (words : List Int) (t : Int) : -9223372036854775808 ≤ (allocR types sz words t).2.2.1 ∧ (allocR types sz words t).2.2.1 ≤ 9223372036854775807 := by
  unfold allocR
  split
  · split
    · rename_i h1 h2
      obtain ⟨ht, hz, hl⟩ := heads_some h1
      split
      · exact ⟨by decide, by decide⟩
      · show _ ≤ 2 * (words.length : Int) + 1 ∧ 2 * (words.length : Int) + 1 ≤ _
        omega
    · exact ⟨by decide, by decide⟩
  · exact ⟨by decide, by decide⟩
theorem setR_nur {types : List ByteArray} {sz : Int} {words : List Int} {ref i v : Int} (h : Nur words) (hv : -9223372036854775808 ≤ v ∧ v ≤ 9223372036854775807) : Nur (setR types sz words ref i v).2.1 := by
  have nil : Nur [] := Nur.nil
  have st : Nur (words.set (ref / 2 + 1 + i).toNat v) := ⟨h.ints.set _ hv, by rw [List.length_set]; exact h.len⟩
  unfold setR
  split
  · split
    · split
      · split
        · split
          · exact st
          · exact nil
        · exact st
      · exact nil
    · exact nil
  · exact nil
theorem size_f {l : List Int} {p : Int} (h : Rd l p) (per most : Int) (hp : 1 ≤ per) (hm : 1 ≤ most) (hm2 : most ≤ 60000) : ∃ v q, spec_l1Rd_size.f l p per most = some (l, q, v) ∧ 1 ≤ v ∧ v ≤ most ∧ Rd l q := by
  have hl := h.len
  have h0 : 0 ≤ (l.length : Int) / per := Int.ediv_nonneg (by omega) (by omega)
  have h1 : (l.length : Int) / per ≤ l.length := Int.ediv_le_self _ (by omega)
  unfold spec_l1Rd_size.f
  rw [if_neg (by omega), Int.tdiv_eq_ediv_of_nonneg (by omega), w64 (x := (l.length : Int) / per) (by omega) (by omega), w64 (x := 1 + (l.length : Int) / per) (by omega) (by omega)]
  split
  · obtain ⟨v, q, e, hv0, hv1, hq⟩ := below_f h most hm (by omega)
    refine ⟨_, q, by rw [e]; rfl, ?_, ?_, hq⟩
    all_goals simp only []; rw [w64 (x := 1 + v) (by omega) (by omega)]; omega
  · obtain ⟨v, q, e, hv0, hv1, hq⟩ := below_f h (1 + (l.length : Int) / per) (by omega) (by omega)
    refine ⟨_, q, by rw [e]; rfl, ?_, ?_, hq⟩
    all_goals simp only []; rw [w64 (x := 1 + v) (by omega) (by omega)]; omega
theorem nursery_ev {l : List Int} {p : Int} (h : Rd l p) (types : List ByteArray) (h1 : 1 ≤ types.length) (h2 : types.length ≤ 100) (hs : ∀ x ∈ types, x.size ≤ 100) : ∃ sz words q, Ev (fun k => spec_l1Rd_nursery.f k l p types) (l, q, sz, words) ∧ Nur words ∧ Rd l q := by
  have hs' : ∀ x ∈ types, x.size ≤ 1048576 := fun x hx => by have := hs x hx; omega
  have lp : ∀ (d : Nat) (refs : List Int) (p sz : Int) (words : List Int), 1 ≤ refs.length → refs.length + d ≤ 100 → Ints refs → Nur words → Rd l p →
      ∃ sz' words' q, Ev (fun k => spec_l1Rd_nursery.p10 k l p types 0 sz words refs (d : Int)) (l, q, sz', words') ∧ Nur words' ∧ Rd l q := by
    intro d
    induction d with
    | zero =>
      intro refs p sz words hr1 hr2 hri hn hp
      refine ⟨sz, words, p, ?_, hn, hp⟩
      refine Ev.step (fun k => by rw [spec_l1Rd_nursery.p10]) ?_
      exact Ev.neg (by omega) (Ev.eq rfl)
    | succ d ih =>
      have j3 : ∀ (b : Bool) (refs : List Int) (p sz : Int) (words : List Int), (b = true → (words.length : Int) > 0) → 1 ≤ refs.length → refs.length + d ≤ 100 → Ints refs → Nur words → Rd l p →
          ∃ sz' words' q, Ev (fun k => spec_l1Rd_nursery.p43 k l p types 0 sz words refs ((d + 1 : Nat) : Int) b) (l, q, sz', words') ∧ Nur words' ∧ Rd l q := by
        intro b refs p sz words hb hr1 hr2 hri hn hq
        have e1 : wrap64 (((d + 1 : Nat) : Int) - 1) = (d : Int) := by rw [w64 (by omega) (by omega)]; omega
        cases b with
        | true =>
          have hb := hb rfl
          obtain ⟨v, q2, ev, hv0, hv1, hq2⟩ := below_f hq 4 (by omega) (by omega)
          have hn2 : Nur (words.set 0 (wrap64 ((wrap64 ((wrap64 (Int.tdiv (rd words 0) 4)) * 4)) + v))) := ⟨hn.ints.set _ (wrap_ok _), by rw [List.length_set]; exact hn.len⟩
          obtain ⟨sz', words', q3, e3, hr⟩ := ih refs q2 sz _ hr1 hr2 hri hn2 hq2
          refine ⟨sz', words', q3, ?_, hr⟩
          refine Ev.step (fun k => by rw [spec_l1Rd_nursery.p43]) ?_
          refine Ev.pos rfl (Ev.pos (by omega) (Ev.bindo ev (Ev.pos (by omega) ?_)))
          rw [e1]
          exact e3
        | false =>
          obtain ⟨sz', words', q3, e3, hr⟩ := ih refs p sz _ hr1 hr2 hri hn hq
          refine ⟨sz', words', q3, ?_, hr⟩
          refine Ev.step (fun k => by rw [spec_l1Rd_nursery.p43]) ?_
          refine Ev.neg (by simp) ?_
          rw [e1]
          exact e3
      have j2 : ∀ (refs : List Int) (p sz : Int) (words : List Int), 1 ≤ refs.length → refs.length + d ≤ 100 → Ints refs → Nur words → Rd l p →
          ∃ sz' words' q, Ev (fun k => spec_l1Rd_nursery.p41 k l p types 0 sz words refs ((d + 1 : Nat) : Int)) (l, q, sz', words') ∧ Nur words' ∧ Rd l q := by
        intro refs p sz words hr1 hr2 hri hn hp
        by_cases c : (words.length : Int) > 0
        · obtain ⟨b, q, e, hq⟩ := once_f hp 4 (by omega) (by omega)
          obtain ⟨sz', words', q3, e3, hr⟩ := j3 b refs q sz words (fun _ => c) hr1 hr2 hri hn hq
          refine ⟨sz', words', q3, ?_, hr⟩
          refine Ev.step (fun k => by rw [spec_l1Rd_nursery.p41]) ?_
          exact Ev.pos c (Ev.bindo e e3)
        · obtain ⟨sz', words', q3, e3, hr⟩ := j3 false refs p sz words (fun h => by cases h) hr1 hr2 hri hn hp
          refine ⟨sz', words', q3, ?_, hr⟩
          refine Ev.step (fun k => by rw [spec_l1Rd_nursery.p41]) ?_
          exact Ev.neg c e3
      have j1 : ∀ (refs : List Int) (p sz x : Int) (words : List Int), 1 ≤ refs.length → refs.length + d ≤ 100 → Ints refs → Nur words → Rd l p →
          ∃ sz' words' q, Ev (fun k => spec_l1Rd_nursery.p29 k l p types 0 sz words refs ((d + 1 : Nat) : Int) x) (l, q, sz', words') ∧ Nur words' ∧ Rd l q := by
        intro refs p sz x words hr1 hr2 hri hn hp
        obtain ⟨a, q, ea, ha0, ha1, hq⟩ := below_f hp (refs.length : Int) (by omega) (by omega)
        obtain ⟨b, q2, eb, hb0, hb1, hq2⟩ := below_f hq (refs.length : Int) (by omega) (by omega)
        obtain ⟨i, q3, ei, hi0, hi1, hq3⟩ := below_f hq2 3 (by omega) (by omega)
        have es := spec_YoungSet_ev types sz words (rd refs a) i (rd refs b) (by omega) hs' hn.ints
        have hsn := setR_nur (types := types) (sz := sz) (ref := rd refs a) (i := i) (v := rd refs b) hn (hri.at_ b)
        generalize setR types sz words (rd refs a) i (rd refs b) = g at *
        obtain ⟨g1, g2, g3⟩ := g
        cases g3 with
        | true =>
          obtain ⟨sz', words', q4, e4, hr⟩ := j2 refs q3 g1 g2 hr1 hr2 hri hsn hq3
          refine ⟨sz', words', q4, ?_, hr⟩
          refine Ev.step (fun k => by rw [spec_l1Rd_nursery.p29]) ?_
          exact Ev.bindo ea (Ev.pos ha0 (Ev.pos ha1 (Ev.bindo eb (Ev.pos hb0 (Ev.pos hb1 (Ev.bindo ei (Ev.bind es (Ev.pos rfl e4))))))))
        | false =>
          obtain ⟨sz', words', q4, e4, hr⟩ := j2 refs q3 sz words hr1 hr2 hri hn hq3
          refine ⟨sz', words', q4, ?_, hr⟩
          refine Ev.step (fun k => by rw [spec_l1Rd_nursery.p29]) ?_
          refine Ev.bindo ea (Ev.pos ha0 (Ev.pos ha1 (Ev.bindo eb (Ev.pos hb0 (Ev.pos hb1 (Ev.bindo ei (Ev.bind es ?_)))))))
          exact Ev.neg (by simp) e4
      intro refs p sz words hr1 hr2 hri hn hp
      obtain ⟨t, q, et, ht0, ht1, hq⟩ := below_f hp (types.length : Int) (by omega) (by omega)
      have ea := spec_YoungAlloc_ev types sz words t (by omega) hs' hn.ints
      have han := allocR_nur (types := types) (sz := sz) (t := t) hn
      have har := allocR_ref types sz words t
      generalize allocR types sz words t = g at *
      obtain ⟨g1, g2, g3, g4⟩ := g
      by_cases c : g4 = 0
      · obtain ⟨sz', words', q4, e4, hr⟩ := j1 (refs ++ [g3]) q g1 g1 g2 (by simp) (by simp; omega) (hri.snoc har) han hq
        refine ⟨sz', words', q4, ?_, hr⟩
        refine Ev.step (fun k => by rw [spec_l1Rd_nursery.p10]) ?_
        refine Ev.pos (by omega) (Ev.bindo et (Ev.bind ea ?_))
        refine Ev.pos c ?_
        exact Ev.pos (by omega) e4
      · obtain ⟨sz', words', q4, e4, hr⟩ := j1 refs q sz g1 words hr1 (by omega) hri hn hq
        refine ⟨sz', words', q4, ?_, hr⟩
        refine Ev.step (fun k => by rw [spec_l1Rd_nursery.p10]) ?_
        refine Ev.pos (by omega) (Ev.bindo et (Ev.bind ea ?_))
        exact Ev.neg c e4
  obtain ⟨a, q, ea, ha0, ha1, hq⟩ := below_f h 60 (by omega) (by omega)
  obtain ⟨b, q2, eb, hb0, hb1, hq2⟩ := below_f hq 60 (by omega) (by omega)
  obtain ⟨n, q3, en, hn0, hn1, hq3⟩ := size_f hq2 4 14 (by omega) (by omega) (by omega)
  obtain ⟨sz', words', q4, e4, hr⟩ := lp n.toNat [0, wrap64 (2 * (wrap64 (1 + b)))] q3 (wrap64 (6 + a)) [] (by simp) (by simp only [List.length_cons, List.length_nil]; omega) (fun x hx => by
    simp only [List.mem_cons, List.not_mem_nil, or_false] at hx
    rcases hx with rfl | rfl
    · exact ⟨by decide, by decide⟩
    · exact wrap_ok _) Nur.nil hq3
  refine ⟨sz', words', q4, ?_, hr⟩
  unfold spec_l1Rd_nursery.f
  refine Ev.bindo ea (Ev.bindo eb (Ev.bindo en ?_))
  simp only []
  rw [show ((n.toNat : Nat) : Int) = n from by omega] at e4
  exact e4
theorem hurtNursery_ev {l : List Int} {p : Int} (h : Rd l p) (sz : Int) (words : List Int) (hn : Nur words) : ∃ sz' words' q, Ev (fun k => spec_l1Rd_hurtNursery.f k l p sz words) (l, q, sz', words') ∧ Ints words' ∧ words'.length ≤ 1001 ∧ Rd l q := by
  have hlen := hn.len
  obtain ⟨a, q, ea, ha0, ha1, hq⟩ := below_f h 24 (by omega) (by omega)
  unfold spec_l1Rd_hurtNursery.f
  by_cases c0 : a = 0
  · obtain ⟨v, q2, e2, hv0, hv1, hq2⟩ := off_ev hq 2 400 (by omega) (by omega) (by omega) (by omega)
    exact ⟨_, _, _, Ev.bindo ea (Ev.pos c0 (Ev.bind e2 (Ev.eq rfl))), hn.ints, by omega, hq2⟩
  by_cases c1 : a = 1
  · obtain ⟨v, q2, e2, hv0, hv1, hq2⟩ := below_f hq 2 (by omega) (by omega)
    exact ⟨_, _, _, Ev.bindo ea (Ev.neg c0 (Ev.pos c1 (Ev.bindo e2 (Ev.eq rfl)))), hn.ints, by omega, hq2⟩
  by_cases c2 : a = 2
  · by_cases c : (words.length : Int) > 0
    · obtain ⟨i, q2, e2, hi0, hi1, hq2⟩ := below_f hq (words.length : Int) (by omega) (by omega)
      obtain ⟨v, q3, e3, hv0, hv1, hq3⟩ := off_ev hq2 0 12 (by omega) (by omega) (by omega) (by omega)
      exact ⟨_, _, _, Ev.bindo ea (Ev.neg c0 (Ev.neg c1 (Ev.pos c2 (Ev.pos c (Ev.bindo e2 (Ev.bind e3 (Ev.pos hi0 (Ev.pos hi1 (Ev.eq rfl))))))))), hn.ints.set _ ⟨hv0, hv1⟩, by rw [List.length_set]; omega, hq3⟩
    · exact ⟨_, _, _, Ev.bindo ea (Ev.neg c0 (Ev.neg c1 (Ev.pos c2 (Ev.neg c (Ev.eq rfl))))), hn.ints, by omega, hq⟩
  by_cases c3 : a = 3
  · obtain ⟨v, q2, e2, hv0, hv1, hq2⟩ := off_ev hq 0 8 (by omega) (by omega) (by omega) (by omega)
    refine ⟨sz, words ++ [v], q2, ?_, hn.ints.snoc ⟨hv0, hv1⟩, by simp; omega, hq2⟩
    refine Ev.bindo ea (Ev.neg c0 (Ev.neg c1 (Ev.neg c2 (Ev.pos c3 (Ev.bind e2 ?_)))))
    exact Ev.pos (by omega) (Ev.eq rfl)
  · exact ⟨_, _, _, Ev.bindo ea (Ev.neg c0 (Ev.neg c1 (Ev.neg c2 (Ev.neg c3 (Ev.eq rfl))))), hn.ints, by omega, hq⟩
theorem youngRef_ev {l : List Int} {p : Int} (h : Rd l p) (types : List ByteArray) (sz : Int) (words : List Int) (h2 : types.length ≤ 100) (hs : ∀ x ∈ types, x.size ≤ 100) (hn : Nur words) : ∃ v q, Ev (fun k => spec_l1Rd_youngRef.f k l p types sz words) (l, q, words, v) ∧ (-9223372036854775808 ≤ v ∧ v ≤ 9223372036854775807) ∧ Rd l q := by
  have hs' : ∀ x ∈ types, x.size ≤ 1048576 := fun x hx => by have := hs x hx; omega
  have hst := spec_Starts_ev types sz words (by omega) hs' hn.ints
  have hlen := headsR_length types sz words
  generalize (headsR types sz words).getD [] = st at *
  unfold spec_l1Rd_youngRef.f
  by_cases c : (st.length : Int) = 0
  · obtain ⟨v, q, e, hr⟩ := ref_ev h
    exact ⟨v, q, Ev.bind hst (Ev.pos c (Ev.bind e (Ev.eq rfl))), hr⟩
  · obtain ⟨b, q, e, hq⟩ := once_f h 8 (by omega) (by omega)
    cases b with
    | true =>
      obtain ⟨v, q2, e2, hr⟩ := ref_ev hq
      exact ⟨v, q2, Ev.bind hst (Ev.neg c (Ev.bindo e (Ev.pos rfl (Ev.bind e2 (Ev.eq rfl))))), hr⟩
    | false =>
      obtain ⟨v, q2, e2, hv0, hv1, hq2⟩ := below_f hq (st.length : Int) (by omega) (by omega)
      refine ⟨wrap64 ((wrap64 (2 * (rd st v))) + 1), q2, Ev.bind hst (Ev.neg c (Ev.bindo e ?_)), wrap_ok _, hq2⟩
      exact Ev.neg (by simp) (Ev.bindo e2 (Ev.pos hv0 (Ev.pos hv1 (Ev.eq rfl))))
end Go.Proofs.YtgfeafcgpeclcaaDoor.Abs.Pu
namespace Go.Proofs.YtgfeafcgpeclcaaDoor.Abs.Pu
open Go Go.RowKit
set_option linter.unusedVariables false
set_option linter.unusedSectionVars false
set_option linter.unusedSimpArgs false
theorem drawYoungClosure_ev {l : List Int} (hb : isBytes l) (hl : l.length ≤ 1099511627776) : ∃ types sz words roots, Ev (fun k => spec_DrawYoungClosure.f k l) (types, sz, words, roots) ∧ types.length ≤ 100 ∧ (∀ x ∈ types, x.size ≤ 100) ∧ Ints words ∧ words.length ≤ 1001 ∧ Ints roots ∧ roots.length ≤ 100 := by
  obtain ⟨ts, q, e, h1, h2, hs, hq⟩ := drawTypes_ev (Rd.start hb hl)
  obtain ⟨sz, words, q2, e2, hn, hq2⟩ := nursery_ev hq ts h1 h2 hs
  obtain ⟨m, q3, e3, hm0, hm1, hq3⟩ := below_f hq2 5 (by omega) (by omega)
  have lp : ∀ (d : Nat) (roots : List Int) (p : Int), roots.length + d ≤ 100 → Ints roots → Rd l p → ∃ sz' words' roots', Ev (fun k => spec_DrawYoungClosure.p14 k 0 l p ts sz words roots (d : Int)) (ts, sz', words', roots') ∧ Ints words' ∧ words'.length ≤ 1001 ∧ Ints roots' ∧ roots'.length ≤ 100 := by
    intro d
    induction d with
    | zero =>
      intro roots p hr hi hp
      obtain ⟨sz3, words3, q4, e4, hi4, hw4, hq4⟩ := hurtNursery_ev hp sz words hn
      refine ⟨sz3, words3, roots, ?_, hi4, hw4, hi, by omega⟩
      refine Ev.step (fun k => by rw [spec_DrawYoungClosure.p14]) ?_
      exact Ev.neg (by omega) (Ev.bind e4 (Ev.eq rfl))
    | succ d ih =>
      intro roots p hr hi hp
      have e1 : wrap64 (((d + 1 : Nat) : Int) - 1) = (d : Int) := by rw [w64 (by omega) (by omega)]; omega
      obtain ⟨v, q4, e4, hv, hq4⟩ := youngRef_ev hp ts sz words h2 hs hn
      obtain ⟨b, q5, e5, hq5⟩ := once_f hq4 4 (by omega) (by omega)
      have go : ∀ (b : Bool) (q : Int), Rd l q → ∃ sz' words' roots', Ev (fun k => spec_DrawYoungClosure.p28 k 0 l q ts sz words roots (((d + 1 : Nat) : Int)) v b) (ts, sz', words', roots') ∧ Ints words' ∧ words'.length ≤ 1001 ∧ Ints roots' ∧ roots'.length ≤ 100 := by
        intro b q hq
        cases b with
        | true =>
          obtain ⟨x, q6, e6, hx0, hx1, hq6⟩ := below_f hq 20 (by omega) (by omega)
          obtain ⟨sz', words', roots', e7, hr7⟩ := ih (roots ++ [wrap64 (2 * x)]) q6 (by simp; omega) (hi.snoc (wrap_ok _)) hq6
          refine ⟨sz', words', roots', ?_, hr7⟩
          refine Ev.step (fun k => by rw [spec_DrawYoungClosure.p28]) ?_
          rw [e1]
          exact Ev.pos rfl (Ev.bindo e6 (Ev.pos (by omega) e7))
        | false =>
          obtain ⟨sz', words', roots', e7, hr7⟩ := ih (roots ++ [v]) q (by simp; omega) (hi.snoc hv) hq
          refine ⟨sz', words', roots', ?_, hr7⟩
          refine Ev.step (fun k => by rw [spec_DrawYoungClosure.p28]) ?_
          rw [e1]
          exact Ev.neg (by simp) (Ev.pos (by omega) e7)
      cases b with
      | true =>
        obtain ⟨sz', words', roots', e7, hr7⟩ := go true q5 hq5
        refine ⟨sz', words', roots', ?_, hr7⟩
        refine Ev.step (fun k => by rw [spec_DrawYoungClosure.p14]) ?_
        exact Ev.pos (by omega) (Ev.bind e4 (Ev.bindo e5 (Ev.pos rfl e7)))
      | false =>
        by_cases c : refk v < 0
        · obtain ⟨b2, q6, e6, hq6⟩ := once_f hq5 4 (by omega) (by omega)
          obtain ⟨sz', words', roots', e7, hr7⟩ := go (!b2) q6 hq6
          refine ⟨sz', words', roots', ?_, hr7⟩
          refine Ev.step (fun k => by rw [spec_DrawYoungClosure.p14]) ?_
          refine Ev.pos (by omega) (Ev.bind e4 (Ev.bindo e5 ?_))
          exact Ev.neg (by simp) (Ev.bindo (spec_RefKind_f v) (Ev.pos c (Ev.bindo e6 e7)))
        · obtain ⟨sz', words', roots', e7, hr7⟩ := go false q5 hq5
          refine ⟨sz', words', roots', ?_, hr7⟩
          refine Ev.step (fun k => by rw [spec_DrawYoungClosure.p14]) ?_
          refine Ev.pos (by omega) (Ev.bind e4 (Ev.bindo e5 ?_))
          exact Ev.neg (by simp) (Ev.bindo (spec_RefKind_f v) (Ev.neg c e7))
  obtain ⟨sz', words', roots', e4, hr4⟩ := lp m.toNat [] q3 (by simp only [List.length_nil]; omega) (fun _ h => by cases h) hq3
  refine ⟨ts, sz', words', roots', ?_, h2, hs, hr4⟩
  unfold spec_DrawYoungClosure.f
  refine Ev.bindo rfl (Ev.bind e (Ev.bind e2 (Ev.bindo e3 ?_)))
  simp only []
  rw [show ((m.toNat : Nat) : Int) = m from by omega] at e4
  exact e4
end Go.Proofs.YtgfeafcgpeclcaaDoor.Abs.Pu
namespace Go.Proofs.YtgfeafcgpeclcaaDoor.Abs.Pu
open Go Go.RowKit
set_option linter.unusedVariables false
set_option linter.unusedSectionVars false
set_option linter.unusedSimpArgs false
theorem sameInts_ev (l : List Int) (hl : l.length ≤ 1099511627776) : Ev (fun k => laws_sameInts.f k l l) true := by
  have lp : ∀ (d i : Nat), l.length - i = d → i ≤ l.length → Ev (fun k => laws_sameInts.p14 k l l (i : Int)) true := by
    intro d
    induction d with
    | zero =>
      intro i hd hi
      exact Ev.step (fun k => by rw [laws_sameInts.p14]) (Ev.neg (by omega) (Ev.eq rfl))
    | succ d ih =>
      intro i hd hi
      refine Ev.step (fun k => by rw [laws_sameInts.p14]) ?_
      rw [show wrap64 ((i : Int) + 1) = ((i + 1 : Nat) : Int) from by rw [w64 (by omega) (by omega)]; omega]
      exact Ev.pos (by omega) (Ev.pos (by omega) (Ev.pos (by omega) (Ev.pos (by omega) (Ev.pos (by omega) (Ev.pos rfl (ih (i + 1) (by omega) (by omega)))))))
  unfold laws_sameInts.f
  exact Ev.pos rfl (lp _ 0 rfl (by omega))
end Go.Proofs.YtgfeafcgpeclcaaDoor.Abs.Pu
namespace Go.Proofs.YtgfeafcgpeclcaaDoor.Abs.Pu
open Go Go.RowKit
set_option linter.unusedVariables false
set_option linter.unusedSectionVars false
set_option linter.unusedSimpArgs false
theorem age_up {h : Int} (h0 : 0 ≤ h) : ageUp h % 4 = upA (h % 4) := by
  unfold ageUp upA
  split <;> omega
theorem CloF.ages {types : List ByteArray} {words roots out : List Int} (C : CloF types words roots out) : (posL (wr types words) 0 out).map (fun z => rd (newWs types words out) z % 4) = (out.map fun x => rd words (x / 2) % 4).map upA := by
  rw [C.pos_eq, List.map_map, List.map_map]
  refine List.map_congr_left (fun x hx => ?_)
  obtain ⟨P, _, hP2, hrd, _, _, _, h0⟩ := C.new_word hx
  show rd (newWs types words out) (gof types words out x / 2) % 4 = upA (rd words (x / 2) % 4)
  rw [hP2, hrd, age_up h0]
theorem FnMinorTwice : laws_FnMinorTwice.Pure := by
  intro l hb
  have hb := hb.2
  refine Ev.rounds ?_
  unfold laws_FnMinorTwice.f
  refine Ev.bindo rfl (Ev.cases (fun _ => Ev.eq rfl) (fun c => ?_))
  have hlen : l.length ≤ 1099511627776 := by
    have : ¬ (l.length : Int) > 1048576 := by simpa using c
    omega
  obtain ⟨types, sz, words, roots, hd, htl, hts, hi, hwl, hri, hrl⟩ := drawYoungClosure_ev (isBytes_of hb) hlen
  have hs : ∀ x ∈ types, x.size ≤ 1048576 := fun x hx => by have := hts x hx; omega
  have es := spec_Minor_ev types sz words roots (by omega) hs hi
  have ei := impl_Minor_ev types sz words roots hs hi
  have ec := spec_YoungClosure_ev types sz words roots (by omega) hs hi
  have hd2 : Ev (fun k => spec_DrawMinor.f k l) (types, sz, words, roots) := by
    unfold spec_DrawMinor.f
    exact Ev.bind hd (Ev.eq rfl)
  refine Ev.bind hd2 (Ev.bind ei (Ev.bind es (Ev.pos rfl ?_)))
  refine Ev.step (fun k => by rw [laws_FnMinorTwice.p19]) ?_
  by_cases c1 : (closR types sz words roots).2 = true
  rotate_left
  · have e : minorR types sz words roots = (0, [], [], false) := by unfold minorR; rw [if_neg c1]
    rw [e]
    exact Ev.pos rfl (Ev.eq rfl)
  obtain ⟨st, hst, hr4, hro, e2⟩ := closR_yes c1
  obtain ⟨_, hsz, hwsz⟩ := heads_some (by rw [hst]; rfl : (headsR types sz words).isSome = true)
  have e : minorR types sz words roots = (sz, newWs types words (closureP types words roots), roots.map (gof types words (closureP types words roots)), true) := by
    unfold minorR
    rw [if_pos c1, e2]
    rfl
  rw [e2] at ec
  rw [e]
  obtain ⟨out, W, to, rfl, rfl, rfl, C, hmap, hto, C2, hm2, hH, hH2, hL2, hL1, hpos⟩ := minor_twice hst hi hro hr4 hsz hwsz
  have ei2 := impl_Minor_ev types sz (newWs types words (closureP types words roots)) (roots.map (gof types words (closureP types words roots))) hs C2.ints
  rw [hm2] at ei2
  have q1 := sameInts_ev (roots.map (gof types words (closureP types words roots))) (by rw [List.length_map]; omega)
  have hi2 : ∀ x ∈ newWs types (newWs types words (closureP types words roots)) (toP types words (closureP types words roots)), -9223372036854775808 ≤ x ∧ x ≤ 9223372036854775807 := C2.new_ints
  have a1 := impl_Ages_ev types sz _ _ hs C2.ints hH
  have a2 := impl_Ages_ev types sz _ _ hs hi2 hH2
  have s1 := impl_Starts_ev types sz _ hs C2.ints
  have s2 := impl_Starts_ev types sz _ hs hi2
  rw [hH] at s1
  rw [hH2] at s2
  have A1 := C.ages
  have A2 := C2.ages
  rw [hpos] at A2
  have A3 : ((toP types words (closureP types words roots)).map fun x => rd (newWs types words (closureP types words roots)) (x / 2) % 4) = (posL (wr types words) 0 (closureP types words roots)).map (fun z => rd (newWs types words (closureP types words roots)) z % 4) := by
    rw [C.pos_eq, hmap, List.map_map, List.map_map]
    rfl
  rw [A3, A1] at A2
  have hcu := cnt_up ((closureP types words roots).map fun x => rd words (x / 2) % 4) (fun x hx => by
    obtain ⟨y, _, rfl⟩ := List.mem_map.1 hx
    omega)
  rw [List.length_map] at hcu
  have hpl : (posL (wr types words) 0 (closureP types words roots)).length ≤ 400 := by
    rw [posL_length]
    exact C.ol
  have hol := C.ol
  have q2 := sameInts_ev (posL (wr types words) 0 (closureP types words roots)) (by omega)
  unfold agesR at a1 a2
  rw [A1] at a1
  rw [A2] at a2
  simp only [] at a1 a2
  clear e e2 es ei hmap hto C C2 hm2 hH hH2 A1 A2 A3
  generalize newWs types (newWs types words (closureP types words roots)) (toP types words (closureP types words roots)) = W2 at *
  generalize newWs types words (closureP types words roots) = W at *
  generalize posL (wr types words) 0 (closureP types words roots) = P at *
  generalize roots.map (gof types words (closureP types words roots)) = R at *
  generalize ((closureP types words roots).map fun x => rd words (x / 2) % 4) = H at *
  obtain ⟨c1, c2, c3, c4, c5, c6⟩ := hcu
  have r1 := cnt_range 1 (H.map upA)
  have r2 := cnt_range 2 (H.map upA)
  have r3 := cnt_range 3 (H.map upA)
  have hHl : (H.map upA).length ≤ 400 ∨ True := Or.inr trivial
  rw [c1] at a1
  rw [c2, c3, c4, c5] at a2
  have p29 : Ev (fun k => laws_FnMinorTwice.p29 k types sz words roots sz W sz W2 false) true := by
    refine Ev.step (fun k => by rw [laws_FnMinorTwice.p29]) ?_
    refine Ev.neg (by simp) (Ev.bind a1 (Ev.bind a2 (Ev.bind ec ?_)))
    generalize cnt 1 (H.map upA) = x1 at *
    generalize cnt 2 (H.map upA) = x2 at *
    generalize cnt 3 (H.map upA) = x3 at *
    have w1 : wrap64 (x2 + x3) = x2 + x3 := w64 (by omega) (by omega)
    have w2 : wrap64 (wrap64 (x1 + x2) + x3) = x1 + x2 + x3 := by rw [w64 (x := x1 + x2) (by omega) (by omega), w64 (by omega) (by omega)]
    have hz : (0 : Int) < 4 := by decide
    have hz1 : (1 : Int) < 4 := by decide
    have hz2 : (2 : Int) < 4 := by decide
    have hz3 : (3 : Int) < 4 := by decide
    refine Ev.pos rfl (Ev.pos rfl (Ev.pos hz (Ev.pos rfl (Ev.pos hz (Ev.pos rfl (Ev.pos hz1 (Ev.pos rfl (Ev.pos hz2 (Ev.pos hz1 (Ev.pos rfl (Ev.pos hz3 (Ev.pos hz2 (Ev.pos hz3 (Ev.pos ?_ (Ev.pos hz1 (Ev.pos hz2 (Ev.pos hz3 (Ev.pos ?_ (Ev.bind s2 (Ev.bind s1 (Ev.bind q2 (Ev.eq rfl))))))))))))))))))))))
    · show x2 + x3 = wrap64 (x2 + x3)
      exact w1.symm
    · show wrap64 (wrap64 (x1 + x2) + x3) = _
      rw [w2]; exact c6
  refine Ev.neg (by simp) (Ev.bind ei2 (Ev.pos rfl (Ev.bind q1 (Ev.pos rfl ?_))))
  simp only [hL2, decide_true, Bool.not_true]
  exact p29
end Go.Proofs.YtgfeafcgpeclcaaDoor.Abs.Pu
namespace Go.Proofs
open Go.Shelf
def Tryd.lays231_ren : Go.Shelf.Ren := ⟨fun | 231 => 118 | n => n, fun | 9 => 9 | 5 => 5 | 3 => 3 | 4 => 4 | n => n, fun | n => n⟩
theorem Tryd.lays231 : Go.Proofs.Lays.n231 Tryd.prog Tryd.lays231_ren := {
  mixed := by kernel_rfl
  f231 := Tryd.func118.trans (congrArg some (by kernel_rfl))
  t3 := Tryd.underlying3
  a3 := Tryd.isAgg3
  z3 := Tryd.sizeOf3
  v3 := Tryd.zeroValue3
  t4 := Tryd.underlying4
  a4 := Tryd.isAgg4
  z4 := Tryd.sizeOf4
  v4 := Tryd.zeroValue4
  t5 := Tryd.underlying5
  a5 := Tryd.isAgg5
  z5 := Tryd.sizeOf5
  v5 := Tryd.zeroValue5
  t9 := Tryd.underlying9
  a9 := Tryd.isAgg9
  z9 := Tryd.sizeOf9
  v9 := Tryd.zeroValue9 }
open Go.RowKit in
/-- strings.trimLeftByte (no doc; what TrimLeft and Trim call at a cutset of one ASCII byte): the leading bytes that are c are cut off. The world is as it was. (LAID: no walk: one application.) -/
theorem Tryd.strings_trimLeftByte (s : ByteArray) (c : UInt8) (w : World) :
    Calls Tryd.prog 118 #[.string s, .int .u8 c.toNat] w fun e w' => e = .returned (.string ⟨(Lib.trimLeftB s.data.toList c).toArray⟩) ∧ w' = w := Any.strings_trimLeftByte Tryd.lays231 s c w
def Tryd.lays232_ren : Go.Shelf.Ren := ⟨fun | 232 => 119 | n => n, fun | 9 => 9 | 5 => 5 | 3 => 3 | 4 => 4 | n => n, fun | n => n⟩
theorem Tryd.lays232 : Go.Proofs.Lays.n232 Tryd.prog Tryd.lays232_ren := {
  mixed := by kernel_rfl
  f232 := Tryd.func119.trans (congrArg some (by kernel_rfl))
  t3 := Tryd.underlying3
  a3 := Tryd.isAgg3
  z3 := Tryd.sizeOf3
  v3 := Tryd.zeroValue3
  t4 := Tryd.underlying4
  a4 := Tryd.isAgg4
  z4 := Tryd.sizeOf4
  v4 := Tryd.zeroValue4
  t5 := Tryd.underlying5
  a5 := Tryd.isAgg5
  z5 := Tryd.sizeOf5
  v5 := Tryd.zeroValue5
  t9 := Tryd.underlying9
  a9 := Tryd.isAgg9
  z9 := Tryd.sizeOf9
  v9 := Tryd.zeroValue9 }
open Go.RowKit in
/-- strings.trimRightByte (no doc; what TrimRight and Trim call at a cutset of one ASCII byte): the trailing bytes that are c are cut off. The world is as it was. ('hs': a string's length is a number that an int holds.) (LAID: no walk: one application.) -/
theorem Tryd.strings_trimRightByte (s : ByteArray) (c : UInt8) (w : World) (hs : s.size ≤ 9223372036854775807) :
    Calls Tryd.prog 119 #[.string s, .int .u8 c.toNat] w fun e w' => e = .returned (.string ⟨(Lib.trimRightB s.data.toList c).toArray⟩) ∧ w' = w := Any.strings_trimRightByte Tryd.lays232 s c w hs
def Tryd.lays160_ren : Go.Shelf.Ren := ⟨fun | 160 => 116 | 232 => 119 | 231 => 118 | 227 => 120 | 234 => 122 | 233 => 121 | 236 => 124 | 235 => 123 | 228 => 125 | 271 => 128 | 151 => 127 | 197 => 126 | 120 => 131 | 152 => 130 | 260 => 129 | 137 => 132 | 119 => 133 | 224 => 134 | 225 => 135 | 217 => 136 | 266 => 137 | n => n, fun | 9 => 9 | 4 => 4 | 3 => 3 | 5 => 5 | 117 => 117 | 116 => 116 | 0 => 0 | 124 => 120 | 21 => 21 | 105 => 122 | 46 => 108 | 119 => 126 | 139 => 129 | 138 => 128 | n => n, fun | 3 => 0 | 4 => 1 | n => n⟩
theorem Tryd.lays160 : Go.Proofs.Lays.n160 Tryd.prog Tryd.lays160_ren := {
  mixed := by kernel_rfl
  f119 := Tryd.func133.trans (congrArg some (by kernel_rfl))
  f120 := Tryd.func131.trans (congrArg some (by kernel_rfl))
  f137 := Tryd.func132.trans (congrArg some (by kernel_rfl))
  f151 := Tryd.func127.trans (congrArg some (by kernel_rfl))
  f152 := Tryd.func130.trans (congrArg some (by kernel_rfl))
  f160 := Tryd.func116.trans (congrArg some (by kernel_rfl))
  f197 := Tryd.func126.trans (congrArg some (by kernel_rfl))
  f217 := Tryd.func136.trans (congrArg some (by kernel_rfl))
  f224 := Tryd.func134.trans (congrArg some (by kernel_rfl))
  f225 := Tryd.func135.trans (congrArg some (by kernel_rfl))
  f227 := Tryd.func120.trans (congrArg some (by kernel_rfl))
  f228 := Tryd.func125.trans (congrArg some (by kernel_rfl))
  f231 := Tryd.func118.trans (congrArg some (by kernel_rfl))
  f232 := Tryd.func119.trans (congrArg some (by kernel_rfl))
  f233 := Tryd.func121.trans (congrArg some (by kernel_rfl))
  f234 := Tryd.func122.trans (congrArg some (by kernel_rfl))
  f235 := Tryd.func123.trans (congrArg some (by kernel_rfl))
  f236 := Tryd.func124.trans (congrArg some (by kernel_rfl))
  f260 := Tryd.func129.trans (congrArg some (by kernel_rfl))
  f266 := Tryd.func137.trans (congrArg some (by kernel_rfl))
  f271 := Tryd.func128.trans (congrArg some (by kernel_rfl))
  t0 := Tryd.underlying0
  a0 := Tryd.isAgg0
  z0 := Tryd.sizeOf0
  v0 := Tryd.zeroValue0
  t3 := Tryd.underlying3
  a3 := Tryd.isAgg3
  z3 := Tryd.sizeOf3
  v3 := Tryd.zeroValue3
  t4 := Tryd.underlying4
  a4 := Tryd.isAgg4
  z4 := Tryd.sizeOf4
  v4 := Tryd.zeroValue4
  t5 := Tryd.underlying5
  a5 := Tryd.isAgg5
  z5 := Tryd.sizeOf5
  v5 := Tryd.zeroValue5
  t9 := Tryd.underlying9
  a9 := Tryd.isAgg9
  z9 := Tryd.sizeOf9
  v9 := Tryd.zeroValue9
  t21 := Tryd.underlying21
  a21 := Tryd.isAgg21
  z21 := Tryd.sizeOf21
  v21 := Tryd.zeroValue21
  t46 := Tryd.underlying108
  a46 := Tryd.isAgg108
  z46 := Tryd.sizeOf108
  v46 := Tryd.zeroValue108
  t105 := Tryd.underlying122
  a105 := Tryd.isAgg122
  z105 := Tryd.sizeOf122
  v105 := Tryd.zeroValue122
  t116 := Tryd.underlying116
  a116 := Tryd.isAgg116
  z116 := Tryd.sizeOf116
  t117 := Tryd.underlying117
  a117 := Tryd.isAgg117
  z117 := Tryd.sizeOf117
  v117 := Tryd.zeroValue117
  t119 := Tryd.underlying126
  a119 := Tryd.isAgg126
  z119 := Tryd.sizeOf126
  t124 := Tryd.underlying120
  a124 := Tryd.isAgg120
  z124 := Tryd.sizeOf120
  v124 := Tryd.zeroValue120
  t138 := Tryd.underlying128
  a138 := Tryd.isAgg128
  z138 := Tryd.sizeOf128
  v138 := Tryd.zeroValue128
  t139 := Tryd.underlying129
  a139 := Tryd.isAgg129
  z139 := Tryd.sizeOf129
  v139 := Tryd.zeroValue129
  g3 := by kernel_rfl
  g4 := by kernel_rfl }
open Go.RowKit in
/-- strings.Trim: "Trim returns a slice of the string s with all leading and trailing Unicode code points contained in cutset removed.": AT A cutset OF ONE ASCII BYTE. THE WORLD BEHIND IT: as it was, or (where s is not empty) with ONE DRAW MORE off the tape: the statement 'return trimLeftByte(trimRightByte(s, c), c)' draws its order of evaluation. (LAID: no walk: one application.) -/
theorem Tryd.strings_Trim_one (s : ByteArray) (c : UInt8) (hc : c.toNat < 128) (w : World) (hs : s.size ≤ 9223372036854775807) :
    Calls Tryd.prog 116 #[.string s, .string ⟨#[c]⟩] w fun e w' => e = .returned (.string ⟨(Lib.trimB s.data.toList c).toArray⟩) ∧ (w' = w ∨ w' = w.drew) := Any.strings_Trim_one Tryd.lays160 s c hc w hs
def Tryd.lays119_ren : Go.Shelf.Ren := ⟨fun | 119 => 133 | n => n, fun | 21 => 21 | 4 => 4 | n => n, fun | n => n⟩
theorem Tryd.lays119 : Go.Proofs.Lays.n119 Tryd.prog Tryd.lays119_ren := {
  mixed := by kernel_rfl
  f119 := Tryd.func133.trans (congrArg some (by kernel_rfl))
  t4 := Tryd.underlying4
  a4 := Tryd.isAgg4
  z4 := Tryd.sizeOf4
  v4 := Tryd.zeroValue4
  t21 := Tryd.underlying21
  a21 := Tryd.isAgg21
  z21 := Tryd.sizeOf21
  v21 := Tryd.zeroValue21 }
/-- utf8.ValidRune: "ValidRune reports whether r can be legally encoded as UTF-8. Code points that are out of range or a surrogate half are illegal.": IT RETURNS 'Lib.validRune r'; the world is as it was. (LAID: no walk: one application.) -/
theorem Tryd.utf8_ValidRune (r : Int) (w : World) :
    Calls Tryd.prog 133 #[.int .i32 r] w fun e w' => e = .returned (.bool (Lib.validRune r)) ∧ w' = w := Any.utf8_ValidRune Tryd.lays119 r w
def Tryd.lays120_ren : Go.Shelf.Ren := ⟨fun | 120 => 131 | n => n, fun | 5 => 5 | 4 => 4 | n => n, fun | n => n⟩
theorem Tryd.lays120 : Go.Proofs.Lays.n120 Tryd.prog Tryd.lays120_ren := {
  mixed := by kernel_rfl
  f120 := Tryd.func131.trans (congrArg some (by kernel_rfl))
  t4 := Tryd.underlying4
  a4 := Tryd.isAgg4
  z4 := Tryd.sizeOf4
  v4 := Tryd.zeroValue4
  t5 := Tryd.underlying5
  a5 := Tryd.isAgg5
  z5 := Tryd.sizeOf5
  v5 := Tryd.zeroValue5 }
/-- utf8.RuneStart: "RuneStart reports whether the byte could be the first byte of an encoded, possibly invalid rune. Second and subsequent bytes always have the top two bits set to 10.": IT RETURNS 'Lib.runeStart b'; the world is as it was. ('h0', 'h1': b is a byte: a caller has it of every byte that it was handed.) (LAID: no walk: one application.) -/
theorem Tryd.utf8_RuneStart (b : Int) (w : World) (h0 : 0 ≤ b) (h1 : b < 256) :
    Calls Tryd.prog 131 #[.int .u8 b] w fun e w' => e = .returned (.bool (Lib.runeStart b)) ∧ w' = w := Any.utf8_RuneStart Tryd.lays120 b w h0 h1
def Tryd.lays137_ren : Go.Shelf.Ren := ⟨fun | 137 => 132 | 217 => 136 | 266 => 137 | n => n, fun | 9 => 9 | 5 => 5 | 3 => 3 | n => n, fun | n => n⟩
theorem Tryd.lays137 : Go.Proofs.Lays.n137 Tryd.prog Tryd.lays137_ren := {
  mixed := by kernel_rfl
  f137 := Tryd.func132.trans (congrArg some (by kernel_rfl))
  f217 := Tryd.func136.trans (congrArg some (by kernel_rfl))
  f266 := Tryd.func137.trans (congrArg some (by kernel_rfl))
  t3 := Tryd.underlying3
  a3 := Tryd.isAgg3
  z3 := Tryd.sizeOf3
  v3 := Tryd.zeroValue3
  t5 := Tryd.underlying5
  a5 := Tryd.isAgg5
  z5 := Tryd.sizeOf5
  v5 := Tryd.zeroValue5
  t9 := Tryd.underlying9
  a9 := Tryd.isAgg9
  z9 := Tryd.sizeOf9
  v9 := Tryd.zeroValue9 }
open Go.RowKit in
/-- strings.IndexByte: "IndexByte returns the index of the first instance of c in s, or -1 if c is not present in s.": IT RETURNS 'Lib.indexByte s c'; the world is as it was. (LAID: no walk: one application.) -/
theorem Tryd.strings_IndexByte (s : ByteArray) (c : Int) (w : World) :
    Calls Tryd.prog 132 #[.string s, .int .u8 c] w fun e w' => e = .returned (.int .i64 (Lib.indexByte s.data.toList c.toNat.toUInt8)) ∧ w' = w := Any.strings_IndexByte Tryd.lays137 s c w
def Tryd.lays217_ren : Go.Shelf.Ren := ⟨fun | 217 => 136 | 266 => 137 | n => n, fun | 9 => 9 | 5 => 5 | 3 => 3 | n => n, fun | n => n⟩
theorem Tryd.lays217 : Go.Proofs.Lays.n217 Tryd.prog Tryd.lays217_ren := {
  mixed := by kernel_rfl
  f217 := Tryd.func136.trans (congrArg some (by kernel_rfl))
  f266 := Tryd.func137.trans (congrArg some (by kernel_rfl))
  t3 := Tryd.underlying3
  a3 := Tryd.isAgg3
  z3 := Tryd.sizeOf3
  v3 := Tryd.zeroValue3
  t5 := Tryd.underlying5
  a5 := Tryd.isAgg5
  z5 := Tryd.sizeOf5
  v5 := Tryd.zeroValue5
  t9 := Tryd.underlying9
  a9 := Tryd.isAgg9
  z9 := Tryd.sizeOf9
  v9 := Tryd.zeroValue9 }
open Go.RowKit Go.Lib in
/-- internal/stringslite.IndexByte (what strings.IndexByte calls): IT RETURNS 'Lib.indexByte s c'; the world is as it was. (LAID: no walk: one application.) -/
theorem Tryd.stringslite_IndexByte (s : ByteArray) (c : Int) (w : World) :
    Calls Tryd.prog 136 #[.string s, .int .u8 c] w fun e w' => e = .returned (.int .i64 (Lib.indexByte s.data.toList c.toNat.toUInt8)) ∧ w' = w := Any.stringslite_IndexByte Tryd.lays217 s c w
def Tryd.lays224_ren : Go.Shelf.Ren := ⟨fun | 224 => 134 | n => n, fun | 3 => 3 | n => n, fun | n => n⟩
theorem Tryd.lays224 : Go.Proofs.Lays.n224 Tryd.prog Tryd.lays224_ren := {
  mixed := by kernel_rfl
  f224 := Tryd.func134.trans (congrArg some (by kernel_rfl))
  t3 := Tryd.underlying3
  a3 := Tryd.isAgg3
  z3 := Tryd.sizeOf3
  v3 := Tryd.zeroValue3 }
open Go.RowKit Go.Lib in
/-- internal/bytealg.Cutover: "Cutover reports the number of failures of IndexByte we should tolerate before switching over to Index. n is the number of bytes processed so far.": on amd64: (n + 16) / 8. (LAID: no walk: one application.) -/
theorem Tryd.bytealg_Cutover (n : Int) (h0 : 0 ≤ n) (h1 : n < 4611686018427387904) (w : World) :
    Calls Tryd.prog 134 #[.int .i64 n] w fun e w' => e = .returned (.int .i64 ((n + 16) / 8)) ∧ w' = w := Any.bytealg_Cutover Tryd.lays224 n h0 h1 w
def Tryd.lays152_ren : Go.Shelf.Ren := ⟨fun | 152 => 130 | 137 => 132 | 119 => 133 | 224 => 134 | 225 => 135 | 217 => 136 | 266 => 137 | n => n, fun | 9 => 9 | 21 => 21 | 3 => 3 | 4 => 4 | 5 => 5 | 0 => 0 | 46 => 108 | n => n, fun | n => n⟩
theorem Tryd.lays152 : Go.Proofs.Lays.n152 Tryd.prog Tryd.lays152_ren := {
  mixed := by kernel_rfl
  f119 := Tryd.func133.trans (congrArg some (by kernel_rfl))
  f137 := Tryd.func132.trans (congrArg some (by kernel_rfl))
  f152 := Tryd.func130.trans (congrArg some (by kernel_rfl))
  f217 := Tryd.func136.trans (congrArg some (by kernel_rfl))
  f224 := Tryd.func134.trans (congrArg some (by kernel_rfl))
  f225 := Tryd.func135.trans (congrArg some (by kernel_rfl))
  f266 := Tryd.func137.trans (congrArg some (by kernel_rfl))
  t0 := Tryd.underlying0
  a0 := Tryd.isAgg0
  z0 := Tryd.sizeOf0
  v0 := Tryd.zeroValue0
  t3 := Tryd.underlying3
  a3 := Tryd.isAgg3
  z3 := Tryd.sizeOf3
  v3 := Tryd.zeroValue3
  t4 := Tryd.underlying4
  a4 := Tryd.isAgg4
  z4 := Tryd.sizeOf4
  v4 := Tryd.zeroValue4
  t5 := Tryd.underlying5
  a5 := Tryd.isAgg5
  z5 := Tryd.sizeOf5
  v5 := Tryd.zeroValue5
  t9 := Tryd.underlying9
  a9 := Tryd.isAgg9
  z9 := Tryd.sizeOf9
  v9 := Tryd.zeroValue9
  t21 := Tryd.underlying21
  a21 := Tryd.isAgg21
  z21 := Tryd.sizeOf21
  v21 := Tryd.zeroValue21
  t46 := Tryd.underlying108
  a46 := Tryd.isAgg108
  z46 := Tryd.sizeOf108
  v46 := Tryd.zeroValue108 }
open Go.RowKit Go.Lib in
theorem Tryd.strings_IndexRune_ascii (s : ByteArray) (r : Int) (w : World) (h0 : 0 ≤ r) (h1 : r < 128) :
    Calls Tryd.prog 130 #[.string s, .int .i32 r] w fun e w' => e = .returned (.int .i64 (Lib.indexByte s.data.toList r.toNat.toUInt8)) ∧ w' = w := Any.strings_IndexRune_ascii Tryd.lays152 s r w h0 h1
def Tryd.lays151_ren : Go.Shelf.Ren := ⟨fun | 151 => 127 | 152 => 130 | 137 => 132 | 119 => 133 | 224 => 134 | 225 => 135 | 217 => 136 | 266 => 137 | n => n, fun | 9 => 9 | 21 => 21 | 4 => 4 | 3 => 3 | 5 => 5 | 0 => 0 | 46 => 108 | n => n, fun | n => n⟩
theorem Tryd.lays151 : Go.Proofs.Lays.n151 Tryd.prog Tryd.lays151_ren := {
  mixed := by kernel_rfl
  f119 := Tryd.func133.trans (congrArg some (by kernel_rfl))
  f137 := Tryd.func132.trans (congrArg some (by kernel_rfl))
  f151 := Tryd.func127.trans (congrArg some (by kernel_rfl))
  f152 := Tryd.func130.trans (congrArg some (by kernel_rfl))
  f217 := Tryd.func136.trans (congrArg some (by kernel_rfl))
  f224 := Tryd.func134.trans (congrArg some (by kernel_rfl))
  f225 := Tryd.func135.trans (congrArg some (by kernel_rfl))
  f266 := Tryd.func137.trans (congrArg some (by kernel_rfl))
  t0 := Tryd.underlying0
  a0 := Tryd.isAgg0
  z0 := Tryd.sizeOf0
  v0 := Tryd.zeroValue0
  t3 := Tryd.underlying3
  a3 := Tryd.isAgg3
  z3 := Tryd.sizeOf3
  v3 := Tryd.zeroValue3
  t4 := Tryd.underlying4
  a4 := Tryd.isAgg4
  z4 := Tryd.sizeOf4
  v4 := Tryd.zeroValue4
  t5 := Tryd.underlying5
  a5 := Tryd.isAgg5
  z5 := Tryd.sizeOf5
  v5 := Tryd.zeroValue5
  t9 := Tryd.underlying9
  a9 := Tryd.isAgg9
  z9 := Tryd.sizeOf9
  v9 := Tryd.zeroValue9
  t21 := Tryd.underlying21
  a21 := Tryd.isAgg21
  z21 := Tryd.sizeOf21
  v21 := Tryd.zeroValue21
  t46 := Tryd.underlying108
  a46 := Tryd.isAgg108
  z46 := Tryd.sizeOf108
  v46 := Tryd.zeroValue108 }
open Go.RowKit Go.Lib in
theorem Tryd.strings_ContainsRune_ascii (s : ByteArray) (r : Int) (w : World) (h0 : 0 ≤ r) (h1 : r < 128) :
    Calls Tryd.prog 127 #[.string s, .int .i32 r] w fun e w' => e = .returned (.bool (decide (0 ≤ Lib.indexByte s.data.toList r.toNat.toUInt8))) ∧ w' = w := Any.strings_ContainsRune_ascii Tryd.lays151 s r w h0 h1
def Tryd.lays227_ren : Go.Shelf.Ren := ⟨fun | 227 => 120 | n => n, fun | 9 => 9 | 116 => 116 | 4 => 4 | 0 => 0 | 3 => 3 | 5 => 5 | n => n, fun | n => n⟩
theorem Tryd.lays227 : Go.Proofs.Lays.n227 Tryd.prog Tryd.lays227_ren := {
  mixed := by kernel_rfl
  f227 := Tryd.func120.trans (congrArg some (by kernel_rfl))
  t0 := Tryd.underlying0
  a0 := Tryd.isAgg0
  z0 := Tryd.sizeOf0
  v0 := Tryd.zeroValue0
  t3 := Tryd.underlying3
  a3 := Tryd.isAgg3
  z3 := Tryd.sizeOf3
  v3 := Tryd.zeroValue3
  t4 := Tryd.underlying4
  a4 := Tryd.isAgg4
  z4 := Tryd.sizeOf4
  v4 := Tryd.zeroValue4
  t5 := Tryd.underlying5
  a5 := Tryd.isAgg5
  z5 := Tryd.sizeOf5
  v5 := Tryd.zeroValue5
  t9 := Tryd.underlying9
  a9 := Tryd.isAgg9
  z9 := Tryd.sizeOf9
  v9 := Tryd.zeroValue9
  t116 := Tryd.underlying116
  a116 := Tryd.isAgg116
  z116 := Tryd.sizeOf116 }
open Go.RowKit Go.Lib in
theorem Tryd.strings_makeASCIISet (hv116 : ∀ w, (zeroValue 116).run Tryd.prog w = .ok (.agg (Array.replicate 256 (.bool false))) w) (chars : ByteArray) (w : World) (hs : chars.size < 4294967281) (hascii : ∀ (j : Nat) b, chars.data.toList[j]? = some b → b.toNat < 128) :
    Calls Tryd.prog 120 #[.string chars] w fun e w' => e = .returned (.tuple #[.agg (Lib.setCells chars.data.toList), .bool true]) ∧ w' = w.alloc (.cells (Lib.setCells chars.data.toList) 116) := Any.strings_makeASCIISet Tryd.lays227 hv116 (by kernel_rfl) chars w hs hascii
def Tryd.lays228_ren : Go.Shelf.Ren := ⟨fun | 228 => 125 | n => n, fun | 124 => 120 | 5 => 5 | 4 => 4 | 0 => 0 | 116 => 116 | n => n, fun | n => n⟩
theorem Tryd.lays228 : Go.Proofs.Lays.n228 Tryd.prog Tryd.lays228_ren := {
  mixed := by kernel_rfl
  f228 := Tryd.func125.trans (congrArg some (by kernel_rfl))
  t0 := Tryd.underlying0
  a0 := Tryd.isAgg0
  z0 := Tryd.sizeOf0
  v0 := Tryd.zeroValue0
  t4 := Tryd.underlying4
  a4 := Tryd.isAgg4
  z4 := Tryd.sizeOf4
  v4 := Tryd.zeroValue4
  t5 := Tryd.underlying5
  a5 := Tryd.isAgg5
  z5 := Tryd.sizeOf5
  v5 := Tryd.zeroValue5
  t116 := Tryd.underlying116
  a116 := Tryd.isAgg116
  z116 := Tryd.sizeOf116
  t124 := Tryd.underlying120
  a124 := Tryd.isAgg120
  z124 := Tryd.sizeOf120
  v124 := Tryd.zeroValue120 }
open Go.RowKit Go.Lib in
/-- '(as *asciiSet) contains(c)': 'as[c]': the set lies at block b, whole. (LAID: no walk: one application.) -/
theorem Tryd.asciiSet_contains (b : Nat) (x : UInt8) (v : Bool) (w : World) (hc : w.cell? ⟨b, x.toNat, none⟩ = some (.bool v)) :
    Calls Tryd.prog 125 #[.pointer (some ⟨b, 0, none⟩), .int .u8 x.toNat] w fun e w' => e = .returned (.bool v) ∧ w' = w := Any.asciiSet_contains Tryd.lays228 b x v w hc
def Tryd.lays260_ren : Go.Shelf.Ren := ⟨fun | 260 => 129 | n => n, fun | 9 => 9 | 21 => 21 | 3 => 3 | 4 => 4 | 5 => 5 | 119 => 126 | 0 => 0 | 46 => 108 | 139 => 129 | 138 => 128 | n => n, fun | 3 => 0 | 4 => 1 | n => n⟩
theorem Tryd.lays260 : Go.Proofs.Lays.n260 Tryd.prog Tryd.lays260_ren := {
  mixed := by kernel_rfl
  f260 := Tryd.func129.trans (congrArg some (by kernel_rfl))
  t0 := Tryd.underlying0
  a0 := Tryd.isAgg0
  z0 := Tryd.sizeOf0
  v0 := Tryd.zeroValue0
  t3 := Tryd.underlying3
  a3 := Tryd.isAgg3
  z3 := Tryd.sizeOf3
  v3 := Tryd.zeroValue3
  t4 := Tryd.underlying4
  a4 := Tryd.isAgg4
  z4 := Tryd.sizeOf4
  v4 := Tryd.zeroValue4
  t5 := Tryd.underlying5
  a5 := Tryd.isAgg5
  z5 := Tryd.sizeOf5
  v5 := Tryd.zeroValue5
  t9 := Tryd.underlying9
  a9 := Tryd.isAgg9
  z9 := Tryd.sizeOf9
  v9 := Tryd.zeroValue9
  t21 := Tryd.underlying21
  a21 := Tryd.isAgg21
  z21 := Tryd.sizeOf21
  v21 := Tryd.zeroValue21
  t46 := Tryd.underlying108
  a46 := Tryd.isAgg108
  z46 := Tryd.sizeOf108
  v46 := Tryd.zeroValue108
  t119 := Tryd.underlying126
  a119 := Tryd.isAgg126
  z119 := Tryd.sizeOf126
  t138 := Tryd.underlying128
  a138 := Tryd.isAgg128
  z138 := Tryd.sizeOf128
  v138 := Tryd.zeroValue128
  t139 := Tryd.underlying129
  a139 := Tryd.isAgg129
  z139 := Tryd.sizeOf129
  v139 := Tryd.zeroValue129
  g3 := by kernel_rfl
  g4 := by kernel_rfl }
open Go.RowKit Go.Lib in
theorem Tryd.utf8_decodeRuneInStringSlow (s : ByteArray) (w : World) (hT : Lib.Utf8Tabs 0 1 w) :
    Calls Tryd.prog 129 #[.string s] w fun e w' => e = .returned (.tuple #[.int .i32 (Lib.decodeGo s).1, .int .i64 (Lib.decodeGo s).2]) ∧ Below w.heap.size w w' := Any.utf8_decodeRuneInStringSlow Tryd.lays260 s w hT
end Go.Proofs
namespace Go.Proofs
open Go.Shelf
def Tryd.laysSlN41_f97_ren : Go.Shelf.Ren := ⟨fun | 41 => 97 | n => n, fun | 22 => 23 | 23 => 2 | 4 => 4 | n => n, fun | n => n⟩
theorem Tryd.laysSlN41_f97 : Go.Proofs.SlLaysN.n41 Tryd.prog Tryd.laysSlN41_f97_ren := {
  mixed := by kernel_rfl
  f41 := ⟨Tryd.f97.name, by decide, Tryd.func97.trans (congrArg some (by kernel_rfl))⟩
  t4 := Tryd.underlying4
  a4 := Tryd.isAgg4
  z4 := Tryd.sizeOf4
  v4 := Tryd.zeroValue4
  t22 := Tryd.underlying23
  a22 := Tryd.isAgg23
  z22 := Tryd.sizeOf23
  v22 := Tryd.zeroValue23
  t23 := Tryd.underlying2
  a23 := Tryd.isAgg2
  z23 := Tryd.sizeOf2
  v23 := Tryd.zeroValue2
  i23 := by kernel_rfl }
open Go.RowKit Go.Lib in
/-- slices.Clone at []int: "Clone returns a copy of the slice. The elements are copied using assignment, so this is a shallow clone. The result may have additional unused capacity. The result preserves the nilness of s.": OF A SLICE THAT IS NOT nil IT RETURNS A SLICE THAT IS NOT nil, OF THE SAME ELEMENTS, IN MEMORY OF THE CALL's OWN: in the how-to's words (6f): 'w'.ownsRow B e 1 v' n cells': v' begins at the head of a row among the blocks from B on (B: the heap's size at the call), not frozen, whose first cells are the elements · 'Below B w w'': below B all is as it was. The capacity is whatever the run-time gives. 'zs': what the cells behind the slice's address hold; 'zs.take n': its elements. (LAID AT THE INSTANCE 'slices.Clone[[]int64,int64]': no walk: one application.) -/
theorem Tryd.slices_Clone_int (b off n c : Nat) (zs : List Int) (w : World) (hz : n ≤ zs.length) (hbig : n * 8 ≤ 140737488355328) (hc : ∀ j, j < zs.length → w.cell? ⟨b, off + j, none⟩ = some (.int .i64 (zs.getD j 0))) :
    Calls Tryd.prog 97 #[.slice (some ⟨b, off, none⟩) n c] w fun e w' => ∃ v', e = .returned v' ∧ w'.ownsRow w.heap.size 2 1 v' n ((zs.take n).map (Value.int .i64)) ∧ v' ≠ .slice none 0 0 ∧ Below w.heap.size w w' := AnyG.slices_Clone_int Tryd.laysSlN41_f97 b off n c zs w hz hbig hc
open Go.RowKit Go.Lib in
/-- The same at nil: nil comes back; the world is as it was. (LAID AT THE INSTANCE 'slices.Clone[[]int64,int64]': no walk: one application.) -/
theorem Tryd.slices_Clone_int_nil (n c : Nat) (w : World) :
    Calls Tryd.prog 97 #[.slice none n c] w fun e w' => e = .returned (.slice none 0 0) ∧ w' = w := AnyG.slices_Clone_int_nil Tryd.laysSlN41_f97 n c w
open Go.RowKit Go.Lib in
/-- The same at a slice of length 0 that is not nil, WHATEVER ITS ADDRESS (no cell is asked for): a slice that is not nil and owns nothing comes back. (LAID AT THE INSTANCE 'slices.Clone[[]int64,int64]': no walk: one application.) -/
theorem Tryd.slices_Clone_int_zero (a : Addr) (c : Nat) (w : World) :
    Calls Tryd.prog 97 #[.slice (some a) 0 c] w fun e w' => ∃ v', e = .returned v' ∧ w'.ownsRow w.heap.size 2 1 v' 0 [] ∧ v' ≠ .slice none 0 0 ∧ Below w.heap.size w w' := AnyG.slices_Clone_int_zero Tryd.laysSlN41_f97 a c w
def Tryd.laysSlN68_f117_ren : Go.Shelf.Ren := ⟨fun | 68 => 117 | n => n, fun | 23 => 2 | 4 => 4 | n => n, fun | n => n⟩
theorem Tryd.laysSlN68_f117 : Go.Proofs.SlLaysN.n68 Tryd.prog Tryd.laysSlN68_f117_ren := {
  mixed := by kernel_rfl
  f68 := ⟨Tryd.f117.name, by decide, Tryd.func117.trans (congrArg some (by kernel_rfl))⟩
  t4 := Tryd.underlying4
  a4 := Tryd.isAgg4
  z4 := Tryd.sizeOf4
  v4 := Tryd.zeroValue4
  t23 := Tryd.underlying2
  a23 := Tryd.isAgg2
  z23 := Tryd.sizeOf2
  v23 := Tryd.zeroValue2 }
open Go.RowKit Go.Lib in
/-- cmp.isNaN[int]: 'x != x': false. (LAID AT THE INSTANCE 'cmp.isNaN[int64]': no walk: one application.) -/
theorem Tryd.cmp_isNaN_int2 (x : Int) (w : World) :
    Calls Tryd.prog 117 #[.int .i64 x] w fun e w' => e = .returned (.bool false) ∧ w' = w := AnyG.cmp_isNaN_int2 Tryd.laysSlN68_f117 x w
def Tryd.laysSlN60_f113_ren : Go.Shelf.Ren := ⟨fun | 60 => 113 | n => n, fun | 23 => 2 | 4 => 4 | n => n, fun | n => n⟩
theorem Tryd.laysSlN60_f113 : Go.Proofs.SlLaysN.n60 Tryd.prog Tryd.laysSlN60_f113_ren := {
  mixed := by kernel_rfl
  f60 := ⟨Tryd.f113.name, by decide, Tryd.func113.trans (congrArg some (by kernel_rfl))⟩
  t4 := Tryd.underlying4
  a4 := Tryd.isAgg4
  z4 := Tryd.sizeOf4
  v4 := Tryd.zeroValue4
  t23 := Tryd.underlying2
  a23 := Tryd.isAgg2
  z23 := Tryd.sizeOf2
  v23 := Tryd.zeroValue2 }
open Go.RowKit Go.Lib in
/-- slices.isNaN[int]: 'x != x': false. (LAID AT THE INSTANCE 'slices.isNaN[int64]': no walk: one application.) -/
theorem Tryd.slices_isNaN_int2 (x : Int) (w : World) :
    Calls Tryd.prog 113 #[.int .i64 x] w fun e w' => e = .returned (.bool false) ∧ w' = w := AnyG.slices_isNaN_int2 Tryd.laysSlN60_f113 x w
def Tryd.laysSlN59_f112_ren : Go.Shelf.Ren := ⟨fun | 59 => 112 | 68 => 117 | n => n, fun | 23 => 2 | 4 => 4 | n => n, fun | n => n⟩
theorem Tryd.laysSlN59_f112 : Go.Proofs.SlLaysN.n59 Tryd.prog Tryd.laysSlN59_f112_ren := {
  mixed := by kernel_rfl
  f59 := ⟨Tryd.f112.name, by decide, Tryd.func112.trans (congrArg some (by kernel_rfl))⟩
  f68 := ⟨Tryd.f117.name, by decide, Tryd.func117.trans (congrArg some (by kernel_rfl))⟩
  t4 := Tryd.underlying4
  a4 := Tryd.isAgg4
  z4 := Tryd.sizeOf4
  v4 := Tryd.zeroValue4
  t23 := Tryd.underlying2
  a23 := Tryd.isAgg2
  z23 := Tryd.sizeOf2
  v23 := Tryd.zeroValue2 }
open Go.RowKit Go.Lib in
/-- cmp.Less[int]: "Less reports whether x is less than y.": 'x < y'; the world is as it was. (LAID AT THE INSTANCE 'cmp.Less[int64]': no walk: one application.) -/
theorem Tryd.cmp_Less_int2 (x y : Int) (w : World) :
    Calls Tryd.prog 112 #[.int .i64 x, .int .i64 y] w fun e w' => e = .returned (.bool (decide (x < y))) ∧ w' = w := AnyG.cmp_Less_int2 Tryd.laysSlN59_f112 x y w
def Tryd.laysSlN49_f96_ren : Go.Shelf.Ren := ⟨fun | 49 => 96 | 59 => 112 | 60 => 113 | 68 => 117 | n => n, fun | 22 => 23 | 23 => 2 | 3 => 3 | 4 => 4 | 51 => 108 | 0 => 0 | n => n, fun | n => n⟩
theorem Tryd.laysSlN49_f96 : Go.Proofs.SlLaysN.n49 Tryd.prog Tryd.laysSlN49_f96_ren := {
  mixed := by kernel_rfl
  f49 := ⟨Tryd.f96.name, by decide, Tryd.func96.trans (congrArg some (by kernel_rfl))⟩
  f59 := ⟨Tryd.f112.name, by decide, Tryd.func112.trans (congrArg some (by kernel_rfl))⟩
  f60 := ⟨Tryd.f113.name, by decide, Tryd.func113.trans (congrArg some (by kernel_rfl))⟩
  f68 := ⟨Tryd.f117.name, by decide, Tryd.func117.trans (congrArg some (by kernel_rfl))⟩
  t0 := Tryd.underlying0
  a0 := Tryd.isAgg0
  z0 := Tryd.sizeOf0
  v0 := Tryd.zeroValue0
  t3 := Tryd.underlying3
  a3 := Tryd.isAgg3
  z3 := Tryd.sizeOf3
  v3 := Tryd.zeroValue3
  t4 := Tryd.underlying4
  a4 := Tryd.isAgg4
  z4 := Tryd.sizeOf4
  v4 := Tryd.zeroValue4
  t22 := Tryd.underlying23
  a22 := Tryd.isAgg23
  z22 := Tryd.sizeOf23
  v22 := Tryd.zeroValue23
  t23 := Tryd.underlying2
  a23 := Tryd.isAgg2
  z23 := Tryd.sizeOf2
  v23 := Tryd.zeroValue2
  t51 := Tryd.underlying108
  a51 := Tryd.isAgg108
  z51 := Tryd.sizeOf108
  v51 := Tryd.zeroValue108 }
open Go.RowKit Go.Lib in
/-- slices.BinarySearch at []int: "BinarySearch searches for target in a sorted slice and returns the earliest position where target is found, or the position where target would appear in the sort order; it also returns a bool saying whether the target is really found in the slice. The slice must be sorted in increasing order.": OF A SORTED SLICE IT RETURNS how many elements are less than the target, and whether the target is among the elements; the world is as it was but for the count of draws. 'zs': what the cells behind the slice's address hold; 'zs.take n': its elements. (Of a slice that is not sorted: no contract here.) (LAID AT THE INSTANCE 'slices.BinarySearch[[]int64,int64]': no walk: one application.) -/
theorem Tryd.slices_BinarySearch_int (b off n c : Nat) (zs : List Int) (x : Int) (w : World) (hz : n ≤ zs.length) (hbig : n < 4611686018427387904) (hc : ∀ j, j < zs.length → w.cell? ⟨b, off + j, none⟩ = some (.int .i64 (zs.getD j 0))) (hs : (zs.take n).Pairwise (· ≤ ·)) :
    Calls Tryd.prog 96 #[.slice (some ⟨b, off, none⟩) n c, .int .i64 x] w fun e w' => e = .returned (.tuple #[.int .i64 ((zs.take n).countP (· < x) : Nat), .bool ((zs.take n).contains x)]) ∧ ∃ q, w' = w.drewN q := AnyG.slices_BinarySearch_int Tryd.laysSlN49_f96 b off n c zs x w hz hbig hc hs
def Tryd.laysSlE041_f97_ren : Go.Shelf.Ren := ⟨fun | 41 => 97 | n => n, fun | 22 => 23 | 23 => 2 | 4 => 4 | n => n, fun | n => n⟩
theorem Tryd.laysSlE041_f97 : Go.Proofs.SlLaysE0.n41 Tryd.prog Tryd.laysSlE041_f97_ren := {
  mixed := by kernel_rfl
  f41 := ⟨Tryd.f97.name, by decide, Tryd.func97.trans (congrArg some (by kernel_rfl))⟩
  t4 := Tryd.underlying4
  a4 := Tryd.isAgg4
  z4 := Tryd.sizeOf4
  v4 := Tryd.zeroValue4
  t22 := Tryd.underlying23
  a22 := Tryd.isAgg23
  z22 := Tryd.sizeOf23
  v22 := Tryd.zeroValue23 }
open Go.RowKit Go.Lib in
/-- slices.Clone: "Clone returns a copy of the slice. The elements are copied using assignment, so this is a shallow clone. The result may have additional unused capacity. The result preserves the nilness of s.": OF A SLICE THAT IS NOT nil IT RETURNS A SLICE THAT IS NOT nil, OF THE SAME CELLS, IN MEMORY OF THE CALL's OWN ('ownsRow': the how-to's 6f); below the heap's size at the call all is as it was. (LAID AT THE INSTANCE 'slices.Clone[[]int64,int64]': no walk: one application.) -/
theorem Tryd.slices_Clone (i0 : TypeInfo) (z : Value) (size bytes : Nat) (hi : Tryd.prog.info? 2 = some i0) (hz0 : i0.zero = some z) (hz1 : i0.size = size) (hz2 : i0.bytes = bytes) (hzs : z.cells.size = size) (hsz : 0 < size) (z23 : ∀ w, (Go.sizeOf 2).run Tryd.prog w = .ok size w) (b off n c : Nat) (news : List Value) (w : World) (hl : news.length = n * size) (hn : n ≤ maxLen) (hbig : n * bytes ≤ 140737488355328) (hc : ∀ j u, news[j]? = some u → w.cell? ⟨b, off + j, none⟩ = some u) (h1 : ∀ u ∈ news, u.oneCell' = true) :
    Calls Tryd.prog 97 #[.slice (some ⟨b, off, none⟩) n c] w fun e w' => ∃ v', e = .returned v' ∧ w'.ownsRow w.heap.size 2 size v' n news ∧ v' ≠ .slice none 0 0 ∧ Below w.heap.size w w' := AnyE.slices_Clone Tryd.laysSlE041_f97 i0 z size bytes hi hz0 hz1 hz2 hzs hsz z23 b off n c news w hl hn hbig hc h1
open Go.RowKit Go.Lib in
/-- The same at nil: nil comes back; the world is as it was; nothing is asked of the element's type. (LAID AT THE INSTANCE 'slices.Clone[[]int64,int64]': no walk: one application.) -/
theorem Tryd.slices_Clone_nil (n c : Nat) (w : World) :
    Calls Tryd.prog 97 #[.slice none n c] w fun e w' => e = .returned (.slice none 0 0) ∧ w' = w := AnyE.slices_Clone_nil Tryd.laysSlE041_f97 n c w
def Tryd.laysSlH6_f99_ren : Go.Shelf.Ren := ⟨fun | 6 => 99 | n => n, fun | 22 => 23 | 23 => 2 | 25 => 80 | 3 => 3 | 0 => 0 | 4 => 4 | n => n, fun | n => n⟩
theorem Tryd.laysSlH6_f99 : Go.Proofs.SlLaysH.n6 Tryd.prog Tryd.laysSlH6_f99_ren := {
  mixed := by kernel_rfl
  f6 := ⟨Tryd.f99.name, by decide, Tryd.func99.trans (congrArg some (by kernel_rfl))⟩
  t0 := Tryd.underlying0
  a0 := Tryd.isAgg0
  z0 := Tryd.sizeOf0
  v0 := Tryd.zeroValue0
  t3 := Tryd.underlying3
  a3 := Tryd.isAgg3
  z3 := Tryd.sizeOf3
  v3 := Tryd.zeroValue3
  t4 := Tryd.underlying4
  a4 := Tryd.isAgg4
  z4 := Tryd.sizeOf4
  v4 := Tryd.zeroValue4
  t22 := Tryd.underlying23
  a22 := Tryd.isAgg23
  z22 := Tryd.sizeOf23
  v22 := Tryd.zeroValue23
  a23 := Tryd.isAgg2
  z23 := Tryd.sizeOf2
  t25 := Tryd.underlying80
  a25 := Tryd.isAgg80
  z25 := Tryd.sizeOf80
  v25 := Tryd.zeroValue80 }
open Go.RowKit Go.Lib in
/-- slices.IndexFunc: "IndexFunc returns the first index i satisfying f(s[i]), or -1 if none do." (LAID AT THE INSTANCE 'slices.IndexFunc[[]int64,int64]': no walk: one application.) -/
theorem Tryd.slices_IndexFunc_f99 {α : Type} [Inhabited α] (enc : α → Value) (p : α → Bool) (g : Nat) (lb : Array Value) (eg : ∀ args w, (callFunc g args).run Tryd.prog w = .ok (.enter g args) w) (b off n c : Nat) (zs : List α) (w : World) (hp : PredAt Tryd.prog g lb enc p w) (hz : n ≤ zs.length) (hbig : n ≤ 9223372036854775807) (hc : ∀ j, j < zs.length → w.cell? ⟨b, off + j, none⟩ = some (enc zs[j]!)) :
    Calls Tryd.prog 99 #[.slice (some ⟨b, off, none⟩) n c, .func (.func g) #[] lb] w fun e w' => e = .returned (.int .i64 (Lib.idxBy (fun _ y => p y) (zs.take n) default)) ∧ ∃ q, w' = w.drewN q := AnyE.slices_IndexFunc Tryd.laysSlH6_f99 enc p g lb eg b off n c zs w hp hz hbig hc
def Tryd.laysSlH6_f115_ren : Go.Shelf.Ren := ⟨fun | 6 => 115 | n => n, fun | 22 => 22 | 23 => 9 | 25 => 106 | 3 => 3 | 0 => 0 | 4 => 4 | n => n, fun | n => n⟩
theorem Tryd.laysSlH6_f115 : Go.Proofs.SlLaysH.n6 Tryd.prog Tryd.laysSlH6_f115_ren := {
  mixed := by kernel_rfl
  f6 := ⟨Tryd.f115.name, by decide, Tryd.func115.trans (congrArg some (by kernel_rfl))⟩
  t0 := Tryd.underlying0
  a0 := Tryd.isAgg0
  z0 := Tryd.sizeOf0
  v0 := Tryd.zeroValue0
  t3 := Tryd.underlying3
  a3 := Tryd.isAgg3
  z3 := Tryd.sizeOf3
  v3 := Tryd.zeroValue3
  t4 := Tryd.underlying4
  a4 := Tryd.isAgg4
  z4 := Tryd.sizeOf4
  v4 := Tryd.zeroValue4
  t22 := Tryd.underlying22
  a22 := Tryd.isAgg22
  z22 := Tryd.sizeOf22
  v22 := Tryd.zeroValue22
  a23 := Tryd.isAgg9
  z23 := Tryd.sizeOf9
  t25 := Tryd.underlying106
  a25 := Tryd.isAgg106
  z25 := Tryd.sizeOf106
  v25 := Tryd.zeroValue106 }
open Go.RowKit Go.Lib in
/-- slices.IndexFunc: "IndexFunc returns the first index i satisfying f(s[i]), or -1 if none do." (LAID AT THE INSTANCE 'slices.IndexFunc[[]string,string]': no walk: one application.) -/
theorem Tryd.slices_IndexFunc_f115 {α : Type} [Inhabited α] (enc : α → Value) (p : α → Bool) (g : Nat) (lb : Array Value) (eg : ∀ args w, (callFunc g args).run Tryd.prog w = .ok (.enter g args) w) (b off n c : Nat) (zs : List α) (w : World) (hp : PredAt Tryd.prog g lb enc p w) (hz : n ≤ zs.length) (hbig : n ≤ 9223372036854775807) (hc : ∀ j, j < zs.length → w.cell? ⟨b, off + j, none⟩ = some (enc zs[j]!)) :
    Calls Tryd.prog 115 #[.slice (some ⟨b, off, none⟩) n c, .func (.func g) #[] lb] w fun e w' => e = .returned (.int .i64 (Lib.idxBy (fun _ y => p y) (zs.take n) default)) ∧ ∃ q, w' = w.drewN q := AnyE.slices_IndexFunc Tryd.laysSlH6_f115 enc p g lb eg b off n c zs w hp hz hbig hc
open Go.RowKit Go.Lib in
/-- The same at a slice of length 0, a nil one too: the predicate is not called: nothing is asked of it. (LAID AT THE INSTANCE 'slices.IndexFunc[[]int64,int64]': no walk: one application.) -/
theorem Tryd.slices_IndexFunc_empty_f99 {α : Type} [Inhabited α] (a : Option Addr) (c : Nat) (fv : Value) (w : World) :
    Calls Tryd.prog 99 #[.slice a 0 c, fv] w fun e w' => e = .returned (.int .i64 (-1)) ∧ w' = w := AnyE.slices_IndexFunc_empty Tryd.laysSlH6_f99 a c fv w
open Go.RowKit Go.Lib in
/-- The same at a slice of length 0, a nil one too: the predicate is not called: nothing is asked of it. (LAID AT THE INSTANCE 'slices.IndexFunc[[]string,string]': no walk: one application.) -/
theorem Tryd.slices_IndexFunc_empty_f115 {α : Type} [Inhabited α] (a : Option Addr) (c : Nat) (fv : Value) (w : World) :
    Calls Tryd.prog 115 #[.slice a 0 c, fv] w fun e w' => e = .returned (.int .i64 (-1)) ∧ w' = w := AnyE.slices_IndexFunc_empty Tryd.laysSlH6_f115 a c fv w
def Tryd.laysSlH8_f77_ren : Go.Shelf.Ren := ⟨fun | 8 => 77 | 6 => 99 | n => n, fun | 22 => 23 | 23 => 2 | 25 => 80 | 4 => 4 | 3 => 3 | 0 => 0 | n => n, fun | n => n⟩
theorem Tryd.laysSlH8_f77 : Go.Proofs.SlLaysH.n8 Tryd.prog Tryd.laysSlH8_f77_ren := {
  mixed := by kernel_rfl
  f6 := ⟨Tryd.f99.name, by decide, Tryd.func99.trans (congrArg some (by kernel_rfl))⟩
  f8 := ⟨Tryd.f77.name, by decide, Tryd.func77.trans (congrArg some (by kernel_rfl))⟩
  t0 := Tryd.underlying0
  a0 := Tryd.isAgg0
  z0 := Tryd.sizeOf0
  v0 := Tryd.zeroValue0
  t3 := Tryd.underlying3
  a3 := Tryd.isAgg3
  z3 := Tryd.sizeOf3
  v3 := Tryd.zeroValue3
  t4 := Tryd.underlying4
  a4 := Tryd.isAgg4
  z4 := Tryd.sizeOf4
  v4 := Tryd.zeroValue4
  t22 := Tryd.underlying23
  a22 := Tryd.isAgg23
  z22 := Tryd.sizeOf23
  v22 := Tryd.zeroValue23
  a23 := Tryd.isAgg2
  z23 := Tryd.sizeOf2
  t25 := Tryd.underlying80
  a25 := Tryd.isAgg80
  z25 := Tryd.sizeOf80
  v25 := Tryd.zeroValue80 }
open Go.RowKit Go.Lib in
/-- slices.ContainsFunc: "ContainsFunc reports whether at least one element e of s satisfies f(e).": ITS CALLEE slices.IndexFunc IS MET BY ITS OWN CONTRACT. (LAID AT THE INSTANCE 'slices.ContainsFunc[[]int64,int64]': no walk: one application.) -/
theorem Tryd.slices_ContainsFunc_f77 {α : Type} [Inhabited α] (enc : α → Value) (p : α → Bool) (g : Nat) (lb : Array Value) (eg : ∀ args w, (callFunc g args).run Tryd.prog w = .ok (.enter g args) w) (b off n c : Nat) (zs : List α) (w : World) (hp : PredAt Tryd.prog g lb enc p w) (hz : n ≤ zs.length) (hbig : n ≤ 9223372036854775807) (hc : ∀ j, j < zs.length → w.cell? ⟨b, off + j, none⟩ = some (enc zs[j]!)) :
    Calls Tryd.prog 77 #[.slice (some ⟨b, off, none⟩) n c, .func (.func g) #[] lb] w fun e w' => e = .returned (.bool ((zs.take n).any p)) ∧ ∃ q, w' = w.drewN q := AnyE.slices_ContainsFunc Tryd.laysSlH8_f77 enc p g lb eg b off n c zs w hp hz hbig hc
def Tryd.laysSlH8_f109_ren : Go.Shelf.Ren := ⟨fun | 8 => 109 | 6 => 115 | n => n, fun | 22 => 22 | 23 => 9 | 25 => 106 | 4 => 4 | 3 => 3 | 0 => 0 | n => n, fun | n => n⟩
theorem Tryd.laysSlH8_f109 : Go.Proofs.SlLaysH.n8 Tryd.prog Tryd.laysSlH8_f109_ren := {
  mixed := by kernel_rfl
  f6 := ⟨Tryd.f115.name, by decide, Tryd.func115.trans (congrArg some (by kernel_rfl))⟩
  f8 := ⟨Tryd.f109.name, by decide, Tryd.func109.trans (congrArg some (by kernel_rfl))⟩
  t0 := Tryd.underlying0
  a0 := Tryd.isAgg0
  z0 := Tryd.sizeOf0
  v0 := Tryd.zeroValue0
  t3 := Tryd.underlying3
  a3 := Tryd.isAgg3
  z3 := Tryd.sizeOf3
  v3 := Tryd.zeroValue3
  t4 := Tryd.underlying4
  a4 := Tryd.isAgg4
  z4 := Tryd.sizeOf4
  v4 := Tryd.zeroValue4
  t22 := Tryd.underlying22
  a22 := Tryd.isAgg22
  z22 := Tryd.sizeOf22
  v22 := Tryd.zeroValue22
  a23 := Tryd.isAgg9
  z23 := Tryd.sizeOf9
  t25 := Tryd.underlying106
  a25 := Tryd.isAgg106
  z25 := Tryd.sizeOf106
  v25 := Tryd.zeroValue106 }
open Go.RowKit Go.Lib in
/-- slices.ContainsFunc: "ContainsFunc reports whether at least one element e of s satisfies f(e).": ITS CALLEE slices.IndexFunc IS MET BY ITS OWN CONTRACT. (LAID AT THE INSTANCE 'slices.ContainsFunc[[]string,string]': no walk: one application.) -/
theorem Tryd.slices_ContainsFunc_f109 {α : Type} [Inhabited α] (enc : α → Value) (p : α → Bool) (g : Nat) (lb : Array Value) (eg : ∀ args w, (callFunc g args).run Tryd.prog w = .ok (.enter g args) w) (b off n c : Nat) (zs : List α) (w : World) (hp : PredAt Tryd.prog g lb enc p w) (hz : n ≤ zs.length) (hbig : n ≤ 9223372036854775807) (hc : ∀ j, j < zs.length → w.cell? ⟨b, off + j, none⟩ = some (enc zs[j]!)) :
    Calls Tryd.prog 109 #[.slice (some ⟨b, off, none⟩) n c, .func (.func g) #[] lb] w fun e w' => e = .returned (.bool ((zs.take n).any p)) ∧ ∃ q, w' = w.drewN q := AnyE.slices_ContainsFunc Tryd.laysSlH8_f109 enc p g lb eg b off n c zs w hp hz hbig hc
open Go.RowKit Go.Lib in
/-- The same at a slice of length 0, a nil one too. (LAID AT THE INSTANCE 'slices.ContainsFunc[[]int64,int64]': no walk: one application.) -/
theorem Tryd.slices_ContainsFunc_empty_f77 {α : Type} [Inhabited α] (a : Option Addr) (c : Nat) (fv : Value) (w : World) :
    Calls Tryd.prog 77 #[.slice a 0 c, fv] w fun e w' => e = .returned (.bool false) ∧ w' = w := AnyE.slices_ContainsFunc_empty Tryd.laysSlH8_f77 a c fv w
open Go.RowKit Go.Lib in
/-- The same at a slice of length 0, a nil one too. (LAID AT THE INSTANCE 'slices.ContainsFunc[[]string,string]': no walk: one application.) -/
theorem Tryd.slices_ContainsFunc_empty_f109 {α : Type} [Inhabited α] (a : Option Addr) (c : Nat) (fv : Value) (w : World) :
    Calls Tryd.prog 109 #[.slice a 0 c, fv] w fun e w' => e = .returned (.bool false) ∧ w' = w := AnyE.slices_ContainsFunc_empty Tryd.laysSlH8_f109 a c fv w

end Go.Proofs
