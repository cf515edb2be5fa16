/- FnGraphText: of drawn graphs and texts: a graph comes back from its text; what is read, written again, is that text; program and reference agree. No condition. -/
import Derived.Test.YtommgpkeicpokaaGreatDoorPReadGraph
import Derived.Test.YtommgpkeicpokaaGreatDoorPDrawG
import Derived.Test.YtommgpkeicpokaaGreatDoorPHurtT
import Derived.Test.YtommgpkeicpokaaGreatDoorPHurtS
import Derived.Test.YtommgpkeicpokaaGreatDoorPSameG
namespace Go.Proofs.YtommgpkeicpokaaGreatDoor.Abs.Pu
open Go Go.RowKit
set_option linter.unusedVariables false
set_option linter.unusedSectionVars false
set_option linter.unusedSimpArgs false
theorem drawGraphText_ev {l : List Int} (hb : isBytes l) (hl : l.length ≤ 1099511627776) : ∃ types g, Ev (fun k => spec_DrawGraphText.f k l) (types, g.1, g.2) ∧ types.length ≤ 200 ∧ (∀ x ∈ types, x.size ≤ 200) ∧ (g : List Int × List (Int × List Int)).1.length ≤ 200 ∧ g.2.length ≤ 200 ∧ (∀ o ∈ g.2, o.2.length ≤ 200) := by
  obtain ⟨ts, q1, e1, h1, h2, hs, hq1⟩ := drawTypes1_ev (Rd.start hb hl)
  obtain ⟨m, q2, e2, hm0, hm1, hq2⟩ := below_f hq1 5 (by omega) (by omega)
  obtain ⟨M, rfl⟩ := Int.eq_ofNat_of_zero_le hm0
  obtain ⟨r, n, q3, e3, hr, hr2, hn1, hn2, ho, hq3⟩ := drawGraph_ev hq2 ts h1 h2 hs M (by omega) 14 (by omega) (by omega)
  obtain ⟨r', n', q4, e4, hr', hn', ho', hq4⟩ := hurtGraph_ev hq3 r n (by omega) hn1 (by omega) ho
  obtain ⟨b, q5, e5, hq5⟩ := once_f hq4 20 (by omega) (by omega)
  unfold spec_DrawGraphText.f spec_DrawGraphOk.f
  cases b with
  | true =>
    obtain ⟨ts', q6, e6, h3, h4, hq6⟩ := hurtTypes_ev hq5 ts h1 h2 (fun x hx => (hs x hx).2)
    exact ⟨ts', (r', n'), Ev.bind (Ev.bindo rfl (Ev.bind e1 (Ev.bindo e2 (Ev.bind e3 (Ev.bind e4 (Ev.bindo e5 (Ev.pos rfl (Ev.bind e6 (Ev.eq rfl))))))))) (Ev.eq rfl), h3, h4, hr', by simp only []; omega, ho'⟩
  | false =>
    exact ⟨ts, (r', n'), Ev.bind (Ev.bindo rfl (Ev.bind e1 (Ev.bindo e2 (Ev.bind e3 (Ev.bind e4 (Ev.bindo e5 (Ev.neg (by simp) (Ev.eq rfl)))))))) (Ev.eq rfl), by omega, fun x hx => by have := hs x hx; omega, hr', by simp only []; omega, ho'⟩
theorem drawReadGraph_ev {l : List Int} (hb : isBytes l) (hl : l.length ≤ 1099511627776) : ∃ types s, Ev (fun k => spec_DrawReadGraph.f k l) (types, s) ∧ types.length ≤ 200 ∧ (∀ x ∈ types, x.size ≤ 200) ∧ s.size ≤ 60001 := by
  obtain ⟨ts, q1, e1, h1, h2, hs, hq1⟩ := drawTypes1_ev (Rd.start hb hl)
  obtain ⟨m, q2, e2, hm0, hm1, hq2⟩ := below_f hq1 5 (by omega) (by omega)
  obtain ⟨M, rfl⟩ := Int.eq_ofNat_of_zero_le hm0
  obtain ⟨r, n, q3, e3, hr, hr2, hn1, hn2, ho, hq3⟩ := drawGraph_ev hq2 ts h1 h2 hs M (by omega) 10 (by omega) (by omega)
  have e4 := spec_GraphText_ev ts (r, n) (by omega) (fun x hx => by have := hs x hx; omega)
  have hz := graphTextR_len ts (r, n)
  simp only [] at hz
  obtain ⟨b, q5, e5, hq5⟩ := once_f hq3 3 (by omega) (by omega)
  unfold spec_DrawReadGraph.f
  cases b with
  | true =>
    obtain ⟨s', q6, e6, h3, hq6⟩ := hurt_f hq5 (graphTextR ts (r, n)) (by omega)
    exact ⟨ts, s', Ev.bindo rfl (Ev.bind e1 (Ev.bindo e2 (Ev.bind e3 (Ev.bind e4 (Ev.bindo e5 (Ev.pos rfl (Ev.bindo e6 (Ev.eq rfl)))))))), by omega, fun x hx => by have := hs x hx; omega, by omega⟩
  | false =>
    exact ⟨ts, _, Ev.bindo rfl (Ev.bind e1 (Ev.bindo e2 (Ev.bind e3 (Ev.bind e4 (Ev.bindo e5 (Ev.neg (by simp) (Ev.eq rfl))))))), by omega, fun x hx => by have := hs x hx; omega, by omega⟩
theorem ba_is (s : ByteArray) : ∃ l, s = ba l ∧ l.length = s.size := ⟨s.data.toList, by unfold ba; cases s; rfl, by simp⟩
/-- What comes of reading is small. -/
theorem readI_small (types : List ByteArray) (l : List UInt8) : (readI types l).1.length ≤ 1099511627776 ∧ (readI types l).2.1.length ≤ 1099511627776 ∧ ∀ o ∈ (readI types l).2.1, o.2.length ≤ 1099511627776 := by
  rcases readI_or types l with h | ⟨g, h, h1, h2⟩
  · rw [h]
    exact ⟨Nat.zero_le _, Nat.zero_le _, fun o ho => by cases ho⟩
  · rw [h]
    have c : graphOk types g = true := by
      by_cases c : graphOk types g = true
      · exact c
      · unfold graphTextR at h1
        rw [if_neg c] at h1
        exact absurd ((ba_ne (a := []) (b := l)).1 (by rw [h1])).symm h2
    have hn := nums_of c
    have h3 := hn.roots
    have h4 := hn.nodes
    exact ⟨by simp only []; omega, by simp only []; omega, fun o ho => by have := hn.vals o ho; omega⟩
theorem FnGraphText : laws_FnGraphText.Pure := by
  intro l hb
  have hb := hb.2
  refine Ev.rounds ?_
  unfold laws_FnGraphText.f laws_big.f
  refine Ev.bindo rfl (Ev.cases (fun _ => Ev.eq rfl) (fun c0 => ?_))
  simp only [decide_eq_true_eq] at c0
  obtain ⟨t, g, e1, ht, hts, hg1, hg2, hg3⟩ := drawGraphText_ev (isBytes_of hb) (by omega)
  obtain ⟨u, b, e2, hu, hus, hbz⟩ := drawReadGraph_ev (isBytes_of hb) (by omega)
  obtain ⟨bl, rfl, hbl⟩ := ba_is b
  have ts : ∀ x ∈ t, x.size ≤ 1048576 := fun x hx => by have := hts x hx; omega
  have us : ∀ x ∈ u, x.size ≤ 1048576 := fun x hx => by have := hus x hx; omega
  have i1 := impl_GraphText_ev t g ts
  have s1 := spec_GraphText_ev t g (by omega) ts
  have i2 := impl_ReadGraph_ev u bl us (by omega)
  have s2 := spec_ReadGraph_ev u bl (by omega) us (by omega)
  have hsm := readI_small u bl
  rw [← read_eq] at s2
  -- the last question
  have last : Ev (fun k => laws_FnGraphText.p23 k t g.1 g.2 (graphTextR t g) false) true := by
    obtain ⟨tl, htl, htz⟩ := ba_is (graphTextR t g)
    have hz := graphTextR_len t g
    have i3 := impl_ReadGraph_ev t tl ts (by omega)
    refine Ev.step (fun k => by rw [laws_FnGraphText.p23]) (Ev.neg (by simp) ?_)
    rw [htl]
    refine Ev.bind i3 ?_
    by_cases c : tl = []
    · subst c
      have : readI t [] = noG := rfl
      rw [this]
      refine Ev.pos ?_ (Ev.neg (by simp [noG]) (Ev.eq rfl))
      have hd : decide ((ba []).toList = (⟨#[]⟩ : ByteArray).toList) = true := decide_eq_true rfl
      rw [hd]
      rfl
    · have hr := (read_back htl c).1
      rw [hr]
      refine Ev.pos ?_ (Ev.pos rfl (Ev.bind (sameGraph_ev g.1 g.2 (by omega) (by omega) (fun o ho => by have := hg3 o ho; omega)) (Ev.eq rfl)))
      have hd : decide ((ba tl).toList = (⟨#[]⟩ : ByteArray).toList) = false := decide_eq_false (fun e => c ((ba_ne (a := tl) (b := [])).1 e))
      rw [hd]
      rfl
  refine Ev.bind e1 (Ev.bind i1 (Ev.bind e2 (Ev.bind i2 (Ev.bind s2 (Ev.bind s1 (Ev.pos rfl (Ev.pos rfl (Ev.bind (sameGraph_ev _ _ hsm.1 hsm.2.1 hsm.2.2) (Ev.pos rfl ?_)))))))))
  rcases readI_or u bl with h | ⟨x, h, h1, h2⟩
  · rw [h]
    exact Ev.neg (by simp [noG]) last
  · rw [h]
    refine Ev.pos rfl (Ev.bind (impl_GraphText_ev u x us) ?_)
    rw [h1, decide_eq_true rfl]
    exact last
end Go.Proofs.YtommgpkeicpokaaGreatDoor.Abs.Pu
