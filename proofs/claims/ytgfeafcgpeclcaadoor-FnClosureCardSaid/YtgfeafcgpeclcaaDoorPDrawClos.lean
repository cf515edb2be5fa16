/- Drawn roots: every draw answers; the roots are whole numbers of 64 bits, a few. For codes of at most 2^40 bytes. -/
import Derived.Test.YtgfeafcgpeclcaaDoorPDrawNur
namespace Go.Proofs.YtgfeafcgpeclcaaDoor.Abs.Pu
open Go Go.RowKit
set_option linter.unusedVariables false
set_option linter.unusedSectionVars false
set_option linter.unusedSimpArgs false
theorem drawYoungClosure_ev {l : List Int} (hb : isBytes l) (hl : l.length ≤ 1099511627776) : ∃ types sz words roots, Ev (fun k => spec_DrawYoungClosure.f k l) (types, sz, words, roots) ∧ types.length ≤ 100 ∧ (∀ x ∈ types, x.size ≤ 100) ∧ Ints words ∧ words.length ≤ 1001 ∧ Ints roots ∧ roots.length ≤ 100 := by
  obtain ⟨ts, q, e, h1, h2, hs, hq⟩ := drawTypes_ev (Rd.start hb hl)
  obtain ⟨sz, words, q2, e2, hn, hq2⟩ := nursery_ev hq ts h1 h2 hs
  obtain ⟨m, q3, e3, hm0, hm1, hq3⟩ := below_f hq2 5 (by omega) (by omega)
  have lp : ∀ (d : Nat) (roots : List Int) (p : Int), roots.length + d ≤ 100 → Ints roots → Rd l p → ∃ sz' words' roots', Ev (fun k => spec_DrawYoungClosure.p14 k 0 l p ts sz words roots (d : Int)) (ts, sz', words', roots') ∧ Ints words' ∧ words'.length ≤ 1001 ∧ Ints roots' ∧ roots'.length ≤ 100 := by
    intro d
    induction d with
    | zero =>
      intro roots p hr hi hp
      obtain ⟨sz3, words3, q4, e4, hi4, hw4, hq4⟩ := hurtNursery_ev hp sz words hn
      refine ⟨sz3, words3, roots, ?_, hi4, hw4, hi, by omega⟩
      refine Ev.step (fun k => by rw [spec_DrawYoungClosure.p14]) ?_
      exact Ev.neg (by omega) (Ev.bind e4 (Ev.eq rfl))
    | succ d ih =>
      intro roots p hr hi hp
      have e1 : wrap64 (((d + 1 : Nat) : Int) - 1) = (d : Int) := by rw [w64 (by omega) (by omega)]; omega
      obtain ⟨v, q4, e4, hv, hq4⟩ := youngRef_ev hp ts sz words h2 hs hn
      obtain ⟨b, q5, e5, hq5⟩ := once_f hq4 4 (by omega) (by omega)
      have go : ∀ (b : Bool) (q : Int), Rd l q → ∃ sz' words' roots', Ev (fun k => spec_DrawYoungClosure.p28 k 0 l q ts sz words roots (((d + 1 : Nat) : Int)) v b) (ts, sz', words', roots') ∧ Ints words' ∧ words'.length ≤ 1001 ∧ Ints roots' ∧ roots'.length ≤ 100 := by
        intro b q hq
        cases b with
        | true =>
          obtain ⟨x, q6, e6, hx0, hx1, hq6⟩ := below_f hq 20 (by omega) (by omega)
          obtain ⟨sz', words', roots', e7, hr7⟩ := ih (roots ++ [wrap64 (2 * x)]) q6 (by simp; omega) (hi.snoc (wrap_ok _)) hq6
          refine ⟨sz', words', roots', ?_, hr7⟩
          refine Ev.step (fun k => by rw [spec_DrawYoungClosure.p28]) ?_
          rw [e1]
          exact Ev.pos rfl (Ev.bindo e6 (Ev.pos (by omega) e7))
        | false =>
          obtain ⟨sz', words', roots', e7, hr7⟩ := ih (roots ++ [v]) q (by simp; omega) (hi.snoc hv) hq
          refine ⟨sz', words', roots', ?_, hr7⟩
          refine Ev.step (fun k => by rw [spec_DrawYoungClosure.p28]) ?_
          rw [e1]
          exact Ev.neg (by simp) (Ev.pos (by omega) e7)
      cases b with
      | true =>
        obtain ⟨sz', words', roots', e7, hr7⟩ := go true q5 hq5
        refine ⟨sz', words', roots', ?_, hr7⟩
        refine Ev.step (fun k => by rw [spec_DrawYoungClosure.p14]) ?_
        exact Ev.pos (by omega) (Ev.bind e4 (Ev.bindo e5 (Ev.pos rfl e7)))
      | false =>
        by_cases c : refk v < 0
        · obtain ⟨b2, q6, e6, hq6⟩ := once_f hq5 4 (by omega) (by omega)
          obtain ⟨sz', words', roots', e7, hr7⟩ := go (!b2) q6 hq6
          refine ⟨sz', words', roots', ?_, hr7⟩
          refine Ev.step (fun k => by rw [spec_DrawYoungClosure.p14]) ?_
          refine Ev.pos (by omega) (Ev.bind e4 (Ev.bindo e5 ?_))
          exact Ev.neg (by simp) (Ev.bindo (spec_RefKind_f v) (Ev.pos c (Ev.bindo e6 e7)))
        · obtain ⟨sz', words', roots', e7, hr7⟩ := go false q5 hq5
          refine ⟨sz', words', roots', ?_, hr7⟩
          refine Ev.step (fun k => by rw [spec_DrawYoungClosure.p14]) ?_
          refine Ev.pos (by omega) (Ev.bind e4 (Ev.bindo e5 ?_))
          exact Ev.neg (by simp) (Ev.bindo (spec_RefKind_f v) (Ev.neg c e7))
  obtain ⟨sz', words', roots', e4, hr4⟩ := lp m.toNat [] q3 (by simp only [List.length_nil]; omega) (fun _ h => by cases h) hq3
  refine ⟨ts, sz', words', roots', ?_, h2, hs, hr4⟩
  unfold spec_DrawYoungClosure.f
  refine Ev.bindo rfl (Ev.bind e (Ev.bind e2 (Ev.bindo e3 ?_)))
  simp only []
  rw [show ((m.toNat : Nat) : Int) = m from by omega] at e4
  exact e4
end Go.Proofs.YtgfeafcgpeclcaaDoor.Abs.Pu
