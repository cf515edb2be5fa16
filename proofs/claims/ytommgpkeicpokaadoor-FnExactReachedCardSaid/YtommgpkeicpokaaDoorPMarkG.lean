/- The laws' marks on graphs. For at most 2^20 roots, nodes, and values of a node. -/
import Derived.Test.YtommgpkeicpokaaDoorPMarkI
namespace Go.Proofs.YtommgpkeicpokaaDoor.Abs.Pu
open Go Go.RowKit
set_option linter.unusedVariables false
set_option linter.unusedSectionVars false
set_option linter.unusedSimpArgs false
theorem markObjS_ev (l : List (Int × List Int)) (m : Int) (h0 : 1 ≤ m) (h1 : m ≤ 4398046511104) (hl : l.length ≤ 1048576) (hs : ∀ x ∈ l, x.2.length ≤ 1048576) : ∃ l' m', Ev (fun k => laws_markObjS.f k l m) (l', m') ∧ 1 ≤ m' := by
  have key : ∀ i, i ≤ l.length → ∀ (h : List (Int × List Int)) (x1 : Int), h.length = l.length → (∀ x ∈ h, x.2.length ≤ 1048576) → 1 ≤ x1 → x1 ≤ m + 1048577 * (i : Int) → ∃ l' m', Ev (fun k => laws_markObjS.p6 k h x1 (i : Int)) (l', m') ∧ 1 ≤ m' := by
    refine down ?_ ?_
    · intro h x1 hh _ a0 _
      exact ⟨h, x1, Ev.step (fun k => by rw [laws_markObjS.p6]) (Ev.neg (by omega) (Ev.eq rfl)), a0⟩
    · intro i hi ih h x1 hh hx a0 a1
      have hih : i < h.length := by omega
      have ho := hx _ (List.getElem_mem hih)
      have e1 : rdOf (0, []) h (i : Int) = h[i] := rdg hih
      generalize h[i] = o at *
      have e2 : rdOf (0, []) (h.set i (x1, o.2)) (i : Int) = (x1, o.2) := by
        rw [rdg (by rw [List.length_set]; exact hih)]
        exact List.getElem_set_self _
      have mk := markInt64S_ev o.2 (x1 + 1) (by omega) (by omega) ho
      obtain ⟨l', m', hr, hm⟩ := ih ((h.set i (x1, o.2)).set i (x1, marks (x1 + 1) o.2.length)) (x1 + 1 + (o.2.length : Int)) (by rw [List.length_set, List.length_set]; exact hh) (fun x hx' => by
        rcases List.mem_or_eq_of_mem_set hx' with hx' | hx'
        · rcases List.mem_or_eq_of_mem_set hx' with hx' | hx'
          · exact hx x hx'
          · rw [hx']; exact ho
        · rw [hx']; simp only [marks_length]; exact ho) (by omega) (by omega)
      refine ⟨l', m', Ev.step (fun k => by rw [laws_markObjS.p6]) ?_, hm⟩
      rw [e1, Int.toNat_natCast, e2, w64s (i := i) (by omega), w64 (x := x1 + 1) (by omega) (by omega)]
      refine Ev.pos (by omega) (Ev.pos (by omega) (Ev.pos (by omega) (Ev.pos (by omega) (Ev.pos (by rw [List.length_set]; omega) (Ev.bind mk ?_)))))
      exact hr
  unfold laws_markObjS.f
  exact key 0 (Nat.zero_le _) l m rfl hs h0 (by omega)
theorem markGraph_ev (g : List Int × List (Int × List Int)) (m : Int) (h0 : 1 ≤ m) (h1 : m ≤ 2199023255552) (a : g.1.length ≤ 1048576) (b : g.2.length ≤ 1048576) (c : ∀ x ∈ g.2, x.2.length ≤ 1048576) : ∃ r s m', Ev (fun k => laws_markGraph.f k g.1 g.2 m) (r, s, m') ∧ 1 ≤ m' := by
  have e1 := markInt64S_ev g.1 m h0 (by omega) a
  obtain ⟨l', m', e2, hm⟩ := markObjS_ev g.2 (m + (g.1.length : Int)) (by omega) (by omega) b c
  refine ⟨marks m g.1.length, l', m', ?_, hm⟩
  unfold laws_markGraph.f
  exact Ev.bind e1 (Ev.bind e2 (Ev.eq rfl))
end Go.Proofs.YtommgpkeicpokaaDoor.Abs.Pu
