/- Graphs in the laws: their size, a copy, the comparison with itself. -/
import Derived.Test.YtommgpkeicpokaaDoorPIntS
namespace Go.Proofs.YtommgpkeicpokaaDoor.Abs
open Go Go.RowKit
set_option linter.unusedVariables false
set_option linter.unusedSectionVars false
set_option linter.unusedSimpArgs false
theorem szObj_f (o : Int × List Int) (hl : o.2.length ≤ maxLen) (left : Int) (h0 : 0 ≤ left) (h1 : left ≤ 1048576) : ∃ r, laws_szObj.f o.1 o.2 left = some r ∧ (0 ≤ r → r ≤ left ∧ o.2.length ≤ 1048576) := by
  unfold laws_szObj.f
  obtain ⟨r, e, hr⟩ := szInt64S_f o.2 hl left h0 h1
  rw [e, Option.bind_some]
  by_cases c : r < 0
  · exact ⟨-1, by rw [if_pos c], fun h => by omega⟩
  · exact ⟨r, by rw [if_neg c], hr⟩
theorem szObjS_ev (l : List (Int × List Int)) (hl : l.length ≤ maxLen) (hs : ∀ x ∈ l, x.2.length ≤ maxLen) (left : Int) (h0 : 0 ≤ left) (h1 : left ≤ 1048576) : ∃ r, Ev (fun k => laws_szObjS.f k l left) r ∧ (0 ≤ r → r ≤ left ∧ l.length ≤ 1048576 ∧ ∀ x ∈ l, x.2.length ≤ 1048576) := by
  have hl' := hl
  unfold maxLen at hl'
  unfold laws_szObjS.f
  rw [w64 (x := left - (l.length : Int)) (by omega) (by omega)]
  by_cases c : left - (l.length : Int) < 0
  · exact ⟨-1, Ev.pos c (Ev.eq rfl), fun h => by omega⟩
  · have key : ∀ left : Int, 0 ≤ left → left ≤ 1048576 → ∃ r, Ev (fun k => laws_szObjS.p16 k l left 0) r ∧ (0 ≤ r → r ≤ left ∧ ∀ x ∈ l, (fun x => x.2.length ≤ 1048576) x) := by
      refine sz_loop (g := fun k left i => laws_szObjS.p16 k l left i) (by omega) (fun i hi left h0 h1 => ?_) (fun left => ?_)
      · have hx := hs _ (List.getElem_mem hi)
        have hg : rdOf (0, []) l (i : Int) = l[i] := rdg hi
        generalize l[i] = x at *
        obtain ⟨q, e, hq⟩ := szObj_f x hx left h0 h1
        by_cases c2 : q < 0
        · refine .inl ⟨-1, by omega, Ev.step (fun k => by rw [laws_szObjS.p16]) ?_⟩
          rw [hg]
          exact Ev.pos (by omega) (Ev.pos (by omega) (Ev.pos (by omega) (Ev.bindo e (Ev.pos c2 (Ev.eq rfl)))))
        · have hq := hq (by omega)
          refine .inr ⟨q, by omega, hq.1, hq.2, fun r hr => Ev.step (fun k => by rw [laws_szObjS.p16]) ?_⟩
          rw [hg, w64s (by omega)]
          exact Ev.pos (by omega) (Ev.pos (by omega) (Ev.pos (by omega) (Ev.bindo e (Ev.neg c2 hr))))
      · refine Ev.step (fun k => by rw [laws_szObjS.p16]) ?_
        exact Ev.neg (by omega) (Ev.eq rfl)
    obtain ⟨r, hr, hp⟩ := key (left - (l.length : Int)) (by omega) (by omega)
    exact ⟨r, Ev.neg c hr, fun h => ⟨by have := (hp h).1; omega, by omega, (hp h).2⟩⟩
theorem toObj_ev (o : Int × List Int) (hl : o.2.length ≤ 1048576) : Ev (fun k => laws_toObj.f k o.1 o.2) o := by
  unfold laws_toObj.f
  exact Ev.bind (toInt64S_ev o.2 hl) (Ev.eq rfl)
theorem toObjS_ev (l : List (Int × List Int)) (hl : l.length ≤ 1048576) (hs : ∀ x ∈ l, x.2.length ≤ 1048576) : Ev (fun k => laws_toObjS.f k l) l := by
  unfold laws_toObjS.f
  refine Ev.pos (by omega) (Ev.pos (by omega) ?_)
  rw [Int.toNat_natCast]
  refine fill_ev (g := fun k out i => laws_toObjS.p8 k l out i) _ (fun i hi out ho r hr => ?_) (fun out ho => ?_)
  · refine Ev.step (fun k => by rw [laws_toObjS.p8]) ?_
    rw [rdg hi, w64s (by omega), Int.toNat_natCast]
    exact Ev.pos (by omega) (Ev.pos (by omega) (Ev.pos (by omega) (Ev.bind (toObj_ev l[i] (hs _ (List.getElem_mem hi))) (Ev.pos (by omega) (Ev.pos (by omega) hr)))))
  · refine Ev.step (fun k => by rw [laws_toObjS.p8]) ?_
    exact Ev.neg (by omega) (Ev.eq rfl)
theorem eqObj_ev (o : Int × List Int) (hl : o.2.length ≤ 1048576) : Ev (fun k => laws_eqObj.f k o.1 o.2 o.1 o.2) true := by
  unfold laws_eqObj.f
  exact Ev.pos rfl (Ev.bind (eqInt64S_ev o.2 hl) (Ev.pos rfl (Ev.eq rfl)))
theorem eqObjS_ev (l : List (Int × List Int)) (hl : l.length ≤ 1048576) (hs : ∀ x ∈ l, x.2.length ≤ 1048576) : Ev (fun k => laws_eqObjS.f k l l) true := by
  unfold laws_eqObjS.f
  refine Ev.pos rfl ?_
  refine each_ev (n := l.length) (g := fun k i => laws_eqObjS.p14 k l l i) (fun i hi hr => ?_) ?_
  · refine Ev.step (fun k => by rw [laws_eqObjS.p14]) ?_
    rw [w64s (by omega), rdg hi]
    exact Ev.pos (by omega) (Ev.pos (by omega) (Ev.pos (by omega) (Ev.pos (by omega) (Ev.pos (by omega) (Ev.bind (eqObj_ev l[i] (hs _ (List.getElem_mem hi))) (Ev.pos rfl hr))))))
  · refine Ev.step (fun k => by rw [laws_eqObjS.p14]) ?_
    exact Ev.neg (by omega) (Ev.eq rfl)
theorem szGraph_ev (g : List Int × List (Int × List Int)) (h1 : g.1.length ≤ maxLen) (h2 : g.2.length ≤ maxLen) (hs : ∀ x ∈ g.2, x.2.length ≤ maxLen) (left : Int) (a0 : 0 ≤ left) (a1 : left ≤ 1048576) : ∃ r, Ev (fun k => laws_szGraph.f k g.1 g.2 left) r ∧ (0 ≤ r → g.1.length ≤ 1048576 ∧ g.2.length ≤ 1048576 ∧ ∀ x ∈ g.2, x.2.length ≤ 1048576) := by
  unfold laws_szGraph.f
  obtain ⟨r, e, hr⟩ := szInt64S_f g.1 h1 left a0 a1
  by_cases c : r < 0
  · exact ⟨-1, Ev.bindo e (Ev.pos c (Ev.eq rfl)), fun h => by omega⟩
  · have hr := hr (by omega)
    obtain ⟨q, e2, hq⟩ := szObjS_ev g.2 h2 hs r (by omega) (by omega)
    by_cases c2 : q < 0
    · exact ⟨-1, Ev.bindo e (Ev.neg c (Ev.bind e2 (Ev.pos c2 (Ev.eq rfl)))), fun h => by omega⟩
    · exact ⟨q, Ev.bindo e (Ev.neg c (Ev.bind e2 (Ev.neg c2 (Ev.eq rfl)))), fun h => ⟨hr.2, (hq h).2⟩⟩
theorem toGraph_ev (g : List Int × List (Int × List Int)) (h1 : g.1.length ≤ 1048576) (h2 : g.2.length ≤ 1048576) (hs : ∀ x ∈ g.2, x.2.length ≤ 1048576) : Ev (fun k => laws_toGraph.f k g.1 g.2) g := by
  unfold laws_toGraph.f
  exact Ev.bind (toInt64S_ev g.1 h1) (Ev.bind (toObjS_ev g.2 h2 hs) (Ev.eq rfl))
theorem eqGraph_ev (g : List Int × List (Int × List Int)) (h1 : g.1.length ≤ 1048576) (h2 : g.2.length ≤ 1048576) (hs : ∀ x ∈ g.2, x.2.length ≤ 1048576) : Ev (fun k => laws_eqGraph.f k g.1 g.2 g.1 g.2) true := by
  unfold laws_eqGraph.f
  exact Ev.bind (eqInt64S_ev g.1 h1) (Ev.pos rfl (Ev.bind (eqObjS_ev g.2 h2 hs) (Ev.pos rfl (Ev.eq rfl))))
end Go.Proofs.YtommgpkeicpokaaDoor.Abs
