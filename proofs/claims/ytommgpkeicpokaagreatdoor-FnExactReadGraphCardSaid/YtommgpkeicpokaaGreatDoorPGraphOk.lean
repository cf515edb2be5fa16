/- GraphOk: the reference and the program ask the same. For at most 2^20 types of at most 2^20 bytes. -/
import Derived.Test.YtommgpkeicpokaaGreatDoorPTypes
import Derived.Test.YtommgpkeicpokaaGreatDoorPLoop
import Derived.Test.YtommgpkeicpokaaGreatDoorPObjW
namespace Go.Proofs.YtommgpkeicpokaaGreatDoor.Abs.Pu
open Go Go.RowKit
set_option linter.unusedVariables false
set_option linter.unusedSectionVars false
set_option linter.unusedSimpArgs false
def isNodeB (n : Nat) (v : Int) : Bool := decide (0 ≤ v) && decide (v ≤ (n : Int))
def graphOk (types : List ByteArray) (g : List Int × List (Int × List Int)) : Bool :=
  typesOk types && (decide (g.1.length ≤ 40) && (decide (g.2.length ≤ 400) && (g.1.all (isNodeB g.2.length) && g.2.all (objW (isNodeB g.2.length) types))))
theorem isNode_f (a : List Int) (b : List (Int × List Int)) (v : Int) : _impl_Graph_isNode.f a b v = some (isNodeB b.length v) := by
  unfold _impl_Graph_isNode.f impl_size_implObj.f
  rw [Option.bind_some, within_f]
  rfl
theorem isObject_graph_ev (types : List ByteArray) (a : List Int) (b : List (Int × List Int)) (o : Int × List Int) (ht : typesOk types = true) : Ev (fun k => impl_isObject_at__impl_Graph_isNode.f k types o.1 o.2 a b) (objW (isNodeB b.length) types o) := by
  have htl := types_len ht
  have hts := type_size ht o.1
  unfold impl_isObject_at__impl_Graph_isNode.f impl_size_string.f objW
  refine Ev.bindo rfl (Ev.bindo (within_f _ _ _) ?_)
  rw [w64 (x := (types.length : Int) - 1) (by omega) (by omega)]
  refine Ev.cases (fun c => ?_) (fun c => ?_)
  · rw [c, Bool.true_and]
    simp only [Bool.and_eq_true, decide_eq_true_eq] at c
    refine Ev.pos c.1 (Ev.pos (by omega) ?_)
    by_cases c2 : o.2.length = (rdOf ByteArray.empty types o.1).size
    · rw [decide_eq_true c2, Bool.true_and]
      refine Ev.pos (by omega) ?_
      exact refs_ev (g := fun k i => impl_isObject_at__impl_Graph_isNode.p14 k types a b o.1 o.2 o.2 (o.2.length : Int) i) (t := fun _ x => _impl_Graph_isNode.f a b x) c.1 (by omega) c2 (by omega) (fun k i => by rw [impl_isObject_at__impl_Graph_isNode.p14]) (fun x _ => ⟨0, fun _ _ => isNode_f a b x⟩)
    · rw [decide_eq_false c2, Bool.false_and]
      exact Ev.neg (by omega) (Ev.eq rfl)
  · rw [Bool.eq_false_iff.2 c, Bool.false_and]
    exact Ev.eq rfl
theorem impl_GraphOk_ev (types : List ByteArray) (g : List Int × List (Int × List Int)) (hs : ∀ x ∈ types, x.size ≤ 1048576) : Ev (fun k => impl_GraphOk.f k types g.1 g.2) (graphOk types g) := by
  unfold impl_GraphOk.f graphOk
  refine Ev.bind (impl_TypesOk_ev types hs) ?_
  have bad : Ev (fun k => impl_GraphOk.p5 k types g.1 g.2 true) false := by
    refine Ev.step (fun k => by rw [impl_GraphOk.p5]) ?_
    exact Ev.pos rfl (Ev.eq rfl)
  by_cases ht : typesOk types = true
  · rw [ht, Bool.true_and]
    refine Ev.pos rfl ?_
    by_cases c : g.1.length ≤ 40
    · rw [decide_eq_true c, Bool.true_and]
      refine Ev.neg (by omega) ?_
      by_cases c2 : g.2.length ≤ 400
      · rw [decide_eq_true c2, Bool.true_and, decide_eq_false (by omega)]
        refine Ev.step (fun k => by rw [impl_GraphOk.p5]) ?_
        refine Ev.neg (by simp) ?_
        have h1 : Ev (fun k => slices_ContainsFunc_int64_at_impl_GraphOk_1.f k g.1 (g.1, g.2)) (g.1.any fun x => !isNodeB g.2.length x) := by
          unfold slices_ContainsFunc_int64_at_impl_GraphOk_1.f slices_IndexFunc_int64_at_impl_GraphOk_1.f
          refine contains_ev (d := 0) (l := g.1) (by omega) (g := fun k i => slices_IndexFunc_int64_at_impl_GraphOk_1.p6 k g.1 (g.1, g.2) (g.1.length : Int) i) (t := fun _ x => impl_GraphOk_1.f x (g.1, g.2)) (f := fun x => !isNodeB g.2.length x) (fun k i => by rw [slices_IndexFunc_int64_at_impl_GraphOk_1.p6]; rfl) (fun x hx => ?_)
          unfold impl_GraphOk_1.f
          exact Ev.bindo (isNode_f g.1 g.2 x) (Ev.eq rfl)
        have h2 : Ev (fun k => slices_ContainsFunc_implObj_at_impl_GraphOk_2.f k g.2 types (g.1, g.2)) (g.2.any fun x => !objW (isNodeB g.2.length) types x) := by
          unfold slices_ContainsFunc_implObj_at_impl_GraphOk_2.f slices_IndexFunc_implObj_at_impl_GraphOk_2.f
          refine contains_ev (d := (0, [])) (l := g.2) (by omega) (g := fun k i => slices_IndexFunc_implObj_at_impl_GraphOk_2.p6 k g.2 types (g.1, g.2) (g.2.length : Int) i) (t := fun k x => impl_GraphOk_2.f k x.1 x.2 types (g.1, g.2)) (f := fun x => !objW (isNodeB g.2.length) types x) (fun k i => by rw [slices_IndexFunc_implObj_at_impl_GraphOk_2.p6]) (fun x hx => ?_)
          unfold impl_GraphOk_2.f
          exact Ev.bind (isObject_graph_ev types g.1 g.2 x ht) (Ev.eq rfl)
        refine Ev.bind h1 ?_
        by_cases c3 : g.1.all (isNodeB g.2.length) = true
        · rw [c3, Bool.true_and]
          refine Ev.neg ?_ (Ev.bind h2 (Ev.eq ?_))
          · rw [List.all_eq_not_any_not] at c3
            simpa using c3
          · rw [List.all_eq_not_any_not]
        · rw [Bool.eq_false_iff.2 c3, Bool.false_and]
          refine Ev.pos ?_ (Ev.eq rfl)
          rw [List.all_eq_not_any_not] at c3
          simpa using c3
      · rw [decide_eq_false c2, Bool.false_and, decide_eq_true (by omega)]
        exact bad
    · rw [decide_eq_false c, Bool.false_and]
      exact Ev.pos (by omega) bad
  · rw [Bool.eq_false_iff.2 ht, Bool.false_and]
    exact Ev.neg (by simp) bad
theorem spec_GraphOk_ev (types : List ByteArray) (g : List Int × List (Int × List Int)) (hl : types.length ≤ 1048576) (hs : ∀ x ∈ types, x.size ≤ 1048576) : Ev (fun k => spec_GraphOk.f k types g.1 g.2) (graphOk types g) := by
  unfold spec_GraphOk.f graphOk
  refine Ev.bind (spec_TypesOk_ev types hl hs) ?_
  by_cases ht : typesOk types = true
  rotate_left
  · rw [Bool.eq_false_iff.2 ht, Bool.false_and]
    exact Ev.neg (by simp) (Ev.eq rfl)
  have htl := types_len ht
  rw [ht, Bool.true_and]
  refine Ev.pos rfl ?_
  by_cases c : g.1.length ≤ 40
  rotate_left
  · rw [decide_eq_false c, Bool.false_and]
    exact Ev.pos (by omega) (Ev.eq rfl)
  rw [decide_eq_true c, Bool.true_and]
  refine Ev.neg (by omega) ?_
  by_cases c2 : g.2.length ≤ 400
  rotate_left
  · rw [decide_eq_false c2, Bool.false_and]
    exact Ev.pos (by omega) (Ev.eq rfl)
  rw [decide_eq_true c2, Bool.true_and]
  refine Ev.neg (by omega) ?_
  obtain ⟨roots, nodes⟩ := g
  simp only [] at c c2 ⊢
  have l2 : Ev (fun k => spec_GraphOk.p37 k types roots nodes (nodes.length : Int) 0) (nodes.all (objW (isNodeB nodes.length) types)) := by
    rw [← Bool.and_true (nodes.all _)]
    refine all_ev (g := fun k i => spec_GraphOk.p37 k types roots nodes (nodes.length : Int) i) (fun i hi => ?_) true ?_
    rotate_left
    · refine Ev.step (fun k => by rw [spec_GraphOk.p37]) ?_
      exact Ev.neg (by omega) (Ev.eq rfl)
    have hg : rdOf (0, []) nodes (i : Int) = nodes[i] := rdg hi
    generalize nodes[i] = o at *
    have hts := type_size ht o.1
    have main : ∀ r, (objW (isNodeB nodes.length) types o = true → Ev (fun k => spec_GraphOk.p37 k types roots nodes (nodes.length : Int) ((i + 1 : Nat) : Int)) r) → (objW (isNodeB nodes.length) types o = false → r = false) → Ev (fun k => spec_GraphOk.p37 k types roots nodes (nodes.length : Int) (i : Int)) r := by
      intro r h1 h2
      refine Ev.step (fun k => by rw [spec_GraphOk.p37]) ?_
      rw [hg, w64 (x := (types.length : Int) - 1) (by omega) (by omega)]
      refine Ev.pos (by omega) (Ev.pos (by omega) (Ev.pos (by omega) (Ev.bindo (l1In_f _ _ _) ?_)))
      unfold objW at h1 h2
      refine Ev.cases (fun c => ?_) (fun c => Ev.eq (h2 (by rw [Bool.eq_false_iff.2 c, Bool.false_and])).symm)
      rw [c, Bool.true_and] at h1 h2
      simp only [Bool.and_eq_true, decide_eq_true_eq] at c
      refine Ev.pos c.1 (Ev.pos (by omega) ?_)
      by_cases c3 : o.2.length = (rdOf ByteArray.empty types o.1).size
      rotate_left
      · exact Ev.neg (by omega) (Ev.eq (h2 (by rw [decide_eq_false c3, Bool.false_and])).symm)
      rw [decide_eq_true c3, Bool.true_and] at h1 h2
      refine Ev.pos (by omega) ?_
      have lp : ∀ j, j ≤ o.2.length → (∀ r', (refsB (isNodeB nodes.length) (rdOf ByteArray.empty types o.1) j (o.2.drop j) = true → Ev (fun k => spec_GraphOk.p37 k types roots nodes (nodes.length : Int) ((i + 1 : Nat) : Int)) r') → (refsB (isNodeB nodes.length) (rdOf ByteArray.empty types o.1) j (o.2.drop j) = false → r' = false) → Ev (fun k => spec_GraphOk.p59 k types roots nodes (nodes.length : Int) (i : Int) o.1 o.2 (j : Int)) r') := by
        refine down ?_ ?_
        · intro r' g1 g2
          rw [List.drop_eq_nil_of_le (Nat.le_refl _)] at g1
          refine Ev.step (fun k => by rw [spec_GraphOk.p59]) ?_
          rw [w64s (i := i) (by omega)]
          exact Ev.neg (by omega) (g1 rfl)
        · intro j hj ih r' g1 g2
          rw [List.drop_eq_getElem_cons hj, refsB] at g1 g2
          refine Ev.step (fun k => by rw [spec_GraphOk.p59]) ?_
          rw [rd_get hj, w64s (i := j) (by omega)]
          refine Ev.pos (by omega) (Ev.pos (by omega) (Ev.pos (by omega) (Ev.pos (by omega) (Ev.pos (by omega) ?_))))
          by_cases c4 : bt (rdOf ByteArray.empty types o.1) (j : Int) = 114
          · rw [if_pos c4] at g1 g2
            refine Ev.pos c4 (Ev.pos (by omega) (Ev.pos (by omega) (Ev.bindo (l1In_f _ _ _) ?_)))
            have e : (decide ((0 : Int) ≤ o.2[j]) && decide (o.2[j] ≤ (nodes.length : Int))) = isNodeB nodes.length o.2[j] := rfl
            rw [e]
            refine Ev.cases (fun c5 => ?_) (fun c5 => Ev.eq (g2 (by rw [Bool.eq_false_iff.2 c5, Bool.false_and])).symm)
            rw [c5, Bool.true_and] at g1 g2
            exact ih r' g1 g2
          · rw [if_neg c4] at g1 g2
            exact Ev.neg c4 (ih r' g1 g2)
      have := lp 0 (Nat.zero_le _) r
      rw [List.drop_zero] at this
      exact this h1 h2
    exact ⟨fun h r hr => main r (fun _ => hr) (fun h' => by rw [h] at h'; cases h'), fun h => main false (fun h' => by rw [h] at h'; cases h') (fun _ => rfl)⟩
  refine all_ev (g := fun k i => spec_GraphOk.p16 k types roots nodes (nodes.length : Int) i) (fun i hi => ?_) _ ?_
  · have main : ∀ r, (isNodeB nodes.length roots[i] = true → Ev (fun k => spec_GraphOk.p16 k types roots nodes (nodes.length : Int) ((i + 1 : Nat) : Int)) r) → (isNodeB nodes.length roots[i] = false → r = false) → Ev (fun k => spec_GraphOk.p16 k types roots nodes (nodes.length : Int) (i : Int)) r := by
      intro r h1 h2
      refine Ev.step (fun k => by rw [spec_GraphOk.p16]) ?_
      rw [rd_get hi, w64s (i := i) (by omega)]
      refine Ev.pos (by omega) (Ev.pos (by omega) (Ev.pos (by omega) (Ev.bindo (l1In_f _ _ _) ?_)))
      have e : (decide ((0 : Int) ≤ roots[i]) && decide (roots[i] ≤ (nodes.length : Int))) = isNodeB nodes.length roots[i] := rfl
      rw [e]
      exact Ev.cases (fun c5 => h1 c5) (fun c5 => Ev.eq (h2 (Bool.eq_false_iff.2 c5)).symm)
    exact ⟨fun h r hr => main r (fun _ => hr) (fun h' => by rw [h] at h'; cases h'), fun h => main false (fun h' => by rw [h] at h'; cases h') (fun _ => rfl)⟩
  · refine Ev.step (fun k => by rw [spec_GraphOk.p16]) ?_
    exact Ev.neg (by omega) l2
end Go.Proofs.YtommgpkeicpokaaGreatDoor.Abs.Pu
