/- GraphText: the reference and the program write the same text. For at most 2^20 types of at most 2^20 bytes. -/
import Derived.Test.YtommgpkeicpokaaGreatDoorPGraphOk
import Derived.Test.YtommgpkeicpokaaGreatDoorPDec
namespace Go.Proofs.YtommgpkeicpokaaGreatDoor.Abs.Pu
open Go Go.RowKit
set_option linter.unusedVariables false
set_option linter.unusedSectionVars false
set_option linter.unusedSimpArgs false
def inT (v : Int) : Bool := decide (-999999999999999 ≤ v) && decide (v ≤ 999999999999999)
def rootsT (r : List Int) : List UInt8 := [114, 111, 111, 116, 115] ++ (lineT r ++ [10])
def nodeT (o : Int × List Int) : List UInt8 := Lib.itoa o.1 ++ (lineT o.2 ++ [10])
def nodesT : List (Int × List Int) → List UInt8
  | [] => []
  | o :: l => nodeT o ++ nodesT l
def graphT (g : List Int × List (Int × List Int)) : List UInt8 := rootsT g.1 ++ nodesT g.2
/-- What GraphText writes. -/
def graphTextR (types : List ByteArray) (g : List Int × List (Int × List Int)) : ByteArray :=
  if graphOk types g = true then (if g.2.all (fun o => o.2.all inT) = true then ba (graphT g) else ba []) else ba []
/-- What is right of a graph's numbers. -/
structure Nums (g : List Int × List (Int × List Int)) : Prop where
  roots : g.1.length ≤ 40
  rootsIn : ∀ v ∈ g.1, 0 ≤ v ∧ v ≤ 400
  nodes : g.2.length ≤ 400
  types : ∀ o ∈ g.2, 0 ≤ o.1 ∧ o.1 ≤ 12
  vals : ∀ o ∈ g.2, o.2.length ≤ 23
theorem nums_of {types : List ByteArray} {g : List Int × List (Int × List Int)} (h : graphOk types g = true) : Nums g := by
  unfold graphOk at h
  simp only [Bool.and_eq_true, decide_eq_true_eq, List.all_eq_true] at h
  obtain ⟨ht, h1, h2, h3, h4⟩ := h
  have hl := types_len ht
  refine ⟨h1, fun v hv => ?_, h2, fun o ho => ?_, fun o ho => ?_⟩
  · have := h3 v hv
    unfold isNodeB at this
    simp only [Bool.and_eq_true, decide_eq_true_eq] at this
    omega
  · have := h4 o ho
    unfold objW at this
    simp only [Bool.and_eq_true, decide_eq_true_eq] at this
    omega
  · have := h4 o ho
    have hs := type_size ht o.1
    unfold objW at this
    simp only [Bool.and_eq_true, decide_eq_true_eq] at this
    omega
theorem inT_at {o : Int × List Int} (h : o.2.all inT = true) : ∀ v ∈ o.2, -9223372036854775808 < v ∧ v ≤ 9223372036854775807 := by
  intro v hv
  have := List.all_eq_true.1 h v hv
  unfold inT at this
  simp only [Bool.and_eq_true, decide_eq_true_eq] at this
  omega
theorem nodeT_len {o : Int × List Int} (h0 : 0 ≤ o.1 ∧ o.1 ≤ 12) (hl : o.2.length ≤ 23) (h : o.2.all inT = true) : (nodeT o).length ≤ 1000 := by
  have h1 := Lib.itoa_length_le o.1 (by omega) (by omega)
  have h2 := lineT_len o.2 fun v hv => by have := inT_at h v hv; omega
  unfold nodeT
  rw [List.length_append, List.length_append, List.length_singleton]
  omega
/-! ### the program -/
theorem contains_f (l : List Int) (hl : l.length ≤ 23) : Ev (fun k => slices_ContainsFunc_int64_at_impl_GraphText_1.f k l) (!l.all inT) := by
  unfold slices_ContainsFunc_int64_at_impl_GraphText_1.f slices_IndexFunc_int64_at_impl_GraphText_1.f
  have h := contains_ev (d := 0) (l := l) (by omega) (g := fun k i => slices_IndexFunc_int64_at_impl_GraphText_1.p6 k l (l.length : Int) i) (t := fun _ x => impl_GraphText_1.f x) (f := fun x => !inT x) (fun k i => by rw [slices_IndexFunc_int64_at_impl_GraphText_1.p6]; rfl) (fun x hx => by
    unfold impl_GraphText_1.f
    refine Ev.bindo (within_f _ _ _) (Ev.eq rfl))
  refine h.val ?_
  rw [List.all_eq_not_any_not, Bool.not_not]
theorem impl_nodes {g : List Int × List (Int × List Int)} (hn : Nums g) (hg : g.2.all (fun o => o.2.all inT) = true) : ∀ i, i ≤ g.2.length → ∀ s : List UInt8, s.length ≤ 1000 * (i + 1) →
    Ev (fun k => impl_GraphText.p18 k (nums s) g.2 (g.2.length : Int) (i : Int)) (ba (s ++ nodesT (g.2.drop i))) := by
  refine down ?_ ?_
  · intro s _
    refine Ev.step (fun k => by rw [impl_GraphText.p18]) ?_
    rw [List.drop_eq_nil_of_le (Nat.le_refl _), nodesT, List.append_nil]
    refine Ev.neg (by omega) ?_
    unfold strings_Builder_String.f
    rw [if_pos (okB_nums s), str_nums]
    exact Ev.eq rfl
  · intro i hi ih s hs
    have hm := List.getElem_mem hi
    have hb := hn.nodes
    refine Ev.step (fun k => by rw [impl_GraphText.p18]) ?_
    rw [rdg hi, w64s (by omega), List.drop_eq_getElem_cons hi, nodesT]
    have h1 := hn.types _ hm
    have h2 := hn.vals _ hm
    have h3 : g.2[i].2.all inT = true := List.all_eq_true.1 hg _ hm
    generalize g.2[i] = o at *
    have hln := nodeT_len h1 h2 h3
    have hv := inT_at h3
    refine Ev.pos (by omega) (Ev.pos (by omega) (Ev.pos (by omega) (Ev.bind (contains_f o.2 h2) ?_)))
    rw [h3]
    refine Ev.neg (by simp) (Ev.bindo (decimal_f _ (by omega) (by omega)) (Ev.bind (spaced_ev o.2 (by omega) fun n hx => by have := hv n hx; omega) ?_))
    rw [show (⟨#[10]⟩ : ByteArray) = ba [10] from rfl, ba_app, ba_app]
    simp only [ba_size]
    have e : Lib.itoa o.1 ++ lineT o.2 ++ [10] = nodeT o := by unfold nodeT; rw [List.append_assoc]
    have e1 : (Lib.itoa o.1 ++ lineT o.2).length + 1 = (nodeT o).length := by rw [← e, List.length_append (bs := [10])]; rfl
    refine Ev.pos (by rw [← List.length_append]; omega) (Ev.pos (by rw [List.length_singleton]; omega) ?_)
    rw [e]
    unfold strings_Builder_WriteString.f
    rw [ba_size, nums_length, if_pos (by omega), nums_ba, nums_app]
    refine Ev.bindo rfl ?_
    refine (ih _ (by rw [List.length_append]; omega)).val ?_
    rw [List.append_assoc]
theorem impl_nodes_not {g : List Int × List (Int × List Int)} (hn : Nums g) (hg : g.2.all (fun o => o.2.all inT) = false) : ∀ i, i ≤ g.2.length → (g.2.drop i).all (fun o => o.2.all inT) = false → ∀ s : List UInt8, s.length ≤ 1000 * (i + 1) →
    Ev (fun k => impl_GraphText.p18 k (nums s) g.2 (g.2.length : Int) (i : Int)) (ba []) := by
  refine down ?_ ?_
  · intro h
    rw [List.drop_eq_nil_of_le (Nat.le_refl _)] at h
    cases h
  · intro i hi ih hd s hs
    have hm := List.getElem_mem hi
    have hb := hn.nodes
    refine Ev.step (fun k => by rw [impl_GraphText.p18]) ?_
    rw [List.drop_eq_getElem_cons hi, List.all_cons] at hd
    rw [rdg hi, w64s (by omega)]
    have h1 := hn.types _ hm
    have h2 := hn.vals _ hm
    generalize g.2[i] = o at *
    refine Ev.pos (by omega) (Ev.pos (by omega) (Ev.pos (by omega) (Ev.bind (contains_f o.2 h2) ?_)))
    by_cases h3 : o.2.all inT = true
    · have hln := nodeT_len h1 h2 h3
      have hv := inT_at h3
      rw [h3, Bool.true_and] at hd
      rw [h3]
      refine Ev.neg (by simp) (Ev.bindo (decimal_f _ (by omega) (by omega)) (Ev.bind (spaced_ev o.2 (by omega) fun n hx => by have := hv n hx; omega) ?_))
      rw [show (⟨#[10]⟩ : ByteArray) = ba [10] from rfl, ba_app, ba_app]
      simp only [ba_size]
      have e : Lib.itoa o.1 ++ lineT o.2 ++ [10] = nodeT o := by unfold nodeT; rw [List.append_assoc]
      have e1 : (Lib.itoa o.1 ++ lineT o.2).length + 1 = (nodeT o).length := by rw [← e, List.length_append (bs := [10])]; rfl
      refine Ev.pos (by rw [← List.length_append]; omega) (Ev.pos (by rw [List.length_singleton]; omega) ?_)
      rw [e]
      unfold strings_Builder_WriteString.f
      rw [ba_size, nums_length, if_pos (by omega), nums_ba, nums_app]
      refine Ev.bindo rfl ?_
      exact ih hd _ (by rw [List.length_append]; omega)
    · rw [Bool.eq_false_iff.2 h3]
      exact Ev.pos rfl (Ev.eq rfl)
theorem impl_GraphText_ev (types : List ByteArray) (g : List Int × List (Int × List Int)) (hs : ∀ x ∈ types, x.size ≤ 1048576) : Ev (fun k => impl_GraphText.f k types g.1 g.2) (graphTextR types g) := by
  unfold impl_GraphText.f graphTextR
  refine Ev.bind (impl_GraphOk_ev types g hs) ?_
  by_cases c : graphOk types g = true
  rotate_left
  · rw [Bool.eq_false_iff.2 c]
    exact Ev.neg (by simp) (Ev.eq rfl)
  have hn := nums_of c
  rw [c, if_pos rfl]
  have hr : ∀ n ∈ g.1, -9223372036854775808 ≤ n ∧ n ≤ 9223372036854775807 := fun n hx => by have := hn.rootsIn n hx; omega
  have hl := lineT_len g.1 hr
  have hrl := hn.roots
  refine Ev.pos rfl (Ev.bind (spaced_ev g.1 (by omega) hr) ?_)
  rw [show (⟨#[114, 111, 111, 116, 115]⟩ : ByteArray) = ba [114, 111, 111, 116, 115] from rfl, show (⟨#[10]⟩ : ByteArray) = ba [10] from rfl, ba_app, ba_app]
  simp only [ba_size]
  have e : [114, 111, 111, 116, 115] ++ lineT g.1 ++ [10] = rootsT g.1 := by unfold rootsT; rw [List.append_assoc]
  have e2 : (rootsT g.1).length = (lineT g.1).length + 6 := by
    unfold rootsT
    simp only [List.length_append, List.length_cons, List.length_nil]
    omega
  have e1 : ([114, 111, 111, 116, 115] ++ lineT g.1 : List UInt8).length = (lineT g.1).length + 5 := by
    simp only [List.length_append, List.length_cons, List.length_nil]
    omega
  refine Ev.pos (by simp only [List.length_cons, List.length_nil]; omega) (Ev.pos (by rw [e1, List.length_singleton]; omega) ?_)
  rw [e]
  unfold strings_Builder_WriteString.f
  rw [ba_size, if_pos (by rw [List.length_nil]; omega), nums_ba, List.nil_append]
  refine Ev.bindo rfl ?_
  by_cases c2 : g.2.all (fun o => o.2.all inT) = true
  · rw [if_pos c2]
    have := impl_nodes hn c2 0 (Nat.zero_le _) (rootsT g.1) (by omega)
    rw [List.drop_zero] at this
    exact this
  · rw [if_neg c2]
    exact impl_nodes_not hn (Bool.eq_false_iff.2 c2) 0 (Nat.zero_le _) (by rw [List.drop_zero]; exact Bool.eq_false_iff.2 c2) (rootsT g.1) (by omega)
/-! ### the reference -/
theorem spec_roots {g : List Int × List (Int × List Int)} (hn : Nums g) {r : ByteArray} (hf : Ev (fun k => spec_l7Text.p25 k g.1 g.2 (nums (rootsT g.1)) 0) r) : Ev (fun k => spec_l7Text.f k g.1 g.2) r := by
  unfold spec_l7Text.f
  have hrl := hn.roots
  have key : ∀ i, i ≤ g.1.length → ∀ s : List UInt8, s.length ≤ 5 + 22 * i → s ++ (lineT (g.1.drop i) ++ [10]) = rootsT g.1 → Ev (fun k => spec_l7Text.p8 k g.1 g.2 (ba s) (i : Int)) r := by
    refine down ?_ ?_
    · intro s hs e
      refine Ev.step (fun k => by rw [spec_l7Text.p8]) ?_
      rw [List.drop_eq_nil_of_le (Nat.le_refl _), lineT, List.nil_append] at e
      refine Ev.neg (by omega) ?_
      rw [show (⟨#[10]⟩ : ByteArray) = ba [10] from rfl, ba_app, nums_ba, e]
      simp only [ba_size]
      exact Ev.pos (by rw [List.length_singleton]; omega) hf
    · intro i hi ih s hs e
      have hx := hn.rootsIn _ (List.getElem_mem hi)
      have h2 := Lib.itoa_length_le g.1[i] (by omega) (by omega)
      rw [List.drop_eq_getElem_cons hi, lineT] at e
      refine Ev.step (fun k => by rw [spec_l7Text.p8]) ?_
      rw [rd_get hi, w64s (by omega), show (⟨#[32]⟩ : ByteArray) = ba [32] from rfl]
      refine Ev.pos (by omega) (Ev.pos (by rw [ba_size, ba_size, List.length_singleton]; omega) (Ev.pos (by omega) (Ev.pos (by omega) (Ev.bind (l1Dec_ev g.1[i] (by omega) (by omega)) ?_))))
      rw [ba_app, ba_app]
      simp only [ba_size]
      refine Ev.pos (by rw [List.length_append, List.length_singleton]; omega) (ih _ (by rw [List.length_append, List.length_append, List.length_singleton]; omega) ?_)
      rw [← e]
      simp
  exact key 0 (Nat.zero_le _) [114, 111, 111, 116, 115] (by simp) (by rw [List.drop_zero]; rfl)
theorem spec_vals {g : List Int × List (Int × List Int)} (hn : Nums g) {i : Nat} (hi : i < g.2.length) (hv : g.2[i].2.all inT = true) {s : List UInt8} (hs : s.length ≤ 1000 * (i + 1)) {r : ByteArray}
    (hf : Ev (fun k => spec_l7Text.p25 k g.1 g.2 (nums (s ++ nodeT g.2[i])) ((i + 1 : Nat) : Int)) r) : Ev (fun k => spec_l7Text.p40 k g.1 g.2 (nums s) (i : Int) (ba (Lib.itoa g.2[i].1)) 0) r := by
  have hm := List.getElem_mem hi
  have hb := hn.nodes
  have h1 := hn.types _ hm
  have h2 := hn.vals _ hm
  have hg : rdOf (0, []) g.2 (i : Int) = g.2[i] := rdg hi
  generalize g.2[i] = o at *
  have hvv := inT_at hv
  have hln := nodeT_len h1 h2 hv
  have key : ∀ j, j ≤ o.2.length → ∀ t : List UInt8, t ++ (lineT (o.2.drop j) ++ [10]) = nodeT o → Ev (fun k => spec_l7Text.p40 k g.1 g.2 (nums s) (i : Int) (ba t) (j : Int)) r := by
    refine down ?_ ?_
    · intro t e
      refine Ev.step (fun k => by rw [spec_l7Text.p40]) ?_
      rw [List.drop_eq_nil_of_le (Nat.le_refl _), lineT, List.nil_append] at e
      have el : t.length + 1 = (nodeT o).length := by rw [← e, List.length_append]; rfl
      rw [hg, nums_ba, nums_app, show ([10] : List Int) = nums [10] from rfl, nums_app, List.append_assoc, e, w64s (i := i) (by omega)]
      simp only [nums_length]
      exact Ev.pos (by omega) (Ev.pos (by omega) (Ev.neg (by omega) (Ev.pos (by omega) (Ev.pos (by rw [List.length_append]; omega) hf))))
    · intro j hj ih t e
      have hx := hvv _ (List.getElem_mem hj)
      rw [List.drop_eq_getElem_cons hj, lineT] at e
      have el : t.length + 1 + (Lib.itoa o.2[j]).length ≤ (nodeT o).length := by rw [← e]; simp only [List.length_append, List.length_cons]; omega
      refine Ev.step (fun k => by rw [spec_l7Text.p40]) ?_
      rw [hg, rd_get hj, w64s (i := j) (by omega), show (⟨#[32]⟩ : ByteArray) = ba [32] from rfl]
      refine Ev.pos (by omega) (Ev.pos (by omega) (Ev.pos (by omega) (Ev.pos (by rw [ba_size, ba_size, List.length_singleton]; omega) (Ev.pos (by omega) (Ev.pos (by omega) (Ev.pos (by omega) (Ev.pos (by omega) (Ev.bind (l1Dec_ev o.2[j] hx.1 hx.2) ?_))))))))
      rw [ba_app, ba_app]
      simp only [ba_size]
      refine Ev.pos (by rw [List.length_append, List.length_singleton]; omega) (ih _ ?_)
      rw [← e]
      simp
  exact key 0 (Nat.zero_le _) _ (by rw [List.drop_zero]; rfl)
theorem spec_l7Text_ev {g : List Int × List (Int × List Int)} (hn : Nums g) (hg : g.2.all (fun o => o.2.all inT) = true) : Ev (fun k => spec_l7Text.f k g.1 g.2) (ba (graphT g)) := by
  refine spec_roots hn ?_
  have hb := hn.nodes
  have hr : ∀ n ∈ g.1, -9223372036854775808 ≤ n ∧ n ≤ 9223372036854775807 := fun n hx => by have := hn.rootsIn n hx; omega
  have hl := lineT_len g.1 hr
  have hrl := hn.roots
  have key : ∀ i, i ≤ g.2.length → ∀ s : List UInt8, s.length ≤ 1000 * (i + 1) → Ev (fun k => spec_l7Text.p25 k g.1 g.2 (nums s) (i : Int)) (ba (s ++ nodesT (g.2.drop i))) := by
    refine down ?_ ?_
    · intro s _
      refine Ev.step (fun k => by rw [spec_l7Text.p25]) ?_
      rw [List.drop_eq_nil_of_le (Nat.le_refl _), nodesT, List.append_nil, str_nums]
      exact Ev.neg (by omega) (Ev.eq rfl)
    · intro i hi ih s hs
      have hm := List.getElem_mem hi
      have h1 := hn.types _ hm
      have h2 := hn.vals _ hm
      have h3 : g.2[i].2.all inT = true := List.all_eq_true.1 hg _ hm
      have hln := nodeT_len h1 h2 h3
      refine Ev.step (fun k => by rw [spec_l7Text.p25]) ?_
      rw [rdg hi, List.drop_eq_getElem_cons hi, nodesT]
      refine Ev.pos (by omega) (Ev.pos (by omega) (Ev.pos (by omega) (Ev.bind (l1Dec_ev _ (by omega) (by omega)) (spec_vals hn hi h3 hs ?_))))
      refine (ih _ (by rw [List.length_append]; omega)).val ?_
      rw [List.append_assoc]
  have := key 0 (Nat.zero_le _) (rootsT g.1) (by
    unfold rootsT
    simp only [List.length_append, List.length_cons, List.length_nil]
    omega)
  rw [List.drop_zero] at this
  exact this
theorem spec_check {g : List Int × List (Int × List Int)} (hn : Nums g) {r : ByteArray} (h1 : g.2.all (fun o => o.2.all inT) = true → Ev (fun k => spec_l7Text.f k g.1 g.2) r) (h2 : g.2.all (fun o => o.2.all inT) = false → r = ba []) :
    Ev (fun k => spec_GraphText.p14 k g.1 g.2 0) r := by
  have hb := hn.nodes
  have key : ∀ i, i ≤ g.2.length → ((g.2.drop i).all (fun o => o.2.all inT) = true → Ev (fun k => spec_l7Text.f k g.1 g.2) r) → ((g.2.drop i).all (fun o => o.2.all inT) = false → r = ba []) → Ev (fun k => spec_GraphText.p14 k g.1 g.2 (i : Int)) r := by
    refine down ?_ ?_
    · intro a _
      rw [List.drop_eq_nil_of_le (Nat.le_refl _)] at a
      refine Ev.step (fun k => by rw [spec_GraphText.p14]) ?_
      exact Ev.neg (by omega) (Ev.bind (a rfl) (Ev.eq rfl))
    · intro i hi ih a b
      rw [List.drop_eq_getElem_cons hi, List.all_cons] at a b
      have hl := hn.vals _ (List.getElem_mem hi)
      have hg : rdOf (0, []) g.2 (i : Int) = g.2[i] := rdg hi
      refine Ev.step (fun k => by rw [spec_GraphText.p14]) ?_
      refine Ev.pos (by omega) ?_
      generalize g.2[i] = o at *
      have inner : ∀ j, j ≤ o.2.length → ((o.2.drop j).all inT = true → Ev (fun k => spec_GraphText.p14 k g.1 g.2 ((i + 1 : Nat) : Int)) r) → ((o.2.drop j).all inT = false → r = ba []) → Ev (fun k => spec_GraphText.p26 k g.1 g.2 (i : Int) (j : Int)) r := by
        refine down ?_ ?_
        · intro a _
          rw [List.drop_eq_nil_of_le (Nat.le_refl _)] at a
          refine Ev.step (fun k => by rw [spec_GraphText.p26]) ?_
          rw [hg, w64s (i := i) (by omega)]
          exact Ev.pos (by omega) (Ev.pos (by omega) (Ev.neg (by omega) (a rfl)))
        · intro j hj ih a b
          rw [List.drop_eq_getElem_cons hj, List.all_cons] at a b
          refine Ev.step (fun k => by rw [spec_GraphText.p26]) ?_
          rw [hg, rd_get hj, w64s (i := j) (by omega)]
          refine Ev.pos (by omega) (Ev.pos (by omega) (Ev.pos (by omega) (Ev.pos (by omega) (Ev.pos (by omega) (Ev.pos (by omega) (Ev.pos (by omega) (Ev.bindo (l1In_f _ _ _) ?_)))))))
          by_cases c : inT o.2[j] = true
          · rw [c, Bool.true_and] at a b
            exact Ev.pos c (ih a b)
          · rw [Bool.eq_false_iff.2 c, Bool.false_and] at b
            refine Ev.neg c (Ev.eq ?_)
            rw [b rfl]
            rfl
      refine inner 0 (Nat.zero_le _) (fun h => ?_) (fun h => ?_)
      · rw [List.drop_zero] at h
        rw [h, Bool.true_and] at a b
        exact ih a b
      · rw [List.drop_zero] at h
        rw [h, Bool.false_and] at b
        exact b rfl
  exact key 0 (Nat.zero_le _) (by rw [List.drop_zero]; exact h1) (by rw [List.drop_zero]; exact h2)
theorem spec_GraphText_ev (types : List ByteArray) (g : List Int × List (Int × List Int)) (hl : types.length ≤ 1048576) (hs : ∀ x ∈ types, x.size ≤ 1048576) : Ev (fun k => spec_GraphText.f k types g.1 g.2) (graphTextR types g) := by
  unfold spec_GraphText.f graphTextR
  refine Ev.bind (spec_GraphOk_ev types g hl hs) ?_
  by_cases c : graphOk types g = true
  rotate_left
  · rw [Bool.eq_false_iff.2 c]
    exact Ev.neg (by simp) (Ev.eq rfl)
  have hn := nums_of c
  rw [c, if_pos rfl]
  refine Ev.pos rfl (spec_check hn (fun h => ?_) (fun h => ?_))
  · rw [if_pos h]
    exact spec_l7Text_ev hn h
  · rw [if_neg (by rw [h]; simp)]
end Go.Proofs.YtommgpkeicpokaaGreatDoor.Abs.Pu
