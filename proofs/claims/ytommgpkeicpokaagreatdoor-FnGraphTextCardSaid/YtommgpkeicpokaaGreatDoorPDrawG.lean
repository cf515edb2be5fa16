/- Drawn graphs: so many roots at most, so many nodes at most, each with at least one value. For codes of at most 2^40 bytes. -/
import Derived.Test.YtommgpkeicpokaaGreatDoorPDrawTypes
import Derived.Test.YtommgpkeicpokaaGreatDoorPDrawSize
import Derived.Test.YtommgpkeicpokaaGreatDoorPLoop
namespace Go.Proofs.YtommgpkeicpokaaGreatDoor.Abs.Pu
open Go Go.RowKit
set_option linter.unusedVariables false
set_option linter.unusedSectionVars false
set_option linter.unusedSimpArgs false
theorem set_snoc (a : List (Int × List Int)) (t : Int) (vs : List Int) : (a ++ ([(t, vs)] : List (Int × List Int))).set a.length (((a ++ ([(t, vs)] : List (Int × List Int))).getD a.length (0, [])).1, vs) = a ++ [(t, vs)] := by
  rw [List.getD_eq_getElem?_getD, List.getElem?_append_right (Nat.le_refl _), Nat.sub_self, List.set_append_right _ _ (Nat.le_refl _), Nat.sub_self]
  rfl
theorem drawGraph_ev {l : List Int} {p : Int} (h : Rd l p) (types : List ByteArray) (h1 : 1 ≤ types.length) (h2 : types.length ≤ 100) (hs : ∀ x ∈ types, 1 ≤ x.size ∧ x.size ≤ 100) (rt : Nat) (hrt : rt ≤ 100) (most : Int) (hm : 1 ≤ most) (hm2 : most ≤ 100) :
    ∃ roots nodes q, Ev (fun k => spec_l1Rd_graph.f k l p types (rt : Int) most) (l, q, types, roots, nodes) ∧ roots.length = rt ∧ (∀ x ∈ roots, 0 ≤ x ∧ x ≤ 100) ∧ 1 ≤ nodes.length ∧ (nodes.length : Int) ≤ most ∧ (∀ o ∈ nodes, 1 ≤ o.2.length ∧ o.2.length ≤ 100) ∧ Rd l q := by
  obtain ⟨n, q0, e0, hn0, hn1, hq0⟩ := size_f h 4 most (by omega) hm (by omega)
  obtain ⟨N, rfl⟩ := Int.eq_ofNat_of_zero_le (show 0 ≤ n by omega)
  have hz : ∀ t : Int, 0 ≤ t → t < types.length → 1 ≤ (rdOf ByteArray.empty types t).size ∧ (rdOf ByteArray.empty types t).size ≤ 100 := fun t ht0 ht1 => by
    obtain ⟨T, rfl⟩ := Int.eq_ofNat_of_zero_le ht0
    rw [rdg (by omega)]
    exact hs _ (List.getElem_mem _)
  have nodesP : ∀ (roots : List Int) (d i : Nat) (nodes : List (Int × List Int)) (p : Int), i + d = N → nodes.length = i → (∀ o ∈ nodes, 1 ≤ o.2.length ∧ o.2.length ≤ 100) → Rd l p → ∃ nodes' q, Ev (fun k => spec_l1Rd_graph.p33 k l p types roots nodes (N : Int) (i : Int)) (l, q, types, roots, nodes') ∧ nodes'.length = N ∧ (∀ o ∈ nodes', 1 ≤ o.2.length ∧ o.2.length ≤ 100) ∧ Rd l q := by
    intro roots d
    induction d with
    | zero =>
      intro i nodes p hi hl hN hp
      refine ⟨nodes, p, Ev.step (fun k => by rw [spec_l1Rd_graph.p33]) ?_, by omega, hN, hp⟩
      exact Ev.neg (by omega) (Ev.eq rfl)
    | succ d ih =>
      intro i nodes p hi hl hN hp
      obtain ⟨t, q, et, ht0, ht1, hq⟩ := below_f hp (types.length : Int) (by omega) (by omega)
      have hz := hz t ht0 ht1
      have vals : ∀ (e j : Nat) (vs : List Int) (p : Int), j + e = (rdOf ByteArray.empty types t).size → vs.length = j → Rd l p → ∃ nodes' q, Ev (fun k => spec_l1Rd_graph.p48 k l p types roots nodes (N : Int) (i : Int) t vs (j : Int)) (l, q, types, roots, nodes') ∧ nodes'.length = N ∧ (∀ o ∈ nodes', 1 ≤ o.2.length ∧ o.2.length ≤ 100) ∧ Rd l q := by
        intro e
        induction e with
        | zero =>
          intro j vs p hj hv hp
          obtain ⟨nodes', q, e2, h1, h2, h3⟩ := ih (i + 1) (nodes ++ [(t, vs)]) p (by omega) (by simp [hl]) (fun o ho => by
            rcases List.mem_append.1 ho with ho | ho
            · exact hN o ho
            · simp only [List.mem_singleton] at ho
              subst ho
              simp only []
              omega) hp
          refine ⟨nodes', q, Ev.step (fun k => by rw [spec_l1Rd_graph.p48]) ?_, h1, h2, h3⟩
          rw [w64s (i := i) (by omega), set_snoc]
          exact Ev.pos ht0 (Ev.pos ht1 (Ev.neg (by omega) (Ev.pos (by omega) e2)))
        | succ e ihe =>
          intro j vs p hj hv hp
          obtain ⟨a, q1, ea, ha0, ha1, hq1⟩ := below_f hp 100 (by omega) (by omega)
          by_cases c : byteAt (rdOf ByteArray.empty types t) (j : Int) = 114
          · obtain ⟨b, q2, eb, hb0, hb1, hq2⟩ := below_f hq1 ((N : Int) + 3) (by omega) (by omega)
            obtain ⟨nodes', q, e2, hr2⟩ := ihe (j + 1) (vs ++ [if wrap64 (b - 2) < 0 then 0 else wrap64 (b - 2)]) q2 (by omega) (by simp [hv]) hq2
            refine ⟨nodes', q, Ev.step (fun k => by rw [spec_l1Rd_graph.p48]) ?_, hr2⟩
            rw [w64s (i := j) (by omega), w64 (x := (N : Int) + 3) (by omega) (by omega)]
            exact Ev.pos ht0 (Ev.pos ht1 (Ev.pos (by omega) (Ev.bindo ea (Ev.pos ht0 (Ev.pos ht1 (Ev.pos (by omega) (Ev.pos (by omega) (Ev.pos c (Ev.bindo eb (Ev.pos (by omega) e2))))))))))
          · obtain ⟨nodes', q, e2, hr2⟩ := ihe (j + 1) (vs ++ [wrap64 (a - 20)]) q1 (by omega) (by simp [hv]) hq1
            refine ⟨nodes', q, Ev.step (fun k => by rw [spec_l1Rd_graph.p48]) ?_, hr2⟩
            rw [w64s (i := j) (by omega)]
            exact Ev.pos ht0 (Ev.pos ht1 (Ev.pos (by omega) (Ev.bindo ea (Ev.pos ht0 (Ev.pos ht1 (Ev.pos (by omega) (Ev.pos (by omega) (Ev.neg c (Ev.pos (by omega) e2)))))))))
      obtain ⟨nodes', q2, e2, hr2⟩ := vals _ 0 [] q (Nat.zero_add _) rfl hq
      refine ⟨nodes', q2, Ev.step (fun k => by rw [spec_l1Rd_graph.p33]) ?_, hr2⟩
      exact Ev.pos (by omega) (Ev.bindo et e2)
  have rootsP : ∀ (d i : Nat) (roots : List Int) (p : Int), i + d = rt → roots.length = i → (∀ x ∈ roots, 0 ≤ x ∧ x ≤ 100) → Rd l p → ∃ roots' nodes q, Ev (fun k => spec_l1Rd_graph.p10 k l p types (rt : Int) roots (N : Int) (i : Int)) (l, q, types, roots', nodes) ∧ roots'.length = rt ∧ (∀ x ∈ roots', 0 ≤ x ∧ x ≤ 100) ∧ nodes.length = N ∧ (∀ o ∈ nodes, 1 ≤ o.2.length ∧ o.2.length ≤ 100) ∧ Rd l q := by
    intro d
    induction d with
    | zero =>
      intro i roots p hi hl hr hp
      obtain ⟨nodes, q, e, h1, h2, h3⟩ := nodesP roots N 0 [] p (Nat.zero_add _) rfl (fun o h => by cases h) hp
      refine ⟨roots, nodes, q, Ev.step (fun k => by rw [spec_l1Rd_graph.p10]) ?_, by omega, hr, h1, h2, h3⟩
      exact Ev.neg (by omega) e
    | succ d ih =>
      intro i roots p hi hl hr hp
      have snoc : ∀ v : Int, 0 ≤ v → v ≤ 100 → ∀ x ∈ roots ++ [v], 0 ≤ x ∧ x ≤ 100 := fun v hv hv2 x hx => by
        rcases List.mem_append.1 hx with hx | hx
        · exact hr x hx
        · simp only [List.mem_singleton] at hx
          omega
      obtain ⟨o, q, eo, hq⟩ := once_f hp 2 (by omega) (by omega)
      cases o with
      | true =>
        obtain ⟨v, q2, ev, hv0, hv1, hq2⟩ := below_f hq (N : Int) (by omega) (by omega)
        have hw : wrap64 (1 + v) = 1 + v := w64 (by omega) (by omega)
        obtain ⟨roots', nodes, q3, e3, hr3⟩ := ih (i + 1) (roots ++ [1 + v]) q2 (by omega) (by simp [hl]) (snoc _ (by omega) (by omega)) hq2
        rw [← hw] at e3
        refine ⟨roots', nodes, q3, Ev.step (fun k => by rw [spec_l1Rd_graph.p10]) ?_, hr3⟩
        clear hw snoc
        rw [w64s (i := i) (by omega)]
        exact Ev.pos (by omega) (Ev.bindo eo (Ev.pos rfl (Ev.bindo ev (Ev.pos (by omega) e3))))
      | false =>
        obtain ⟨roots', nodes, q3, e3, hr3⟩ := ih (i + 1) (roots ++ [0]) q (by omega) (by simp [hl]) (snoc _ (by omega) (by omega)) hq
        refine ⟨roots', nodes, q3, Ev.step (fun k => by rw [spec_l1Rd_graph.p10]) ?_, hr3⟩
        rw [w64s (i := i) (by omega)]
        exact Ev.pos (by omega) (Ev.bindo eo (Ev.neg (by simp) (Ev.pos (by omega) e3)))
  obtain ⟨roots, nodes, q, e, h3, h4, h5, h6, h7⟩ := rootsP rt 0 [] q0 (Nat.zero_add _) rfl (fun x h => by cases h) hq0
  refine ⟨roots, nodes, q, ?_, h3, h4, by omega, by omega, h6, h7⟩
  unfold spec_l1Rd_graph.f
  exact Ev.bindo e0 e
theorem hurtGraph_ev {l : List Int} {p : Int} (h : Rd l p) (r : List Int) (n : List (Int × List Int)) (hr : r.length ≤ 100) (h1 : 1 ≤ n.length) (h2 : n.length ≤ 100) (ho : ∀ o ∈ n, 1 ≤ o.2.length ∧ o.2.length ≤ 100) :
    ∃ r' n' q, Ev (fun k => spec_l1Rd_hurtGraph.f k l p r n) (l, q, r', n') ∧ r'.length ≤ 200 ∧ n'.length = n.length ∧ (∀ o ∈ n', o.2.length ≤ 200) ∧ Rd l q := by
  have ho2 : ∀ o ∈ n, o.2.length ≤ 200 := fun o hx => by have := ho o hx; omega
  obtain ⟨at_, q0, e0, ha0, ha1, hq0⟩ := below_f h (n.length : Int) (by omega) (by omega)
  obtain ⟨A, rfl⟩ := Int.eq_ofNat_of_zero_le ha0
  have hA : A < n.length := by omega
  obtain ⟨b, q1, e1, hb0, hb1, hq1⟩ := below_f hq0 24 (by omega) (by omega)
  have hel := ho _ (List.getElem_mem hA)
  have hset : ∀ y : Int × List Int, y.2.length ≤ 200 → ∀ o ∈ n.set A y, o.2.length ≤ 200 := fun y hy o hx => by
    rcases List.mem_or_eq_of_mem_set hx with hx | rfl
    · exact ho2 o hx
    · exact hy
  have hrd : rdOf (0, []) n (A : Int) = n[A] := rdg hA
  unfold spec_l1Rd_hurtGraph.f
  by_cases c0 : b = 0
  · obtain ⟨v, q, e2, _, _, hq⟩ := off_ev hq1 0 (n.length : Int) (by omega) (by omega) (by omega) (by omega)
    exact ⟨_, _, q, Ev.bindo e0 (Ev.bindo e1 (Ev.pos c0 (Ev.bind e2 (Ev.pos (by omega) (Ev.eq rfl))))), by rw [List.length_append, List.length_singleton]; omega, rfl, ho2, hq⟩
  by_cases c1 : b = 1
  · obtain ⟨v, q, e2, _, _, hq⟩ := off_ev hq1 0 2 (by omega) (by omega) (by omega) (by omega)
    refine ⟨_, _, q, Ev.bindo e0 (Ev.bindo e1 (Ev.neg c0 (Ev.pos c1 (Ev.bind e2 (Ev.pos ha0 (Ev.pos ha1 (Ev.eq rfl))))))), by omega, by rw [List.length_set], ?_, hq⟩
    rw [hrd]
    exact hset _ (by simp only []; omega)
  by_cases c2 : b = 2
  · refine ⟨_, _, q1, Ev.bindo e0 (Ev.bindo e1 (Ev.neg c0 (Ev.neg c1 (Ev.pos c2 (Ev.pos ha0 (Ev.pos ha1 (Ev.pos (by rw [hrd]; omega) (Ev.pos ha0 (Ev.pos ha1 (Ev.pos rfl (Ev.eq rfl))))))))))), by omega, by rw [List.length_set], ?_, hq1⟩
    rw [hrd]
    exact hset _ (by simp only [List.length_append, List.length_singleton]; omega)
  by_cases c3 : b = 3
  · obtain ⟨v, q, e2, _, _, hq⟩ := off_ev hq1 0 (n.length : Int) (by omega) (by omega) (by omega) (by omega)
    refine ⟨_, _, q, Ev.bindo e0 (Ev.bindo e1 (Ev.neg c0 (Ev.neg c1 (Ev.neg c2 (Ev.pos c3 (Ev.pos ha0 (Ev.pos ha1 (Ev.bind e2 (Ev.pos (by rw [hrd]; omega) (Ev.eq rfl)))))))))), by omega, by rw [List.length_set], ?_, hq⟩
    rw [hrd]
    exact hset _ (by simp only [List.length_set]; omega)
  by_cases c4 : b = 4
  · obtain ⟨v, q, e2, _, _, hq⟩ := off_ev hq1 (-999999999999999) 999999999999999 (by omega) (by omega) (by omega) (by omega)
    refine ⟨_, _, q, Ev.bindo e0 (Ev.bindo e1 (Ev.neg c0 (Ev.neg c1 (Ev.neg c2 (Ev.neg c3 (Ev.pos c4 (Ev.pos ha0 (Ev.pos ha1 (Ev.bind e2 (Ev.pos (by rw [hrd]; omega) (Ev.eq rfl))))))))))), by omega, by rw [List.length_set], ?_, hq⟩
    rw [hrd]
    exact hset _ (by simp only [List.length_set]; omega)
  by_cases c5 : b = 5
  · have hmod := tmod_range ha0 (show (0 : Int) < 3 by omega)
    have lp : ∀ (d i : Nat) (r : List Int), i + d = 42 → r.length ≤ 100 + i → ∃ r', Ev (fun k => spec_l1Rd_hurtGraph.p34 k l q1 r n (A : Int) (i : Int)) (l, q1, r', n) ∧ r'.length ≤ 200 := by
      intro d
      induction d with
      | zero =>
        intro i r hi hl
        refine ⟨r, Ev.step (fun k => by rw [spec_l1Rd_hurtGraph.p34]) ?_, by omega⟩
        exact Ev.neg (by omega) (Ev.eq rfl)
      | succ d ih =>
        intro i r hi hl
        by_cases c : (r.length : Int) < wrap64 (39 + Int.tmod (A : Int) 3)
        · obtain ⟨r', e2, hr⟩ := ih (i + 1) (r ++ [1]) (by omega) (by rw [List.length_append, List.length_singleton]; omega)
          refine ⟨r', Ev.step (fun k => by rw [spec_l1Rd_hurtGraph.p34]) ?_, hr⟩
          rw [w64s (i := i) (by omega)]
          exact Ev.pos (by omega) (Ev.pos c (Ev.pos (by omega) e2))
        · refine ⟨r, Ev.step (fun k => by rw [spec_l1Rd_hurtGraph.p34]) ?_, by omega⟩
          exact Ev.pos (by omega) (Ev.neg c (Ev.eq rfl))
    obtain ⟨r', e2, hr'⟩ := lp 42 0 r rfl (by omega)
    exact ⟨r', n, q1, Ev.bindo e0 (Ev.bindo e1 (Ev.neg c0 (Ev.neg c1 (Ev.neg c2 (Ev.neg c3 (Ev.neg c4 (Ev.pos c5 e2))))))), hr', rfl, ho2, hq1⟩
  · exact ⟨r, n, q1, Ev.bindo e0 (Ev.bindo e1 (Ev.neg c0 (Ev.neg c1 (Ev.neg c2 (Ev.neg c3 (Ev.neg c4 (Ev.neg c5 (Ev.eq rfl)))))))), by omega, rfl, ho2, hq1⟩
end Go.Proofs.YtommgpkeicpokaaGreatDoor.Abs.Pu
