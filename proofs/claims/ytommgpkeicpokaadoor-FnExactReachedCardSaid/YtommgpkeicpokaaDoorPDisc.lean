/- The discovery of a graph's nodes: the reference and the program find the same, in the same order. For valid graphs. -/
import Derived.Test.YtommgpkeicpokaaDoorPGraphOk
namespace Go.Proofs.YtommgpkeicpokaaDoor.Abs.Pu
open Go Go.RowKit
set_option linter.unusedVariables false
set_option linter.unusedSectionVars false
set_option linter.unusedSimpArgs false
abbrev StG := List Bool × List Int
def seeG (s : StG) (v : Int) : StG := if 0 < v ∧ s.1.getD (v - 1).toNat false = false then (s.1.set (v - 1).toNat true, s.2 ++ [v - 1]) else s
def valsG (t : ByteArray) : Nat → List Int → StG → StG
  | _, [], s => s
  | i, x :: l, s => if bt t (i : Int) = 114 then valsG t (i + 1) l (seeG s x) else valsG t (i + 1) l s
def nodeAt (nodes : List (Int × List Int)) (x : Int) : Int × List Int := rdOf (0, []) nodes x
def closeG (types : List ByteArray) (nodes : List (Int × List Int)) : Nat → Nat → StG → StG
  | 0, _, s => s
  | d + 1, i, s => if i < s.2.length then closeG types nodes d (i + 1) (valsG (rdOf ByteArray.empty types (nodeAt nodes (rd s.2 (i : Int))).1) 0 (nodeAt nodes (rd s.2 (i : Int))).2 s) else s
def discG (types : List ByteArray) (g : List Int × List (Int × List Int)) : List Int := (closeG types g.2 401 0 (g.1.foldl seeG (List.replicate g.2.length false, []))).2
structure InvG (n : Nat) (s : StG) : Prop where
  len : s.1.length = n
  cnt : s.2.length + s.1.count false = n
  ok : ∀ x ∈ s.2, 0 ≤ x ∧ x < (n : Int)
theorem InvG.start (n : Nat) : InvG n (List.replicate n false, []) := ⟨by simp, by simp, fun x hx => by cases hx⟩
theorem InvG.le {n : Nat} {s : StG} (h : InvG n s) : s.2.length ≤ n := by have := h.cnt; omega
theorem count_set : ∀ (l : List Bool) (i : Nat), l.getD i false = false → i < l.length → (l.set i true).count false + 1 = l.count false
  | [], i, _, h => by simp at h
  | b :: l, 0, hb, _ => by
    have : b = false := by simpa using hb
    subst this
    simp
  | b :: l, i + 1, hb, h => by
    have ih := count_set l i (by simpa using hb) (by simpa using h)
    simp only [List.set_cons_succ, List.count_cons]
    omega
theorem InvG.see {n : Nat} {s : StG} (h : InvG n s) {v : Int} (hv : isNodeB n v = true) : InvG n (seeG s v) := by
  unfold isNodeB at hv
  simp only [Bool.and_eq_true, decide_eq_true_eq] at hv
  unfold seeG
  split
  · rename_i c
    have hl := h.len
    have hc := h.cnt
    have := count_set s.1 (v - 1).toNat c.2 (by omega)
    refine ⟨by simp only [List.length_set]; exact hl, by simp only [List.length_append, List.length_singleton]; omega, fun x hx => ?_⟩
    rcases List.mem_append.1 hx with hx | hx
    · exact h.ok x hx
    · rw [List.mem_singleton.1 hx]; omega
  · exact h
theorem InvG.vals {n : Nat} {t : ByteArray} : ∀ (l : List Int) (i : Nat) (s : StG), InvG n s → refsB (isNodeB n) t i l = true → InvG n (valsG t i l s)
  | [], _, _, h, _ => h
  | x :: l, i, s, h, hb => by
    rw [refsB] at hb
    rw [valsG]
    split
    · rename_i c
      rw [if_pos c, Bool.and_eq_true] at hb
      exact InvG.vals l (i + 1) _ (h.see hb.1) hb.2
    · rename_i c
      rw [if_neg c] at hb
      exact InvG.vals l (i + 1) _ h hb
/-- What is known of a valid graph. -/
structure GOk (types : List ByteArray) (g : List Int × List (Int × List Int)) : Prop where
  ty : typesOk types = true
  rl : g.1.length ≤ 40
  nl : g.2.length ≤ 400
  roots : ∀ x ∈ g.1, isNodeB g.2.length x = true
  nodes : ∀ o ∈ g.2, objW (isNodeB g.2.length) types o = true
theorem GOk.of {types : List ByteArray} {g : List Int × List (Int × List Int)} (h : graphOk types g = true) : GOk types g := by
  unfold graphOk at h
  simp only [Bool.and_eq_true, decide_eq_true_eq, List.all_eq_true] at h
  exact ⟨h.1, h.2.1, h.2.2.1, h.2.2.2.1, h.2.2.2.2⟩
/-- A node that was found. -/
theorem GOk.node {types : List ByteArray} {g : List Int × List (Int × List Int)} (h : GOk types g) {s : StG} (hi : InvG g.2.length s) {i : Nat} (hlt : i < s.2.length) :
    ∃ x o, rd s.2 (i : Int) = x ∧ 0 ≤ x ∧ x < (g.2.length : Int) ∧ rdOf (0, []) g.2 x = o ∧ 0 ≤ o.1 ∧ o.1 < (types.length : Int) ∧ o.2.length = (rdOf ByteArray.empty types o.1).size ∧ o.2.length ≤ 23 ∧ refsB (isNodeB g.2.length) (rdOf ByteArray.empty types o.1) 0 o.2 = true := by
  have hx := hi.ok s.2[i] (List.getElem_mem hlt)
  have hm : rdOf (0, []) g.2 s.2[i] ∈ g.2 := by
    unfold rdOf
    rw [List.getD_eq_getElem?_getD, List.getElem?_eq_getElem (by omega)]
    exact List.getElem_mem _
  have ho := h.nodes _ hm
  unfold objW at ho
  simp only [Bool.and_eq_true, decide_eq_true_eq] at ho
  have hts := type_size h.ty (rdOf (0, []) g.2 s.2[i]).1
  refine ⟨s.2[i], _, rd_get hlt, hx.1, hx.2, rfl, ho.1.1, by have := ho.1.2; omega, ho.2.1, by have := ho.2.1; omega, ho.2.2⟩
/-! ### the program -/
theorem see1_ev {n : Nat} {s : StG} (h : InvG n s) (hn : n ≤ 400) {v : Int} (hv : isNodeB n v = true) : Ev (fun k => impl_discovered_1.f k v s.1 s.2) (seeG s v) := by
  have hl := h.len
  have hle := h.le
  unfold isNodeB at hv
  simp only [Bool.and_eq_true, decide_eq_true_eq] at hv
  have hw : wrap64 (v - 1) = v - 1 := w64 (by omega) (by omega)
  have hwp : ∀ b : Bool, (b = true → 0 < v ∧ s.1.getD (v - 1).toNat false = false) → (b = false → ¬ (0 < v ∧ s.1.getD (v - 1).toNat false = false)) → Ev (fun k => impl_discovered_1.p2 k s.1 s.2 v b) (seeG s v) := by
    intro b ht hf
    refine Ev.step (fun k => by rw [impl_discovered_1.p2]) ?_
    rw [hw]
    unfold seeG
    cases b with
    | true =>
      have := ht rfl
      rw [if_pos this]
      exact Ev.pos rfl (Ev.pos (by omega) (Ev.pos (by omega) (Ev.pos (by omega) (Ev.eq rfl))))
    | false =>
      rw [if_neg (hf rfl)]
      exact Ev.neg (by simp) (Ev.eq rfl)
  unfold impl_discovered_1.f
  rw [hw]
  by_cases c : v > 0
  · refine Ev.pos c (Ev.pos (by omega) (Ev.pos (by omega) (hwp _ (fun hb => ⟨c, ?_⟩) (fun hb hc => ?_))))
    · unfold rdOf at hb
      simpa using hb
    · unfold rdOf at hb
      rw [hc.2] at hb
      cases hb
  · exact Ev.neg c (hwp false (fun h => by cases h) (fun _ h => by omega))
theorem impl_discovered_ev {types : List ByteArray} {g : List Int × List (Int × List Int)} (hg : GOk types g) : Ev (fun k => impl_discovered.f k types g.1 g.2) (discG types g) := by
  have hn := hg.nl
  have hrl := hg.rl
  have l1 : ∀ (n i : Nat) (s : StG), InvG g.2.length s → 401 ≤ i + n → i ≤ 401 → Ev (fun k => impl_discovered.p29 k types g.1 g.2 s.2 s.1 (i : Int)) (closeG types g.2 n i s).2 := by
    intro n
    induction n with
    | zero =>
      intro i s h hi hi2
      have hlen := h.le
      refine Ev.step (fun k => by rw [impl_discovered.p29]) ?_
      exact Ev.neg (by omega) (Ev.eq rfl)
    | succ n ih =>
      intro i s h hi hi2
      have hlen := h.le
      refine Ev.step (fun k => by rw [impl_discovered.p29]) ?_
      rw [closeG]
      by_cases c : i < s.2.length
      · obtain ⟨x, o, e, x0, x1, eo, o0, o1, ol, ol2, hb⟩ := hg.node h c
        rw [if_pos c]
        unfold nodeAt
        rw [e, eo]
        refine Ev.pos (by omega) (Ev.pos (by omega) (Ev.pos (by omega) (Ev.pos x0 (Ev.pos x1 ?_))))
        have l2 : ∀ j, j ≤ o.2.length → ∀ s, InvG g.2.length s → refsB (isNodeB g.2.length) (rdOf ByteArray.empty types o.1) j (o.2.drop j) = true → Ev (fun k => impl_discovered.p43 k types g.1 g.2 s.2 s.1 (i : Int) o.1 o.2 o.2 (o.2.length : Int) (j : Int)) (closeG types g.2 n (i + 1) (valsG (rdOf ByteArray.empty types o.1) j (o.2.drop j) s)).2 := by
          refine down ?_ ?_
          · intro s h _
            rw [List.drop_eq_nil_of_le (Nat.le_refl _), valsG]
            refine Ev.step (fun k => by rw [impl_discovered.p43]) ?_
            rw [w64s (i := i) (by omega)]
            exact Ev.neg (by omega) (ih (i + 1) s h (by omega) (by omega))
          · intro j hj ihj s h hb
            rw [List.drop_eq_getElem_cons hj, refsB] at hb
            rw [List.drop_eq_getElem_cons hj, valsG]
            refine Ev.step (fun k => by rw [impl_discovered.p43]) ?_
            rw [rd_get hj, w64s (i := j) (by omega)]
            refine Ev.pos (by omega) (Ev.pos (by omega) (Ev.pos (by omega) (Ev.pos o0 (Ev.pos o1 (Ev.pos (by omega) (Ev.pos (by omega) ?_))))))
            by_cases c1 : bt (rdOf ByteArray.empty types o.1) (j : Int) = 114
            · rw [if_pos c1, Bool.and_eq_true] at hb
              rw [if_pos c1]
              exact Ev.pos c1 (Ev.bind (see1_ev h hn hb.1) (ihj _ (h.see hb.1) hb.2))
            · rw [if_neg c1] at hb
              rw [if_neg c1]
              exact Ev.neg c1 (ihj _ h hb)
        have := l2 0 (Nat.zero_le _) s h (by rw [List.drop_zero]; exact hb)
        rw [List.drop_zero] at this
        exact this
      · rw [if_neg c]
        exact Ev.neg (by omega) (Ev.eq rfl)
  have l0 : ∀ j, j ≤ g.1.length → ∀ s, InvG g.2.length s → Ev (fun k => impl_discovered.p12 k types g.1 g.2 s.2 s.1 g.1 (g.1.length : Int) (j : Int)) (closeG types g.2 401 0 ((g.1.drop j).foldl seeG s)).2 := by
    refine down ?_ ?_
    · intro s h
      rw [List.drop_eq_nil_of_le (Nat.le_refl _), List.foldl_nil]
      refine Ev.step (fun k => by rw [impl_discovered.p12]) ?_
      exact Ev.neg (by omega) (l1 401 0 s h (by omega) (by omega))
    · intro j hj ih s h
      rw [List.drop_eq_getElem_cons hj, List.foldl_cons]
      have hr := hg.roots _ (List.getElem_mem hj)
      refine Ev.step (fun k => by rw [impl_discovered.p12]) ?_
      rw [rd_get hj, w64s (i := j) (by omega)]
      exact Ev.pos (by omega) (Ev.pos (by omega) (Ev.pos (by omega) (Ev.bind (see1_ev h hn hr) (ih _ (h.see hr)))))
  unfold impl_discovered.f discG
  rw [Int.toNat_natCast]
  refine Ev.pos (by omega) (Ev.pos (by omega) ?_)
  have := l0 0 (Nat.zero_le _) _ (InvG.start g.2.length)
  rw [List.drop_zero] at this
  exact this
/-! ### the reference -/
/-- What the reference asks of a number. -/
theorem seeG_at {n : Nat} (hn : n ≤ 400) {s : StG} (h : InvG n s) {v : Int} (hv : isNodeB n v = true) (c : wrap64 (v - 1) ≥ 0) : 0 ≤ wrap64 (v - 1) ∧ wrap64 (v - 1) < (s.1.length : Int) ∧ ((!(rdOf false s.1 (wrap64 (v - 1)))) = true → seeG s v = (s.1.set (wrap64 (v - 1)).toNat true, s.2 ++ [wrap64 (v - 1)])) ∧ ((!(rdOf false s.1 (wrap64 (v - 1)))) = false → seeG s v = s) := by
  have hl := h.len
  unfold isNodeB at hv
  simp only [Bool.and_eq_true, decide_eq_true_eq] at hv
  have hw : wrap64 (v - 1) = v - 1 := w64 (by omega) (by omega)
  rw [hw] at c ⊢
  refine ⟨c, by omega, fun hb => ?_, fun hb => ?_⟩
  · unfold seeG rdOf at *
    rw [if_pos ⟨by omega, by simpa using hb⟩]
  · unfold seeG rdOf at *
    rw [if_neg (fun hc => by rw [hc.2] at hb; cases hb)]
theorem seeG_no {n : Nat} (hn : n ≤ 400) {s : StG} {v : Int} (hv : isNodeB n v = true) (c : ¬ wrap64 (v - 1) ≥ 0) : seeG s v = s := by
  unfold isNodeB at hv
  simp only [Bool.and_eq_true, decide_eq_true_eq] at hv
  have hw : wrap64 (v - 1) = v - 1 := w64 (by omega) (by omega)
  rw [hw] at c
  unfold seeG
  rw [if_neg (fun h => c (by omega))]
theorem spec_l7Found_ev {types : List ByteArray} {g : List Int × List (Int × List Int)} (hg : GOk types g) : Ev (fun k => spec_l7Found.f k types g.1 g.2) (discG types g) := by
  have hn := hg.nl
  have hrl := hg.rl
  have l1 : ∀ (n i : Nat) (s : StG), InvG g.2.length s → 401 ≤ i + n → i ≤ 401 → Ev (fun k => spec_l7Found.p33 k types g.1 g.2 s.2 s.1 (i : Int)) (closeG types g.2 n i s).2 := by
    intro n
    induction n with
    | zero =>
      intro i s h hi hi2
      have hlen := h.le
      refine Ev.step (fun k => by rw [spec_l7Found.p33]) ?_
      exact Ev.neg (by omega) (Ev.eq rfl)
    | succ n ih =>
      intro i s h hi hi2
      have hlen := h.le
      refine Ev.step (fun k => by rw [spec_l7Found.p33]) ?_
      rw [closeG]
      by_cases c : i < s.2.length
      · obtain ⟨x, o, e, x0, x1, eo, o0, o1, ol, ol2, hb⟩ := hg.node h c
        rw [if_pos c]
        unfold nodeAt
        rw [e, eo]
        refine Ev.pos (by omega) (Ev.pos (by omega) (Ev.pos (by omega) (Ev.pos x0 (Ev.pos x1 ?_))))
        have l2 : ∀ j, j ≤ o.2.length → ∀ s, InvG g.2.length s → refsB (isNodeB g.2.length) (rdOf ByteArray.empty types o.1) j (o.2.drop j) = true → Ev (fun k => spec_l7Found.p47 k types g.1 g.2 s.2 s.1 (i : Int) o.1 o.2 (j : Int)) (closeG types g.2 n (i + 1) (valsG (rdOf ByteArray.empty types o.1) j (o.2.drop j) s)).2 := by
          refine down ?_ ?_
          · intro s h _
            rw [List.drop_eq_nil_of_le (Nat.le_refl _), valsG]
            refine Ev.step (fun k => by rw [spec_l7Found.p47]) ?_
            rw [w64s (i := i) (by omega)]
            exact Ev.neg (by omega) (ih (i + 1) s h (by omega) (by omega))
          · intro j hj ihj s h hb
            have hle := h.le
            have a1 : (j : Int) < (o.2.length : Int) := by omega
            have a2 : (0 : Int) ≤ (j : Int) := by omega
            have a3 : (j : Int) < ((rdOf ByteArray.empty types o.1).size : Int) := by omega
            have a4 : s.2.length + 1 ≤ 17592186044416 := by omega
            have ew : wrap64 ((j : Int) + 1) = ((j + 1 : Nat) : Int) := w64s (by omega)
            rw [List.drop_eq_getElem_cons hj, refsB] at hb
            rw [List.drop_eq_getElem_cons hj, valsG]
            refine Ev.step (fun k => by rw [spec_l7Found.p47]) ?_
            rw [rd_get hj, ew]
            refine Ev.pos a1 (Ev.pos o0 (Ev.pos o1 (Ev.pos a2 (Ev.pos a3 ?_))))
            by_cases c1 : bt (rdOf ByteArray.empty types o.1) (j : Int) = 114
            · rw [if_pos c1, Bool.and_eq_true] at hb
              rw [if_pos c1]
              have hs := h.see hb.1
              refine Ev.pos c1 (Ev.pos a2 (Ev.pos a1 ?_))
              generalize o.2[j] = v at *
              refine Ev.cases (fun c2 => ?_) (fun c2 => ?_)
              · obtain ⟨b1, b2, b3, b4⟩ := seeG_at hn h hb.1 c2
                refine Ev.pos b1 (Ev.pos b2 (Ev.step (fun k => by rw [spec_l7Found.p66]) ?_))
                rw [ew]
                generalize (!(rdOf false s.1 (wrap64 (v - 1)))) = b at *
                cases b with
                | true =>
                  rw [b3 rfl] at hs ⊢
                  exact Ev.pos rfl (Ev.pos b1 (Ev.pos b2 (Ev.pos a4 (ihj _ hs hb.2))))
                | false =>
                  rw [b4 rfl]
                  exact Ev.neg (by simp) (ihj _ h hb.2)
              · refine Ev.step (fun k => by rw [spec_l7Found.p66]) ?_
                rw [ew, seeG_no hn hb.1 c2]
                exact Ev.neg (by simp) (ihj _ h hb.2)
            · rw [if_neg c1] at hb
              rw [if_neg c1]
              exact Ev.neg c1 (ihj _ h hb)
        have := l2 0 (Nat.zero_le _) s h (by rw [List.drop_zero]; exact hb)
        rw [List.drop_zero] at this
        exact this
      · rw [if_neg c]
        exact Ev.neg (by omega) (Ev.eq rfl)
  have l0 : ∀ j, j ≤ g.1.length → ∀ s, InvG g.2.length s → Ev (fun k => spec_l7Found.p10 k types g.1 g.2 s.2 s.1 (j : Int)) (closeG types g.2 401 0 ((g.1.drop j).foldl seeG s)).2 := by
    refine down ?_ ?_
    · intro s h
      rw [List.drop_eq_nil_of_le (Nat.le_refl _), List.foldl_nil]
      refine Ev.step (fun k => by rw [spec_l7Found.p10]) ?_
      exact Ev.neg (by omega) (l1 401 0 s h (by omega) (by omega))
    · intro j hj ih s h
      have hle := h.le
      have a1 : (j : Int) < (g.1.length : Int) := by omega
      have a2 : (0 : Int) ≤ (j : Int) := by omega
      have a4 : s.2.length + 1 ≤ 17592186044416 := by omega
      have ew : wrap64 ((j : Int) + 1) = ((j + 1 : Nat) : Int) := w64s (by omega)
      rw [List.drop_eq_getElem_cons hj, List.foldl_cons]
      have hr := hg.roots _ (List.getElem_mem hj)
      have hs := h.see hr
      refine Ev.step (fun k => by rw [spec_l7Found.p10]) ?_
      rw [rd_get hj]
      generalize g.1[j] = v at *
      refine Ev.pos a1 (Ev.pos a2 (Ev.pos a1 (Ev.cases (fun c2 => ?_) (fun c2 => ?_))))
      · obtain ⟨b1, b2, b3, b4⟩ := seeG_at hn h hr c2
        refine Ev.pos b1 (Ev.pos b2 (Ev.step (fun k => by rw [spec_l7Found.p23]) ?_))
        rw [ew]
        generalize (!(rdOf false s.1 (wrap64 (v - 1)))) = b at *
        cases b with
        | true =>
          rw [b3 rfl] at hs ⊢
          exact Ev.pos rfl (Ev.pos b1 (Ev.pos b2 (Ev.pos a4 (ih _ hs))))
        | false =>
          rw [b4 rfl]
          exact Ev.neg (by simp) (ih _ h)
      · refine Ev.step (fun k => by rw [spec_l7Found.p23]) ?_
        rw [ew, seeG_no hn hr c2]
        exact Ev.neg (by simp) (ih _ h)
  unfold spec_l7Found.f discG
  rw [Int.toNat_natCast]
  refine Ev.pos (by omega) (Ev.pos (by omega) ?_)
  have := l0 0 (Nat.zero_le _) _ (InvG.start g.2.length)
  rw [List.drop_zero] at this
  exact this
/-- What is found are nodes, at most as many as there are. -/
theorem closeG_inv {types : List ByteArray} {g : List Int × List (Int × List Int)} (hg : GOk types g) : ∀ (n i : Nat) (s : StG), InvG g.2.length s → InvG g.2.length (closeG types g.2 n i s)
  | 0, _, _, h => h
  | n + 1, i, s, h => by
    rw [closeG]
    split
    · rename_i c
      obtain ⟨x, o, e, x0, x1, eo, o0, o1, ol, ol2, hb⟩ := hg.node h c
      unfold nodeAt
      rw [e, eo]
      exact closeG_inv hg n (i + 1) _ (h.vals _ 0 s hb)
    · exact h
theorem seeAllG_inv {n : Nat} : ∀ (l : List Int) (s : StG), InvG n s → (∀ x ∈ l, isNodeB n x = true) → InvG n (l.foldl seeG s)
  | [], _, h, _ => h
  | x :: l, s, h, hl => seeAllG_inv l _ (h.see (hl x (by simp))) (fun y hy => hl y (by simp [hy]))
theorem discG_ok {types : List ByteArray} {g : List Int × List (Int × List Int)} (hg : GOk types g) : (discG types g).length ≤ g.2.length ∧ ∀ x ∈ discG types g, 0 ≤ x ∧ x < (g.2.length : Int) := by
  have := closeG_inv hg 401 0 _ (seeAllG_inv g.1 _ (InvG.start _) hg.roots)
  exact ⟨this.le, this.ok⟩
end Go.Proofs.YtommgpkeicpokaaDoor.Abs.Pu
