/- Reached: the reference and the program tell the same nodes. For at most 2^20 types of at most 2^20 bytes. -/
import Derived.Test.YtommgpkeicpokaaDoorPDisc
import Derived.Test.YtommgpkeicpokaaDoorPPlace
namespace Go.Proofs.YtommgpkeicpokaaDoor.Abs.Pu
open Go Go.RowKit
set_option linter.unusedVariables false
set_option linter.unusedSectionVars false
set_option linter.unusedSimpArgs false
/-- What was found was seen, and once. -/
structure OnceG (n : Nat) (s : StG) : Prop where
  inv : InvG n s
  seen : ∀ x ∈ s.2, 0 ≤ x ∧ s.1.getD x.toNat false = true
  once : s.2.Nodup
theorem OnceG.see {n : Nat} {s : StG} (h : OnceG n s) {v : Int} (hv : isNodeB n v = true) : OnceG n (seeG s v) := by
  have hi := h.inv.see hv
  unfold isNodeB at hv
  simp only [Bool.and_eq_true, decide_eq_true_eq] at hv
  have hl := h.inv.len
  by_cases c : 0 < v ∧ s.1.getD (v - 1).toNat false = false
  · have e : seeG s v = (s.1.set (v - 1).toNat true, s.2 ++ [v - 1]) := by unfold seeG; rw [if_pos c]
    rw [e] at hi ⊢
    have hlt : (v - 1).toNat < s.1.length := by omega
    refine ⟨hi, fun x hx => ?_, ?_⟩
    · simp only [] at hx ⊢
      rw [List.getD_eq_getElem?_getD]
      by_cases hxv : x.toNat = (v - 1).toNat
      · rw [hxv, List.getElem?_set_self hlt]
        refine ⟨?_, rfl⟩
        rcases List.mem_append.1 hx with hx | hx
        · exact (h.seen x hx).1
        · rw [List.mem_singleton.1 hx]; omega
      · rw [List.getElem?_set_ne (fun e => hxv e.symm)]
        rcases List.mem_append.1 hx with hx | hx
        · have := h.seen x hx
          rw [List.getD_eq_getElem?_getD] at this
          exact this
        · rw [List.mem_singleton.1 hx] at hxv
          exact absurd rfl hxv
    · show (s.2 ++ [v - 1]).Nodup
      rw [List.nodup_append]
      refine ⟨h.once, by simp, fun a ha b hb e => ?_⟩
      rw [List.mem_singleton.1 hb] at e
      subst e
      have := (h.seen _ ha).2
      rw [c.2] at this
      cases this
  · have e : seeG s v = s := by unfold seeG; rw [if_neg c]
    rw [e]
    exact h
theorem OnceG.vals {n : Nat} {t : ByteArray} : ∀ (l : List Int) (i : Nat) (s : StG), OnceG n s → refsB (isNodeB n) t i l = true → OnceG n (valsG t i l s)
  | [], _, _, h, _ => h
  | x :: l, i, s, h, hb => by
    rw [refsB] at hb
    rw [valsG]
    split
    · rename_i c
      rw [if_pos c, Bool.and_eq_true] at hb
      exact OnceG.vals l (i + 1) _ (h.see hb.1) hb.2
    · rename_i c
      rw [if_neg c] at hb
      exact OnceG.vals l (i + 1) _ h hb
theorem OnceG.close {types : List ByteArray} {g : List Int × List (Int × List Int)} (hg : GOk types g) : ∀ (n i : Nat) (s : StG), OnceG g.2.length s → OnceG g.2.length (closeG types g.2 n i s)
  | 0, _, _, h => h
  | n + 1, i, s, h => by
    rw [closeG]
    split
    · rename_i hlt
      obtain ⟨x, o, e1, _, _, e2, _, _, _, _, hb⟩ := hg.node h.inv hlt
      unfold nodeAt
      rw [e1, e2]
      exact OnceG.close hg n (i + 1) _ (OnceG.vals o.2 0 s h hb)
    · exact h
theorem OnceG.all {n : Nat} : ∀ (l : List Int) (s : StG), OnceG n s → (∀ x ∈ l, isNodeB n x = true) → OnceG n (l.foldl seeG s)
  | [], _, h, _ => h
  | x :: l, s, h, hx => OnceG.all l _ (h.see (hx x (by simp))) fun y hy => hx y (by simp [hy])
theorem disc_once {types : List ByteArray} {g : List Int × List (Int × List Int)} (hg : GOk types g) : (discG types g).Nodup :=
  (OnceG.close hg 401 0 _ (OnceG.all g.1 _ ⟨InvG.start _, (fun x hx => by cases hx), List.nodup_nil⟩ hg.roots)).once
/-! ### in order -/
theorem same_sorted : ∀ (a b : List Int), (a.Pairwise fun x y => x < y) → (b.Pairwise fun x y => x < y) → (∀ x, x ∈ a ↔ x ∈ b) → a = b
  | [], [], _, _, _ => rfl
  | [], y :: b, _, _, h => absurd ((h y).2 List.mem_cons_self) (by simp)
  | x :: a, [], _, _, h => absurd ((h x).1 List.mem_cons_self) (by simp)
  | x :: a, y :: b, ha, hb, h => by
    rw [List.pairwise_cons] at ha hb
    have e : x = y := by
      rcases List.mem_cons.1 ((h x).1 List.mem_cons_self) with e | e
      · exact e
      · rcases List.mem_cons.1 ((h y).2 List.mem_cons_self) with e' | e'
        · exact e'.symm
        · have := hb.1 x e
          have := ha.1 y e'
          omega
    subst e
    rw [same_sorted a b ha.2 hb.2 fun z => ?_]
    constructor
    · intro hz
      rcases List.mem_cons.1 ((h z).1 (List.mem_cons_of_mem _ hz)) with e | e
      · have := ha.1 z hz; omega
      · exact e
    · intro hz
      rcases List.mem_cons.1 ((h z).2 (List.mem_cons_of_mem _ hz)) with e | e
      · have := hb.1 z hz; omega
      · exact e
/-- The numbers below n that are there. -/
def below (n : Nat) (l : List Int) : List Int := ((List.range n).map fun i : Nat => (i : Int)).filter fun x => decide (x ∈ l)
theorem sort_below {n : Nat} {l : List Int} (h1 : l.Nodup) (h2 : ∀ x ∈ l, 0 ≤ x ∧ x < (n : Int)) : (l.mergeSort fun x y => decide (x ≤ y)) = below n l := by
  refine same_sorted _ _ ?_ ?_ fun x => ?_
  · have s1 := List.pairwise_mergeSort (le := fun x y : Int => decide (x ≤ y)) (fun a b c h1 h2 => by simp at *; omega) (fun a b => by simp; omega) l
    have s2 : (l.mergeSort fun x y => decide (x ≤ y)).Nodup := (List.mergeSort_perm l _).nodup_iff.2 h1
    refine (s1.and s2).imp fun {a b} h => ?_
    have h3 := of_decide_eq_true h.1
    have h4 := h.2
    omega
  · unfold below
    refine List.Pairwise.filter _ ?_
    rw [List.pairwise_map]
    exact (List.pairwise_lt_range).imp fun h => by omega
  · unfold below
    rw [List.mem_mergeSort, List.mem_filter, decide_eq_true_eq, List.mem_map]
    constructor
    · intro hx
      have := h2 x hx
      exact ⟨⟨x.toNat, by rw [List.mem_range]; omega, by omega⟩, hx⟩
    · exact fun h => h.2
def reachedR (types : List ByteArray) (g : List Int × List (Int × List Int)) : List Int := if graphOk types g = true then below g.2.length (discG types g) else []
theorem impl_Reached_ev (types : List ByteArray) (g : List Int × List (Int × List Int)) (hs : ∀ x ∈ types, x.size ≤ 1048576) : Ev (fun k => impl_Reached.f k types g.1 g.2) (reachedR types g) := by
  unfold impl_Reached.f reachedR
  refine Ev.bind (impl_GraphOk_ev types g hs) ?_
  by_cases c : graphOk types g = true
  rotate_left
  · rw [Bool.eq_false_iff.2 c]
    exact Ev.neg (by simp) (Ev.eq rfl)
  have hg := GOk.of c
  rw [c, if_pos rfl]
  obtain ⟨d1, d2⟩ := discG_ok hg
  have hn := hg.nl
  refine Ev.pos rfl (Ev.bind (impl_discovered_ev hg) (Ev.bindo (a := below g.2.length (discG types g)) ?_ (Ev.eq rfl)))
  unfold slices_Sort_int64.f
  rw [if_pos (show (discG types g).length < 4611686018427387904 by omega), sort_below (disc_once hg) d2]
theorem spec_Reached_ev (types : List ByteArray) (g : List Int × List (Int × List Int)) (hl : types.length ≤ 1048576) (hs : ∀ x ∈ types, x.size ≤ 1048576) : Ev (fun k => spec_Reached.f k types g.1 g.2) (reachedR types g) := by
  unfold spec_Reached.f reachedR
  refine Ev.bind (spec_GraphOk_ev types g hl hs) ?_
  by_cases c : graphOk types g = true
  rotate_left
  · rw [Bool.eq_false_iff.2 c]
    exact Ev.neg (by simp) (Ev.eq rfl)
  have hg := GOk.of c
  rw [c, if_pos rfl]
  obtain ⟨d1, d2⟩ := discG_ok hg
  have hn := hg.nl
  refine Ev.pos rfl (Ev.bind (spec_l7Found_ev hg) ?_)
  generalize discG types g = d at *
  have key : ∀ i, i ≤ g.2.length → Ev (fun k => spec_Reached.p18 k g.1 g.2 d (below i d) (i : Int)) (below g.2.length d) := by
    refine down ?_ ?_
    · refine Ev.step (fun k => by rw [spec_Reached.p18]) ?_
      exact Ev.neg (by omega) (Ev.eq rfl)
    · intro i hi ih
      have hb : (below i d).length ≤ i := by
        unfold below
        refine Nat.le_trans (List.length_filter_le _ _) ?_
        simp
      obtain ⟨r, hr, hp⟩ := placeIn_ev d (i : Int) (by omega)
      have e : below (i + 1) d = below i d ++ (if (i : Int) ∈ d then [(i : Int)] else []) := by
        unfold below
        rw [List.range_succ, List.map_append, List.filter_append]
        simp only [List.map_cons, List.map_nil, List.filter_cons, List.filter_nil, decide_eq_true_eq]
      refine Ev.step (fun k => by rw [spec_Reached.p18]) ?_
      rw [w64s (by omega)]
      refine Ev.pos (by omega) (Ev.bind hr ?_)
      rcases hp with ⟨h0, hm⟩ | ⟨h0, hm⟩
      · rw [if_pos hm] at e
        refine Ev.pos (by omega) (Ev.pos (by omega) ?_)
        rw [← e]
        exact ih
      · rw [if_neg hm, List.append_nil] at e
        refine Ev.neg (by omega) ?_
        rw [← e]
        exact ih
  exact key 0 (Nat.zero_le _)
end Go.Proofs.YtommgpkeicpokaaDoor.Abs.Pu
