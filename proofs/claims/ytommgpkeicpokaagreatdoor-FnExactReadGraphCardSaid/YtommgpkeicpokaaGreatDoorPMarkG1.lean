/- The laws' marks on graphs whose nodes' values are rows from the second place on. For at most 1000 nodes and values. -/
import Derived.Test.YtommgpkeicpokaaGreatDoorPMarkI
import Derived.Test.YtommgpkeicpokaaGreatDoorPCutN
namespace Go.Proofs.YtommgpkeicpokaaGreatDoor.Abs.Pu
open Go Go.RowKit
set_option linter.unusedVariables false
set_option linter.unusedSectionVars false
set_option linter.unusedSimpArgs false
theorem markInt64S_s1_ev (v : List Int) (m : Int) (h0 : 1 ≤ m) (h1 : m ≤ 1099511627776) (hl : v.length ≤ 1048576) : ∃ v', Ev (fun k => laws_markInt64S_s1.f k v m) (v', m + ((v.length - 1 : Nat) : Int)) ∧ v'.length = v.length ∧ v'.drop 1 = marks m (v.length - 1) := by
  have key : ∀ i, i ≤ v.length - 1 → ∀ out : List Int, out.length = v.length → (∀ j : Nat, j < i → out[1 + j]? = some (m + (j : Int))) → ∃ v', Ev (fun k => laws_markInt64S_s1.p6 k out (m + (i : Int)) (i : Int)) (v', m + ((v.length - 1 : Nat) : Int)) ∧ v'.length = v.length ∧ v'.drop 1 = marks m (v.length - 1) := by
    refine down ?_ ?_
    · intro out ho ht
      refine ⟨out, Ev.step (fun k => by rw [laws_markInt64S_s1.p6]) ?_, ho, ?_⟩
      · rw [ho]
        exact Ev.neg (by omega) (Ev.eq rfl)
      · refine List.ext_getElem? fun j => ?_
        rw [List.getElem?_drop]
        by_cases h : j < v.length - 1
        · rw [ht j h]
          simp [marks, List.getElem?_map, List.getElem?_range h]
        · rw [List.getElem?_eq_none (by omega), List.getElem?_eq_none (by rw [marks_length]; omega)]
    · intro i hi ih out ho ht
      obtain ⟨v', h2, h3⟩ := ih (out.set (1 + i) (m + (i : Int))) (by rw [List.length_set]; exact ho) (fun j hj => by
        by_cases e : j = i
        · subst e; rw [List.getElem?_set_self (by omega)]
        · rw [List.getElem?_set_ne (fun h => e (by omega))]; exact ht j (by omega))
      refine ⟨v', Ev.step (fun k => by rw [laws_markInt64S_s1.p6]) ?_, h3⟩
      rw [w64s (i := i) (by omega), show wrap64 (m + (i : Int) + 1) = m + ((i + 1 : Nat) : Int) from by rw [w64 (by omega) (by omega)]; omega, Int.toNat_natCast, ho]
      exact Ev.pos (by omega) (Ev.pos (by omega) (Ev.pos (by omega) h2))
  unfold laws_markInt64S_s1.f
  have := key 0 (Nat.zero_le _) v rfl (fun j hj => by omega)
  rwa [show m + ((0 : Nat) : Int) = m from by omega] at this
/-- Nodes that bear the marks from m on. -/
def Held : Int → List (Int × List Int) → Int → Prop
  | m, [], m' => m' = m
  | m, x :: l, m' => x.1 = m ∧ x.2 = marks (m + 1) x.2.length ∧ x.2.length ≤ 1000 ∧ Held (m + 1 + (x.2.length : Int)) l m'
theorem Held.le : {l : List (Int × List Int)} → {m m' : Int} → Held m l m' → m ≤ m' ∧ m' ≤ m + 1001 * (l.length : Int)
  | [], _, _, h => by have : _ = _ := h; simp only [List.length_nil]; omega
  | x :: l, m, m', ⟨_, _, h1, h2⟩ => by
    have := h2.le
    rw [List.length_cons]
    omega
theorem heldObjS_ev (l : List (Int × List Int)) (m m' : Int) (h0 : 1 ≤ m) (h1 : m ≤ 1048576) (hl : l.length ≤ 1000) (h : Held m l m') : Ev (fun k => laws_heldObjS.f k l m) m' := by
  have key : ∀ i, i ≤ l.length → ∀ x : Int, 1 ≤ x → x ≤ m + 1001 * (i : Int) → Held x (l.drop i) m' → Ev (fun k => laws_heldObjS.p6 k l x (i : Int)) m' := by
    refine down ?_ ?_
    · intro x _ _ hx
      rw [List.drop_eq_nil_of_le (Nat.le_refl _)] at hx
      obtain rfl : m' = x := hx
      exact Ev.step (fun k => by rw [laws_heldObjS.p6]) (Ev.neg (by omega) (Ev.eq rfl))
    · intro i hi ih x a0 a1 hx
      rw [List.drop_eq_getElem_cons hi] at hx
      obtain ⟨e1, e2, e3, e4⟩ := hx
      refine Ev.step (fun k => by rw [laws_heldObjS.p6]) ?_
      rw [rdg hi, w64s (by omega), w64 (x := x + 1) (by omega) (by omega)]
      refine Ev.pos (by omega) (Ev.pos (by omega) (Ev.pos (by omega) (Ev.pos e1 (Ev.pos (by omega) (Ev.pos (by omega) ?_)))))
      have hh := heldInt64S_ev (x + 1) (l[i]).2.length (by omega) (by omega) (by omega)
      rw [← e2] at hh
      exact Ev.bind hh (Ev.neg (by omega) (ih _ (by omega) (by omega) e4))
  unfold laws_heldObjS.f
  exact key 0 (Nat.zero_le _) m h0 (by omega) (by simpa using h)
theorem markObjS_o1_ev (l : List (Int × List Int)) (m : Int) (h0 : 1 ≤ m) (h1 : m ≤ 1048576) (hl : l.length ≤ 1000) (hs : ∀ x ∈ l, x.2.length ≤ 1000) : ∃ l' m', Ev (fun k => laws_markObjS_o1.f k l m) (l', m') ∧ l'.length = l.length ∧ Held m (cutN l') m' := by
  have key : ∀ i, i ≤ l.length → ∀ (h : List (Int × List Int)) (x1 : Int), h.length = l.length → (∀ x ∈ h, x.2.length ≤ 1000) → 1 ≤ x1 → x1 ≤ m + 1001 * (i : Int) → ∃ l' m', Ev (fun k => laws_markObjS_o1.p6 k h x1 (i : Int)) (l', m') ∧ l'.length = l.length ∧ l'.take i = h.take i ∧ Held x1 (cutN (l'.drop i)) m' := by
    refine down ?_ ?_
    · intro h x1 hh _ a0 _
      refine ⟨h, x1, Ev.step (fun k => by rw [laws_markObjS_o1.p6]) (Ev.neg (by omega) (Ev.eq rfl)), hh, rfl, ?_⟩
      rw [List.drop_eq_nil_of_le (by omega)]
      rfl
    · intro i hi ih h x1 hh hx a0 a1
      have hih : i < h.length := by omega
      have ho := hx _ (List.getElem_mem hih)
      have e1 : rdOf (0, []) h (i : Int) = h[i] := rdg hih
      generalize h[i] = o at *
      have e2 : rdOf (0, []) (h.set i (x1, o.2)) (i : Int) = (x1, o.2) := by
        rw [rdg (by rw [List.length_set]; exact hih)]
        exact List.getElem_set_self _
      obtain ⟨v', mk, hv1, hv2⟩ := markInt64S_s1_ev o.2 (x1 + 1) (by omega) (by omega) (by omega)
      obtain ⟨l', m', hr, hl', htk, hm⟩ := ih ((h.set i (x1, o.2)).set i (x1, v')) (x1 + 1 + ((o.2.length - 1 : Nat) : Int)) (by rw [List.length_set, List.length_set]; exact hh) (fun x hx' => by
        rcases List.mem_or_eq_of_mem_set hx' with hx' | hx'
        · rcases List.mem_or_eq_of_mem_set hx' with hx' | hx'
          · exact hx x hx'
          · rw [hx']; exact ho
        · rw [hx']; simp only []; omega) (by omega) (by omega)
      have hil : i < l'.length := by omega
      have hel : l'[i] = (x1, v') := by
        have : (l'.take (i + 1))[i]? = (((h.set i (x1, o.2)).set i (x1, v')).take (i + 1))[i]? := by rw [htk]
        rw [List.getElem?_take_of_lt (by omega), List.getElem?_take_of_lt (by omega), List.getElem?_eq_getElem hil, List.getElem?_set_self (by rw [List.length_set]; exact hih)] at this
        exact Option.some.inj this
      refine ⟨l', m', Ev.step (fun k => by rw [laws_markObjS_o1.p6]) ?_, hl', ?_, ?_⟩
      · rw [e1, Int.toNat_natCast, e2, w64s (i := i) (by omega), w64 (x := x1 + 1) (by omega) (by omega)]
        refine Ev.pos (by omega) (Ev.pos (by omega) (Ev.pos (by omega) (Ev.pos (by omega) (Ev.pos (by rw [List.length_set]; omega) (Ev.bind mk ?_)))))
        exact hr
      · have := congrArg (List.take i) htk
        rw [List.take_take, List.take_take, Nat.min_eq_left (by omega), List.take_set_of_le (Nat.le_refl _), List.take_set_of_le (Nat.le_refl _)] at this
        exact this
      · rw [List.drop_eq_getElem_cons hil, hel]
        have hd : (v'.drop 1).length = o.2.length - 1 := by rw [List.length_drop, hv1]
        refine ⟨rfl, ?_, ?_, ?_⟩
        · show v'.drop 1 = marks (x1 + 1) (v'.drop 1).length
          rw [hd, hv2]
        · show (v'.drop 1).length ≤ 1000
          omega
        · show Held (x1 + 1 + ((v'.drop 1).length : Int)) (cutN (l'.drop (i + 1))) m'
          rw [hd]
          exact hm
  unfold laws_markObjS_o1.f
  obtain ⟨l', m', e, h2, _, h3⟩ := key 0 (Nat.zero_le _) l m rfl hs h0 (by omega)
  exact ⟨l', m', e, h2, by simpa using h3⟩
theorem markGraph_o1_ev (r : List Int) (n : List (Int × List Int)) (a : r.length ≤ 1000) (b : n.length ≤ 1000) (c : ∀ x ∈ n, x.2.length ≤ 1000) : ∃ s m', Ev (fun k => laws_markGraph_o1.f k r n 1) (marks 1 r.length, s, m') ∧ 1 ≤ m' ∧ Ev (fun k => laws_heldGraph.f k (marks 1 r.length) (cutN s) 1) m' := by
  have e1 := markInt64S_ev r 1 (by omega) (by omega) (by omega)
  obtain ⟨l', m', e2, hl, hm⟩ := markObjS_o1_ev n (1 + (r.length : Int)) (by omega) (by omega) b c
  have hle := hm.le
  refine ⟨l', m', ?_, by omega, ?_⟩
  · unfold laws_markGraph_o1.f
    exact Ev.bind e1 (Ev.bind e2 (Ev.eq rfl))
  · unfold laws_heldGraph.f
    have e3 := heldInt64S_ev 1 r.length (by omega) (by omega) (by omega)
    have hc : (cutN l').length ≤ 1000 := by unfold cutN; rw [List.length_map]; omega
    have e4 := heldObjS_ev (cutN l') (1 + (r.length : Int)) m' (by omega) (by omega) hc hm
    exact Ev.bind e3 (Ev.neg (by omega) (Ev.bind e4 (Ev.neg (by omega) (Ev.eq rfl))))
end Go.Proofs.YtommgpkeicpokaaGreatDoor.Abs.Pu
