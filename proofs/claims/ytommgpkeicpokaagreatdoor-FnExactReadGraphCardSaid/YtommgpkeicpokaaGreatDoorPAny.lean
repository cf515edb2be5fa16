/- slices.IndexFunc and slices.ContainsFunc, as this machine tells them: a test asked of the elements in order. -/
import Derived.Test.YtommgpkeicpokaaGreatDoorPBase
namespace Go.Proofs.YtommgpkeicpokaaGreatDoor.Abs
open Go Go.RowKit
set_option linter.unusedVariables false
set_option linter.unusedSectionVars false
set_option linter.unusedSimpArgs false

theorem rdOf_get {α : Type} {d : α} {l : List α} {i : Nat} (h : i < l.length) : rdOf d l (i : Int) = l[i] := by
  simp [rdOf, List.getD_eq_getElem?_getD, List.getElem?_eq_getElem h]

/-- The search: the first place where the test says yes, or -1. -/
theorem index_ev {α : Type} {d : α} {l : List α} (hl : l.length ≤ 1099511627776) {g : Nat → Int → Option Int} {t : Nat → α → Option Bool} {f : α → Bool}
    (hg : ∀ k (i : Int), g (k + 1) i = if i < (l.length : Int) then (if 0 ≤ i then (if i < (l.length : Int) then ((t k (rdOf d l i)).bind fun b => if b = true then some i else g k (wrap64 (i + 1))) else none) else none) else some (-1))
    (ht : ∀ x ∈ l, Ev (fun k => t k x) (f x)) : ∃ r, Ev (fun k => g k 0) r ∧ decide (r ≥ 0) = l.any f := by
  have lp : ∀ (m i : Nat), l.length - i = m → i ≤ l.length → ∃ r, Ev (fun k => g k (i : Int)) r ∧ decide (r ≥ 0) = (l.drop i).any f := by
    intro m
    induction m with
    | zero =>
      intro i hm hi
      rw [List.drop_eq_nil_of_le (by omega)]
      exact ⟨-1, Ev.step (fun k => by rw [hg]) (Ev.neg (by omega) (Ev.eq rfl)), by simp⟩
    | succ m ih =>
      intro i hm hi
      have hlt : i < l.length := by omega
      obtain ⟨r, hr, he⟩ := ih (i + 1) (by omega) (by omega)
      rw [List.drop_eq_getElem_cons hlt, List.any_cons]
      cases c : f l[i] with
      | true =>
        refine ⟨(i : Int), Ev.step (fun k => by rw [hg]) (Ev.pos (by omega) (Ev.pos (by omega) (Ev.pos (by omega) ?_))), by simp⟩
        rw [rdOf_get hlt]
        exact Ev.bind (ht _ (List.getElem_mem hlt)) (Ev.pos c (Ev.eq rfl))
      | false =>
        refine ⟨r, Ev.step (fun k => by rw [hg]) (Ev.pos (by omega) (Ev.pos (by omega) (Ev.pos (by omega) ?_))), by rw [he, Bool.false_or]⟩
        rw [rdOf_get hlt, show wrap64 ((i : Int) + 1) = ((i + 1 : Nat) : Int) from by rw [w64 (by omega) (by omega)]; omega]
        exact Ev.bind (ht _ (List.getElem_mem hlt)) (Ev.neg (by simp [c]) hr)
  obtain ⟨r, h1, h2⟩ := lp _ 0 rfl (Nat.zero_le _)
  exact ⟨r, h1, by rw [h2, List.drop_zero]⟩

/-- ContainsFunc. -/
theorem contains_ev {α : Type} {d : α} {l : List α} (hl : l.length ≤ 1099511627776) {g : Nat → Int → Option Int} {t : Nat → α → Option Bool} {f : α → Bool}
    (hg : ∀ k (i : Int), g (k + 1) i = if i < (l.length : Int) then (if 0 ≤ i then (if i < (l.length : Int) then ((t k (rdOf d l i)).bind fun b => if b = true then some i else g k (wrap64 (i + 1))) else none) else none) else some (-1))
    (ht : ∀ x ∈ l, Ev (fun k => t k x) (f x)) : Ev (fun k => (g k 0).bind fun t1 => some (decide (t1 ≥ 0))) (l.any f) := by
  obtain ⟨r, h1, h2⟩ := index_ev hl hg ht
  exact Ev.bind h1 (Ev.eq h2)
end Go.Proofs.YtommgpkeicpokaaGreatDoor.Abs
