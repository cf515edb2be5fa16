/- The laws' marks on lists of whole numbers. For at most 2^20 numbers. -/
import Derived.Test.YtommgpkeicpokaaGreatDoorPLoop
import Derived.Test.YtommgpkeicpokaaGreatDoorF3
namespace Go.Proofs.YtommgpkeicpokaaGreatDoor.Abs.Pu
open Go Go.RowKit
set_option linter.unusedVariables false
set_option linter.unusedSectionVars false
set_option linter.unusedSimpArgs false
theorem markInt64S_ev (l : List Int) (m : Int) (h0 : 1 ≤ m) (h1 : m ≤ 2305843009213693952) (hl : l.length ≤ 1048576) : Ev (fun k => laws_markInt64S.f k l m) (marks m l.length, m + (l.length : Int)) := by
  have key : ∀ i, i ≤ l.length → ∀ out : List Int, out.length = l.length → (∀ j : Nat, j < i → out[j]? = some (m + (j : Int))) → Ev (fun k => laws_markInt64S.p6 k out (m + (i : Int)) (i : Int)) (marks m l.length, m + (l.length : Int)) := by
    refine down ?_ ?_
    · intro out ho ht
      refine Ev.step (fun k => by rw [laws_markInt64S.p6]) ?_
      refine Ev.neg (by omega) (Ev.eq ?_)
      congr 1
      refine List.ext_getElem? fun j => ?_
      by_cases h : j < l.length
      · rw [ht j h]
        simp [marks, List.getElem?_map, List.getElem?_range h]
      · rw [List.getElem?_eq_none (by omega), List.getElem?_eq_none (by rw [marks_length]; omega)]
    · intro i hi ih out ho ht
      have h2 := ih (out.set i (m + (i : Int))) (by rw [List.length_set]; exact ho) (fun j hj => by
        by_cases e : j = i
        · subst e; rw [List.getElem?_set_self (by omega)]
        · rw [List.getElem?_set_ne (fun h => e h.symm)]; exact ht j (by omega))
      refine Ev.step (fun k => by rw [laws_markInt64S.p6]) ?_
      rw [w64s (i := i) (by omega), show wrap64 (m + (i : Int) + 1) = m + ((i + 1 : Nat) : Int) from by rw [w64 (by omega) (by omega)]; omega, Int.toNat_natCast]
      exact Ev.pos (by omega) (Ev.pos (by omega) (Ev.pos (by omega) h2))
  unfold laws_markInt64S.f
  have := key 0 (Nat.zero_le _) l rfl (fun j hj => by omega)
  rwa [show m + ((0 : Nat) : Int) = m from by omega] at this
theorem heldInt64S_ev (m : Int) (n : Nat) (h0 : 1 ≤ m) (h1 : m ≤ 1099511627776) (hn : n ≤ 1048576) : Ev (fun k => laws_heldInt64S.f k (marks m n) m) (m + (n : Int)) := by
  have hl := marks_length m n
  have key : ∀ i, i ≤ n → Ev (fun k => laws_heldInt64S.p6 k (marks m n) (m + (i : Int)) (i : Int)) (m + (n : Int)) := by
    refine down ?_ ?_
    · refine Ev.step (fun k => by rw [laws_heldInt64S.p6]) ?_
      exact Ev.neg (by omega) (Ev.eq rfl)
    · intro i hi ih
      refine Ev.step (fun k => by rw [laws_heldInt64S.p6]) ?_
      rw [w64s (i := i) (by omega), show wrap64 (m + (i : Int) + 1) = m + ((i + 1 : Nat) : Int) from by rw [w64 (by omega) (by omega)]; omega, marks_get m n i hi]
      exact Ev.pos (by omega) (Ev.pos (by omega) (Ev.pos (by omega) (Ev.pos rfl ih)))
  unfold laws_heldInt64S.f
  have := key 0 (Nat.zero_le _)
  rwa [show m + ((0 : Nat) : Int) = m from by omega] at this
end Go.Proofs.YtommgpkeicpokaaGreatDoor.Abs.Pu
