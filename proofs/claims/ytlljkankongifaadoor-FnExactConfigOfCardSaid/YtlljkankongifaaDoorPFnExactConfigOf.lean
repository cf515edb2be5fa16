/- FnExactConfigOf: of all texts the program's ConfigOf answers as the reference's does, and shares no memory. No condition. -/
import Derived.Test.YtlljkankongifaaDoorPConfigOf
import Derived.Test.YtlljkankongifaaDoorPStrEq
import Derived.Test.YtlljkankongifaaDoorPMarkS
namespace Go.Proofs.YtlljkankongifaaDoor.Abs.Pu
open Go Go.RowKit
set_option linter.unusedVariables false
set_option linter.unusedSectionVars false
set_option linter.unusedSimpArgs false
theorem eqConfig2_ev (c : Cfg) (hl : c.2.2.2.length ≤ 1048576) : Ev (fun k => laws_eqConfig.f k c.1 c.2.1 c.2.2.1 c.2.2.2 c.1 c.2.1 c.2.2.1 c.2.2.2) true := by
  unfold laws_eqConfig.f
  exact Ev.pos rfl (Ev.pos rfl (Ev.pos rfl (Ev.bind (eqStringS_ev c.2.2.2 hl) (Ev.pos rfl (Ev.eq rfl)))))
/-- Marked texts hold their marks. -/
theorem markHeld_ev (l : List ByteArray) (hl : l.length ≤ 1048576) : ∃ l' : List ByteArray, Ev (fun k => laws_markStringS.f k l 1) (l', 1 + (l.length : Int)) ∧ Ev (fun k => laws_heldStringS.f k l' 1) (1 + (l.length : Int)) := by
  have key : ∀ i, i ≤ l.length → ∀ x : List ByteArray, x.length = l.length → ∃ l', l'.length = l.length ∧ (∀ j, j < i → l'[j]? = x[j]?) ∧ (∀ j (h : j < l'.length), i ≤ j → Ev (fun k => laws_markText.f k (1 + (j : Int))) l'[j]) ∧ Ev (fun k => laws_markStringS.p6 k x (1 + (i : Int)) (i : Int)) (l', 1 + (l.length : Int)) := by
    refine down ?_ ?_
    · intro x hx
      exact ⟨x, hx, fun _ _ => rfl, fun j h hj => by omega, Ev.step (fun k => by rw [laws_markStringS.p6]) (Ev.neg (by omega) (Ev.eq rfl))⟩
    · intro i hi ih x hx
      obtain ⟨s, hs⟩ := markText_ev (1 + (i : Int)) (by omega) (by omega)
      obtain ⟨l', h1, h2, h3, h4⟩ := ih (x.set i s) (by rw [List.length_set]; exact hx)
      refine ⟨l', h1, fun j hj => ?_, fun j h hj => ?_, ?_⟩
      · rw [h2 j (by omega), List.getElem?_set_ne (by omega)]
      · by_cases e : j = i
        · subst e
          have := h2 j (by omega)
          rw [List.getElem?_set_self (by omega), List.getElem?_eq_getElem h] at this
          rw [Option.some.inj this]
          exact hs
        · exact h3 j h (by omega)
      · refine Ev.step (fun k => by rw [laws_markStringS.p6]) ?_
        rw [w64s (i := i) (by omega), show wrap64 (1 + (i : Int) + 1) = 1 + ((i + 1 : Nat) : Int) from by rw [w64 (by omega) (by omega)]; omega, Int.toNat_natCast]
        exact Ev.pos (by omega) (Ev.bind hs (Ev.pos (by omega) (Ev.pos (by omega) h4)))
  obtain ⟨l', h1, _, h3, h4⟩ := key 0 (Nat.zero_le _) l rfl
  refine ⟨l', ?_, ?_⟩
  · unfold laws_markStringS.f
    exact h4
  · have held : ∀ i, i ≤ l'.length → Ev (fun k => laws_heldStringS.p6 k l' (1 + (i : Int)) (i : Int)) (1 + (l.length : Int)) := by
      refine down ?_ ?_
      · refine Ev.step (fun k => by rw [laws_heldStringS.p6]) ?_
        rw [h1]
        exact Ev.neg (by omega) (Ev.eq rfl)
      · intro i hi ih
        have hg : rdOf ByteArray.empty l' (i : Int) = l'[i] := rdg hi
        refine Ev.step (fun k => by rw [laws_heldStringS.p6]) ?_
        rw [hg, w64s (i := i) (by omega), show wrap64 (1 + (i : Int) + 1) = 1 + ((i + 1 : Nat) : Int) from by rw [w64 (by omega) (by omega)]; omega]
        exact Ev.pos (by omega) (Ev.pos (by omega) (Ev.pos (by omega) (Ev.bind (h3 i hi (Nat.zero_le _)) (Ev.pos rfl ih))))
    unfold laws_heldStringS.f
    exact held 0 (Nat.zero_le _)
theorem FnExactConfigOf : laws_FnExactConfigOf.Pure := by
  intro s os
  refine Ev.rounds ?_
  unfold laws_FnExactConfigOf.f
  refine Ev.cases (fun _ => Ev.eq rfl) (fun c0 => ?_)
  have e1 := spec_ConfigOf_ev s (by omega)
  have e2 := impl_ConfigOf_ev s (by omega)
  obtain ⟨c, b, hc, hl⟩ : ∃ (c : Cfg) (b : Bool), out5 (cfgR s) = (c.1, c.2.1, c.2.2.1, c.2.2.2, b) ∧ c.2.2.2.length ≤ 12 := by
    cases h : cfgR s with
    | none => exact ⟨(0, 0, 0, []), false, rfl, Nat.zero_le _⟩
    | some c => exact ⟨c, true, rfl, cfgR_small h⟩
  rw [hc] at e1 e2
  have q := eqConfig2_ev c (by omega)
  obtain ⟨l', m1, m2⟩ := markHeld_ev c.2.2.2 (by omega)
  have m3 : Ev (fun k => laws_markConfig.f k c.1 c.2.1 c.2.2.1 c.2.2.2 1) (l', 1 + (c.2.2.2.length : Int)) := by
    unfold laws_markConfig.f
    exact Ev.bind m1 (Ev.eq rfl)
  have m4 : Ev (fun k => laws_heldConfig.f k c.1 c.2.1 c.2.2.1 l' 1) (1 + (c.2.2.2.length : Int)) := by
    unfold laws_heldConfig.f
    exact Ev.bind m2 (Ev.neg (by omega) (Ev.eq rfl))
  refine Ev.bind e1 (Ev.bind e2 (Ev.bind q (Ev.pos rfl ?_)))
  simp only [decide_true, Bool.not_true]
  refine Ev.step (fun k => by rw [laws_FnExactConfigOf.p17]) ?_
  refine Ev.neg (by simp) (Ev.bind m3 (Ev.bind m4 (Ev.neg (by omega) (Ev.pos rfl ?_))))
  exact Ev.bind e2 (Ev.bind q (Ev.pos rfl (Ev.pos rfl (Ev.bind m4 (Ev.neg (by omega) (Ev.pos rfl (Ev.eq rfl)))))))
end Go.Proofs.YtlljkankongifaaDoor.Abs.Pu
