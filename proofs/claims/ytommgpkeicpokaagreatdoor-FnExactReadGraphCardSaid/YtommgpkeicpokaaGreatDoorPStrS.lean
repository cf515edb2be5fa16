/- Lists of texts in the laws: their size, a copy, the comparison with itself. -/
import Derived.Test.YtommgpkeicpokaaGreatDoorPStrEq
import Derived.Test.YtommgpkeicpokaaGreatDoorPLoop
import Derived.Test.YtommgpkeicpokaaGreatDoorPBits
import Derived.Test.YtommgpkeicpokaaGreatDoorF3
namespace Go.Proofs.YtommgpkeicpokaaGreatDoor.Abs
open Go Go.RowKit
set_option linter.unusedVariables false
set_option linter.unusedSectionVars false
set_option linter.unusedSimpArgs false
theorem szStringS_ev (l : List ByteArray) (hl : l.length ≤ maxLen) (hs : ∀ x ∈ l, x.size ≤ maxLen) (left : Int) (h0 : 0 ≤ left) (h1 : left ≤ 1048576) : ∃ r, Ev (fun k => laws_szStringS.f k l left) r ∧ (0 ≤ r → r ≤ left ∧ l.length ≤ 1048576 ∧ ∀ x ∈ l, x.size ≤ 1048576) := by
  unfold maxLen at hl hs
  unfold laws_szStringS.f
  rw [w64 (x := left - (l.length : Int)) (by omega) (by omega)]
  by_cases c : left - (l.length : Int) < 0
  · exact ⟨-1, Ev.pos c (Ev.eq rfl), fun h => by omega⟩
  · have key : ∀ left : Int, 0 ≤ left → left ≤ 1048576 → ∃ r, Ev (fun k => laws_szStringS.p16 k l left 0) r ∧ (0 ≤ r → r ≤ left ∧ ∀ x ∈ l, (fun x => x.size ≤ 1048576) x) := by
      refine sz_loop (g := fun k left i => laws_szStringS.p16 k l left i) (by omega) (fun i hi left h0 h1 => ?_) (fun left => ?_)
      · have hx := hs _ (List.getElem_mem hi)
        have hg : rdOf ByteArray.empty l (i : Int) = l[i] := rdg hi
        generalize l[i] = x at *
        by_cases c2 : left - (x.size : Int) < 0
        · refine .inl ⟨-1, by omega, Ev.step (fun k => by rw [laws_szStringS.p16]) ?_⟩
          rw [hg, w64 (x := left - (x.size : Int)) (by omega) (by omega)]
          exact Ev.pos (by omega) (Ev.pos (by omega) (Ev.pos (by omega) (Ev.pos c2 (Ev.eq rfl))))
        · refine .inr ⟨left - (x.size : Int), by omega, by omega, by omega, fun r hr => Ev.step (fun k => by rw [laws_szStringS.p16]) ?_⟩
          rw [hg, w64 (x := left - (x.size : Int)) (by omega) (by omega), w64s (by omega)]
          exact Ev.pos (by omega) (Ev.pos (by omega) (Ev.pos (by omega) (Ev.neg c2 hr)))
      · refine Ev.step (fun k => by rw [laws_szStringS.p16]) ?_
        exact Ev.neg (by omega) (Ev.eq rfl)
    obtain ⟨r, hr, hp⟩ := key (left - (l.length : Int)) (by omega) (by omega)
    exact ⟨r, Ev.neg c hr, fun h => ⟨by have := (hp h).1; omega, by omega, (hp h).2⟩⟩
theorem toStringS_ev (l : List ByteArray) (hl : l.length ≤ 1048576) : Ev (fun k => laws_toStringS.f k l) l := by
  unfold laws_toStringS.f
  refine Ev.pos (by omega) (Ev.pos (by omega) ?_)
  rw [Int.toNat_natCast]
  refine fill_ev (g := fun k out i => laws_toStringS.p8 k l out i) _ (fun i hi out ho r hr => ?_) (fun out ho => ?_)
  · refine Ev.step (fun k => by rw [laws_toStringS.p8]) ?_
    rw [rdg hi, w64s (by omega), Int.toNat_natCast]
    exact Ev.pos (by omega) (Ev.pos (by omega) (Ev.pos (by omega) (Ev.pos (by omega) (Ev.pos (by omega) hr))))
  · refine Ev.step (fun k => by rw [laws_toStringS.p8]) ?_
    exact Ev.neg (by omega) (Ev.eq rfl)
end Go.Proofs.YtommgpkeicpokaaGreatDoor.Abs
