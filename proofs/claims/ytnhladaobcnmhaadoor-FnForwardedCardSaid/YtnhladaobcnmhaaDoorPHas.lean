/- has: whether a number is in a list. For lists of at most 2^40 numbers. -/
import Derived.Test.YtnhladaobcnmhaaDoorPBase
import Derived.Test.YtnhladaobcnmhaaDoorF3
namespace Go.Proofs.YtnhladaobcnmhaaDoor.Abs.Pu
open Go Go.RowKit
set_option linter.unusedVariables false
set_option linter.unusedSectionVars false
set_option linter.unusedSimpArgs false
theorem has_ev (l : List Int) (x : Int) (hl : l.length ≤ 1099511627776) : Ev (fun k => laws_has.f k l x) (decide (x ∈ l)) := by
  have lp : ∀ (d i : Nat), l.length - i = d → i ≤ l.length → x ∉ l.take i → Ev (fun k => laws_has.p6 k l x (i : Int)) (decide (x ∈ l)) := by
    intro d
    induction d with
    | zero =>
      intro i hd hi hn
      rw [List.take_of_length_le (by omega)] at hn
      refine Ev.step (fun k => by rw [laws_has.p6]) (Ev.neg (by omega) (Ev.eq ?_))
      simp [hn]
    | succ d ih =>
      intro i hd hi hn
      have hlt : i < l.length := by omega
      refine Ev.step (fun k => by rw [laws_has.p6]) ?_
      rw [rd_get hlt, show wrap64 ((i : Int) + 1) = ((i + 1 : Nat) : Int) from by rw [w64 (by omega) (by omega)]; omega]
      refine Ev.pos (by omega) (Ev.pos (by omega) (Ev.pos (by omega) (Ev.cases (fun e => Ev.eq ?_) (fun e => ?_))))
      · simp [← e]
      · exact ih (i + 1) (by omega) (by omega) (by
          rw [take_snoc2 l i hlt, List.mem_append, List.mem_singleton]
          exact fun h => h.elim hn (fun h => e h.symm))
  unfold laws_has.f
  exact lp _ 0 rfl (by omega) (by simp)
end Go.Proofs.YtnhladaobcnmhaaDoor.Abs.Pu
