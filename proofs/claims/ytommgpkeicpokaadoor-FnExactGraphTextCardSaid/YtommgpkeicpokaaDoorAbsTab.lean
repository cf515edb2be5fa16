/- A table of the program's, out of what a law's row says of its world. -/
import Derived.Lib.LaidTab
import Derived.Test.YtommgpkeicpokaaDoorAbsLaw
namespace Go.Proofs.YtommgpkeicpokaaDoor.Abs
open Go Go.RowKit
set_option linter.unusedVariables false
set_option linter.unusedSectionVars false
set_option linter.unusedSimpArgs false

theorem tab_block {P : Program} {W : World} {name : String} {g : Nat} {k : IntKind} {zs : List Int} (hg : P.globalNamed name = some g) (h : Lib.TabIs P W name k zs) : ∃ T f, W.heap[g]? = some (.cells (zs.map fun z => Value.int k z).toArray T f) := by
  unfold Lib.TabIs World.var? at h
  rw [hg, Option.bind_some] at h
  split at h
  · rename_i cs T f e
    injection h with h
    subst h
    exact ⟨T, f, e⟩
  · cases h

theorem vars_drop {P : Program} {W : World} : (i : Nat) → {l : List (String × DataW Unit)} → {ps : List MemPlace} → DataW.LaidVars P W l ps → ∃ q, DataW.LaidVars P W (l.drop i) q
  | 0, _, _, h => ⟨_, h⟩
  | i + 1, [], _, h => ⟨_, h⟩
  | i + 1, (n, d) :: r, ps, h => by
    obtain ⟨_, _, _, _, _, _, _, _, _, _, hr, _⟩ := h
    exact vars_drop i hr

theorem tab_of_vars {P : Program} {W : World} {name : String} {k : IntKind} {zs : List Int} {rest : List (String × DataW Unit)} {ps : List MemPlace} {g : Nat} {t e : TypeId} {n : Nat}
    (hg : P.globalNamed name = some g) (hty : (P.globals[g]?).map (·.type) = some t) (ht : P.underlying t = some (.array n e)) (he : P.underlying e = some (.int k)) (hce : P.cellsOf e = 1) (hct : P.cellsOf t = n)
    (h : DataW.LaidVars P W ((name, Lib.tabData k zs) :: rest) ps) : Lib.TabIs P W name k zs := by
  obtain ⟨g', t', cs, fuel, p, q, hg', ht', hvar, hd, _, _⟩ := h
  obtain rfl := Option.some.inj (hg.symm.trans hg')
  obtain rfl := Option.some.inj (hty.symm.trans ht')
  unfold Lib.TabIs
  rw [hvar, ← Lib.cells_of_tab ht he hce hct hd]
end Go.Proofs.YtommgpkeicpokaaDoor.Abs
