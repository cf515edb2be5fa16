/- FnExactGraphText: of all arguments the program's GraphText answers as the reference's does, and leaves them as they are. No condition. -/
import Derived.Test.YtommgpkeicpokaaDoorPGraphText
import Derived.Test.YtommgpkeicpokaaDoorPObjS
import Derived.Test.YtommgpkeicpokaaDoorPStrS
namespace Go.Proofs.YtommgpkeicpokaaDoor.Abs.Pu
open Go Go.RowKit
set_option linter.unusedVariables false
set_option linter.unusedSectionVars false
set_option linter.unusedSimpArgs false
theorem FnExactGraphText : laws_FnExactGraphText.Pure := by
  intro types g ot og
  obtain ⟨tl, ts⟩ := ot
  obtain ⟨⟨rl, _⟩, nl, ns⟩ := og
  refine Ev.rounds ?_
  unfold laws_FnExactGraphText.f
  obtain ⟨r, e, hr⟩ := szStringS_ev types tl ts 1048576 (by omega) (by omega)
  refine Ev.bind e (Ev.cases (fun _ => Ev.eq rfl) (fun c => ?_))
  obtain ⟨hr0, hl, hs⟩ := hr (by omega)
  obtain ⟨q, e2, hq⟩ := szGraph_ev g rl nl (fun x hx => (ns x hx).2.1) r (by omega) (by omega)
  refine Ev.bind e2 (Ev.cases (fun _ => Ev.eq rfl) (fun c2 => ?_))
  obtain ⟨h1, h2, h3⟩ := hq (by omega)
  have t1 := toStringS_ev types hl
  have t2 := toGraph_ev g h1 h2 h3
  refine Ev.bind t1 (Ev.bind t2 (Ev.bind (spec_GraphText_ev types g hl hs) (Ev.bind t1 (Ev.bind t2 (Ev.bind (impl_GraphText_ev types g hs) ?_)))))
  refine Ev.pos rfl (Ev.bind t1 (Ev.bind (eqStringS_ev types hl) (Ev.pos rfl (Ev.bind t2 (Ev.bind (eqGraph_ev g h1 h2 h3) (Ev.pos rfl (Ev.eq rfl)))))))
end Go.Proofs.YtommgpkeicpokaaDoor.Abs.Pu
