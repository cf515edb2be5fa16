/- FnExactReached: of all arguments the program's Reached answers as the reference's does, leaves them as they are, and shares no memory. No condition. -/
import Derived.Test.YtommgpkeicpokaaDoorPReached
import Derived.Test.YtommgpkeicpokaaDoorPMarkG
import Derived.Test.YtommgpkeicpokaaDoorPMarkS
import Derived.Test.YtommgpkeicpokaaDoorPObjS
import Derived.Test.YtommgpkeicpokaaDoorPStrS
namespace Go.Proofs.YtommgpkeicpokaaDoor.Abs.Pu
open Go Go.RowKit
set_option linter.unusedVariables false
set_option linter.unusedSectionVars false
set_option linter.unusedSimpArgs false
theorem reachedR_len (types : List ByteArray) (g : List Int × List (Int × List Int)) (h : g.2.length ≤ 1048576) : (reachedR types g).length ≤ 1048576 := by
  unfold reachedR
  split
  · unfold below
    refine Nat.le_trans (List.length_filter_le _ _) ?_
    rw [List.length_map, List.length_range]
    exact h
  · simp
theorem FnExactReached : laws_FnExactReached.Pure := by
  intro types g ot og
  obtain ⟨tl, ts⟩ := ot
  obtain ⟨⟨rl, _⟩, nl, ns⟩ := og
  refine Ev.rounds ?_
  unfold laws_FnExactReached.f
  obtain ⟨r, e, hr⟩ := szStringS_ev types tl ts 1048576 (by omega) (by omega)
  refine Ev.bind e (Ev.cases (fun _ => Ev.eq rfl) (fun c => ?_))
  obtain ⟨hr0, hl, hs⟩ := hr (by omega)
  obtain ⟨q, e2, hq⟩ := szGraph_ev g rl nl (fun x hx => (ns x hx).2.1) r (by omega) (by omega)
  refine Ev.bind e2 (Ev.cases (fun _ => Ev.eq rfl) (fun c2 => ?_))
  obtain ⟨h1, h2, h3⟩ := hq (by omega)
  have t1 := toStringS_ev types hl
  have t2 := toGraph_ev g h1 h2 h3
  have s1 := spec_Reached_ev types g hl hs
  have s2 := impl_Reached_ev types g hs
  have hlen := reachedR_len types g h2
  generalize reachedR types g = R at *
  have q1 := eqInt64S_ev R hlen
  obtain ⟨l', m1⟩ := markStringS_ev types 1 (by omega) (by omega) hl
  obtain ⟨r', n', m', m2, hm⟩ := markGraph_ev g (1 + (types.length : Int)) (by omega) (by omega) h1 h2 h3
  have m3 := markInt64S_ev R 1 (by omega) (by omega) hlen
  have m4 := heldInt64S_ev 1 R.length (by omega) (by omega) hlen
  refine Ev.bind t1 (Ev.bind t2 (Ev.bind s1 (Ev.bind t1 (Ev.bind t2 (Ev.bind s2 (Ev.bind q1 (Ev.pos rfl ?_)))))))
  refine Ev.bind t1 (Ev.bind (eqStringS_ev types hl) (Ev.pos rfl (Ev.bind t2 (Ev.bind (eqGraph_ev g h1 h2 h3) (Ev.pos rfl ?_)))))
  refine Ev.bind m1 (Ev.bind m2 (Ev.neg (by simp only []; omega) (Ev.bind q1 (Ev.pos rfl ?_))))
  refine Ev.bind m3 (Ev.bind m4 (Ev.neg (by omega) (Ev.pos rfl ?_)))
  refine Ev.bind t1 (Ev.bind t2 (Ev.bind s2 (Ev.bind q1 (Ev.pos rfl ?_))))
  exact Ev.bind m4 (Ev.neg (by omega) (Ev.pos rfl (Ev.eq rfl)))
end Go.Proofs.YtommgpkeicpokaaDoor.Abs.Pu
