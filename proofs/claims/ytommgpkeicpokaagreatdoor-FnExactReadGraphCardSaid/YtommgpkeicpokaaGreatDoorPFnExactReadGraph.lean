/- FnExactReadGraph: of all arguments the program's ReadGraph answers as the reference's does, leaves them as they are, and shares no memory. No condition. -/
import Derived.Test.YtommgpkeicpokaaGreatDoorPReadGraph
import Derived.Test.YtommgpkeicpokaaGreatDoorPMarkG1
import Derived.Test.YtommgpkeicpokaaGreatDoorPMarkS
import Derived.Test.YtommgpkeicpokaaGreatDoorPObjEq
import Derived.Test.YtommgpkeicpokaaGreatDoorPStrS
namespace Go.Proofs.YtommgpkeicpokaaGreatDoor.Abs.Pu
open Go Go.RowKit
set_option linter.unusedVariables false
set_option linter.unusedSectionVars false
set_option linter.unusedSimpArgs false
theorem ba_all (s : ByteArray) : ∃ l, s = ba l ∧ l.length = s.size := ⟨s.data.toList, by unfold ba; cases s; rfl, by simp⟩
/-- What comes of reading is small. -/
theorem readI_le (types : List ByteArray) (l : List UInt8) : (readI types l).1.length ≤ 40 ∧ (readI types l).2.1.length ≤ 400 ∧ ∀ o ∈ (readI types l).2.1, o.2.length ≤ 23 := by
  rcases readI_or types l with h | ⟨g, h, h1, h2⟩
  · rw [h]
    exact ⟨Nat.zero_le _, Nat.zero_le _, fun o ho => by cases ho⟩
  · rw [h]
    have c : graphOk types g = true := by
      by_cases c : graphOk types g = true
      · exact c
      · unfold graphTextR at h1
        rw [if_neg c] at h1
        exact absurd ((ba_ne (a := []) (b := l)).1 (by rw [h1])).symm h2
    have hn := nums_of c
    exact ⟨hn.roots, hn.nodes, fun o ho => hn.vals o ho⟩
theorem cutN_le {n : List (Int × List Int)} (h : ∀ o ∈ cutN n, o.2.length ≤ 23) : ∀ o ∈ n, o.2.length ≤ 1000 := by
  intro o ho
  have := h (o.1, o.2.drop 1) (List.mem_map.2 ⟨o, ho, rfl⟩)
  simp only [List.length_drop] at this
  omega
theorem FnExactReadGraph : laws_FnExactReadGraph.Pure := by
  intro types s ot os
  obtain ⟨tl, ts⟩ := ot
  obtain ⟨l, rfl, hl⟩ := ba_all s
  refine Ev.rounds ?_
  unfold laws_FnExactReadGraph.f
  refine Ev.cases (fun _ => Ev.eq rfl) (fun c0 => ?_)
  have hl : l.length ≤ 1048576 := by omega
  obtain ⟨r, e, hr⟩ := szStringS_ev types tl ts 1048576 (by omega) (by omega)
  refine Ev.bind e (Ev.cases (fun _ => Ev.eq rfl) (fun c => ?_))
  obtain ⟨hr0, htl, hs⟩ := hr (by omega)
  have t1 := toStringS_ev types htl
  have es := spec_ReadGraph_ev types l htl hs (by omega)
  have ei := impl_ReadGraph_ev types l hs (by omega)
  have cs := readSF_cut types l
  have ci := readIF_cut types l
  rw [← read_eq] at cs
  obtain ⟨b1, b2, b3⟩ := readI_le types l
  generalize readI types l = R at *
  generalize readSF types l = S at *
  generalize readIF types l = I at *
  obtain ⟨r3, n3, o3⟩ := S
  obtain ⟨r5, n5, o5⟩ := I
  have cs : (r3, cutN n3, o3) = R := cs
  have ci : (r5, cutN n5, o5) = R := ci
  subst cs
  injection ci with c1 c2
  injection c2 with c2 c3
  subst c1 c3
  simp only [] at b1 b2 b3
  rw [← c2] at b2 b3
  have hn5 : n5.length ≤ 1000 := by unfold cutN at b2; rw [List.length_map] at b2; omega
  have q1 := eqGraph_ev (r5, cutN n5) (by simp only []; omega) (by simp only []; omega) (fun x hx => by have := b3 x hx; omega)
  obtain ⟨l', m1⟩ := markStringS_ev types 1 (by omega) (by omega) htl
  obtain ⟨n', m', m2, hm', m3⟩ := markGraph_o1_ev r5 n5 (by omega) hn5 (cutN_le b3)
  have last : Ev (fun k => laws_FnExactReadGraph.p51 k types (ba l) r5 n3 o5 r5 n5 false) true := by
    refine Ev.step (fun k => by rw [laws_FnExactReadGraph.p51]) (Ev.neg (by simp) ?_)
    simp only [cut_eq]
    rw [← c2]
    exact Ev.bind m2 (Ev.bind m3 (Ev.neg (by omega) (Ev.pos rfl (Ev.bind t1 (Ev.bind ei (Ev.bind q1 (Ev.pos rfl (Ev.pos rfl (Ev.bind m3 (Ev.neg (by omega) (Ev.pos rfl (Ev.eq rfl))))))))))))
  have first : Ev (fun k => laws_FnExactReadGraph.p31 k types (ba l) r5 n3 o5 types r5 n5 o5 false) true := by
    refine Ev.step (fun k => by rw [laws_FnExactReadGraph.p31]) (Ev.neg (by simp) ?_)
    simp only [cut_eq]
    rw [← c2]
    exact Ev.bind t1 (Ev.bind (eqStringS_ev types htl) (Ev.pos rfl (Ev.bind m1 (Ev.neg (by simp only []; omega) (Ev.bind q1 (Ev.pos rfl last))))))
  simp only [cut_eq]
  refine Ev.bind t1 (Ev.bind es (Ev.bind t1 (Ev.bind ei ?_)))
  simp only []
  rw [← c2]
  have e : (!decide (o5 = o5)) = false := by simp
  refine Ev.bind q1 (Ev.pos rfl ?_)
  first
    | exact first
    | (rw [e]; exact first)
end Go.Proofs.YtommgpkeicpokaaGreatDoor.Abs.Pu
