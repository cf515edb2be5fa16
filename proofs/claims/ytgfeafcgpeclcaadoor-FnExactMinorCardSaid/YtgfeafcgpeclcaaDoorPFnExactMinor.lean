/- FnExactMinor: of all arguments the program's Minor answers as the reference's does, leaves them as they are, and shares no memory. No condition. -/
import Derived.Test.YtgfeafcgpeclcaaDoorPMinor
import Derived.Test.YtgfeafcgpeclcaaDoorPStrS
import Derived.Test.YtgfeafcgpeclcaaDoorPIntS
import Derived.Test.YtgfeafcgpeclcaaDoorPMarkI
import Derived.Test.YtgfeafcgpeclcaaDoorPMarkS
namespace Go.Proofs.YtgfeafcgpeclcaaDoor.Abs.Pu
open Go Go.RowKit
set_option linter.unusedVariables false
set_option linter.unusedSectionVars false
set_option linter.unusedSimpArgs false
theorem toNursery_ev (n : Int × List Int) (hl : n.2.length ≤ 1048576) : Ev (fun k => laws_toNursery.f k n.1 n.2) n := by
  unfold laws_toNursery.f
  exact Ev.bind (toInt64S_ev n.2 hl) (Ev.eq rfl)
theorem eqNursery_ev (n : Int × List Int) (hl : n.2.length ≤ 1048576) : Ev (fun k => laws_eqNursery.f k n.1 n.2 n.1 n.2) true := by
  unfold laws_eqNursery.f
  exact Ev.pos rfl (Ev.bind (eqInt64S_ev n.2 hl) (Ev.pos rfl (Ev.eq rfl)))
theorem markNursery_ev (sz : Int) (l : List Int) (m : Int) (h0 : 1 ≤ m) (h1 : m ≤ 1099511627776) (hl : l.length ≤ 1048576) : Ev (fun k => laws_markNursery.f k sz l m) (marks m l.length, m + (l.length : Int)) := by
  unfold laws_markNursery.f
  exact Ev.bind (markInt64S_ev l m h0 h1 hl) (Ev.eq rfl)
theorem heldNursery_ev (sz : Int) (m : Int) (n : Nat) (h0 : 1 ≤ m) (h1 : m ≤ 1099511627776) (hn : n ≤ 1048576) : Ev (fun k => laws_heldNursery.f k sz (marks m n) m) (m + (n : Int)) := by
  unfold laws_heldNursery.f
  exact Ev.bind (heldInt64S_ev m n h0 h1 hn) (Ev.neg (by omega) (Ev.eq rfl))
theorem ints_of {xs : List Int} (h : ∀ x ∈ xs, (Go.Lit.int .i64 x).wf = true) : ∀ x ∈ xs, -9223372036854775808 ≤ x ∧ x ≤ 9223372036854775807 := by
  intro x hx
  have := h x hx
  simp [Go.Lit.wf, Go.IntKind.min, Go.IntKind.max, Go.IntKind.signed, Go.IntKind.bits] at this
  omega
theorem FnExactMinor : laws_FnExactMinor.Pure := by
  intro ts n r ots on or_
  refine Ev.rounds ?_
  unfold laws_FnExactMinor.f
  refine Ev.cases (fun _ => Ev.eq rfl) (fun c0 => ?_)
  obtain ⟨s1, e1, h1⟩ := szStringS_ev ts ots.1 ots.2 1048576 (by omega) (by omega)
  refine Ev.bind e1 (Ev.cases (fun _ => Ev.eq rfl) (fun c1 => ?_))
  obtain ⟨hs1, htl, hts⟩ := h1 (by omega)
  obtain ⟨s2, e2, h2⟩ := szInt64S_f n.2 on.2.1 s1 (by omega) (by omega)
  have e2' : ∃ s3, laws_szNursery.f n.1 n.2 s1 = some s3 ∧ (0 ≤ s3 → 0 ≤ s2) := by
    unfold laws_szNursery.f
    rw [e2, Option.bind_some]
    by_cases c : s2 < 0
    · exact ⟨-1, by rw [if_pos c], fun h => by omega⟩
    · exact ⟨s2, by rw [if_neg c], fun h => h⟩
  obtain ⟨s3, e3, h3⟩ := e2'
  refine Ev.bindo e3 (Ev.cases (fun _ => Ev.eq rfl) (fun c2 => ?_))
  have hnl := (h2 (h3 (by omega))).2
  have hi := ints_of on.2.2
  have t1 := toStringS_ev ts htl
  have t2 := toNursery_ev n hnl
  have t3 := toInt64S_ev r (by omega)
  have q1 := eqStringS_ev ts htl
  have q2 := eqNursery_ev n hnl
  have q3 := eqInt64S_ev r (by omega)
  have es := spec_Minor_ev ts n.1 n.2 r htl hts hi
  have ei := impl_Minor_ev ts n.1 n.2 r hts hi
  obtain ⟨hl1, hl2⟩ := minorR_lengths ts n.1 n.2 r hi
  generalize minorR ts n.1 n.2 r = R at *
  obtain ⟨r1, r2, r3, r4⟩ := R
  simp only [] at hl1 hl2
  have q4 := eqNursery_ev (r1, r2) (by simp only []; omega)
  have q5 := eqInt64S_ev r3 (by omega)
  simp only [] at q4
  obtain ⟨l', m1⟩ := markStringS_ev ts 1 (by omega) (by omega) htl
  have m2 := markNursery_ev n.1 n.2 (1 + (ts.length : Int)) (by omega) (by omega) hnl
  have m3 := markInt64S_ev r (1 + (ts.length : Int) + (n.2.length : Int)) (by omega) (by omega) (by omega)
  have m4 := markNursery_ev r1 r2 1 (by omega) (by omega) (by omega)
  have m5 := markInt64S_ev r3 (1 + (r2.length : Int)) (by omega) (by omega) (by omega)
  have k1 := heldNursery_ev r1 1 r2.length (by omega) (by omega) (by omega)
  have k2 := heldInt64S_ev (1 + (r2.length : Int)) r3.length (by omega) (by omega) (by omega)
  have p131 : Ev (fun k => laws_FnExactMinor.p131 k r1 (marks 1 r2.length) (marks (1 + (r2.length : Int)) r3.length) (1 + (r2.length : Int) + (r3.length : Int)) false) true := by
    refine Ev.step (fun k => by rw [laws_FnExactMinor.p131]) ?_
    exact Ev.neg (by simp) (Ev.bind k1 (Ev.neg (by omega) (Ev.bind k2 (Ev.neg (by omega) (Ev.pos rfl (Ev.eq rfl))))))
  have p85 : Ev (fun k => laws_FnExactMinor.p85 k ts r n.1 n.2 r1 r2 r3 r4 r1 r2 r3 false) true := by
    refine Ev.step (fun k => by rw [laws_FnExactMinor.p85]) ?_
    refine Ev.neg (by simp) (Ev.bind m4 (Ev.bind m5 (Ev.bind k1 (Ev.neg (by omega) (Ev.bind k2 (Ev.neg (by omega) (Ev.pos rfl ?_)))))))
    refine Ev.bind t1 (Ev.bind t2 (Ev.bind t3 (Ev.bind ei (Ev.bind q4 (Ev.pos rfl (Ev.bind q5 (Ev.pos rfl ?_)))))))
    simp only [decide_true, Bool.not_true]
    exact p131
  have p45 : Ev (fun k => laws_FnExactMinor.p45 k ts r n.1 n.2 r1 r2 r3 r4 ts n.1 n.2 r r1 r2 r3 r4 false) true := by
    refine Ev.step (fun k => by rw [laws_FnExactMinor.p45]) ?_
    refine Ev.neg (by simp) (Ev.bind t1 (Ev.bind q1 (Ev.pos rfl (Ev.bind t2 (Ev.bind q2 (Ev.pos rfl (Ev.bind t3 (Ev.bind q3 (Ev.pos rfl ?_)))))))))
    refine Ev.bind m1 (Ev.bind m2 (Ev.bind m3 (Ev.neg (by simp only []; omega) (Ev.bind q4 (Ev.pos rfl (Ev.bind q5 (Ev.pos rfl ?_)))))))
    simp only [decide_true, Bool.not_true]
    exact p85
  refine Ev.bind t1 (Ev.bind t2 (Ev.bind t3 (Ev.bind es (Ev.bind t1 (Ev.bind t2 (Ev.bind t3 (Ev.bind ei (Ev.bind q4 (Ev.pos rfl (Ev.bind q5 (Ev.pos rfl ?_)))))))))))
  simp only [decide_true, Bool.not_true]
  exact p45
end Go.Proofs.YtgfeafcgpeclcaaDoor.Abs.Pu
