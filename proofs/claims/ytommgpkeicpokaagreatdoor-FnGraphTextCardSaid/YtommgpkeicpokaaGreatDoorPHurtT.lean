/- Drawn types that are hurt: the draw answers; at most 200 of at most 200 bytes. For codes of at most 2^40 bytes. -/
import Derived.Test.YtommgpkeicpokaaGreatDoorPDrawTypes
import Derived.Test.YtommgpkeicpokaaGreatDoorPLoop
namespace Go.Proofs.YtommgpkeicpokaaGreatDoor.Abs.Pu
open Go Go.RowKit
set_option linter.unusedVariables false
set_option linter.unusedSectionVars false
set_option linter.unusedSimpArgs false
theorem sizes_set {ts : List ByteArray} {n : Nat} (h : ∀ x ∈ ts, x.size ≤ n) (i : Nat) {s : ByteArray} (hs : s.size ≤ n) : ∀ x ∈ ts.set i s, x.size ≤ n := by
  intro x hx
  rcases List.mem_or_eq_of_mem_set hx with hx | rfl
  · exact h x hx
  · exact hs
theorem hurtTypes_ev {l : List Int} {p : Int} (h : Rd l p) (ts : List ByteArray) (h1 : 1 ≤ ts.length) (h2 : ts.length ≤ 100) (hs : ∀ x ∈ ts, x.size ≤ 100) : ∃ ts' q, Ev (fun k => spec_l1Rd_hurtTypes.f k l p ts) (l, q, ts') ∧ ts'.length ≤ 200 ∧ (∀ x ∈ ts', x.size ≤ 200) ∧ Rd l q := by
  have hs2 : ∀ x ∈ ts, x.size ≤ 200 := fun x hx => by have := hs x hx; omega
  have hz : (rdOf ByteArray.empty ts 0).size ≤ 100 := by
    have e := rdg (d := ByteArray.empty) (l := ts) (i := 0) (by omega)
    rw [show ((0 : Nat) : Int) = 0 from rfl] at e
    rw [e]
    exact hs _ (List.getElem_mem _)
  obtain ⟨a, q, ea, ha0, ha1, hq⟩ := below_f h 30 (by omega) (by omega)
  unfold spec_l1Rd_hurtTypes.f
  by_cases c0 : a = 0
  · exact ⟨[], q, Ev.bindo ea (Ev.pos c0 (Ev.eq rfl)), by simp, fun x hx => (by cases hx), hq⟩
  by_cases c1 : a = 1
  · exact ⟨_, q, Ev.bindo ea (Ev.neg c0 (Ev.pos c1 (Ev.pos (by omega) (Ev.eq rfl)))), by rw [List.length_set]; omega, sizes_set hs2 0 (by show 0 ≤ 200; omega), hq⟩
  by_cases c2 : a = 2
  · have hz2 : (⟨#[120]⟩ : ByteArray).size = 1 := rfl
    exact ⟨_, q, Ev.bindo ea (Ev.neg c0 (Ev.neg c1 (Ev.pos c2 (Ev.pos (by omega) (Ev.pos (by omega) (Ev.pos (by omega) (Ev.eq rfl))))))), by rw [List.length_set]; omega, sizes_set hs2 0 (by rw [ByteArray.size_append]; omega), hq⟩
  by_cases c3 : a = 3
  · obtain ⟨s, q2, e2, hsz, hq2⟩ := kinds_ev hq 3 (by omega) (by omega)
    have hz3 : (⟨#[105, 105, 105, 105, 105, 105, 105, 105, 105, 105, 105, 105, 105, 105, 105, 105, 105, 105, 105, 105, 105, 105]⟩ : ByteArray).size = 22 := rfl
    exact ⟨_, q2, Ev.bindo ea (Ev.neg c0 (Ev.neg c1 (Ev.neg c2 (Ev.pos c3 (Ev.bind e2 (Ev.pos (by simp only []; omega) (Ev.pos (by omega) (Ev.eq rfl)))))))), by rw [List.length_set]; omega, sizes_set hs2 0 (by simp only [ByteArray.size_append]; omega), hq2⟩
  by_cases c4 : a = 4
  · have lp : ∀ (d i : Nat) (ts : List ByteArray) (p : Int), i + d = 13 → ts.length ≤ 100 + i → (∀ x ∈ ts, x.size ≤ 200) → Rd l p → ∃ ts' q, Ev (fun k => spec_l1Rd_hurtTypes.p30 k l p ts (i : Int)) (l, q, ts') ∧ ts'.length ≤ 200 ∧ (∀ x ∈ ts', x.size ≤ 200) ∧ Rd l q := by
      intro d
      induction d with
      | zero =>
        intro i ts p hi hl hsx hp
        refine ⟨ts, p, Ev.step (fun k => by rw [spec_l1Rd_hurtTypes.p30]) ?_, by omega, hsx, hp⟩
        exact Ev.neg (by omega) (Ev.eq rfl)
      | succ d ih =>
        intro i ts p hi hl hsx hp
        obtain ⟨b, q, eb, hb0, hb1, hq⟩ := below_f hp 3 (by omega) (by omega)
        by_cases c : (ts.length : Int) < wrap64 (11 + b)
        · obtain ⟨ts', q2, e2, hr⟩ := ih (i + 1) (ts ++ [(⟨#[114]⟩ : ByteArray)]) q (by omega) (by rw [List.length_append, List.length_singleton]; omega) (fun x hx => by
            rcases List.mem_append.1 hx with hx | hx
            · exact hsx x hx
            · simp only [List.mem_singleton] at hx
              subst hx
              show 1 ≤ 200; omega) hq
          refine ⟨ts', q2, Ev.step (fun k => by rw [spec_l1Rd_hurtTypes.p30]) ?_, hr⟩
          rw [w64s (i := i) (by omega)]
          exact Ev.pos (by omega) (Ev.bindo eb (Ev.pos c (Ev.pos (by omega) e2)))
        · refine ⟨ts, q, Ev.step (fun k => by rw [spec_l1Rd_hurtTypes.p30]) ?_, by omega, hsx, hq⟩
          exact Ev.pos (by omega) (Ev.bindo eb (Ev.neg c (Ev.eq rfl)))
    obtain ⟨ts', q2, e2, hr⟩ := lp 13 0 ts q rfl (by omega) hs2 hq
    exact ⟨ts', q2, Ev.bindo ea (Ev.neg c0 (Ev.neg c1 (Ev.neg c2 (Ev.neg c3 (Ev.pos c4 e2))))), hr⟩
  · exact ⟨ts, q, Ev.bindo ea (Ev.neg c0 (Ev.neg c1 (Ev.neg c2 (Ev.neg c3 (Ev.neg c4 (Ev.eq rfl)))))), by omega, hs2, hq⟩
end Go.Proofs.YtommgpkeicpokaaGreatDoor.Abs.Pu
