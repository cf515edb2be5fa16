/- Drawn types: one to three of them, short; every draw answers. For codes of at most 2^40 bytes. -/
import Derived.Test.YtommgpkeicpokaaGreatDoorPDraws
namespace Go.Proofs.YtommgpkeicpokaaGreatDoor.Abs
open Go Go.RowKit
set_option linter.unusedVariables false
set_option linter.unusedSectionVars false
set_option linter.unusedSimpArgs false
theorem kinds_ev {l : List Int} {p : Int} (h : Rd l p) (most : Int) (h1 : 1 ≤ most) (h2 : most ≤ 100) : ∃ s q, Ev (fun k => spec_l1Rd_kinds.f k l p most) (l, q, s) ∧ (1 ≤ s.size ∧ s.size ≤ 100) ∧ Rd l q := by
  have lp : ∀ (d : Nat) (s : ByteArray) (p : Int), 1 ≤ s.size + d ∧ s.size + d ≤ 100 → Rd l p → ∃ s' q, Ev (fun k => spec_l1Rd_kinds.p8 k l p s (d : Int)) (l, q, s') ∧ (1 ≤ s'.size ∧ s'.size ≤ 100) ∧ Rd l q := by
    intro d
    induction d with
    | zero =>
      intro s p hs hp
      exact ⟨_, _, Ev.step (fun k => by rw [spec_l1Rd_kinds.p8]) (Ev.neg (by omega) (Ev.eq rfl)), by omega, hp⟩
    | succ d ih =>
      intro s p hs hp
      obtain ⟨v, q, e, hv0, hv1, hq⟩ := below_f hp 2 (by omega) (by omega)
      have hz : (rdOf ByteArray.empty [(⟨#[105]⟩ : ByteArray), (⟨#[114]⟩ : ByteArray)] v).size = 1 := by
        obtain rfl | rfl : v = 0 ∨ v = 1 := by omega
        · rfl
        · rfl
      obtain ⟨s', q2, e2, hs', hq2⟩ := ih (s ++ rdOf ByteArray.empty [(⟨#[105]⟩ : ByteArray), (⟨#[114]⟩ : ByteArray)] v) q (by rw [ByteArray.size_append, hz]; omega) hq
      refine ⟨s', q2, ?_, hs', hq2⟩
      refine Ev.step (fun k => by rw [spec_l1Rd_kinds.p8]) ?_
      refine Ev.pos (by omega) (Ev.bindo e ?_)
      rw [show wrap64 (((d + 1 : Nat) : Int) - 1) = (d : Int) from by rw [w64 (by omega) (by omega)]; omega]
      refine Ev.pos hv0 (Ev.pos (by simp only []; omega) ?_)
      exact Ev.pos (by simp only [hz]; omega) e2
  obtain ⟨v, q, e, hv0, hv1, hq⟩ := below_f h most (by omega) (by omega)
  obtain ⟨s, q2, e2, hs, hq2⟩ := lp (1 + v).toNat ⟨#[]⟩ q (by show 1 ≤ 0 + _ ∧ 0 + _ ≤ _; omega) hq
  refine ⟨s, q2, ?_, hs, hq2⟩
  unfold spec_l1Rd_kinds.f
  refine Ev.bindo e ?_
  simp only []
  rw [show wrap64 (1 + v) = ((1 + v).toNat : Int) from by rw [w64 (by omega) (by omega)]; omega]
  exact e2
theorem sizes_snoc {ts : List ByteArray} {s : ByteArray} {n : Nat} (h : ∀ x ∈ ts, 1 ≤ x.size ∧ x.size ≤ n) (hz : 1 ≤ s.size ∧ s.size ≤ n) : ∀ x ∈ ts ++ [s], 1 ≤ x.size ∧ x.size ≤ n := by
  intro x hx
  rcases List.mem_append.1 hx with hx | hx
  · exact h x hx
  · simp only [List.mem_singleton] at hx
    subst hx
    exact hz
theorem drawTypes1_ev {l : List Int} {p : Int} (h : Rd l p) : ∃ ts q, Ev (fun k => spec_l1Rd_types.f k l p) (l, q, ts) ∧ 1 ≤ ts.length ∧ ts.length ≤ 100 ∧ (∀ x ∈ ts, 1 ≤ x.size ∧ x.size ≤ 100) ∧ Rd l q := by
  have lp : ∀ (d : Nat) (ts : List ByteArray) (p : Int), 1 ≤ ts.length → ts.length + d ≤ 100 → (∀ x ∈ ts, 1 ≤ x.size ∧ x.size ≤ 100) → Rd l p → ∃ ts' q, Ev (fun k => spec_l1Rd_types.p8 k l p ts (d : Int)) (l, q, ts') ∧ 1 ≤ ts'.length ∧ ts'.length ≤ 100 ∧ (∀ x ∈ ts', 1 ≤ x.size ∧ x.size ≤ 100) ∧ Rd l q := by
    intro d
    induction d with
    | zero =>
      intro ts p h1 h2 hs hp
      exact ⟨_, _, Ev.step (fun k => by rw [spec_l1Rd_types.p8]) (Ev.neg (by omega) (Ev.eq rfl)), h1, by omega, hs, hp⟩
    | succ d ih =>
      intro ts p h1 h2 hs hp
      obtain ⟨b, q, e, hq⟩ := once_f hp 4 (by omega) (by omega)
      have e1 : wrap64 (((d + 1 : Nat) : Int) - 1) = (d : Int) := by rw [w64 (by omega) (by omega)]; omega
      cases b with
      | true =>
        obtain ⟨s, q2, e2, hz, hq2⟩ := kinds_ev hq 23 (by omega) (by omega)
        obtain ⟨ts', q3, e3, hr⟩ := ih (ts ++ [s]) q2 (by simp) (by simp; omega) (sizes_snoc hs hz) hq2
        refine ⟨ts', q3, ?_, hr⟩
        refine Ev.step (fun k => by rw [spec_l1Rd_types.p8]) ?_
        refine Ev.pos (by omega) (Ev.bindo e ?_)
        refine Ev.pos rfl (Ev.bind e2 ?_)
        refine Ev.pos (by omega) ?_
        rw [e1]
        exact e3
      | false =>
        obtain ⟨s, q2, e2, hz, hq2⟩ := kinds_ev hq 5 (by omega) (by omega)
        obtain ⟨ts', q3, e3, hr⟩ := ih (ts ++ [s]) q2 (by simp) (by simp; omega) (sizes_snoc hs hz) hq2
        refine ⟨ts', q3, ?_, hr⟩
        refine Ev.step (fun k => by rw [spec_l1Rd_types.p8]) ?_
        refine Ev.pos (by omega) (Ev.bindo e ?_)
        refine Ev.neg (by simp) (Ev.bind e2 ?_)
        refine Ev.pos (by omega) ?_
        rw [e1]
        exact e3
  obtain ⟨v, q, e, hv0, hv1, hq⟩ := below_f h 4 (by omega) (by omega)
  obtain ⟨n, q2, e2, hn0, hn1, hq2⟩ := below_f hq 3 (by omega) (by omega)
  have hz : 1 ≤ (rdOf ByteArray.empty [(⟨#[105, 114]⟩ : ByteArray), (⟨#[114, 114, 105]⟩ : ByteArray), (⟨#[114, 105]⟩ : ByteArray), (⟨#[105, 114, 114]⟩ : ByteArray)] v).size ∧ (rdOf ByteArray.empty [(⟨#[105, 114]⟩ : ByteArray), (⟨#[114, 114, 105]⟩ : ByteArray), (⟨#[114, 105]⟩ : ByteArray), (⟨#[105, 114, 114]⟩ : ByteArray)] v).size ≤ 100 := by
    obtain rfl | rfl | rfl | rfl : v = 0 ∨ v = 1 ∨ v = 2 ∨ v = 3 := by omega
    · show 1 ≤ 2 ∧ 2 ≤ 100; omega
    · show 1 ≤ 3 ∧ 3 ≤ 100; omega
    · show 1 ≤ 2 ∧ 2 ≤ 100; omega
    · show 1 ≤ 3 ∧ 3 ≤ 100; omega
  obtain ⟨ts, q3, e3, hr⟩ := lp n.toNat [rdOf ByteArray.empty [(⟨#[105, 114]⟩ : ByteArray), (⟨#[114, 114, 105]⟩ : ByteArray), (⟨#[114, 105]⟩ : ByteArray), (⟨#[105, 114, 114]⟩ : ByteArray)] v] q2 (by simp) (by simp only [List.length_cons, List.length_nil]; omega) (fun x hx => by simp only [List.mem_singleton] at hx; subst hx; exact hz) hq2
  refine ⟨ts, q3, ?_, hr⟩
  unfold spec_l1Rd_types.f
  refine Ev.bindo e (Ev.pos hv0 (Ev.pos (by simp only []; omega) (Ev.bindo e2 ?_)))
  simp only []
  rw [show n = ((n.toNat : Nat) : Int) from by omega]
  exact e3
theorem drawTypes_ev {l : List Int} {p : Int} (h : Rd l p) : ∃ ts q, Ev (fun k => spec_l1Rd_types.f k l p) (l, q, ts) ∧ 1 ≤ ts.length ∧ ts.length ≤ 100 ∧ (∀ x ∈ ts, x.size ≤ 100) ∧ Rd l q := by
  obtain ⟨ts, q, e, h1, h2, h3, h4⟩ := drawTypes1_ev h
  exact ⟨ts, q, e, h1, h2, fun x hx => (h3 x hx).2, h4⟩
end Go.Proofs.YtommgpkeicpokaaGreatDoor.Abs
