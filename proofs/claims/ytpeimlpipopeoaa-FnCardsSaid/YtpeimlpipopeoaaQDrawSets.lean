/- The drawn sets: each draw answers a list of at most nine numbers. For codes of at most 2^40 bytes. -/
import Derived.Test.YtpeimlpipopeoaaQDraws
import Derived.Test.YtpeimlpipopeoaaXSpecql1Rdqset
namespace Go.Proofs.Ytpeimlpipopeoaa.Pure
open Go.RowKit Go.Proofs.Ytpeimlpipopeoaa.X Go.Proofs.YtpeimlpipopeoaaW.PrintWords Go.Proofs.YtpeimlpipopeoaaW.PrintLast
set_option linter.unusedVariables false
set_option linter.unusedSimpArgs false

theorem set_ev {l : List Int} {p : Int} (h : Rd l p) : ∃ v q, Ev (fun k => spec_l1Rd_set.f k l p) (v, q) ∧ v.length ≤ 9 ∧ Rd l q := by
  have lp : ∀ (d : Nat) (i at_ : Int) (acc : List Int) (p : Int), i.toNat = d → 0 ≤ i → i + acc.length ≤ 7 → 0 ≤ at_ → at_ ≤ 30 * (7 - i) → Rd l p →
      ∃ v q, Ev (fun k => spec_l1Rd_set.l0 k acc at_ i l p) (v, q) ∧ v.length ≤ 9 ∧ Rd l q := by
    intro d
    induction d with
    | zero =>
      intro i at_ acc p hd h0 ha h1 h2 hp
      obtain ⟨v, q, e, hv0, hv1, hq⟩ := below_f hp 20 (by omega) (by omega)
      by_cases c0 : v = 0
      · obtain ⟨x, q2, e2, _, _, hq2⟩ := off_ev hq 0 1023 (by omega) (by omega) (by omega) (by omega)
        refine ⟨acc ++ [x], q2, Ev.step (fun k => by rw [spec_l1Rd_set.l0]) (Ev.neg (by omega) (Ev.bindo e (Ev.pos c0 (Ev.bind e2 ?_)))), ?_, hq2⟩
        · exact Ev.pos (by omega) (Ev.eq rfl)
        · rw [List.length_append, List.length_singleton]; omega
      · by_cases c1 : v = 1
        · refine ⟨acc ++ [1022, 1023], q, Ev.step (fun k => by rw [spec_l1Rd_set.l0]) (Ev.neg (by omega) (Ev.bindo e (Ev.neg c0 (Ev.pos c1 ?_)))), ?_, hq⟩
          · refine Ev.bindo rfl ?_
            refine Ev.pos ?_ (Ev.eq rfl)
            simp only [List.length_cons, List.length_nil]; omega
          · simp only [List.length_append, List.length_cons, List.length_nil]; omega
        · exact ⟨_, _, Ev.step (fun k => by rw [spec_l1Rd_set.l0]) (Ev.neg (by omega) (Ev.bindo e (Ev.neg c0 (Ev.neg c1 (Ev.eq rfl))))), by omega, hq⟩
    | succ d ih =>
      intro i at_ acc p hd h0 ha h1 h2 hp
      obtain ⟨v, q, e, hv0, hv1, hq⟩ := below_f hp 30 (by omega) (by omega)
      have hl2 : (acc ++ [at_ + (1 + v)]).length = acc.length + 1 := by rw [List.length_append, List.length_singleton]
      obtain ⟨r, q2, hr, hl, hq2⟩ := ih (i - 1) (at_ + (1 + v)) (acc ++ [at_ + (1 + v)]) q (by omega) (by omega) (by omega) (by omega) (by omega) hq
      refine ⟨r, q2, Ev.step (fun k => by rw [spec_l1Rd_set.l0]) (Ev.pos (by omega) (Ev.bindo e ?_)), hl, hq2⟩
      refine Ev.pos (by omega) ?_
      simp only []
      rw [w64 (x := 1 + v) (by omega) (by omega), w64 (x := at_ + (1 + v)) (by omega) (by omega), w64 (x := i - 1) (by omega) (by omega)]
      exact hr
  obtain ⟨v, q, e, hv0, hv1, hq⟩ := below_f h 8 (by omega) (by omega)
  obtain ⟨r, q2, hr, hl⟩ := lp v.toNat v 0 [] q rfl hv0 (by simp only [List.length_nil]; omega) (by omega) (by omega) hq
  refine ⟨r, q2, ?_, hl⟩
  unfold spec_l1Rd_set.f
  exact Ev.bindo e hr
end Go.Proofs.Ytpeimlpipopeoaa.Pure
