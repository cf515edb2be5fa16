/- FnForwarded: of every code the program forwards as the reference does. No condition. -/
import Derived.Test.YtnhladaobcnmhaaDoorPForwarded
import Derived.Test.YtnhladaobcnmhaaDoorPDrawObj
import Derived.Test.YtnhladaobcnmhaaDoorPHas
import Derived.Test.YtnhladaobcnmhaaDoorPSame
namespace Go.Proofs.YtnhladaobcnmhaaDoor.Abs.Pu
open Go Go.RowKit
set_option linter.unusedVariables false
set_option linter.unusedSectionVars false
set_option linter.unusedSimpArgs false
theorem drawForwarded_ev {l : List Int} (hb : isBytes l) (hl : l.length ≤ 1099511627776) : ∃ (types : List ByteArray) (o : Int × List Int) (f to : List Int), Ev (fun k => spec_DrawForwarded.f k l) (types, o.1, o.2, f, to) ∧ types.length ≤ 100 ∧ (∀ x ∈ types, x.size ≤ 100) ∧ o.2.length ≤ 100 ∧ f.length ≤ 100 ∧ to.length ≤ 100 := by
  obtain ⟨ts, q, e, h1, h2, hs, hq⟩ := drawTypes1_ev (Rd.start hb hl)
  obtain ⟨t, vals, q2, e2, hv, hq2⟩ := obj_ev hq ts h1 h2 hs
  obtain ⟨m, q3, e3, hm0, hm1, hq3⟩ := below_f hq2 8 (by omega) (by omega)
  have lp : ∀ (d : Nat) (f to : List Int) (p : Int), f.length + d ≤ 50 → to.length + d ≤ 50 → Rd l p → ∃ f' to', Ev (fun k => spec_DrawForwarded.p16 k 0 l p ts t vals f to (d : Int)) (ts, t, vals, f', to') ∧ f'.length ≤ 100 ∧ to'.length ≤ 100 := by
    intro d
    have sn : ∀ (l : List Int) (x : Int), (l ++ [x]).length = l.length + 1 := fun l x => by simp
    induction d with
    | zero =>
      intro f to p hf hto hp
      obtain ⟨a, q, ea, ha0, ha1, hq⟩ := below_f hp 20 (by omega) (by omega)
      by_cases c0 : a = 0
      · refine ⟨f ++ [1], to, Ev.step (fun k => by rw [spec_DrawForwarded.p16]) ?_, by rw [sn]; omega, by omega⟩
        exact Ev.neg (by omega) (Ev.bindo ea (Ev.pos c0 (Ev.pos (by omega) (Ev.eq rfl))))
      by_cases c1 : a = 1
      · obtain ⟨x, q2, e2, _, _⟩ := ref_ev hq
        refine ⟨f ++ [3], to ++ [x], Ev.step (fun k => by rw [spec_DrawForwarded.p16]) ?_, by rw [sn]; omega, by rw [sn]; omega⟩
        exact Ev.neg (by omega) (Ev.bindo ea (Ev.neg c0 (Ev.pos c1 (Ev.pos (by omega) (Ev.bind e2 (Ev.pos (by omega) (Ev.eq rfl)))))))
      · refine ⟨f, to, Ev.step (fun k => by rw [spec_DrawForwarded.p16]) ?_, by omega, by omega⟩
        exact Ev.neg (by omega) (Ev.bindo ea (Ev.neg c0 (Ev.neg c1 (Ev.eq rfl))))
    | succ d ih =>
      intro f to p hf hto hp
      obtain ⟨a, q, ea, ha0, ha1, hq⟩ := below_f hp 10 (by omega) (by omega)
      obtain ⟨b, q2, eb, hb0, hb1, hq2⟩ := below_f hq 2 (by omega) (by omega)
      obtain ⟨c, q3, ec, hc0, hc1, hq3⟩ := below_f hq2 60 (by omega) (by omega)
      obtain ⟨f', to', e', hr⟩ := ih (f ++ [wrap64 (wrap64 (2 * a) + b)]) (to ++ [wrap64 (2 * wrap64 (1 + c))]) q3 (by rw [sn]; omega) (by rw [sn]; omega) hq3
      refine ⟨f', to', Ev.step (fun k => by rw [spec_DrawForwarded.p16]) ?_, hr⟩
      rw [show wrap64 (((d + 1 : Nat) : Int) - 1) = (d : Int) from by rw [w64 (by omega) (by omega)]; omega]
      exact Ev.pos (by omega) (Ev.bindo ea (Ev.bindo eb (Ev.pos (by omega) (Ev.bindo ec (Ev.pos (by omega) e')))))
  obtain ⟨f', to', e4, h3, h4⟩ := lp m.toNat [] [] q3 (by simp only [List.length_nil]; omega) (by simp only [List.length_nil]; omega) hq3
  refine ⟨ts, (t, vals), f', to', ?_, h2, fun x hx => (hs x hx).2, hv, h3, h4⟩
  unfold spec_DrawForwarded.f
  refine Ev.bindo rfl (Ev.bind e (Ev.bind e2 (Ev.bindo e3 ?_)))
  simp only []
  rw [show ((m.toNat : Nat) : Int) = m from by omega] at e4
  exact e4
theorem sameObj_ev (o : Int × List Int) (hl : o.2.length ≤ 1099511627776) : Ev (fun k => laws_sameObj.f k o.1 o.2 o.1 o.2) true := by
  unfold laws_sameObj.f
  exact Ev.pos rfl (Ev.bind (sameInts_ev o.2 hl) (Ev.eq rfl))
theorem FnForwarded : laws_FnForwarded.Pure := by
  intro l hb
  have hb := hb.2
  refine Ev.rounds ?_
  unfold laws_FnForwarded.f laws_big.f
  refine Ev.bindo rfl (Ev.cases (fun _ => Ev.eq rfl) (fun c0 => ?_))
  simp only [decide_eq_true_eq] at c0
  obtain ⟨types, o, f, to, e, h1, h2, h3, h4, h5⟩ := drawForwarded_ev (isBytes_of hb) (by omega)
  have hs : ∀ x ∈ types, x.size ≤ 1048576 := fun x hx => by have := h2 x hx; omega
  have ei := impl_Forwarded_ev types o f to hs (by omega)
  have es := spec_Forwarded_ev types o f to (by omega) hs
  have hR := fwdR_length types o f to
  have eq := sameObj_ev (fwdR types o f to) (by omega)
  refine Ev.bind e (Ev.bind ei (Ev.bind es (Ev.bind eq (Ev.pos rfl ?_))))
  have good : Ev (fun k => laws_FnForwarded.p17 k types o.1 o.2 f to (fwdR types o f to).1 (fwdR types o f to).2 true) true := by
    refine Ev.step (fun k => by rw [laws_FnForwarded.p17]) ?_
    exact Ev.pos rfl (Ev.bind es (Ev.bind eq (Ev.eq rfl)))
  refine Ev.bind (spec_ObjOk_ev types o (by omega) hs) (Ev.cases (fun ho => ?_) (fun _ => good))
  refine Ev.cases (fun hl => ?_) (fun _ => good)
  simp only [] at hl
  have hl : f.length = to.length := by omega
  by_cases hz : (fwdR types o f to).2.length = 0
  · rw [decide_eq_true (by omega)]
    exact good
  rw [decide_eq_false (by omega)]
  obtain ⟨ht, o0, o1, oz, orf, ov⟩ := objOk_facts ho
  have hall : to.all okRef = true := by
    by_cases c : to.all okRef = true
    · exact c
    · unfold fwdR at hz
      rw [if_pos ho, if_pos hl, if_pos (by omega), if_neg c] at hz
      exact absurd rfl hz
  have hF : fwdR types o f to = (o.1, fwdV (rdOf ByteArray.empty types o.1) f to 0 o.2) := by
    unfold fwdR
    rw [if_pos ho, if_pos hl, if_pos (by omega), if_pos hall]
  rw [hF]
  have hlen := fwdV_length (rdOf ByteArray.empty types o.1) f to o.2 0
  have hget := fwdV_get (rdOf ByteArray.empty types o.1) f to o.2 0
  have hok : objOkB types (o.1, fwdV (rdOf ByteArray.empty types o.1) f to 0 o.2) = true := by
    unfold objOkB objW
    simp only [Bool.and_eq_true, decide_eq_true_eq]
    refine ⟨ht, ⟨o0, by omega⟩, by omega, refsB_fwd (fun v hv => ?_) o.2 0 orf⟩
    rcases fwd1_mem v f to with h | ⟨_, h⟩
    · rw [h]; exact hv
    · exact List.all_eq_true.1 hall _ h
  have e0 := impl_Forwarded_ev types o [] [] hs (by simp)
  have hN : fwdR types o [] [] = o := by
    unfold fwdR
    rw [if_pos ho, if_pos rfl, if_pos (by simp), if_pos (by simp), fwdV_nil]
  rw [hN] at e0
  have e1 := impl_ObjOk_ev types (o.1, fwdV (rdOf ByteArray.empty types o.1) f to 0 o.2) hs
  rw [hok] at e1
  have e2 := sameObj_ev o (by omega)
  clear good eq hF hok orf e0 ei es
  have e0 := impl_Forwarded_ev types o [] [] hs (by simp)
  rw [hN] at e0
  obtain ⟨tp, vals⟩ := o
  simp only [] at *
  generalize fwdV (rdOf ByteArray.empty types tp) f to 0 vals = R at *
  refine Ev.step (fun k => by rw [laws_FnForwarded.p17]) ?_
  refine Ev.neg (by simp) ?_
  refine each_ev (n := vals.length) (g := fun k i => laws_FnForwarded.p26 k types tp vals f to tp R i) (fun i hi ih => ?_) ?_
  · have hi2 : i < R.length := by omega
    refine Ev.step (fun k => by rw [laws_FnForwarded.p26]) ?_
    rw [rd_get hi, rd_get hi2, w64s (i := i) (by omega)]
    refine Ev.pos (by omega) (Ev.pos (by omega) (Ev.pos (by omega) (Ev.pos (by omega) (Ev.pos (by omega) (Ev.cases (fun _ => ih) (fun c => ?_))))))
    have hg := hget i hi hi2
    rw [Nat.zero_add] at hg
    have hk : bt (rdOf ByteArray.empty types tp) (i : Int) = 114 := by
      by_cases k : bt (rdOf ByteArray.empty types tp) (i : Int) = 114
      · exact k
      · rw [if_neg k] at hg; exact absurd hg c
    rw [if_pos hk] at hg
    rcases fwd1_mem vals[i] f to with h | ⟨m1, m2⟩
    · rw [h] at hg; exact absurd hg c
    rw [← hg] at m2
    refine Ev.pos o0 (Ev.pos o1 (Ev.pos (by omega) (Ev.pos (by omega) (Ev.pos hk (Ev.bind (has_ev to _ (by omega)) (Ev.pos (decide_eq_true m2) (Ev.pos (by omega) (Ev.pos (by omega) (Ev.bind (has_ev f _ (by omega)) (Ev.pos (decide_eq_true m1) ih))))))))))
  · refine Ev.step (fun k => by rw [laws_FnForwarded.p26]) ?_
    exact Ev.neg (by omega) (Ev.pos rfl (Ev.pos (by omega) (Ev.bind e0 (Ev.bind e2 (Ev.pos rfl (Ev.bind e1 (Ev.eq rfl)))))))
end Go.Proofs.YtnhladaobcnmhaaDoor.Abs.Pu
