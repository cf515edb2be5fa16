/- FnClosure: of every drawn nursery and roots: what is found is young, each once, and holds the roots' young references and those of its objects. No condition. -/
import Derived.Test.YtgfeafcgpeclcaaDoorPDrawClos
import Derived.Test.YtgfeafcgpeclcaaDoorPClosed
import Derived.Test.YtgfeafcgpeclcaaDoorPNurMore
import Derived.Test.YtgfeafcgpeclcaaDoorPHas
import Derived.Test.YtgfeafcgpeclcaaDoorAbsOpen
namespace Go.Proofs.YtgfeafcgpeclcaaDoor.Abs.Pu
open Go Go.RowKit
set_option linter.unusedVariables false
set_option linter.unusedSectionVars false
set_option linter.unusedSimpArgs false
theorem nodup_take {l : List Int} (h : l.Nodup) {i : Nat} (hi : i < l.length) : l[i] ∉ l.take i := by
  intro hm
  obtain ⟨j, hj, e⟩ := List.getElem_of_mem hm
  rw [List.length_take] at hj
  rw [List.getElem_take] at e
  exact List.pairwise_iff_getElem.1 h j i (by omega) hi (by omega) e
theorem FnClosure : laws_FnClosure.Pure := by
  intro l hb
  have hb := hb.2
  refine Ev.rounds ?_
  unfold laws_FnClosure.f
  refine Ev.bindo rfl ?_
  refine Ev.cases (fun _ => Ev.eq rfl) (fun c => ?_)
  have hlen : l.length ≤ 1099511627776 := by
    have : ¬ (l.length : Int) > 1048576 := by simpa using c
    omega
  obtain ⟨types, sz, words, roots, hd, htl, hts, hi, hwl, hri, hrl⟩ := drawYoungClosure_ev (isBytes_of hb) hlen
  have hs : ∀ x ∈ types, x.size ≤ 1048576 := fun x hx => by have := hts x hx; omega
  have e1 := spec_YoungClosure_ev types sz words roots (by omega) hs hi
  have e2 := impl_YoungClosure_ev types sz words roots hs hi
  have hal := closR_length types sz words roots
  refine Ev.bind hd (Ev.bind e2 (Ev.bind e1 (Ev.pos rfl (Ev.bind (sameInts_ev _ (by omega)) (Ev.pos rfl ?_)))))
  by_cases c : (closR types sz words roots).2 = true
  rotate_left
  · exact Ev.neg c (Ev.pos rfl (Ev.bind (sameInts_ev _ (by omega)) (Ev.eq rfl)))
  refine Ev.pos c ?_
  have h0 := c
  clear c e1 e2
  have key : ∃ st, headsR types sz words = some st ∧ (∀ x ∈ roots, refOk st x = true) ∧ closR types sz words roots = (closureP types words roots, true) := by
    unfold closR at h0 ⊢
    split at h0
    · rename_i st hst
      split at h0
      · rename_i h1
        split at h0
        · rename_i h2
          exact ⟨st, hst, List.all_eq_true.1 h2, by simp only [if_pos h1, if_pos h2]⟩
        · simp at h0
      · simp at h0
    · simp at h0
  obtain ⟨st, hst, hro, e⟩ := key
  rw [e] at hal ⊢
  simp only [] at hal ⊢
  obtain ⟨hp, hn⟩ := headsR_some hst
  obtain ⟨ht, hwl4, hfit, hsrt, hsl⟩ := parsed_facts hp
  have hInv0 := seeAll_inv roots [] (Inv.nil st) hro
  have hInv : Inv st (closureP types words roots) := closeP_inv hfit hn 401 0 _ hInv0
  have hroots : ∀ x ∈ roots, refk x = 2 → x ∈ closureP types words roots := fun x hx h => by
    obtain ⟨c, hc⟩ := closeP_pre types words 401 0 (roots.foldl seeP [])
    unfold closureP
    rw [hc]
    exact List.mem_append_left _ (foldl_mem roots [] x hx h)
  have hclosed := closeP_closed hsl hfit hn 401 0 _ hInv0 (by omega)
  rw [show closeP types words 401 0 (roots.foldl seeP []) = closureP types words roots from rfl] at hclosed
  generalize closureP types words roots = out at *
  have l1 : ∀ (d i : Nat), out.length - i = d → i ≤ out.length → Ev (fun k => laws_FnClosure.p49 k types sz words out (i : Int)) true := by
    intro d
    induction d with
    | zero =>
      intro i hd hi2
      refine Ev.step (fun k => by rw [laws_FnClosure.p49]) ?_
      exact Ev.neg (by omega) (Ev.eq rfl)
    | succ d ih =>
      intro i hd hi2
      have hlt : i < out.length := by omega
      have ih := ih (i + 1) (by omega) (by omega)
      obtain ⟨m, e', hm, hf, hw2, hr2⟩ := out_at hInv hfit hlt
      have hcl := hclosed i (by omega) hlt
      have hY := impl_YoungObject_ev types sz words (rd out (i : Int)) hs hi
      have hB : isHeadB st (rd out (i : Int)) = true := by
        unfold isHeadB
        rw [hr2, e']
        simp [hm]
      have hR : youngR types sz words (rd out (i : Int)) = (rd words (m : Int) / 4, valsAt types words m, true) := by
        unfold youngR
        rw [hst]
        simp only [hB, if_true]
        rw [e', Int.toNat_natCast]
      rw [hR] at hY
      rw [e', Int.toNat_natCast] at hcl
      have hvl := vals_length hf
      obtain ⟨m', e'', h1, h2, h3, h4⟩ := id hf
      obtain rfl : m' = m := by omega
      have hks := parse_size ht (rd words (m' : Int))
      refine Ev.step (fun k => by rw [laws_FnClosure.p49]) ?_
      refine Ev.pos (by omega) (Ev.pos (by omega) (Ev.pos (by omega) (Ev.bind hY ?_)))
      refine Ev.pos rfl (Ev.pos (by omega) (Ev.pos (by omega) (Ev.pos (by omega) (Ev.pos (by omega) ?_))))
      rw [Int.toNat_natCast, List.drop_zero]
      refine Ev.bind (has_ev (out.take i) (rd out (i : Int)) (by rw [List.length_take]; omega)) ?_
      have hnt : ¬ rd out (i : Int) ∈ out.take i := by
        rw [rd_get hlt]
        exact nodup_take hInv.nd hlt
      refine Ev.neg (by simpa using hnt) ?_
      have hkk : rdOf ByteArray.empty types (rd words (m' : Int) / 4) = kindsAt types (rd words m') := rfl
      simp only []
      generalize kindsAt types (rd words (m' : Int)) = kk at *
      generalize valsAt types words m' = vals at *
      have l2 : ∀ (q j : Nat), vals.length - j = q → j ≤ vals.length → Ev (fun k => laws_FnClosure.p71 k types sz words out (i : Int) (rd words (m' : Int) / 4) vals (j : Int)) true := by
        intro q
        induction q with
        | zero =>
          intro j hq hj
          refine Ev.step (fun k => by rw [laws_FnClosure.p71]) ?_
          refine Ev.neg (by omega) ?_
          rw [show wrap64 ((i : Int) + 1) = ((i + 1 : Nat) : Int) from by rw [w64 (by omega) (by omega)]; omega]
          exact ih
        | succ q ihq =>
          intro j hq hj
          have hlt2 : j < vals.length := by omega
          have ihq := ihq (j + 1) (by omega) (by omega)
          have hc := hcl j hlt2
          refine Ev.step (fun k => by rw [laws_FnClosure.p71]) ?_
          rw [hkk, rd_get hlt2, show wrap64 ((j : Int) + 1) = ((j + 1 : Nat) : Int) from by rw [w64 (by omega) (by omega)]; omega]
          generalize vals[j] = x at *
          refine Ev.pos (by omega) (Ev.pos (by omega) (Ev.pos h3 (Ev.pos (by omega) (Ev.pos (by omega) ?_))))
          refine Ev.cases (fun c1 => ?_) (fun c1 => ihq)
          refine Ev.pos (by omega) (Ev.pos (by omega) (Ev.bindo (impl_RefKind_f x) (Ev.cases (fun c2 => ?_) (fun c2 => ihq))))
          exact Ev.pos (by omega) (Ev.pos (by omega) (Ev.bind (has_ev out x (by omega)) (Ev.pos (decide_eq_true (hc c1 c2)) ihq)))
      exact l2 _ 0 rfl (by omega)
  have l0 : ∀ (d i : Nat), roots.length - i = d → i ≤ roots.length → Ev (fun k => laws_FnClosure.p28 k types sz words roots out (i : Int)) true := by
    intro d
    induction d with
    | zero =>
      intro i hd hi2
      refine Ev.step (fun k => by rw [laws_FnClosure.p28]) ?_
      exact Ev.neg (by omega) (l1 _ 0 rfl (by omega))
    | succ d ih =>
      intro i hd hi2
      have hlt : i < roots.length := by omega
      have ih := ih (i + 1) (by omega) (by omega)
      have hc := hroots roots[i] (List.getElem_mem hlt)
      refine Ev.step (fun k => by rw [laws_FnClosure.p28]) ?_
      rw [rd_get hlt, show wrap64 ((i : Int) + 1) = ((i + 1 : Nat) : Int) from by rw [w64 (by omega) (by omega)]; omega]
      generalize roots[i] = x at *
      refine Ev.pos (by omega) (Ev.pos (by omega) (Ev.pos (by omega) (Ev.bindo (impl_RefKind_f x) (Ev.cases (fun c2 => ?_) (fun c2 => ih)))))
      exact Ev.pos (by omega) (Ev.pos (by omega) (Ev.bind (has_ev out x (by omega)) (Ev.pos (decide_eq_true (hc c2)) ih)))
  exact l0 _ 0 rfl (by omega)
end Go.Proofs.YtgfeafcgpeclcaaDoor.Abs.Pu
