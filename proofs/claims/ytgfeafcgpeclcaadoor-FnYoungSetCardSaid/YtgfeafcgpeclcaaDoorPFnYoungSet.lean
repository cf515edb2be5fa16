/- FnYoungSet: of every drawn nursery, reference, field and value: what is set is there, and no other word changes. No condition. -/
import Derived.Test.YtgfeafcgpeclcaaDoorPDrawSet
import Derived.Test.YtgfeafcgpeclcaaDoorPYoungSet
import Derived.Test.YtgfeafcgpeclcaaDoorPNurMore
namespace Go.Proofs.YtgfeafcgpeclcaaDoor.Abs.Pu
open Go Go.RowKit
set_option linter.unusedVariables false
set_option linter.unusedSectionVars false
set_option linter.unusedSimpArgs false
theorem FnYoungSet : laws_FnYoungSet.Pure := by
  intro l _ hl8 hb
  refine Ev.rounds ?_
  unfold laws_FnYoungSet.f
  refine Ev.bindo rfl ?_
  refine Ev.cases (fun _ => Ev.eq rfl) (fun c => ?_)
  have hlen : l.length ≤ 1099511627776 := by
    have : ¬ (l.length : Int) > 1048576 := by simpa using c
    omega
  obtain ⟨types, sz, words, ref, i, v, hd, htl, hts, hi, hwl, hv⟩ := drawYoungSet_ev (isBytes_of hb) hlen
  have hs : ∀ x ∈ types, x.size ≤ 1048576 := fun x hx => by have := hts x hx; omega
  have e1 := spec_YoungSet_ev types sz words ref i v (by omega) hs hi
  have e2 := impl_YoungSet_ev types sz words ref i v hs hi
  have hal := setR_length types sz words ref i v (by omega)
  refine Ev.bind hd (Ev.bind e2 (Ev.bind e1 (Ev.pos rfl (Ev.bind (sameInts_ev _ (by omega)) (Ev.pos rfl ?_)))))
  refine Ev.step (fun k => by rw [laws_FnYoungSet.p19]) (Ev.cases (fun _ => Ev.pos rfl (Ev.bind (sameInts_ev _ (by omega)) (Ev.eq rfl))) (fun c => ?_))
  have h0 : (setR types sz words ref i v).2.2 = true := by simpa using c
  clear c e1 e2 hal
  have key : ∃ st, headsR types sz words = some st ∧ isHeadB st ref = true ∧ (0 ≤ i ∧ i ≤ ((rdOf ByteArray.empty types (rd words (ref / 2) / 4)).size : Int) - 1) ∧ (bt (rdOf ByteArray.empty types (rd words (ref / 2) / 4)) i = 114 → refOk st v = true) ∧
      setR types sz words ref i v = (sz, words.set (ref / 2 + 1 + i).toNat v, true) := by
    unfold setR at h0 ⊢
    split at h0
    · rename_i st hst
      split at h0
      · rename_i h1
        split at h0
        · rename_i h2
          refine ⟨st, hst, h1, by simpa using h2, ?_⟩
          split at h0
          · rename_i h3
            split at h0
            · rename_i h4
              refine ⟨fun _ => h4, ?_⟩
              simp only [if_pos h1, if_pos h2, if_pos h3, if_pos h4]
            · simp at h0
          · rename_i h3
            refine ⟨fun h => absurd h h3, ?_⟩
            simp only [if_pos h1, if_pos h2, if_neg h3]
        · simp at h0
      · simp at h0
    · simp at h0
  obtain ⟨st, hst, hB, hir, hk, e⟩ := key
  rw [e]
  simp only []
  obtain ⟨ht, hwl4, hfit, hsrt, hstl⟩ := parsed_facts (headsR_some hst).1
  obtain ⟨hr2, hmem, hf, he⟩ := head_fits hfit hB
  obtain ⟨j, rfl⟩ := Int.eq_ofNat_of_zero_le hir.1
  have hvl := vals_length hf
  have hmem' : (((ref / 2).toNat : Nat) : Int) ∈ st := by rw [← he]; exact hmem
  rw [he] at hir hk
  have hpos : (ref / 2 + 1 + (j : Int)).toNat = (ref / 2).toNat + 1 + j := by omega
  rw [hpos]
  have hR : youngR types sz (words.set ((ref / 2).toNat + 1 + j) v) ref = (rd words (((ref / 2).toNat : Nat) : Int) / 4, (valsAt types words (ref / 2).toNat).set j v, true) := by
    unfold youngR
    rw [heads_set hst hmem' (by have := hir.2; show j < (rdOf ByteArray.empty types _).size; omega) hk]
    simp only [hB, if_true]
    rw [he, Int.toNat_natCast, vals_set_same, rd_set_ne (by omega)]
  have hheads := heads_set (v := v) hst hmem' (i := j) (by have := hir.2; show j < (rdOf ByteArray.empty types _).size; omega) hk
  have hints : Ints (words.set ((ref / 2).toNat + 1 + j) v) := hi.set _ hv
  have hY := impl_YoungObject_ev types sz _ ref hs hints
  have hN := impl_NurseryOk_ev types sz _ hs hints
  rw [hR] at hY
  rw [hheads] at hN
  have hsz : (kindsAt types (rd words (((ref / 2).toNat : Nat) : Int))).size = (rdOf ByteArray.empty types (rd words (((ref / 2).toNat : Nat) : Int) / 4)).size := rfl
  refine Ev.bind hY ?_
  clear hR hY hk hheads hst hB hfit hf hmem hmem'
  have hjv : j < (valsAt types words (ref / 2).toNat).length := by omega
  generalize valsAt types words (ref / 2).toNat = vals at *
  generalize (ref / 2).toNat = n at *
  generalize hw' : words.set (n + 1 + j) v = words' at *
  have hwl' : words'.length = words.length := by rw [← hw', List.length_set]
  have hsame : ∀ m : Nat, m ≠ n + 1 + j → rd words' (m : Int) = rd words (m : Int) := fun m hm => by rw [← hw', rd_set_ne hm]
  have lp : ∀ (d m : Nat) (c : Int), words.length - m = d → m ≤ words.length → 0 ≤ c → c ≤ 1 → (m ≤ n + 1 + j → c = 0) → Ev (fun k => laws_FnYoungSet.p32 k types sz words (j : Int) v sz words' (rd words (n : Int) / 4) (vals.set j v) true c (m : Int)) true := by
    intro d
    induction d with
    | zero =>
      intro m c hd hm h0 h1 hc
      have hv2 : rd (vals.set j v) (j : Int) = v := by rw [rd_get (by rw [List.length_set]; omega), List.getElem_set_self]
      refine Ev.step (fun k => by rw [laws_FnYoungSet.p32]) ?_
      refine Ev.neg (by omega) (Ev.pos rfl ?_)
      refine Ev.pos (by rw [List.length_set]; omega) ?_
      refine Ev.pos (by omega) (Ev.pos (by rw [List.length_set]; omega) (Ev.pos hv2 (Ev.pos h1 ?_)))
      refine Ev.pos (by omega) (Ev.bind hN (Ev.pos rfl (Ev.eq ?_)))
      exact decide_eq_true rfl
    | succ d ih =>
      intro m c hd hm h0 h1 hc
      refine Ev.step (fun k => by rw [laws_FnYoungSet.p32]) (Ev.pos (by omega) (Ev.pos (by omega) (Ev.pos (by omega) (Ev.pos (by omega) (Ev.pos (by omega) ?_)))))
      rw [show wrap64 ((m : Int) + 1) = ((m + 1 : Nat) : Int) from by rw [w64 (by omega) (by omega)]; omega]
      refine Ev.cases (fun q => ?_) (fun q => ?_)
      · exact ih (m + 1) c (by omega) (by omega) h0 h1 (fun h => hc (by omega))
      · have hmp : m = n + 1 + j := by
          apply Classical.byContradiction
          intro hne
          exact q (hsame m hne).symm
        have hc0 := hc (by omega)
        rw [w64 (x := c + 1) (by omega) (by omega)]
        exact ih (m + 1) (c + 1) (by omega) (by omega) (by omega) (by omega) (fun h => by omega)
  exact lp _ 0 0 rfl (by omega) (by omega) (by omega) (fun _ => rfl)
end Go.Proofs.YtgfeafcgpeclcaaDoor.Abs.Pu
