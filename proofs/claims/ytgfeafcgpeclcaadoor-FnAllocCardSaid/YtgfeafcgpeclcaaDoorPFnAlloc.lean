/- FnAlloc: of every drawn nursery and type, a new object is the last one, with all fields zero, and the others are as they were. No condition. -/
import Derived.Test.YtgfeafcgpeclcaaDoorPDrawAlloc
import Derived.Test.YtgfeafcgpeclcaaDoorPYoungAlloc
import Derived.Test.YtgfeafcgpeclcaaDoorPNurMore
namespace Go.Proofs.YtgfeafcgpeclcaaDoor.Abs.Pu
open Go Go.RowKit
set_option linter.unusedVariables false
set_option linter.unusedSimpArgs false
set_option linter.unusedSectionVars false
theorem FnAlloc : laws_FnAlloc.Pure := by
  intro l _ hl8 hb
  refine Ev.rounds ?_
  unfold laws_FnAlloc.f
  refine Ev.bindo rfl ?_
  refine Ev.cases (fun _ => Ev.eq rfl) (fun c => ?_)
  have hlen : l.length ≤ 1099511627776 := by
    have : ¬ (l.length : Int) > 1048576 := by simpa using c
    omega
  obtain ⟨types, sz, words, t, hd, htl, hts, hi, hwl⟩ := drawYoungAlloc_ev (isBytes_of hb) hlen
  have hs : ∀ x ∈ types, x.size ≤ 1048576 := fun x hx => by have := hts x hx; omega
  have e1 := spec_YoungAlloc_ev types sz words t (by omega) hs hi
  have e2 := impl_YoungAlloc_ev types sz words t hs hi
  have hal := allocR_length types sz words t
  refine Ev.bind hd (Ev.bind e2 (Ev.bind e1 (Ev.pos rfl (Ev.pos rfl (Ev.pos rfl (Ev.bind (sameInts_ev _ (by omega)) (Ev.pos rfl ?_)))))))
  refine Ev.step (fun k => by rw [laws_FnAlloc.p19]) (Ev.cases (fun _ => Ev.pos rfl (Ev.pos rfl (Ev.pos rfl (Ev.bind (sameInts_ev _ (by omega)) (Ev.eq rfl))))) (fun c => ?_))
  have h0 : (allocR types sz words t).2.2.2 = 0 := by simpa using c
  clear c e1 e2 hal
  have key : ∃ st, headsR types sz words = some st ∧ (0 ≤ t ∧ t < types.length) ∧ (words.length : Int) + 1 + ((rdOf ByteArray.empty types t).size : Int) ≤ sz ∧ sz ≤ 400 ∧ typesOk types = true ∧
      allocR types sz words t = (sz, words ++ [4 * t] ++ List.replicate (rdOf ByteArray.empty types t).size 0, 2 * (words.length : Int) + 1, 0) := by
    unfold allocR at h0 ⊢
    split at h0
    · rename_i h1
      obtain ⟨st, hst⟩ := Option.isSome_iff_exists.1 h1
      obtain ⟨ht, hz, hl⟩ := heads_some h1
      split at h0
      · rename_i h2
        split at h0
        · simp at h0
        · rename_i h3
          rw [if_pos h1, if_pos h2, if_neg h3]
          simp only [Bool.and_eq_true, decide_eq_true_eq] at h2
          exact ⟨st, hst, by omega, by omega, hz.2, ht, rfl⟩
      · simp at h0
    · simp at h0
  obtain ⟨st, hst, ht, hsz, hsz4, hto, e⟩ := key
  rw [e]
  simp only []
  have hkk : (rdOf ByteArray.empty types t).size ≤ 23 := type_size hto t
  have hints : Ints (words ++ [4 * t] ++ List.replicate (rdOf ByteArray.empty types t).size 0) := by
    have := (allocR_nur (types := types) (sz := sz) (t := t) (words := words) ⟨hi, by omega⟩).ints
    rw [e] at this
    exact this
  have hY := impl_YoungObject_ev types sz (words ++ [4 * t] ++ List.replicate (rdOf ByteArray.empty types t).size 0) (2 * (words.length : Int) + 1) hs hints
  rw [young_alloc hst ht hsz (by omega)] at hY
  have hS := impl_Starts_ev types sz (words ++ [4 * t] ++ List.replicate (rdOf ByteArray.empty types t).size 0) hs hints
  have hN := impl_NurseryOk_ev types sz (words ++ [4 * t] ++ List.replicate (rdOf ByteArray.empty types t).size 0) hs hints
  rw [heads_alloc hst ht hsz] at hS hN
  have hS0 := spec_Starts_ev types sz words (by omega) hs hi
  rw [hst] at hS0
  simp only [Option.getD_some, Option.isSome_some] at hS hS0 hN
  have hstl : st.length ≤ 400 := by
    have := headsR_length types sz words
    rw [hst] at this
    exact this
  refine Ev.bind hY ?_
  have lp : ∀ (d i : Nat), (rdOf ByteArray.empty types t).size - i = d → i ≤ (rdOf ByteArray.empty types t).size → Ev (fun k => laws_FnAlloc.p30 k types sz words t sz (words ++ [4 * t] ++ List.replicate (rdOf ByteArray.empty types t).size 0) t (List.replicate (rdOf ByteArray.empty types t).size 0) true (i : Int)) true := by
    intro d
    induction d with
    | zero =>
      intro i hd hi
      refine Ev.step (fun k => by rw [laws_FnAlloc.p30]) ?_
      refine Ev.neg (by rw [List.length_replicate]; omega) (Ev.bind hS ?_)
      refine Ev.pos rfl ?_
      refine Ev.pos (by simp only [List.length_append, List.length_singleton]; omega) ?_
      refine Ev.pos rfl ?_
      refine Ev.pos (by omega) ?_
      refine Ev.pos (by simp only [List.length_append, List.length_singleton, List.length_replicate]; omega) ?_
      rw [Int.toNat_natCast, List.drop_zero, List.append_assoc, List.take_append_of_le_length (Nat.le_refl _), List.take_length]
      refine Ev.bind (sameInts_ev words (by omega)) (Ev.pos rfl ?_)
      rw [← List.append_assoc]
      refine Ev.bind hN (Ev.pos rfl ?_)
      rw [show wrap64 (((st ++ [(words.length : Int)]).length : Int) - 1) = (st.length : Int) from by rw [List.length_append, List.length_singleton, w64 (by omega) (by omega)]; omega]
      refine Ev.pos (by omega) (Ev.pos (by rw [List.length_append]; omega) (Ev.bind hS0 ?_))
      rw [Int.toNat_natCast, List.drop_zero, List.take_append_of_le_length (Nat.le_refl _), List.take_length]
      refine Ev.bind (sameInts_ev st (by omega)) (Ev.pos rfl (Ev.pos ht.1 (Ev.pos ht.2 (Ev.eq ?_))))
      rw [List.length_replicate]
      simp
    | succ d ih =>
      intro i hd hi
      have e0 : rd (List.replicate (rdOf ByteArray.empty types t).size (0 : Int)) (i : Int) = 0 := by
        rw [rd_get (by rw [List.length_replicate]; omega)]
        simp
      refine Ev.step (fun k => by rw [laws_FnAlloc.p30]) ?_
      refine Ev.pos (by rw [List.length_replicate]; omega) ?_
      refine Ev.pos (by omega) (Ev.pos (by rw [List.length_replicate]; omega) (Ev.pos e0 ?_))
      rw [show wrap64 ((i : Int) + 1) = ((i + 1 : Nat) : Int) from by rw [w64 (by omega) (by omega)]; omega]
      exact ih (i + 1) (by omega) (by omega)
  exact lp _ 0 rfl (by omega)
end Go.Proofs.YtgfeafcgpeclcaaDoor.Abs.Pu
