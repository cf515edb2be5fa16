/- Lean functions, walks and rows for the seat Ytnhladaobcnmhaa, written by a program of this repo (wip/tools/xprint.py). -/
import Derived.Test.YtnhladaobcnmhaaX0
import Derived.Test.YtnhladaobcnmhaaShelfSl
namespace Go.Proofs.Ytnhladaobcnmhaa.X
open Go.RowKit Go.Proofs.YtnhladaobcnmhaaW.PrintWords Go.Proofs.YtnhladaobcnmhaaW.PrintLast Go.Proofs.YtnhladaobcnmhaaW.PrintMore
attribute [local go_sem] max2_int min2_int max_two min_two max_three min_three max_four min_four   -- for this text's walks alone
set_option linter.unusedVariables false
set_option linter.unusedSimpArgs false

/-! ### slices_Delete_int64_int64: function 102 -/

def slices_Delete_int64_int64.f (l0 : List Int) (a1 a2 : Int) : Option (List Int) := if 0 ≤ a1 then (if a1 < a2 then (if a2 ≤ l0.length then (if l0.length ≤ 1099511627776 then some (l0.take a1.toNat ++ l0.drop a2.toNat) else none) else none) else none) else none
theorem slices_Delete_int64_int64.calls (P0_ : Nat → Prop) (u9000_ : Value) (l0 : List Int) (a1 : Int) (a2 : Int) (r : List Int) (w0 w : World) (hB : Below w0.heap.size w0 w) (ho0 : Kd.R (Kd.int .i64) 2 w w0.heap.size P0_ u9000_ l0) (h : slices_Delete_int64_int64.f l0 a1 a2 = some r) :
    Calls Try.prog 102 #[u9000_, .int .i64 a1, .int .i64 a2] w fun e w' => ∃ v0_ : Value, e = .returned (v0_) ∧ Kd.R (Kd.int .i64) 2 w' w0.heap.size (fun k_ => (P0_ k_ ∨ w.heap.size ≤ k_)) v0_ r ∧ Below w0.heap.size w0 w' ∧ Kept w w' (fun k_ => P0_ k_) := by
  unfold slices_Delete_int64_int64.f at h
  split at h
  · rename_i h0
    split at h
    · rename_i h1
      split at h
      · rename_i h2
        split at h
        · rename_i hlen
          obtain rfl := Option.some.inj h
          obtain ⟨i, rfl⟩ := Int.eq_ofNat_of_zero_le h0
          obtain ⟨j, rfl⟩ := Int.eq_ofNat_of_zero_le (show 0 ≤ a2 by omega)
          simp only [Int.toNat_natCast]
          have hp := ho0.1
          have hown := Kd.own_of_R ho0
          rcases hown.2 with ⟨rfl, hn⟩ | ⟨g, cap, cur, rfl, hb, hg, hnc, hcm, hcs, htake⟩
          · omega
          · have hcells : ∀ j, j < l0.length → w.cell? ⟨g, 0 + j, none⟩ = some (.int .i64 (l0.getD j 0)) := by
              intro j hj
              have e : cur.toList[j]? = some (.int .i64 (l0.getD j 0)) := by
                have h1 : (cur.toList.take (l0.length * 1))[j]? = some (.int .i64 (l0.getD j 0)) := by
                  rw [htake]
                  simp [encs, List.getD_eq_getElem?_getD, hj]
                rwa [List.getElem?_take, if_pos (by omega)] at h1
              simp only [World.cell?, hg]
              simpa using e
            have hfro : ∀ j, j < l0.length → w.frozen? ⟨g, 0 + j, none⟩ = false := by
              intro j _
              simp [World.frozen?, hg]
            refine (Go.Proofs.Try.slices_Delete_int_cells g 0 l0.length cap i j l0 w (Nat.le_refl _) hnc (Nat.le_trans hcm (by decide)) (by omega) (by omega) hcells hfro).mono ?_
            rintro e w' ⟨rfl, q, rfl⟩
            rw [List.take_of_length_le (Nat.le_refl _)]
            have hvl : ((l0.take i ++ l0.drop j ++ List.replicate (j - i) 0).map (Value.int .i64)).length = l0.length := by simp; omega
            have hrl : (l0.take i ++ l0.drop j).length = l0.length - (j - i) := by simp; omega
            have hg2 : (w.drewN q).heap[g]? = some (.cells cur 2 (0, 0)) := hg
            obtain ⟨cur', h3, h4, h5⟩ := setCells_row ((l0.take i ++ l0.drop j ++ List.replicate (j - i) 0).map (Value.int .i64)) 0 (w.drewN q) cur hg2 (by rw [hvl]; omega)
            obtain ⟨s1, s2, s3, s4⟩ := setCells_same g ((l0.take i ++ l0.drop j ++ List.replicate (j - i) 0).map (Value.int .i64)) 0 (w.drewN q)
            have hfar : ∀ k, k ≠ g → ((w.drewN q).setCells g 0 ((l0.take i ++ l0.drop j ++ List.replicate (j - i) 0).map (Value.int .i64))).heap[k]? = (w.drewN q).heap[k]? := fun k hk => setCells_far _ _ k hk
            generalize (w.drewN q).setCells g 0 ((l0.take i ++ l0.drop j ++ List.replicate (j - i) 0).map (Value.int .i64)) = w' at *
            have hlt : g < w.heap.size := (Array.getElem?_eq_some_iff.1 hg).1
            have hsz : w.heap.size ≤ w'.heap.size := Nat.le_of_eq s4.symm
            have hgr : w.grownBy w' (some g) := ⟨s1, s2, s3, hsz, fun k _ hk => hfar k (fun he => hk (by rw [he]))⟩
            refine ⟨_, rfl, ?_, hB.grown hgr hB.size (fun k hk => by injection hk with hk; omega), hsz, fun i hi hS => hfar i (fun he => hS (by rw [he]; exact hp g rfl))⟩
            rw [← hrl]
            refine Kd.R_of_own (h1 := fun _ => rfl) ⟨by simp [encs], .inr ⟨g, cap, cur', rfl, hb, h3, by omega, hcm, by rw [h4]; exact hcs, ?_⟩⟩ (fun k hk => .inl (hp k hk))
            rw [h5, List.take_zero, List.nil_append, List.map_append, List.append_assoc, Nat.mul_one]
            exact List.take_left' (List.length_map _)
        · cases h
      · cases h
    · cases h
  · cases h


end Go.Proofs.Ytnhladaobcnmhaa.X
