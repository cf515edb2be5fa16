/- ReadSuper: what the reference and the program come to. For texts of 64 bytes, or any. -/
import Derived.Test.YtlljkankongifaaDoorPReadSuperR
import Derived.Test.YtlljkankongifaaDoorPObjBytes
namespace Go.Proofs.YtlljkankongifaaDoor.Abs.Pu
open Go Go.RowKit
set_option linter.unusedVariables false
set_option linter.unusedSectionVars false
set_option linter.unusedSimpArgs false
theorem spec_ReadShort_f (s : ByteArray) (p : Nat) (h : p + 2 ≤ s.size) : spec_ReadShort.f (s.extract p (p + 2)) = some (rdS s p, true) := by
  have hz : (s.extract p (p + 2)).size = 2 := by rw [ByteArray.size_extract]; omega
  have b0 := bt_extract s p (p + 2) 0 (by omega) h
  have b1 := bt_extract s p (p + 2) 1 (by omega) h
  have r0 := bt_range s ((p + 0 : Nat) : Int)
  have r1 := bt_range s ((p + 1 : Nat) : Int)
  unfold spec_ReadShort.f rdS
  rw [if_pos (by omega), if_pos (by omega), if_pos (by omega), byteAt_eq, byteAt_eq]
  rw [show (0 : Int) = ((0 : Nat) : Int) from rfl, show (1 : Int) = ((1 : Nat) : Int) from rfl, b0, b1]
  rw [w64 (x := bt s ((p + 0 : Nat) : Int)) (by omega) (by omega), w64 (x := bt s ((p + 1 : Nat) : Int)) (by omega) (by omega), w64 (x := bt s ((p + 0 : Nat) : Int) * 256) (by omega) (by omega), w64 (by omega) (by omega)]
  rfl
theorem impl_ReadShort_f (s : ByteArray) (p : Nat) (h : p + 2 ≤ s.size) : impl_ReadShort.f (s.extract p (p + 2)) = some (rdS s p, true) := by
  have hz : (s.extract p (p + 2)).size = 2 := by rw [ByteArray.size_extract]; omega
  have b0 := bt_extract s p (p + 2) 0 (by omega) h
  have b1 := bt_extract s p (p + 2) 1 (by omega) h
  have r0 := bt_range s ((p + 0 : Nat) : Int)
  have r1 := bt_range s ((p + 1 : Nat) : Int)
  unfold impl_ReadShort.f rdS
  rw [if_pos (by omega), if_pos (by omega), if_pos (by omega), byteAt_eq, byteAt_eq]
  rw [show (0 : Int) = ((0 : Nat) : Int) from rfl, show (1 : Int) = ((1 : Nat) : Int) from rfl, b0, b1]
  rw [w64 (x := bt s ((p + 0 : Nat) : Int)) (by omega) (by omega), w64 (x := bt s ((p + 1 : Nat) : Int)) (by omega) (by omega), shl8_i64, w64 (x := bt s ((p + 0 : Nat) : Int) * 256) (by omega) (by omega), orA_eq, or8_i64 _ _ (by omega) (by omega) (by omega) (by omega) (by omega)]
  rfl
theorem kindsL_succ (m : Int) (n : Nat) : kindsL m (n + 1) = kindsL m n ++ [kindI m n] := by
  unfold kindsL
  rw [List.range_succ, List.map_append]
  rfl
theorem kindsL_length (m : Int) (n : Nat) : (kindsL m n).length = n := by simp [kindsL]
theorem specT_succ (s : ByteArray) (n : Nat) : specT s (n + 1) = specT s n ++ [typAt s (min (cntAt s n) 24) n] := by
  unfold specT
  rw [List.range_succ, List.map_append]
  rfl
theorem specT_length (s : ByteArray) (n : Nat) : (specT s n).length = n := by simp [specT]
theorem implT_succ (s : ByteArray) (n : Nat) : implT s (n + 1) = implT s n ++ [typAt s (cntAt s n) n] := by
  unfold implT
  rw [List.range_succ, List.map_append]
  rfl
theorem implT_length (s : ByteArray) (n : Nat) : (implT s n).length = n := by simp [implT]
theorem ws1 (k : Nat) (h : k ≤ 1000) : wrap64 (11 + wrap64 (4 * (k : Int))) = ((11 + 4 * k : Nat) : Int) := by
  rw [w64 (x := 4 * (k : Int)) (by omega) (by omega), w64 (by omega) (by omega)]; omega
theorem wi1 (k : Nat) (h : k ≤ 1000) : wrap64 (15 + wrap64 (4 * (k : Int))) = ((15 + 4 * k : Nat) : Int) := by
  rw [w64 (x := 4 * (k : Int)) (by omega) (by omega), w64 (by omega) (by omega)]; omega
theorem wt1 (a : Nat) (h : a ≤ 100000) : wrap64 ((a : Int) + 1) = ((a + 1 : Nat) : Int) := by
  rw [w64 (by omega) (by omega)]; omega
theorem wt2 (a : Nat) (h : a ≤ 100000) : wrap64 ((a : Int) + 2) = ((a + 2 : Nat) : Int) := by
  rw [w64 (by omega) (by omega)]; omega
theorem wt3 (a : Nat) (h : a ≤ 100000) : wrap64 ((a : Int) + 3) = ((a + 3 : Nat) : Int) := by
  rw [w64 (by omega) (by omega)]; omega
theorem cntAt_eq (s : ByteArray) (k : Nat) : bt s ((11 + 4 * k : Nat) : Int) = (cntAt s k : Int) ∧ cntAt s k ≤ 255 := by
  have := bt_range s ((11 + 4 * k : Nat) : Int)
  unfold cntAt
  omega
theorem spec_ReadSuper_ev (s : ByteArray) (hz : s.size = 64) : Ev (fun k => spec_ReadSuper.f k s) (out5 (specR s)) := by
  have hb10 := bt_range s 10
  have a4 := spec_ReadShort_f s 4 (by omega)
  have a6 := spec_ReadShort_f s 6 (by omega)
  have a8 := spec_ReadShort_f s 8 (by omega)
  unfold spec_ReadSuper.f
  refine Ev.pos (by omega) (Ev.pos (by omega) (Ev.bindo a4 (Ev.pos (by omega) (Ev.bindo a6 (Ev.pos (by omega) (Ev.bindo a8 ?_))))))
  simp only []
  -- the end
  have last : ∀ (x5 : Int) (b : Bool), b = false → Ev (fun k => spec_ReadSuper.p26 k s 0 0 0 (rdS s 4) (rdS s 6) (rdS s 8) (specT s (min (bt s 10).toNat 12)) x5 b) (out5 (specR s)) := by
    intro x5 b hb
    have hS := spec_SuperLine_ev (specCfg s) (by show (specT s _).length ≤ _; rw [specT_length]; omega) (fun x hx => by
      obtain ⟨k, _, rfl⟩ := List.mem_map.1 (show x ∈ (List.range _).map _ from hx)
      rw [typAt_size]; omega)
    refine Ev.step (fun k => by rw [spec_ReadSuper.p26]) ?_
    rw [hb]
    refine Ev.neg (by simp) (Ev.bind hS ?_)
    unfold specR
    by_cases h : superR (specCfg s) = s
    · rw [if_pos h]
      exact Ev.pos (toList_inj.2 h) (Ev.eq rfl)
    · rw [if_neg h]
      exact Ev.neg (fun e => h (toList_inj.1 e)) (Ev.eq rfl)
  have loop : ∀ (d k : Nat), k + d = min (bt s 10).toNat 12 → Ev (fun n => spec_ReadSuper.p22 n s 0 0 0 (rdS s 4) (rdS s 6) (rdS s 8) (specT s k) (k : Int)) (out5 (specR s)) := by
    intro d
    induction d with
    | zero =>
      intro k hk
      have hke : k = min (bt s 10).toNat 12 := by omega
      subst hke
      refine Ev.step (fun n => by rw [spec_ReadSuper.p22]) ?_
      rw [byteAt_eq, w64 (x := bt s 10) (by omega) (by omega)]
      refine Ev.pos (by omega) (Ev.cases (fun c => last _ _ (decide_eq_false (by omega))) (fun c => last _ _ rfl))
    | succ d ih =>
      intro k hk
      have hk1 : (k : Int) < bt s 10 := by omega
      have hk2 : k < 12 := by omega
      have nx := ih (k + 1) (by omega)
      rw [specT_succ] at nx
      obtain ⟨hc1, hc2⟩ := cntAt_eq s k
      refine Ev.step (fun n => by rw [spec_ReadSuper.p22]) ?_
      rw [byteAt_eq, w64 (x := bt s 10) (by omega) (by omega), decide_eq_true (show (k : Int) < 12 by omega)]
      refine Ev.pos (by omega) (Ev.pos hk1 ?_)
      have g1 : ((11 + 4 * k + 1 : Nat) : Int) < (s.size : Int) := by omega
      have g2 : ((11 + 4 * k + 2 : Nat) : Int) < (s.size : Int) := by omega
      have g3 : ((11 + 4 * k + 3 : Nat) : Int) < (s.size : Int) := by omega
      have g0 : ((11 + 4 * k : Nat) : Int) < (s.size : Int) := by omega
      have z0 : ∀ n : Nat, (0 : Int) ≤ (n : Int) := fun n => by omega
      refine Ev.step (fun n => by rw [spec_ReadSuper.p26]) ?_
      rw [ws1 k (by omega), wt1 (11 + 4 * k) (by omega), wt2 (11 + 4 * k) (by omega), wt3 (11 + 4 * k) (by omega)]
      refine Ev.pos rfl (Ev.pos (z0 _) (Ev.pos g1 (Ev.pos (z0 _) (Ev.pos g2 (Ev.pos (z0 _) (Ev.pos g3 ?_))))))
      rw [byteAt_eq, byteAt_eq, byteAt_eq]
      show Ev (fun n => spec_ReadSuper.p41 n s 0 0 0 (rdS s 4) (rdS s 6) (rdS s 8) (specT s k) (k : Int) ((11 + 4 * k : Nat) : Int) (maskAt s k) (⟨#[]⟩ : ByteArray) 0) _
      have hTl := specT_length s k
      have gk : k ≤ 4611686018427387904 := by omega
      clear ih
      have inner : ∀ (e j : Nat), j + e = min (cntAt s k) 24 → Ev (fun n => spec_ReadSuper.p41 n s 0 0 0 (rdS s 4) (rdS s 6) (rdS s 8) (specT s k) (k : Int) ((11 + 4 * k : Nat) : Int) (maskAt s k) (strOfNums (kindsL (maskAt s k) j)) (j : Int)) (out5 (specR s)) := by
        intro e
        induction e with
        | zero =>
          intro j hj
          have hje : j = min (cntAt s k) 24 := by omega
          have endp : ∀ b : Bool, b = false → Ev (fun n => spec_ReadSuper.p45 n s 0 0 0 (rdS s 4) (rdS s 6) (rdS s 8) (specT s k) (k : Int) ((11 + 4 * k : Nat) : Int) (maskAt s k) (strOfNums (kindsL (maskAt s k) j)) (j : Int) b) (out5 (specR s)) := by
            intro b hb
            refine Ev.step (fun n => by rw [spec_ReadSuper.p45]) ?_
            have gT : (specT s k).length + 1 ≤ 8796093022208 := by omega
            rw [hb, w64s (i := k) gk]
            rw [← hje] at nx
            exact Ev.neg (by simp) (Ev.pos gT nx)
          refine Ev.step (fun n => by rw [spec_ReadSuper.p41]) ?_
          rw [byteAt_eq, hc1, w64 (x := (cntAt s k : Int)) (by omega) (by omega)]
          exact Ev.pos (z0 _) (Ev.pos g0 (Ev.cases (fun c => endp _ (decide_eq_false (by omega))) (fun c => endp _ rfl)))
        | succ e ihe =>
          intro j hj
          have nj := ihe (j + 1) (by omega)
          rw [kindsL_succ, strOfNums_append] at nj
          have hsz : (strOfNums (kindsL (maskAt s k) j)).size = j := by rw [strOfNums_size, kindsL_length]
          have gj1 : j ≤ 1000000 := by omega
          have gj2 : j ≤ 4611686018427387904 := by omega
          have gj3 : ¬ (j : Int) < 0 := by omega
          have s114 : (⟨#[114]⟩ : ByteArray).size = 1 := rfl
          have s105 : (⟨#[105]⟩ : ByteArray).size = 1 := rfl
          refine Ev.step (fun n => by rw [spec_ReadSuper.p41]) ?_
          rw [byteAt_eq, hc1, w64 (x := (cntAt s k : Int)) (by omega) (by omega), decide_eq_true (show (j : Int) < 24 by omega)]
          refine Ev.pos (z0 _) (Ev.pos g0 (Ev.pos (by omega) ?_))
          refine Ev.step (fun n => by rw [spec_ReadSuper.p45]) ?_
          rw [u64_nat gj1, w64s (i := j) gj2]
          unfold kindI at nj
          refine Ev.pos rfl (Ev.neg gj3 ?_)
          by_cases c : andA .i64 (shrA .i64 (maskAt s k) (j : Int)) 1 = 1
          · rw [if_pos c] at nj
            exact Ev.pos c (Ev.pos (by omega) nj)
          · rw [if_neg c] at nj
            exact Ev.neg c (Ev.pos (by omega) nj)
      exact inner _ 0 (Nat.zero_add _)
  exact loop _ 0 (Nat.zero_add _)
end Go.Proofs.YtlljkankongifaaDoor.Abs.Pu
