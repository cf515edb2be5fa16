/- ReadSuper: what the program comes to. For texts of 64 bytes. -/
import Derived.Test.YtlljkankongifaaDoorPReadSuper
namespace Go.Proofs.YtlljkankongifaaDoor.Abs.Pu
open Go Go.RowKit
set_option linter.unusedVariables false
set_option linter.unusedSectionVars false
set_option linter.unusedSimpArgs false
theorem impl_ReadSuper_ev (s : ByteArray) (hz : s.size = 64) : Ev (fun k => impl_ReadSuper.f k s) (out5 (implR s)) := by
  have hb10 := bt_range s 10
  have ht : (s.extract 0 60).size = 60 := by rw [ByteArray.size_extract]; omega
  have bad : ∀ (t : ByteArray) (b : Bool), b = true → implR s = none → Ev (fun k => impl_ReadSuper.p7 k s 0 0 0 t b) (out5 (implR s)) := by
    intro t b hb h
    refine Ev.step (fun k => by rw [impl_ReadSuper.p7]) ?_
    rw [hb, h]
    exact Ev.pos rfl (Ev.eq rfl)
  unfold impl_ReadSuper.f
  have hU : Ev (fun k => impl_Unsealed.f k s) (if crcB (s.extract 0 60) = s.extract 60 64 then (s.extract 0 60, true) else (⟨#[]⟩, false)) := by
    unfold impl_Unsealed.f
    rw [show (s.size : Int).toNat = 64 from by omega]
    refine Ev.pos (by omega) (Ev.pos (by omega) (Ev.bind (impl_Crc_ev _ (by omega)) (Ev.pos (by omega) ?_)))
    by_cases h : crcB (s.extract 0 60) = s.extract 60 64
    · rw [if_pos h]
      exact Ev.pos (toList_inj.2 h) (Ev.pos (by omega) (Ev.eq rfl))
    · rw [if_neg h]
      exact Ev.neg (fun e => h (toList_inj.1 e)) (Ev.eq rfl)
  refine Ev.bind hU ?_
  by_cases hcrc : crcB (s.extract 0 60) = s.extract 60 64
  rotate_left
  · rw [if_neg hcrc]
    exact Ev.neg (by simp) (bad _ _ rfl (by unfold implR; rw [if_neg (fun h => hcrc h.1)]))
  rw [if_pos hcrc]
  have bx : ∀ i : Nat, i < 60 → bt (s.extract 0 60) (i : Int) = bt s (i : Int) := fun i hi => by
    have := bt_extract s 0 60 i (by omega) (by omega)
    rwa [Nat.zero_add] at this
  have b10 : bt (s.extract 0 60) 10 = bt s 10 := bx 10 (by omega)
  refine Ev.pos rfl (Ev.pos (by simp only [ht]; decide) ?_)
  rw [byteAt_eq, b10]
  by_cases h12 : bt s 10 ≤ 12
  rotate_left
  · exact bad _ _ (decide_eq_true (by omega)) (by unfold implR; rw [if_neg (fun h => h12 h.2.1)])
  rw [decide_eq_false (by omega)]
  simp only []
  have rdx : ∀ p : Nat, p + 2 ≤ 60 → rdS (s.extract 0 60) p = rdS s p := fun p hp => by
    unfold rdS
    rw [bx p (by omega), bx (p + 1) (by omega)]
  have a4 := impl_ReadShort_f (s.extract 0 60) 4 (by omega)
  have a6 := impl_ReadShort_f (s.extract 0 60) 6 (by omega)
  have a8 := impl_ReadShort_f (s.extract 0 60) 8 (by omega)
  rw [rdx 4 (by omega)] at a4
  rw [rdx 6 (by omega)] at a6
  rw [rdx 8 (by omega)] at a8
  have hpart : ∀ k : Nat, k < 12 → ((s.extract 0 60).extract (11 + 4 * k) (15 + 4 * k)).size = 4 ∧ ∀ i : Nat, i < 4 → bt ((s.extract 0 60).extract (11 + 4 * k) (15 + 4 * k)) (i : Int) = bt s ((11 + 4 * k + i : Nat) : Int) := fun k hk => by
    refine ⟨by rw [ByteArray.size_extract]; omega, fun i hi => ?_⟩
    rw [bt_extract _ _ _ _ (by omega) (by omega), bx _ (by omega)]
  have hIy : configOk (implCfg s) = true → superR (implCfg s) = s → implR s = some (implCfg s) := fun a b => by unfold implR; rw [if_pos ⟨hcrc, h12, a, b⟩]
  have hIn : ¬ (configOk (implCfg s) = true ∧ superR (implCfg s) = s) → implR s = none := fun a => by unfold implR; rw [if_neg (fun h => a h.2.2)]
  generalize s.extract 0 60 = t at *
  refine Ev.step (fun k => by rw [impl_ReadSuper.p7]) ?_
  rw [byteAt_eq, b10, w64 (x := bt s 10) (by omega) (by omega)]
  refine Ev.neg (by simp) (Ev.pos (by omega) (Ev.bindo a4 (Ev.pos (by omega) (Ev.bindo a6 (Ev.pos (by omega) (Ev.bindo a8 (Ev.pos (by omega) ?_)))))))
  simp only []
  have loop : ∀ (d k : Nat), k + d = (bt s 10).toNat → Ev (fun n => impl_ReadSuper.p24 n s 0 0 0 t (rdS s 4) (rdS s 6) (rdS s 8) (implT s k) (bt s 10) (k : Int)) (out5 (implR s)) := by
    intro d
    induction d with
    | zero =>
      intro k hk
      have hke : k = (bt s 10).toNat := by omega
      subst hke
      have hsz : ∀ x ∈ (implCfg s).2.2.2, x.size ≤ 1048576 := fun x hx => by
        obtain ⟨k, _, rfl⟩ := List.mem_map.1 (show x ∈ (List.range _).map _ from hx)
        rw [typAt_size]
        have := (cntAt_eq s k).2
        omega
      have hC := impl_ConfigOk_ev (implCfg s) hsz
      have hS := impl_SuperLine_ev (implCfg s) hsz
      refine Ev.step (fun n => by rw [impl_ReadSuper.p24]) ?_
      refine Ev.neg (by omega) (Ev.bind hC ?_)
      by_cases hc : configOk (implCfg s) = true
      rotate_left
      · rw [hIn (fun h => hc h.1)]
        exact Ev.neg hc (Ev.eq rfl)
      refine Ev.pos hc (Ev.bind hS ?_)
      by_cases h : superR (implCfg s) = s
      · rw [hIy hc h]
        exact Ev.pos (toList_inj.2 h) (Ev.eq rfl)
      · rw [hIn (fun e => h e.2)]
        exact Ev.neg (fun e => h (toList_inj.1 e)) (Ev.eq rfl)
    | succ d ih =>
      intro k hk
      have hk1 : (k : Int) < bt s 10 := by omega
      have hk2 : k < 12 := by omega
      have nx := ih (k + 1) (by omega)
      rw [implT_succ] at nx
      obtain ⟨hc1, hc2⟩ := cntAt_eq s k
      obtain ⟨hp1, hp2⟩ := hpart k hk2
      have p0 : bt (t.extract (11 + 4 * k) (15 + 4 * k)) 0 = bt s ((11 + 4 * k : Nat) : Int) := hp2 0 (by omega)
      have p1 : bt (t.extract (11 + 4 * k) (15 + 4 * k)) 1 = bt s ((11 + 4 * k + 1 : Nat) : Int) := hp2 1 (by omega)
      have p2 : bt (t.extract (11 + 4 * k) (15 + 4 * k)) 2 = bt s ((11 + 4 * k + 2 : Nat) : Int) := hp2 2 (by omega)
      have p3 : bt (t.extract (11 + 4 * k) (15 + 4 * k)) 3 = bt s ((11 + 4 * k + 3 : Nat) : Int) := hp2 3 (by omega)
      have g1 : ((15 + 4 * k : Nat) : Int) ≤ (t.size : Int) := by omega
      have g2 : ((11 + 4 * k : Nat) : Int) ≤ ((15 + 4 * k : Nat) : Int) := by omega
      have z0 : ∀ n : Nat, (0 : Int) ≤ (n : Int) := fun n => by omega
      have gk : k ≤ 4611686018427387904 := by omega
      have gc : -9223372036854775808 ≤ (cntAt s k : Int) ∧ (cntAt s k : Int) ≤ 9223372036854775807 := by omega
      have hTl := implT_length s k
      refine Ev.step (fun n => by rw [impl_ReadSuper.p24]) ?_
      rw [wi1 k (by omega), ws1 k (by omega), Int.toNat_natCast, Int.toNat_natCast]
      generalize t.extract (11 + 4 * k) (15 + 4 * k) = x at *
      rw [byteAt_eq, byteAt_eq, byteAt_eq, byteAt_eq]
      rw [p0, p1, p2, p3, hc1, w64 gc.1 gc.2]
      refine Ev.pos hk1 (Ev.pos (z0 _) (Ev.pos g1 (Ev.pos (z0 _) (Ev.pos g2 (Ev.pos (by omega) (Ev.pos (by omega) (Ev.pos (by omega) (Ev.pos (by omega) ?_))))))))
      show Ev (fun n => impl_ReadSuper.p45 n s 0 0 0 t (rdS s 4) (rdS s 6) (rdS s 8) (implT s k) (maskAt s k) [] (bt s 10) (k : Int) (cntAt s k : Int) 0) _
      clear ih p0 p1 p2 p3 hp2 hpart bx
      have inner : ∀ (e j : Nat), j + e = cntAt s k → Ev (fun n => impl_ReadSuper.p45 n s 0 0 0 t (rdS s 4) (rdS s 6) (rdS s 8) (implT s k) (maskAt s k) (kindsL (maskAt s k) j) (bt s 10) (k : Int) (cntAt s k : Int) (j : Int)) (out5 (implR s)) := by
        intro e
        induction e with
        | zero =>
          intro j hj
          have hje : j = cntAt s k := by omega
          refine Ev.step (fun n => by rw [impl_ReadSuper.p45]) ?_
          have gT : (implT s k).length + 1 ≤ 8796093022208 := by omega
          rw [w64s (i := k) gk]
          rw [← hje] at nx ⊢
          exact Ev.neg (by omega) (Ev.pos gT nx)
        | succ e ihe =>
          intro j hj
          have nj := ihe (j + 1) (by omega)
          have hl := kindsL_length (maskAt s k) j
          have gj2 : j ≤ 4611686018427387904 := by omega
          have gj3 : ¬ (j : Int) < 0 := by omega
          have gj4 : (j : Int) < (cntAt s k : Int) := by omega
          have gj5 : (kindsL (maskAt s k) j).length + 1 ≤ 140737488355328 := by omega
          rw [kindsL_succ] at nj
          unfold kindI at nj
          refine Ev.step (fun n => by rw [impl_ReadSuper.p45]) ?_
          rw [w64s (i := j) gj2]
          refine Ev.pos gj4 (Ev.neg gj3 ?_)
          by_cases c : andA .i64 (shrA .i64 (maskAt s k) (j : Int)) 1 = 1
          · rw [if_pos c] at nj
            exact Ev.pos c (Ev.pos gj5 nj)
          · rw [if_neg c] at nj
            exact Ev.neg c (Ev.pos gj5 nj)
      exact inner _ 0 (Nat.zero_add _)
  exact loop _ 0 (Nat.zero_add _)
end Go.Proofs.YtlljkankongifaaDoor.Abs.Pu
