/- Patched: what the program comes to. For images of at most 2^17 bytes whose set is right. (Merged out of this claim's own texts.) -/
import Derived.Test.YtpeimlpipopeoaaBFnExactPatched1
import Derived.Test.YtpeimlpipopeoaaWMore
import Derived.Laws.BitsLemmas
import Derived.Test.YtpeimlpipopeoaaRows
import Derived.WalkKit
import Derived.ProofKit
import Derived.OpenShut
import Derived.ShutString
import Derived.ChangeOld
import Derived.Below
import Derived.SizedLaws
import Derived.Test.YtpeimlpipopeoaaWSized
namespace Go.Proofs.Ytpeimlpipopeoaa.X
open Go.RowKit Go.Proofs.YtpeimlpipopeoaaW.PrintWords Go.Proofs.YtpeimlpipopeoaaW.PrintLast Go.Proofs.YtpeimlpipopeoaaW.PrintMore
attribute [local go_sem] max2_int min2_int max_two min_two max_three min_three max_four min_four   -- for this text's walks alone
set_option linter.unusedVariables false
set_option linter.unusedSimpArgs false

/-! ### impl_Patched: function 30 -/
mutual
def impl_Patched.j0 : Nat → ByteArray → List Int → List Int → List Int → List Int → Bool → Option (ByteArray × Bool)
  | 0, _, _, _, _, _, _ => none
  | k + 1, x0, x1, x2, x3, x10, x28 => if x28 = true then (some ((⟨#[]⟩ : ByteArray), false)) else (impl_Patched.l0 k x0 x1 x2 x3 x10 (x10.length : Int) 0)
def impl_Patched.l0 : Nat → ByteArray → List Int → List Int → List Int → List Int → Int → Int → Option (ByteArray × Bool)
  | 0, _, _, _, _, _, _, _ => none
  | k + 1, x0, x1, x2, x3, x29, x30, x31 => if x31 < x30 then (if 0 ≤ x31 then (if x31 < (x29.length : Int) then ((slices_Index_int64_int64.f k x2 (rd x29 x31)).bind fun t361 => (if t361 ≥ 0 then (if x31 < (x1.length : Int) then (if 0 ≤ t361 then (if t361 < (x3.length : Int) then ((impl_WordBytes.f k (rd x3 t361)).bind fun t364 => ((impl_replaced.f x0 (wrap64 (8 * (rd x1 x31))) t364).bind fun t365 => (impl_Patched.l0 k t365 x1 x2 x3 x29 x30 (wrap64 (x31 + 1))))) else (none)) else (none)) else (none)) else (impl_Patched.l0 k x0 x1 x2 x3 x29 x30 (wrap64 (x31 + 1))))) else (none)) else (none)) else (some (x0, true))
end
def impl_Patched.f (k : Nat) (a0 : ByteArray) (l1 : List Int) (l2 : List Int) (l3 : List Int) : Option (ByteArray × Bool) := (impl_YoungWords.f k a0 l1).bind fun bt355 => (if bt355.2 = true then ((impl_areForwards.f k l2 l3).bind fun t359 => (impl_Patched.j0 k a0 l1 l2 l3 bt355.1 (!t359))) else (impl_Patched.j0 k a0 l1 l2 l3 bt355.1 true))
theorem impl_Patched.mono_l : ∀ k, (∀ y0 y1 y2 y3 y4 y5, LeO (impl_Patched.j0 k y0 y1 y2 y3 y4 y5) (impl_Patched.j0 (k + 1) y0 y1 y2 y3 y4 y5)) ∧ (∀ y0 y1 y2 y3 y4 y5 y6, LeO (impl_Patched.l0 k y0 y1 y2 y3 y4 y5 y6) (impl_Patched.l0 (k + 1) y0 y1 y2 y3 y4 y5 y6))
  | 0 => ⟨fun _ _ _ _ _ _ r h => by simp [impl_Patched.j0] at h, fun _ _ _ _ _ _ _ r h => by simp [impl_Patched.l0] at h⟩
  | k + 1 => by
    obtain ⟨ih0, ih1⟩ := impl_Patched.mono_l k
    refine ⟨?_, ?_⟩
    · intro y0 y1 y2 y3 y4 y5
      unfold impl_Patched.j0
      repeat' first
      | (with_reducible exact ih0 _ _ _ _ _ _)
      | (with_reducible exact ih1 _ _ _ _ _ _ _)
      | (with_reducible exact impl_WordBytes.mono _ _)
      | (with_reducible exact impl_YoungWords.mono _ _ _)
      | (with_reducible exact impl_areForwards.mono _ _ _)
      | (with_reducible exact slices_Index_int64_int64.mono _ _ _)
      | (with_reducible exact LeO.refl _)
      | (with_reducible exact LeO.none _)
      | (with_reducible refine LeO.ite ?_ ?_)
      | (with_reducible refine LeO.bind ?_ (fun _ => ?_))
      | exact ih0 _ _ _ _ _ _
      | exact ih1 _ _ _ _ _ _ _
      | exact impl_WordBytes.mono _ _
      | exact impl_YoungWords.mono _ _ _
      | exact impl_areForwards.mono _ _ _
      | exact slices_Index_int64_int64.mono _ _ _
      | exact LeO.none _
      | refine LeO.ite ?_ ?_
      | refine LeO.bind ?_ (fun _ => ?_)
    · intro y0 y1 y2 y3 y4 y5 y6
      unfold impl_Patched.l0
      repeat' first
      | (with_reducible exact ih0 _ _ _ _ _ _)
      | (with_reducible exact ih1 _ _ _ _ _ _ _)
      | (with_reducible exact impl_WordBytes.mono _ _)
      | (with_reducible exact impl_YoungWords.mono _ _ _)
      | (with_reducible exact impl_areForwards.mono _ _ _)
      | (with_reducible exact slices_Index_int64_int64.mono _ _ _)
      | (with_reducible exact LeO.refl _)
      | (with_reducible exact LeO.none _)
      | (with_reducible refine LeO.ite ?_ ?_)
      | (with_reducible refine LeO.bind ?_ (fun _ => ?_))
      | exact ih0 _ _ _ _ _ _
      | exact ih1 _ _ _ _ _ _ _
      | exact impl_WordBytes.mono _ _
      | exact impl_YoungWords.mono _ _ _
      | exact impl_areForwards.mono _ _ _
      | exact slices_Index_int64_int64.mono _ _ _
      | exact LeO.none _
      | refine LeO.ite ?_ ?_
      | refine LeO.bind ?_ (fun _ => ?_)
theorem impl_Patched.mono : ∀ a0 a1 a2 a3 k, LeO (impl_Patched.f k a0 a1 a2 a3) (impl_Patched.f (k + 1) a0 a1 a2 a3) := by
  intro a0 a1 a2 a3 k
  obtain ⟨ih0, ih1⟩ := impl_Patched.mono_l k
  unfold impl_Patched.f
  repeat' first
      | (with_reducible exact ih0 _ _ _ _ _ _)
      | (with_reducible exact ih1 _ _ _ _ _ _ _)
      | (with_reducible exact impl_WordBytes.mono _ _)
      | (with_reducible exact impl_YoungWords.mono _ _ _)
      | (with_reducible exact impl_areForwards.mono _ _ _)
      | (with_reducible exact slices_Index_int64_int64.mono _ _ _)
      | (with_reducible exact LeO.refl _)
      | (with_reducible exact LeO.none _)
      | (with_reducible refine LeO.ite ?_ ?_)
      | (with_reducible refine LeO.bind ?_ (fun _ => ?_))
      | exact ih0 _ _ _ _ _ _
      | exact ih1 _ _ _ _ _ _ _
      | exact impl_WordBytes.mono _ _
      | exact impl_YoungWords.mono _ _ _
      | exact impl_areForwards.mono _ _ _
      | exact slices_Index_int64_int64.mono _ _ _
      | exact LeO.none _
      | refine LeO.ite ?_ ?_
      | refine LeO.bind ?_ (fun _ => ?_)
def impl_Patched.T9 : Bool × List (List Nat × List Nat) := (true, [([], []), ([], []), ([], []), ([1, 2], [1, 2]), ([3], [3]), ([4], [4]), ([], []), ([], []), ([6, 7], [6, 7]), ([8], [8]), ([9], [9]), ([0, 5, 10, 10], [0, 5, 10]), ([11, 11, 0, 1, 2, 3, 4, 5, 6, 7, 8, 9, 10, 11], [0, 11])])
def impl_Patched.B9 : List Nat := [0, 0, 0, 6, 14, 30, 0, 0, 192, 448, 960, 2047, 4095]
theorem impl_Patched.tab9 : rtab .any (opsOf Try.f30 9) = impl_Patched.T9 := by kernel_rfl
theorem impl_Patched.bits9 : waitsOk impl_Patched.T9.2 impl_Patched.B9 = true := by kernel_rfl
set_option maxHeartbeats 8000000 in
set_option maxRecDepth 100000 in
theorem impl_Patched.calls (k : Nat) (a0 : ByteArray) (A1 : Option Addr) (c1 : Nat) (l1 : List Int) (A2 : Option Addr) (c2 : Nat) (l2 : List Int) (A3 : Option Addr) (c3 : Nat) (l3 : List Int) (r1 : ByteArray) (r2 : Bool) (w : World) (hr1 : Kd.C (Kd.int .i64) w A1 l1.length l1) (hc1 : l1.length ≤ c1) (hr2 : Kd.C (Kd.int .i64) w A2 l2.length l2) (hc2 : l2.length ≤ c2) (hr3 : Kd.C (Kd.int .i64) w A3 l3.length l3) (hc3 : l3.length ≤ c3) (h : impl_Patched.f k a0 l1 l2 l3 = some (r1, r2)) :
    Calls Try.prog 30 #[.string a0, .slice A1 l1.length c1, .slice A2 l2.length c2, .slice A3 l3.length c3] w fun e w' => e = .returned (.tuple #[.string r1, .bool r2]) ∧ Below w.heap.size w w' := by
  have HR1 := Aside0.mk hr1
  have HC1 := Aside0.mk hc1
  clear hr1 hc1
  have HR2 := Aside0.mk hr2
  have HC2 := Aside0.mk hc2
  clear hr2 hc2
  have HR3 := Aside0.mk hr3
  have HC3 := Aside0.mk hc3
  clear hr3 hc3
  have HB := Aside0.mk (Below.refl w.heap.size w)
  have H : ((impl_YoungWords.f k a0 l1).bind fun bt355 => (if bt355.2 = true then ((impl_areForwards.f k l2 l3).bind fun t359 => (impl_Patched.j0 k a0 l1 l2 l3 bt355.1 (!t359))) else (impl_Patched.j0 k a0 l1 l2 l3 bt355.1 true))) = some (r1, r2) := h
  clear h
  replace H := Option.bind_eq_some_iff.mp H
  obtain ⟨⟨t355, t356⟩, A50, H⟩ := H
  replace H : (if t356 = true then ((impl_areForwards.f k l2 l3).bind fun t359 => (impl_Patched.j0 k a0 l1 l2 l3 t355 (!t359))) else (impl_Patched.j0 k a0 l1 l2 l3 t355 true)) = some (r1, r2) := H
  have A5 := Aside0.mk A50
  clear A50
  have HC6 := Aside0.mk H
  clear H
  go_enter Try.func30, Try.ntmps30
  go_upto_region 2 with (first | ((with_reducible refine gate_callee (f := 24) rfl ?_); refine goesL_ (some 18) rfl rfl Try.func24 (by kernel_rfl) rfl #[.string a0, .slice A1 l1.length c1] rfl (by (try simp only [List.map_toArray, List.map_cons, List.map_nil]); first | done | rfl | (simp only [List.length_drop, List.length_take]; rfl)) ?_; (with_reducible refine (impl_YoungWords.calls k a0 _ _ l1 t355 t356 _ ?side1 ?side2 A5.out).mono ?_); (case side1 => repeat (first | exact HR1.out | (with_reducible refine Kd.C_alloc ?_ _) | (with_reducible refine Kd.C_drewN ?_ _) | (with_reducible refine Kd.C_drew ?_))); (case side2 => exact HC1.out); rintro e w7 ⟨v357, rfl, ho0, hb⟩; refine ⟨_, rfl, ?_⟩; have n0_ := Aside0.mk (Kd.R_lower ho0 (below_size (by repeat (first | (with_reducible first | exact HB.out | apply below_alloc | apply pw_below_drewN | apply below_drew1) | exact HB.out)))); have n1_ := Aside0.mk (below_step (by repeat (first | (with_reducible first | exact HB.out | apply below_alloc | apply pw_below_drewN | apply below_drew1) | exact HB.out)) hb); clear HB; have HO358 := n0_; have HB := n1_; clear n0_ n1_; (try clear hb); (try clear hb2); (try clear hk); (try clear hi); (try clear ho0)))
  (try simp only [Act.put, List.setIfInBounds_toArray, List.set_cons_zero, List.set_cons_succ])
  go_cut [28] (fun v28 wc => ∃ (kq : Nat) (x28_5 : Bool), v28 = .bool x28_5 ∧ Aside0 (impl_Patched.j0 kq a0 l1 l2 l3 t355 x28_5 = some (r1, r2)) ∧ Aside0 (kq ≤ k) ∧ Aside0 (Kd.R (Kd.int .i64) 2 wc w.heap.size (fun _ => True) v357 t355) ∧ Aside0 (Below w.heap.size w wc))
  case first =>
    have H := HC6.out
    clear HC6
    by_cases c8 : t356 = true
    · subst c8
      have H1 : ((impl_areForwards.f k l2 l3).bind fun t359 => (impl_Patched.j0 k a0 l1 l2 l3 t355 (!t359))) = some (r1, r2) := by rw [if_pos rfl] at H; exact H
      clear H
      have H := H1
      clear H1
      replace H := Option.bind_eq_some_iff.mp H
      obtain ⟨t359, A90, H⟩ := H
      replace H : (impl_Patched.j0 k a0 l1 l2 l3 t355 (!t359)) = some (r1, r2) := H
      have A9 := Aside0.mk A90
      clear A90
      have H' := Aside0.mk H
      clear H
      go_wp2_with (first | (go_at_call 60; (with_reducible refine (impl_areForwards.calls k _ _ l2 _ _ l3 t359 _ ?side1 ?side2 ?side3 ?side4 A9.out).mono ?_); (case side1 => repeat (first | exact (Kd.C_below HR2.out HB.out) | (with_reducible refine Kd.C_alloc ?_ _) | (with_reducible refine Kd.C_drewN ?_ _) | (with_reducible refine Kd.C_drew ?_))); (case side2 => exact HC2.out); (case side3 => repeat (first | exact (Kd.C_below HR3.out HB.out) | (with_reducible refine Kd.C_alloc ?_ _) | (with_reducible refine Kd.C_drewN ?_ _) | (with_reducible refine Kd.C_drew ?_))); (case side4 => exact HC3.out); rintro e w10 ⟨rfl, hb⟩; have n0_ := Aside0.mk (Kd.R_below (by (with_reducible repeat (first | apply Kd.R_alloc | apply Kd.R_drewN | apply Kd.R_drew)); exact HO358.out) hb); have n1_ := Aside0.mk (below_step (by repeat (first | (with_reducible first | exact HB.out | apply below_alloc | apply pw_below_drewN | apply below_drew1) | exact HB.out)) hb); clear HO358; clear HB; have HO358 := n0_; have HB := n1_; clear n0_ n1_; (try clear hb); (try clear hb2); (try clear hk); (try clear hi)))
      go_meet
      case rel => exact ⟨_, (!t359), (by first | rfl | (simp; done) | (simp [*]; done)), H', ⟨by first | omega | exact Nat.le_refl _⟩, ⟨by (with_reducible repeat (first | apply Kd.R_alloc | apply Kd.R_drewN | apply Kd.R_drew)); exact HO358.out⟩, ⟨by repeat (first | (with_reducible first | exact HB.out | apply below_alloc | apply pw_below_drewN | apply below_drew1) | exact HB.out)⟩⟩
    · replace c8 := Bool.eq_false_iff.mpr c8
      subst c8
      have H1 : (impl_Patched.j0 k a0 l1 l2 l3 t355 true) = some (r1, r2) := by rw [if_neg (show ¬ (false = true) by decide)] at H; exact H
      clear H
      have H := H1
      clear H1
      have H' := Aside0.mk H
      clear H
      go_wp2
      go_meet
      case rel => exact ⟨_, (true), (by first | rfl | (simp; done) | (simp [*]; done)), H', ⟨by first | omega | exact Nat.le_refl _⟩, ⟨by (with_reducible repeat (first | apply Kd.R_alloc | apply Kd.R_drewN | apply Kd.R_drew)); exact HO358.out⟩, ⟨by repeat (first | (with_reducible first | exact HB.out | apply below_alloc | apply pw_below_drewN | apply below_drew1) | exact HB.out)⟩⟩
  case rest =>
    clear HC6
    try clear c1
    try clear c2
    try clear p2
    try clear c3
    try clear c8
    obtain ⟨kq, x28_5, rfl, HA, HJ5, HO_10, HB⟩ := hcut
    cases kq with
    | zero => exact absurd HA.out (by simp [impl_Patched.j0])
    | succ kj5 =>
      have H := HA.out
      clear HA
      simp only [impl_Patched.j0] at H
      by_cases c11 : x28_5 = true
      · subst c11
        have H1 : (some ((⟨#[]⟩ : ByteArray), false)) = some (r1, r2) := by rw [if_pos rfl] at H; exact H
        clear H
        have H := H1
        clear H1
        simp only [Option.some.injEq, Prod.mk.injEq] at H
        obtain ⟨rfl, rfl⟩ := H
        go_wp2
        go_ret2
        exact ⟨by first | rfl | (simp [errW_none, errW_some] <;> rfl) | (simp [*, errW_none, errW_some] <;> rfl), by repeat (first | (with_reducible first | exact HB.out | apply below_alloc | apply pw_below_drewN | apply below_drew1) | exact HB.out)⟩
      · replace c11 := Bool.eq_false_iff.mpr c11
        subst c11
        have H1 : (impl_Patched.l0 kj5 a0 l1 l2 l3 t355 (t355.length : Int) 0) = some (r1, r2) := by rw [if_neg (show ¬ (false = true) by decide)] at H; exact H
        clear H
        have H := H1
        clear H1
        have H' := Aside0.mk H
        clear H
        obtain ⟨Ao12, co12, eo12⟩ := Kd.R_slice HO_10.out
        subst eo12
        go_wp2
        go_loopg [0, 31] kj5 (fun kq v0 v31 w' => ∃ (x0_2 : ByteArray) (x31_2 : Int), v0 = .string x0_2 ∧ v31 = .int .i64 x31_2 ∧ Aside0 (impl_Patched.l0 kq x0_2 l1 l2 l3 t355 (t355.length : Int) x31_2 = some (r1, r2)) ∧ Aside0 (kq ≤ kj5) ∧ Aside0 (Kd.R (Kd.int .i64) 2 w' w.heap.size (fun _ => True) (.slice Ao12 t355.length co12) t355) ∧ Aside0 (Below w.heap.size w w'))
        case atStart => exact ⟨(a0), (0), (by first | rfl | (simp; done) | (simp [*]; done)), (by first | rfl | (simp; done) | (simp [*]; done)), H', ⟨Nat.le_refl _⟩, ⟨by (with_reducible repeat (first | apply Kd.R_alloc | apply Kd.R_drewN | apply Kd.R_drew)); exact HO_10.out⟩, ⟨by repeat (first | (with_reducible first | exact HB.out | apply below_alloc | apply pw_below_drewN | apply below_drew1) | exact HB.out)⟩⟩
        case round =>
          clear H'
          try clear c1
          try clear c2
          try clear p2
          try clear c3
          try clear c8
          try clear c11
          try clear p2
          obtain ⟨x0_2, x31_2, rfl, rfl, HA, HK2, HO_29, HB⟩ := hrel
          cases gk with
          | zero => exact absurd HA.out (by simp [impl_Patched.l0])
          | succ k2 =>
            have H := HA.out
            clear HA
            simp only [impl_Patched.l0] at H
            by_cases c13 : x31_2 < (t355.length : Int)
            · rw [if_pos c13] at H
              have c13b0 : decide (x31_2 < (t355.length : Int)) = true := decide_eq_true c13
              clear c13
              by_cases c14 : 0 ≤ x31_2
              · rw [if_pos c14] at H
                have c14b0 : decide (0 ≤ x31_2) = true := decide_eq_true c14
                clear c14
                by_cases c15 : x31_2 < (t355.length : Int)
                · rw [if_pos c15] at H
                  have c15b0 : decide (x31_2 < (t355.length : Int)) = true := decide_eq_true c15
                  clear c15
                  replace H := Option.bind_eq_some_iff.mp H
                  obtain ⟨t361, A160, H⟩ := H
                  replace H : (if t361 ≥ 0 then (if x31_2 < (l1.length : Int) then (if 0 ≤ t361 then (if t361 < (l3.length : Int) then ((impl_WordBytes.f k2 (rd l3 t361)).bind fun t364 => ((impl_replaced.f x0_2 (wrap64 (8 * (rd l1 x31_2))) t364).bind fun t365 => (impl_Patched.l0 k2 t365 l1 l2 l3 t355 (t355.length : Int) (wrap64 (x31_2 + 1))))) else (none)) else (none)) else (none)) else (impl_Patched.l0 k2 x0_2 l1 l2 l3 t355 (t355.length : Int) (wrap64 (x31_2 + 1)))) = some (r1, r2) := H
                  have A16 := Aside0.mk A160
                  clear A160
                  by_cases c17 : t361 ≥ 0
                  · rw [if_pos c17] at H
                    have c17b0 : decide (0 ≤ t361) = true := decide_eq_true c17
                    clear c17
                    by_cases c18 : x31_2 < (l1.length : Int)
                    · rw [if_pos c18] at H
                      have c18b0 : decide (x31_2 < (l1.length : Int)) = true := decide_eq_true c18
                      clear c18
                      by_cases c19 : 0 ≤ t361
                      · rw [if_pos c19] at H
                        have c19b0 : decide (0 ≤ t361) = true := decide_eq_true c19
                        clear c19
                        by_cases c20 : t361 < (l3.length : Int)
                        · rw [if_pos c20] at H
                          have c20b0 : decide (t361 < (l3.length : Int)) = true := decide_eq_true c20
                          clear c20
                          replace H := Option.bind_eq_some_iff.mp H
                          obtain ⟨t364, A210, H⟩ := H
                          replace H : ((impl_replaced.f x0_2 (wrap64 (8 * (rd l1 x31_2))) t364).bind fun t365 => (impl_Patched.l0 k2 t365 l1 l2 l3 t355 (t355.length : Int) (wrap64 (x31_2 + 1)))) = some (r1, r2) := H
                          have A21 := Aside0.mk A210
                          clear A210
                          replace H := Option.bind_eq_some_iff.mp H
                          obtain ⟨t365, A220, H⟩ := H
                          replace H : (impl_Patched.l0 k2 t365 l1 l2 l3 t355 (t355.length : Int) (wrap64 (x31_2 + 1))) = some (r1, r2) := H
                          have A22 := Aside0.mk A220
                          clear A220
                          have H' := Aside0.mk H
                          clear H
                          have p360 : 0 ≤ (x31_2 : Int) := of_decide_eq_true (by first | (with_reducible assumption) | assumption)
                          have q360 : x31_2 < (t355.length : Int) := of_decide_eq_true (by first | (with_reducible assumption) | assumption)
                          obtain ⟨ad360, e360, hx360_0⟩ := Kd.at_int (Kd.R_reads' HO_29.out).2.2 x31_2 p360 q360
                          cases e360
                          replace p360 := eq_true p360
                          replace q360 := eq_true q360
                          try go_wp2_with (first | ((with_reducible refine gate_callee (f := 61) rfl ?_); refine goesL_ (some 38) rfl rfl Try.func61 (by kernel_rfl) rfl #[.slice A2 l2.length c2, .int .i64 (rd t355 x31_2)] rfl (by (try simp only [List.map_toArray, List.map_cons, List.map_nil]); first | done | rfl | (simp only [List.length_drop, List.length_take]; rfl)) ?_; (with_reducible refine (slices_Index_int64_int64.calls k2 _ _ l2 (rd t355 x31_2) t361 _ ?side1 ?side2 A16.out).mono ?_); (case side1 => repeat (first | exact (Kd.C_below HR2.out HB.out) | (with_reducible refine Kd.C_alloc ?_ _) | (with_reducible refine Kd.C_drewN ?_ _) | (with_reducible refine Kd.C_drew ?_))); (case side2 => exact HC2.out); rintro e w' ⟨rfl, ⟨nd, rfl⟩⟩; refine ⟨_, rfl, ?_⟩))
                          (try (rw [drewN_self wr]; generalize hq_ : World.drewN wr _ = wr; have n0_ : Aside0 (Kd.R (Kd.int .i64) 2 wr w.heap.size (fun _ => True) (.slice (some ad360) t355.length co12) t355) := ⟨by rw [← hq_]; exact (by (with_reducible repeat (first | apply Kd.R_alloc | apply Kd.R_drewN | apply Kd.R_drew)); exact HO_29.out)⟩; have n1_ : Aside0 (Below w.heap.size w wr) := ⟨by rw [← hq_]; exact (by repeat (first | (with_reducible first | exact HB.out | apply below_alloc | apply pw_below_drewN | apply below_drew1) | exact HB.out))⟩; clear HO_29 HB hq_; have HO_29 := n0_; have HB := n1_; clear n0_ n1_))
                          have n0_ := Aside0.mk (Kd.R_drew HO_29.out)
                          have n1_ := Aside0.mk (below_drew1 HB.out)
                          clear HO_29
                          clear HB
                          have HO_29 := n0_
                          have HB := n1_
                          clear n0_ n1_
                          have p362 : 0 ≤ (x31_2 : Int) := of_decide_eq_true (by first | (with_reducible assumption) | assumption)
                          have q362 : x31_2 < (l1.length : Int) := of_decide_eq_true (by first | (with_reducible assumption) | assumption)
                          obtain ⟨ad362, e362, hx362_0⟩ := Kd.at_int HR1.out x31_2 p362 q362
                          have hw362_0 := hx362_0
                          cases e362
                          replace hx362_0 := (HB.out.cell (World.block_lt_of_cell? w _ hx362_0)).trans hx362_0
                          replace p362 := eq_true p362
                          replace q362 := eq_true q362
                          have p363 : 0 ≤ (t361 : Int) := of_decide_eq_true (by first | (with_reducible assumption) | assumption)
                          have q363 : t361 < (l3.length : Int) := of_decide_eq_true (by first | (with_reducible assumption) | assumption)
                          obtain ⟨ad363, e363, hx363_0⟩ := Kd.at_int HR3.out t361 p363 q363
                          have hw363_0 := hx363_0
                          cases e363
                          replace hx363_0 := (HB.out.cell (World.block_lt_of_cell? w _ hx363_0)).trans hx363_0
                          replace p363 := eq_true p363
                          replace q363 := eq_true q363
                          refine start_ (n := 13) (S := fun w' => w'.cell? (ad362.add (x31_2).toNat) = some (.int .i64 (rd l1 x31_2)) ∧ w'.cell? (ad363.add (t361).toNat) = some (.int .i64 (rd l3 t361))) (ds := []) #[false, false, false, false, false, false, false, false, false, false, false, false, false] (by kernel_rfl) rfl rfl ⟨((HB.out.cell (World.block_lt_of_cell? w _ hw362_0)).trans hw362_0), ((HB.out.cell (World.block_lt_of_cell? w _ hw363_0)).trans hw363_0)⟩ (fun hHeld => ?_); refine with_tabW impl_Patched.tab9 impl_Patched.bits9 (fun HT_ HW_ => ?_)
                          generalize wr.drew = w23 at HO_29 HB hx362_0 hx363_0 hHeld ⊢
                          refine pure_ (i := 0) (N := some 41) (v := ?_) (a' := ?_) #[true, false, false, false, false, false, false, false, false, false, false, false, false] rfl rfl (any_of HT_.out (by kernel_rfl)) (fun _ _ _ h => h) (Or.inl ⟨by rfl, ?_⟩) ?_ ?_
                          rotate_left
                          · intro w'
                            go_simp
                            with_reducible rfl
                          rotate_left
                          · simp only [Act.put, List.setIfInBounds_toArray, List.set_cons_zero, List.set_cons_succ, i64_w, i32_w]
                            rfl
                          refine pure_ (i := 1) (N := some 42) (v := ?_) (a' := ?_) #[true, true, false, false, false, false, false, false, false, false, false, false, false] rfl rfl (any_of HT_.out (by kernel_rfl)) (fun _ _ _ h => h) (Or.inl ⟨by rfl, ?_⟩) ?_ ?_
                          rotate_left
                          · intro w'
                            go_simp
                            with_reducible rfl
                          rotate_left
                          · simp only [Act.put, List.setIfInBounds_toArray, List.set_cons_zero, List.set_cons_succ, i64_w, i32_w]
                            rfl
                          refine pure_ (i := 2) (N := some 43) (v := ?_) (a' := ?_) #[true, true, true, false, false, false, false, false, false, false, false, false, false] rfl rfl (any_of HT_.out (by kernel_rfl)) (fun _ _ _ h => h) (Or.inl ⟨by rfl, ?_⟩) ?_ ?_
                          rotate_left
                          · intro w'
                            go_simp
                            with_reducible rfl
                          rotate_left
                          · simp only [Act.put, List.setIfInBounds_toArray, List.set_cons_zero, List.set_cons_succ, i64_w, i32_w]
                            rfl
                          refine pure_ (i := 3) (N := some 44) (v := ?_) (a' := ?_) #[true, true, true, true, false, false, false, false, false, false, false, false, false] rfl rfl (any_of HT_.out (by kernel_rfl)) (fun _ _ _ h => h) (Or.inl ⟨by rfl, ?_⟩) ?_ ?_
                          rotate_left
                          · intro w'
                            go_simp
                            with_reducible rfl
                          rotate_left
                          · simp only [Act.put, List.setIfInBounds_toArray, List.set_cons_zero, List.set_cons_succ, i64_w, i32_w]
                            rfl
                          refine pure_ (i := 6) (N := some 47) (v := ?_) (a' := ?_) #[true, true, true, true, false, false, true, false, false, false, false, false, false] rfl rfl (any_of HT_.out (by kernel_rfl)) (fun _ _ _ h => h) (Or.inl ⟨by rfl, ?_⟩) ?_ ?_
                          rotate_left
                          · intro w'
                            go_simp
                            with_reducible rfl
                          rotate_left
                          · simp only [Act.put, List.setIfInBounds_toArray, List.set_cons_zero, List.set_cons_succ, i64_w, i32_w]
                            rfl
                          refine pure_ (i := 7) (N := some 48) (v := ?_) (a' := ?_) #[true, true, true, true, false, false, true, true, false, false, false, false, false] rfl rfl (any_of HT_.out (by kernel_rfl)) (fun _ _ _ h => h) (Or.inl ⟨by rfl, ?_⟩) ?_ ?_
                          rotate_left
                          · intro w'
                            go_simp
                            with_reducible rfl
                          rotate_left
                          · simp only [Act.put, List.setIfInBounds_toArray, List.set_cons_zero, List.set_cons_succ, i64_w, i32_w]
                            rfl
                          refine pure_ (i := 8) (N := some 49) (v := ?_) (a' := ?_) #[true, true, true, true, false, false, true, true, true, false, false, false, false] rfl rfl (any_of HT_.out (by kernel_rfl)) (fun _ _ _ h => h) (Or.inl ⟨by rfl, ?_⟩) ?_ ?_
                          rotate_left
                          · intro w'
                            go_simp
                            with_reducible rfl
                          rotate_left
                          · simp only [Act.put, List.setIfInBounds_toArray, List.set_cons_zero, List.set_cons_succ, i64_w, i32_w]
                            rfl
                          refine take_ (i := 4) (N := some 45) (v := ?_) (a' := ?_) #[true, true, true, true, true, false, true, true, true, false, false, false, false] rfl rfl (take_ofW HT_.out HW_.out (by kernel_rfl)) (fun _ _ _ h => h) (Or.inl ⟨by rfl, ?_⟩) hHeld ?_ ?_
                          rotate_left
                          · rintro w' ⟨s0, s1⟩
                            go_simp
                            with_reducible rfl
                          rotate_left
                          · simp only [Act.put, List.setIfInBounds_toArray, List.set_cons_zero, List.set_cons_succ, i64_w, i32_w]
                            rfl
                          refine pure_ (i := 5) (N := some 46) (v := ?_) (a' := ?_) #[true, true, true, true, true, true, true, true, true, false, false, false, false] rfl rfl (any_of HT_.out (by kernel_rfl)) (fun _ _ _ h => h) (Or.inl ⟨by rfl, ?_⟩) ?_ ?_
                          rotate_left
                          · intro w'
                            go_simp
                            with_reducible rfl
                          rotate_left
                          · simp only [Act.put, List.setIfInBounds_toArray, List.set_cons_zero, List.set_cons_succ, i64_w, i32_w]
                            rfl
                          refine take_ (i := 9) (N := some 50) (v := ?_) (a' := ?_) #[true, true, true, true, true, true, true, true, true, true, false, false, false] rfl rfl (take_ofW HT_.out HW_.out (by kernel_rfl)) (fun _ _ _ h => h) (Or.inl ⟨by rfl, ?_⟩) hHeld ?_ ?_
                          rotate_left
                          · rintro w' ⟨s0, s1⟩
                            go_simp
                            with_reducible rfl
                          rotate_left
                          · simp only [Act.put, List.setIfInBounds_toArray, List.set_cons_zero, List.set_cons_succ, i64_w, i32_w]
                            rfl
                          refine one_ (i := 10) (N := some 51) #[true, true, true, true, true, true, true, true, true, true, true, false, false] rfl rfl (one_of HT_.out (by kernel_rfl)) (by decide) (fun K hK => ?_)
                          refine goes_ Try.func63 (by kernel_rfl) rfl #[.int .i64 (rd l3 t361)] (by rfl) rfl rfl (by (try simp only [List.map_toArray, List.map_cons, List.map_nil]); first | done | rfl | (simp only [List.length_drop, List.length_take]; rfl)) ?_
                          with_reducible refine (impl_WordBytes.calls k2 (rd l3 t361) t364 _ A21.out).mono ?_
                          rintro e w24 ⟨rfl, hb⟩
                          refine ⟨_, rfl, ?_⟩
                          have n0_ := Aside0.mk (Kd.R_below (by (with_reducible repeat (first | apply Kd.R_alloc | apply Kd.R_drewN | apply Kd.R_drew)); exact HO_29.out) hb)
                          have n1_ := Aside0.mk (below_step (by repeat (first | (with_reducible first | exact HB.out | apply below_alloc | apply pw_below_drewN | apply below_drew1) | exact HB.out)) hb)
                          clear HO_29
                          clear HB
                          have HO_29 := n0_
                          have HB := n1_
                          clear n0_ n1_
                          (try clear hb)
                          (try clear hb2)
                          (try clear hk)
                          (try clear hi)
                          refine hK.out _ _ ⟨((HB.out.cell (World.block_lt_of_cell? w _ hw362_0)).trans hw362_0), ((HB.out.cell (World.block_lt_of_cell? w _ hw363_0)).trans hw363_0)⟩ (fun hHeld => ?_)
                          clear hK K
                          refine norm_ (a' := ?_) ?_ ?_
                          rotate_left
                          · show Act.put _ (some 51) _ = _
                            simp only [Act.put, List.setIfInBounds_toArray, List.set_cons_zero, List.set_cons_succ, i64_w, i32_w]
                            rfl
                          refine one_ (i := 11) (N := some 52) #[true, true, true, true, true, true, true, true, true, true, true, true, false] rfl rfl (one_of HT_.out (by kernel_rfl)) (by decide) (fun K hK => ?_)
                          refine goes_ Try.func62 (by kernel_rfl) rfl #[.string x0_2, .int .i64 (wrap64 (8 * (rd l1 x31_2))), .string t364] (by rfl) rfl rfl (by (try simp only [List.map_toArray, List.map_cons, List.map_nil]); first | done | rfl | (simp only [List.length_drop, List.length_take]; rfl)) ?_
                          with_reducible refine (impl_replaced.calls x0_2 (wrap64 (8 * (rd l1 x31_2))) t364 t365 _ A22.out).mono ?_
                          rintro e w' ⟨rfl, ⟨nd, rfl⟩⟩
                          refine ⟨_, rfl, ?_⟩
                          refine hK.out _ _ ⟨((HB.out.cell (World.block_lt_of_cell? w _ hw362_0)).trans hw362_0), ((HB.out.cell (World.block_lt_of_cell? w _ hw363_0)).trans hw363_0)⟩ (fun hHeld => ?_)
                          clear hK K
                          refine norm_ (a' := ?_) ?_ ?_
                          rotate_left
                          · show Act.put _ (some 52) _ = _
                            simp only [Act.put, List.setIfInBounds_toArray, List.set_cons_zero, List.set_cons_succ, i64_w, i32_w]
                            rfl
                          refine pure_ (i := 12) (N := some 0) (v := ?_) (a' := ?_) #[true, true, true, true, true, true, true, true, true, true, true, true, true] rfl rfl (any_of HT_.out (by kernel_rfl)) (fun _ _ _ h => h) (Or.inl ⟨by rfl, ?_⟩) ?_ ?_
                          rotate_left
                          · intro w'
                            go_simp
                            with_reducible rfl
                          rotate_left
                          · simp only [Act.put, List.setIfInBounds_toArray, List.set_cons_zero, List.set_cons_succ, i64_w, i32_w]
                            rfl
                          refine done_ (done_of HT_.out (by kernel_rfl)) ?_
                          try go_wp2
                          go_roundg k2
                          case measure => have := HJ5.out; have := HK2.out; omega
                          case rel => exact ⟨(t365), (wrap64 (x31_2 + 1)), (by first | rfl | (simp; done) | (simp [*]; done)), (by first | rfl | (simp; done) | (simp [*]; done)), H', ⟨by have := HJ5.out; have := HK2.out; omega⟩, ⟨by (with_reducible repeat (first | apply Kd.R_alloc | apply Kd.R_drewN | apply Kd.R_drew)); exact HO_29.out⟩, ⟨by repeat (first | (with_reducible first | exact HB.out | apply below_alloc | apply pw_below_drewN | apply below_drew1) | exact HB.out)⟩⟩
                        · rw [if_neg c20] at H
                          exact absurd H (by simp)
                      · rw [if_neg c19] at H
                        exact absurd H (by simp)
                    · rw [if_neg c18] at H
                      exact absurd H (by simp)
                  · rw [if_neg c17] at H
                    have c17b0 : decide (0 ≤ t361) = false := decide_eq_false c17
                    clear c17
                    have H' := Aside0.mk H
                    clear H
                    have p360 : 0 ≤ (x31_2 : Int) := of_decide_eq_true (by first | (with_reducible assumption) | assumption)
                    have q360 : x31_2 < (t355.length : Int) := of_decide_eq_true (by first | (with_reducible assumption) | assumption)
                    obtain ⟨ad360, e360, hx360_0⟩ := Kd.at_int (Kd.R_reads' HO_29.out).2.2 x31_2 p360 q360
                    cases e360
                    replace p360 := eq_true p360
                    replace q360 := eq_true q360
                    go_wp2_with (first | ((with_reducible refine gate_callee (f := 61) rfl ?_); refine goesL_ (some 38) rfl rfl Try.func61 (by kernel_rfl) rfl #[.slice A2 l2.length c2, .int .i64 (rd t355 x31_2)] rfl (by (try simp only [List.map_toArray, List.map_cons, List.map_nil]); first | done | rfl | (simp only [List.length_drop, List.length_take]; rfl)) ?_; (with_reducible refine (slices_Index_int64_int64.calls k2 _ _ l2 (rd t355 x31_2) t361 _ ?side1 ?side2 A16.out).mono ?_); (case side1 => repeat (first | exact (Kd.C_below HR2.out HB.out) | (with_reducible refine Kd.C_alloc ?_ _) | (with_reducible refine Kd.C_drewN ?_ _) | (with_reducible refine Kd.C_drew ?_))); (case side2 => exact HC2.out); rintro e w' ⟨rfl, ⟨nd, rfl⟩⟩; refine ⟨_, rfl, ?_⟩))
                    go_roundg k2
                    case measure => have := HJ5.out; have := HK2.out; omega
                    case rel => exact ⟨(x0_2), (wrap64 (x31_2 + 1)), (by first | rfl | (simp; done) | (simp [*]; done)), (by first | rfl | (simp; done) | (simp [*]; done)), H', ⟨by have := HJ5.out; have := HK2.out; omega⟩, ⟨by (with_reducible repeat (first | apply Kd.R_alloc | apply Kd.R_drewN | apply Kd.R_drew)); exact HO_29.out⟩, ⟨by repeat (first | (with_reducible first | exact HB.out | apply below_alloc | apply pw_below_drewN | apply below_drew1) | exact HB.out)⟩⟩
                · rw [if_neg c15] at H
                  exact absurd H (by simp)
              · rw [if_neg c14] at H
                exact absurd H (by simp)
            · rw [if_neg c13] at H
              have c13b0 : decide (x31_2 < (t355.length : Int)) = false := decide_eq_false c13
              clear c13
              simp only [Option.some.injEq, Prod.mk.injEq] at H
              obtain ⟨rfl, rfl⟩ := H
              go_wp2
              go_ret2
              exact ⟨by first | rfl | (simp [errW_none, errW_some] <;> rfl) | (simp [*, errW_none, errW_some] <;> rfl), by repeat (first | (with_reducible first | exact HB.out | apply below_alloc | apply pw_below_drewN | apply below_drew1) | exact HB.out)⟩

end Go.Proofs.Ytpeimlpipopeoaa.X
namespace Go.Proofs.Ytpeimlpipopeoaa.X
open Go.RowKit Go.Proofs.YtpeimlpipopeoaaW.PrintWords Go.Proofs.YtpeimlpipopeoaaW.PrintLast Go.Proofs.YtpeimlpipopeoaaW.PrintMore
attribute [local go_sem] max2_int min2_int max_two min_two max_three min_three max_four min_four   -- for this text's walks alone
set_option linter.unusedVariables false
set_option linter.unusedSimpArgs false

/-! ### laws_FnExactPatched: function 7 -/
def laws_FnExactPatched.j0 : Nat → List Int → List Int → List Int → List Int → List Int → List Int → Bool → Option (Bool)
  | 0, _, _, _, _, _, _, _ => none
  | k + 1, x1, x2, x3, x11, x12, x13, x60 => if x60 = true then (some false) else ((laws_toInt64S.f k x1).bind fun t388 => ((laws_eqInt64S.f k x11 t388).bind fun t391 => (if t391 = true then ((laws_toInt64S.f k x2).bind fun t392 => ((laws_eqInt64S.f k x12 t392).bind fun t395 => (if t395 = true then ((laws_toInt64S.f k x3).bind fun t396 => ((laws_eqInt64S.f k x13 t396).bind fun t399 => (if t399 = true then (some true) else (some false)))) else (some false)))) else (some false))))
def laws_FnExactPatched.f (k : Nat) (a0 : ByteArray) (l1 : List Int) (l2 : List Int) (l3 : List Int) : Option (Bool) := if (a0.size : Int) > 1048576 then (some true) else (if (l1.length : Int) > 1048576 then (some true) else (if (l2.length : Int) > 1048576 then (some true) else (if (l3.length : Int) > 1048576 then (some true) else ((laws_toInt64S.f k l1).bind fun t366 => ((laws_toInt64S.f k l2).bind fun t369 => ((laws_toInt64S.f k l3).bind fun t372 => ((spec_Patched.f k a0 t366 t369 t372).bind fun bt375 => ((laws_toInt64S.f k l1).bind fun t377 => ((laws_toInt64S.f k l2).bind fun t380 => ((laws_toInt64S.f k l3).bind fun t383 => ((impl_Patched.f k a0 t377 t380 t383).bind fun bt386 => (if bt386.1.toList = bt375.1.toList then (laws_FnExactPatched.j0 k l1 l2 l3 t377 t380 t383 (bt386.2 != bt375.2)) else (laws_FnExactPatched.j0 k l1 l2 l3 t377 t380 t383 true)))))))))))))
theorem laws_FnExactPatched.mono_l : ∀ k, (∀ y0 y1 y2 y3 y4 y5 y6, LeO (laws_FnExactPatched.j0 k y0 y1 y2 y3 y4 y5 y6) (laws_FnExactPatched.j0 (k + 1) y0 y1 y2 y3 y4 y5 y6))
  | 0 => fun _ _ _ _ _ _ _ r h => by simp [laws_FnExactPatched.j0] at h
  | k + 1 => by
    have ih0 := laws_FnExactPatched.mono_l k
    · intro y0 y1 y2 y3 y4 y5 y6
      unfold laws_FnExactPatched.j0
      repeat' first
      | (with_reducible exact ih0 _ _ _ _ _ _ _)
      | (with_reducible exact impl_Patched.mono _ _ _ _ _)
      | (with_reducible exact laws_eqInt64S.mono _ _ _)
      | (with_reducible exact laws_toInt64S.mono _ _)
      | (with_reducible exact spec_Patched.mono _ _ _ _ _)
      | (with_reducible exact LeO.refl _)
      | (with_reducible exact LeO.none _)
      | (with_reducible refine LeO.ite ?_ ?_)
      | (with_reducible refine LeO.bind ?_ (fun _ => ?_))
      | exact ih0 _ _ _ _ _ _ _
      | exact impl_Patched.mono _ _ _ _ _
      | exact laws_eqInt64S.mono _ _ _
      | exact laws_toInt64S.mono _ _
      | exact spec_Patched.mono _ _ _ _ _
      | exact LeO.none _
      | refine LeO.ite ?_ ?_
      | refine LeO.bind ?_ (fun _ => ?_)
theorem laws_FnExactPatched.mono : ∀ a0 a1 a2 a3 k, LeO (laws_FnExactPatched.f k a0 a1 a2 a3) (laws_FnExactPatched.f (k + 1) a0 a1 a2 a3) := by
  intro a0 a1 a2 a3 k
  have ih0 := laws_FnExactPatched.mono_l k
  unfold laws_FnExactPatched.f
  repeat' first
      | (with_reducible exact ih0 _ _ _ _ _ _ _)
      | (with_reducible exact impl_Patched.mono _ _ _ _ _)
      | (with_reducible exact laws_eqInt64S.mono _ _ _)
      | (with_reducible exact laws_toInt64S.mono _ _)
      | (with_reducible exact spec_Patched.mono _ _ _ _ _)
      | (with_reducible exact LeO.refl _)
      | (with_reducible exact LeO.none _)
      | (with_reducible refine LeO.ite ?_ ?_)
      | (with_reducible refine LeO.bind ?_ (fun _ => ?_))
      | exact ih0 _ _ _ _ _ _ _
      | exact impl_Patched.mono _ _ _ _ _
      | exact laws_eqInt64S.mono _ _ _
      | exact laws_toInt64S.mono _ _
      | exact spec_Patched.mono _ _ _ _ _
      | exact LeO.none _
      | refine LeO.ite ?_ ?_
      | refine LeO.bind ?_ (fun _ => ?_)
set_option maxHeartbeats 8000000 in
set_option maxRecDepth 100000 in
theorem laws_FnExactPatched.calls (k : Nat) (a0 : ByteArray) (A1 : Option Addr) (c1 : Nat) (l1 : List Int) (A2 : Option Addr) (c2 : Nat) (l2 : List Int) (A3 : Option Addr) (c3 : Nat) (l3 : List Int) (r : Bool) (w : World) (hr1 : Kd.C (Kd.int .i64) w A1 l1.length l1) (hc1 : l1.length ≤ c1) (hr2 : Kd.C (Kd.int .i64) w A2 l2.length l2) (hc2 : l2.length ≤ c2) (hr3 : Kd.C (Kd.int .i64) w A3 l3.length l3) (hc3 : l3.length ≤ c3) (h : laws_FnExactPatched.f k a0 l1 l2 l3 = some r) :
    Calls Try.prog 7 #[.string a0, .slice A1 l1.length c1, .slice A2 l2.length c2, .slice A3 l3.length c3] w fun e w' => e = .returned (.bool r) ∧ Below w.heap.size w w' := by
  have HR1 := Aside0.mk hr1
  have HC1 := Aside0.mk hc1
  clear hr1 hc1
  have HR2 := Aside0.mk hr2
  have HC2 := Aside0.mk hc2
  clear hr2 hc2
  have HR3 := Aside0.mk hr3
  have HC3 := Aside0.mk hc3
  clear hr3 hc3
  have HB := Aside0.mk (Below.refl w.heap.size w)
  have H : (if (a0.size : Int) > 1048576 then (some true) else (if (l1.length : Int) > 1048576 then (some true) else (if (l2.length : Int) > 1048576 then (some true) else (if (l3.length : Int) > 1048576 then (some true) else ((laws_toInt64S.f k l1).bind fun t366 => ((laws_toInt64S.f k l2).bind fun t369 => ((laws_toInt64S.f k l3).bind fun t372 => ((spec_Patched.f k a0 t366 t369 t372).bind fun bt375 => ((laws_toInt64S.f k l1).bind fun t377 => ((laws_toInt64S.f k l2).bind fun t380 => ((laws_toInt64S.f k l3).bind fun t383 => ((impl_Patched.f k a0 t377 t380 t383).bind fun bt386 => (if bt386.1.toList = bt375.1.toList then (laws_FnExactPatched.j0 k l1 l2 l3 t377 t380 t383 (bt386.2 != bt375.2)) else (laws_FnExactPatched.j0 k l1 l2 l3 t377 t380 t383 true)))))))))))))) = some r := h
  clear h
  by_cases c5 : (a0.size : Int) > 1048576
  · rw [if_pos c5] at H
    have c5b0 : decide (1048576 < (a0.size : Int)) = true := decide_eq_true c5
    have c5b1 : decide (1048576 < a0.size) = true := decide_eq_true (by omega)
    clear c5
    obtain rfl := Option.some.inj H
    go_enter Try.func7, Try.ntmps7
    go_wp2
    go_ret
    exact ⟨by first | rfl | (simp [errW_none, errW_some] <;> rfl) | (simp [*, errW_none, errW_some] <;> rfl), by repeat (first | (with_reducible first | exact HB.out | apply below_alloc | apply pw_below_drewN | apply below_drew1) | exact HB.out)⟩
  · rw [if_neg c5] at H
    have c5b0 : decide (1048576 < (a0.size : Int)) = false := decide_eq_false c5
    have c5b1 : decide (1048576 < a0.size) = false := decide_eq_false (by omega)
    clear c5
    by_cases c6 : (l1.length : Int) > 1048576
    · rw [if_pos c6] at H
      have c6b0 : decide (1048576 < (l1.length : Int)) = true := decide_eq_true c6
      have c6b1 : decide (1048576 < l1.length) = true := decide_eq_true (by omega)
      clear c6
      obtain rfl := Option.some.inj H
      go_enter Try.func7, Try.ntmps7
      go_wp2
      go_ret
      exact ⟨by first | rfl | (simp [errW_none, errW_some] <;> rfl) | (simp [*, errW_none, errW_some] <;> rfl), by repeat (first | (with_reducible first | exact HB.out | apply below_alloc | apply pw_below_drewN | apply below_drew1) | exact HB.out)⟩
    · rw [if_neg c6] at H
      have c6b0 : decide (1048576 < (l1.length : Int)) = false := decide_eq_false c6
      have c6b1 : decide (1048576 < l1.length) = false := decide_eq_false (by omega)
      clear c6
      by_cases c7 : (l2.length : Int) > 1048576
      · rw [if_pos c7] at H
        have c7b0 : decide (1048576 < (l2.length : Int)) = true := decide_eq_true c7
        have c7b1 : decide (1048576 < l2.length) = true := decide_eq_true (by omega)
        clear c7
        obtain rfl := Option.some.inj H
        go_enter Try.func7, Try.ntmps7
        go_wp2
        go_ret
        exact ⟨by first | rfl | (simp [errW_none, errW_some] <;> rfl) | (simp [*, errW_none, errW_some] <;> rfl), by repeat (first | (with_reducible first | exact HB.out | apply below_alloc | apply pw_below_drewN | apply below_drew1) | exact HB.out)⟩
      · rw [if_neg c7] at H
        have c7b0 : decide (1048576 < (l2.length : Int)) = false := decide_eq_false c7
        have c7b1 : decide (1048576 < l2.length) = false := decide_eq_false (by omega)
        clear c7
        by_cases c8 : (l3.length : Int) > 1048576
        · rw [if_pos c8] at H
          have c8b0 : decide (1048576 < (l3.length : Int)) = true := decide_eq_true c8
          have c8b1 : decide (1048576 < l3.length) = true := decide_eq_true (by omega)
          clear c8
          obtain rfl := Option.some.inj H
          go_enter Try.func7, Try.ntmps7
          go_wp2
          go_ret
          exact ⟨by first | rfl | (simp [errW_none, errW_some] <;> rfl) | (simp [*, errW_none, errW_some] <;> rfl), by repeat (first | (with_reducible first | exact HB.out | apply below_alloc | apply pw_below_drewN | apply below_drew1) | exact HB.out)⟩
        · rw [if_neg c8] at H
          have c8b0 : decide (1048576 < (l3.length : Int)) = false := decide_eq_false c8
          have c8b1 : decide (1048576 < l3.length) = false := decide_eq_false (by omega)
          clear c8
          replace H := Option.bind_eq_some_iff.mp H
          obtain ⟨t366, A90, H⟩ := H
          replace H : ((laws_toInt64S.f k l2).bind fun t369 => ((laws_toInt64S.f k l3).bind fun t372 => ((spec_Patched.f k a0 t366 t369 t372).bind fun bt375 => ((laws_toInt64S.f k l1).bind fun t377 => ((laws_toInt64S.f k l2).bind fun t380 => ((laws_toInt64S.f k l3).bind fun t383 => ((impl_Patched.f k a0 t377 t380 t383).bind fun bt386 => (if bt386.1.toList = bt375.1.toList then (laws_FnExactPatched.j0 k l1 l2 l3 t377 t380 t383 (bt386.2 != bt375.2)) else (laws_FnExactPatched.j0 k l1 l2 l3 t377 t380 t383 true))))))))) = some r := H
          have A9 := Aside0.mk A90
          clear A90
          replace H := Option.bind_eq_some_iff.mp H
          obtain ⟨t369, A100, H⟩ := H
          replace H : ((laws_toInt64S.f k l3).bind fun t372 => ((spec_Patched.f k a0 t366 t369 t372).bind fun bt375 => ((laws_toInt64S.f k l1).bind fun t377 => ((laws_toInt64S.f k l2).bind fun t380 => ((laws_toInt64S.f k l3).bind fun t383 => ((impl_Patched.f k a0 t377 t380 t383).bind fun bt386 => (if bt386.1.toList = bt375.1.toList then (laws_FnExactPatched.j0 k l1 l2 l3 t377 t380 t383 (bt386.2 != bt375.2)) else (laws_FnExactPatched.j0 k l1 l2 l3 t377 t380 t383 true)))))))) = some r := H
          have A10 := Aside0.mk A100
          clear A100
          replace H := Option.bind_eq_some_iff.mp H
          obtain ⟨t372, A110, H⟩ := H
          replace H : ((spec_Patched.f k a0 t366 t369 t372).bind fun bt375 => ((laws_toInt64S.f k l1).bind fun t377 => ((laws_toInt64S.f k l2).bind fun t380 => ((laws_toInt64S.f k l3).bind fun t383 => ((impl_Patched.f k a0 t377 t380 t383).bind fun bt386 => (if bt386.1.toList = bt375.1.toList then (laws_FnExactPatched.j0 k l1 l2 l3 t377 t380 t383 (bt386.2 != bt375.2)) else (laws_FnExactPatched.j0 k l1 l2 l3 t377 t380 t383 true))))))) = some r := H
          have A11 := Aside0.mk A110
          clear A110
          replace H := Option.bind_eq_some_iff.mp H
          obtain ⟨⟨t375, t376⟩, A120, H⟩ := H
          replace H : ((laws_toInt64S.f k l1).bind fun t377 => ((laws_toInt64S.f k l2).bind fun t380 => ((laws_toInt64S.f k l3).bind fun t383 => ((impl_Patched.f k a0 t377 t380 t383).bind fun bt386 => (if bt386.1.toList = t375.toList then (laws_FnExactPatched.j0 k l1 l2 l3 t377 t380 t383 (bt386.2 != t376)) else (laws_FnExactPatched.j0 k l1 l2 l3 t377 t380 t383 true)))))) = some r := H
          have A12 := Aside0.mk A120
          clear A120
          replace H := Option.bind_eq_some_iff.mp H
          obtain ⟨t377, A130, H⟩ := H
          replace H : ((laws_toInt64S.f k l2).bind fun t380 => ((laws_toInt64S.f k l3).bind fun t383 => ((impl_Patched.f k a0 t377 t380 t383).bind fun bt386 => (if bt386.1.toList = t375.toList then (laws_FnExactPatched.j0 k l1 l2 l3 t377 t380 t383 (bt386.2 != t376)) else (laws_FnExactPatched.j0 k l1 l2 l3 t377 t380 t383 true))))) = some r := H
          have A13 := Aside0.mk A130
          clear A130
          replace H := Option.bind_eq_some_iff.mp H
          obtain ⟨t380, A140, H⟩ := H
          replace H : ((laws_toInt64S.f k l3).bind fun t383 => ((impl_Patched.f k a0 t377 t380 t383).bind fun bt386 => (if bt386.1.toList = t375.toList then (laws_FnExactPatched.j0 k l1 l2 l3 t377 t380 t383 (bt386.2 != t376)) else (laws_FnExactPatched.j0 k l1 l2 l3 t377 t380 t383 true)))) = some r := H
          have A14 := Aside0.mk A140
          clear A140
          replace H := Option.bind_eq_some_iff.mp H
          obtain ⟨t383, A150, H⟩ := H
          replace H : ((impl_Patched.f k a0 t377 t380 t383).bind fun bt386 => (if bt386.1.toList = t375.toList then (laws_FnExactPatched.j0 k l1 l2 l3 t377 t380 t383 (bt386.2 != t376)) else (laws_FnExactPatched.j0 k l1 l2 l3 t377 t380 t383 true))) = some r := H
          have A15 := Aside0.mk A150
          clear A150
          replace H := Option.bind_eq_some_iff.mp H
          obtain ⟨⟨t386, t387⟩, A160, H⟩ := H
          replace H : (if t386.toList = t375.toList then (laws_FnExactPatched.j0 k l1 l2 l3 t377 t380 t383 (t387 != t376)) else (laws_FnExactPatched.j0 k l1 l2 l3 t377 t380 t383 true)) = some r := H
          have A16 := Aside0.mk A160
          clear A160
          have HC17 := Aside0.mk H
          clear H
          go_enter Try.func7, Try.ntmps7
          go_upto_region 14 with (first | ((with_reducible refine gate_callee (f := 16) rfl ?_); refine goesL_ (some 31) rfl rfl Try.func16 (by kernel_rfl) rfl #[.slice A1 l1.length c1] rfl (by (try simp only [List.map_toArray, List.map_cons, List.map_nil]); first | done | rfl | (simp only [List.length_drop, List.length_take]; rfl)) ?_; (with_reducible refine (laws_toInt64S.calls k _ _ l1 t366 _ ?side1 ?side2 A9.out).mono ?_); (case side1 => repeat (first | exact HR1.out | (with_reducible refine Kd.C_alloc ?_ _) | (with_reducible refine Kd.C_drewN ?_ _) | (with_reducible refine Kd.C_drew ?_))); (case side2 => exact HC1.out); rintro e w18 ⟨v367, rfl, ho0, hb⟩; refine ⟨_, rfl, ?_⟩; have n0_ := Aside0.mk (Kd.R_lower ho0 (below_size (by repeat (first | (with_reducible first | exact HB.out | apply below_alloc | apply pw_below_drewN | apply below_drew1) | exact HB.out)))); have n1_ := Aside0.mk (below_step (by repeat (first | (with_reducible first | exact HB.out | apply below_alloc | apply pw_below_drewN | apply below_drew1) | exact HB.out)) hb); clear HB; have HO368 := n0_; have HB := n1_; clear n0_ n1_; (try clear hb); (try clear hb2); (try clear hk); (try clear hi); (try clear ho0)) | ((with_reducible refine gate_callee (f := 16) rfl ?_); refine goesL_ (some 33) rfl rfl Try.func16 (by kernel_rfl) rfl #[.slice A2 l2.length c2] rfl (by (try simp only [List.map_toArray, List.map_cons, List.map_nil]); first | done | rfl | (simp only [List.length_drop, List.length_take]; rfl)) ?_; (with_reducible refine (laws_toInt64S.calls k _ _ l2 t369 _ ?side1 ?side2 A10.out).mono ?_); (case side1 => repeat (first | exact (Kd.C_below HR2.out HB.out) | (with_reducible refine Kd.C_alloc ?_ _) | (with_reducible refine Kd.C_drewN ?_ _) | (with_reducible refine Kd.C_drew ?_))); (case side2 => exact HC2.out); rintro e w19 ⟨v370, rfl, ho0, hb⟩; refine ⟨_, rfl, ?_⟩; have n0_ := Aside0.mk (Kd.R_elder' (by (with_reducible repeat (first | apply Kd.R_alloc | apply Kd.R_drewN | apply Kd.R_drew)); exact HO368.out) (Kd.R_base ho0) hb); have n1_ := Aside0.mk (Kd.R_lower (Kd.R_new' ho0 (Kd.R_lt (by (with_reducible repeat (first | apply Kd.R_alloc | apply Kd.R_drewN | apply Kd.R_drew)); exact HO368.out))) (below_size (by repeat (first | (with_reducible first | exact HB.out | apply below_alloc | apply pw_below_drewN | apply below_drew1) | exact HB.out)))); have n2_ := Aside0.mk (below_step (by repeat (first | (with_reducible first | exact HB.out | apply below_alloc | apply pw_below_drewN | apply below_drew1) | exact HB.out)) hb); clear HO368; clear HB; have HO368 := n0_; have HO371 := n1_; have HB := n2_; clear n0_ n1_ n2_; (try clear hb); (try clear hb2); (try clear hk); (try clear hi); (try clear ho0)) | ((with_reducible refine gate_callee (f := 16) rfl ?_); refine goesL_ (some 35) rfl rfl Try.func16 (by kernel_rfl) rfl #[.slice A3 l3.length c3] rfl (by (try simp only [List.map_toArray, List.map_cons, List.map_nil]); first | done | rfl | (simp only [List.length_drop, List.length_take]; rfl)) ?_; (with_reducible refine (laws_toInt64S.calls k _ _ l3 t372 _ ?side1 ?side2 A11.out).mono ?_); (case side1 => repeat (first | exact (Kd.C_below HR3.out HB.out) | (with_reducible refine Kd.C_alloc ?_ _) | (with_reducible refine Kd.C_drewN ?_ _) | (with_reducible refine Kd.C_drew ?_))); (case side2 => exact HC3.out); rintro e w20 ⟨v373, rfl, ho0, hb⟩; refine ⟨_, rfl, ?_⟩; have n0_ := Aside0.mk (Kd.R_elder' (by (with_reducible repeat (first | apply Kd.R_alloc | apply Kd.R_drewN | apply Kd.R_drew)); exact HO368.out) (Kd.R_base ho0) hb); have n1_ := Aside0.mk (Kd.R_elder' (by (with_reducible repeat (first | apply Kd.R_alloc | apply Kd.R_drewN | apply Kd.R_drew)); exact HO371.out) (Kd.R_base ho0) hb); have n2_ := Aside0.mk (Kd.R_lower (Kd.R_new' (Kd.R_new' ho0 (Kd.R_lt (by (with_reducible repeat (first | apply Kd.R_alloc | apply Kd.R_drewN | apply Kd.R_drew)); exact HO368.out))) (Kd.R_lt (by (with_reducible repeat (first | apply Kd.R_alloc | apply Kd.R_drewN | apply Kd.R_drew)); exact HO371.out))) (below_size (by repeat (first | (with_reducible first | exact HB.out | apply below_alloc | apply pw_below_drewN | apply below_drew1) | exact HB.out)))); have n3_ := Aside0.mk (below_step (by repeat (first | (with_reducible first | exact HB.out | apply below_alloc | apply pw_below_drewN | apply below_drew1) | exact HB.out)) hb); clear HO368; clear HO371; clear HB; have HO368 := n0_; have HO371 := n1_; have HO374 := n2_; have HB := n3_; clear n0_ n1_ n2_ n3_; (try clear hb); (try clear hb2); (try clear hk); (try clear hi); (try clear ho0); obtain ⟨Ao21, co21, eo21⟩ := Kd.R_slice HO368.out; subst eo21; obtain ⟨Ao22, co22, eo22⟩ := Kd.R_slice HO371.out; subst eo22; obtain ⟨Ao23, co23, eo23⟩ := Kd.R_slice HO374.out; subst eo23) | ((with_reducible refine gate_callee (f := 29) rfl ?_); refine goesL_ (some 36) rfl rfl Try.func29 (by kernel_rfl) rfl #[.string a0, .slice Ao21 t366.length co21, .slice Ao22 t369.length co22, .slice Ao23 t372.length co23] rfl (by (try simp only [List.map_toArray, List.map_cons, List.map_nil]); first | done | rfl | (simp only [List.length_drop, List.length_take]; rfl)) ?_; (with_reducible refine (spec_Patched.calls k a0 _ _ t366 _ _ t369 _ _ t372 t375 t376 _ ?side1 ?side2 ?side3 ?side4 ?side5 ?side6 A12.out).mono ?_); (case side1 => repeat (first | exact (Kd.R_reads' HO368.out).2.2 | (with_reducible refine Kd.C_alloc ?_ _) | (with_reducible refine Kd.C_drewN ?_ _) | (with_reducible refine Kd.C_drew ?_))); (case side2 => exact (Kd.R_reads' HO368.out).2.1); (case side3 => repeat (first | exact (Kd.R_reads' HO371.out).2.2 | (with_reducible refine Kd.C_alloc ?_ _) | (with_reducible refine Kd.C_drewN ?_ _) | (with_reducible refine Kd.C_drew ?_))); (case side4 => exact (Kd.R_reads' HO371.out).2.1); (case side5 => repeat (first | exact (Kd.R_reads' HO374.out).2.2 | (with_reducible refine Kd.C_alloc ?_ _) | (with_reducible refine Kd.C_drewN ?_ _) | (with_reducible refine Kd.C_drew ?_))); (case side6 => exact (Kd.R_reads' HO374.out).2.1); rintro e w24 ⟨rfl, hb⟩; refine ⟨_, rfl, ?_⟩; have n0_ := Aside0.mk (Kd.R_below (by (with_reducible repeat (first | apply Kd.R_alloc | apply Kd.R_drewN | apply Kd.R_drew)); exact HO368.out) hb); have n1_ := Aside0.mk (Kd.R_below (by (with_reducible repeat (first | apply Kd.R_alloc | apply Kd.R_drewN | apply Kd.R_drew)); exact HO371.out) hb); have n2_ := Aside0.mk (Kd.R_below (by (with_reducible repeat (first | apply Kd.R_alloc | apply Kd.R_drewN | apply Kd.R_drew)); exact HO374.out) hb); have n3_ := Aside0.mk (below_step (by repeat (first | (with_reducible first | exact HB.out | apply below_alloc | apply pw_below_drewN | apply below_drew1) | exact HB.out)) hb); clear HO368; clear HO371; clear HO374; clear HB; have HO368 := n0_; have HO371 := n1_; have HO374 := n2_; have HB := n3_; clear n0_ n1_ n2_ n3_; (try clear hb); (try clear hb2); (try clear hk); (try clear hi)) | ((with_reducible refine gate_callee (f := 16) rfl ?_); refine goesL_ (some 40) rfl rfl Try.func16 (by kernel_rfl) rfl #[.slice A1 l1.length c1] rfl (by (try simp only [List.map_toArray, List.map_cons, List.map_nil]); first | done | rfl | (simp only [List.length_drop, List.length_take]; rfl)) ?_; (with_reducible refine (laws_toInt64S.calls k _ _ l1 t377 _ ?side1 ?side2 A13.out).mono ?_); (case side1 => repeat (first | exact (Kd.C_below HR1.out HB.out) | (with_reducible refine Kd.C_alloc ?_ _) | (with_reducible refine Kd.C_drewN ?_ _) | (with_reducible refine Kd.C_drew ?_))); (case side2 => exact HC1.out); rintro e w25 ⟨v378, rfl, ho0, hb⟩; refine ⟨_, rfl, ?_⟩; have n0_ := Aside0.mk (Kd.R_elder' (by (with_reducible repeat (first | apply Kd.R_alloc | apply Kd.R_drewN | apply Kd.R_drew)); exact HO368.out) (Kd.R_base ho0) hb); have n1_ := Aside0.mk (Kd.R_elder' (by (with_reducible repeat (first | apply Kd.R_alloc | apply Kd.R_drewN | apply Kd.R_drew)); exact HO371.out) (Kd.R_base ho0) hb); have n2_ := Aside0.mk (Kd.R_elder' (by (with_reducible repeat (first | apply Kd.R_alloc | apply Kd.R_drewN | apply Kd.R_drew)); exact HO374.out) (Kd.R_base ho0) hb); have n3_ := Aside0.mk (Kd.R_lower (Kd.R_new' (Kd.R_new' (Kd.R_new' ho0 (Kd.R_lt (by (with_reducible repeat (first | apply Kd.R_alloc | apply Kd.R_drewN | apply Kd.R_drew)); exact HO368.out))) (Kd.R_lt (by (with_reducible repeat (first | apply Kd.R_alloc | apply Kd.R_drewN | apply Kd.R_drew)); exact HO371.out))) (Kd.R_lt (by (with_reducible repeat (first | apply Kd.R_alloc | apply Kd.R_drewN | apply Kd.R_drew)); exact HO374.out))) (below_size (by repeat (first | (with_reducible first | exact HB.out | apply below_alloc | apply pw_below_drewN | apply below_drew1) | exact HB.out)))); have n4_ := Aside0.mk (below_step (by repeat (first | (with_reducible first | exact HB.out | apply below_alloc | apply pw_below_drewN | apply below_drew1) | exact HB.out)) hb); clear HO368; clear HO371; clear HO374; clear HB; have HO368 := n0_; have HO371 := n1_; have HO374 := n2_; have HO379 := n3_; have HB := n4_; clear n0_ n1_ n2_ n3_ n4_; (try clear hb); (try clear hb2); (try clear hk); (try clear hi); (try clear ho0)) | ((with_reducible refine gate_callee (f := 16) rfl ?_); refine goesL_ (some 42) rfl rfl Try.func16 (by kernel_rfl) rfl #[.slice A2 l2.length c2] rfl (by (try simp only [List.map_toArray, List.map_cons, List.map_nil]); first | done | rfl | (simp only [List.length_drop, List.length_take]; rfl)) ?_; (with_reducible refine (laws_toInt64S.calls k _ _ l2 t380 _ ?side1 ?side2 A14.out).mono ?_); (case side1 => repeat (first | exact (Kd.C_below HR2.out HB.out) | (with_reducible refine Kd.C_alloc ?_ _) | (with_reducible refine Kd.C_drewN ?_ _) | (with_reducible refine Kd.C_drew ?_))); (case side2 => exact HC2.out); rintro e w26 ⟨v381, rfl, ho0, hb⟩; refine ⟨_, rfl, ?_⟩; have n0_ := Aside0.mk (Kd.R_elder' (by (with_reducible repeat (first | apply Kd.R_alloc | apply Kd.R_drewN | apply Kd.R_drew)); exact HO368.out) (Kd.R_base ho0) hb); have n1_ := Aside0.mk (Kd.R_elder' (by (with_reducible repeat (first | apply Kd.R_alloc | apply Kd.R_drewN | apply Kd.R_drew)); exact HO371.out) (Kd.R_base ho0) hb); have n2_ := Aside0.mk (Kd.R_elder' (by (with_reducible repeat (first | apply Kd.R_alloc | apply Kd.R_drewN | apply Kd.R_drew)); exact HO374.out) (Kd.R_base ho0) hb); have n3_ := Aside0.mk (Kd.R_elder' (by (with_reducible repeat (first | apply Kd.R_alloc | apply Kd.R_drewN | apply Kd.R_drew)); exact HO379.out) (Kd.R_base ho0) hb); have n4_ := Aside0.mk (Kd.R_lower (Kd.R_new' (Kd.R_new' (Kd.R_new' (Kd.R_new' ho0 (Kd.R_lt (by (with_reducible repeat (first | apply Kd.R_alloc | apply Kd.R_drewN | apply Kd.R_drew)); exact HO368.out))) (Kd.R_lt (by (with_reducible repeat (first | apply Kd.R_alloc | apply Kd.R_drewN | apply Kd.R_drew)); exact HO371.out))) (Kd.R_lt (by (with_reducible repeat (first | apply Kd.R_alloc | apply Kd.R_drewN | apply Kd.R_drew)); exact HO374.out))) (Kd.R_lt (by (with_reducible repeat (first | apply Kd.R_alloc | apply Kd.R_drewN | apply Kd.R_drew)); exact HO379.out))) (below_size (by repeat (first | (with_reducible first | exact HB.out | apply below_alloc | apply pw_below_drewN | apply below_drew1) | exact HB.out)))); have n5_ := Aside0.mk (below_step (by repeat (first | (with_reducible first | exact HB.out | apply below_alloc | apply pw_below_drewN | apply below_drew1) | exact HB.out)) hb); clear HO368; clear HO371; clear HO374; clear HO379; clear HB; have HO368 := n0_; have HO371 := n1_; have HO374 := n2_; have HO379 := n3_; have HO382 := n4_; have HB := n5_; clear n0_ n1_ n2_ n3_ n4_ n5_; (try clear hb); (try clear hb2); (try clear hk); (try clear hi); (try clear ho0)) | ((with_reducible refine gate_callee (f := 16) rfl ?_); refine goesL_ (some 44) rfl rfl Try.func16 (by kernel_rfl) rfl #[.slice A3 l3.length c3] rfl (by (try simp only [List.map_toArray, List.map_cons, List.map_nil]); first | done | rfl | (simp only [List.length_drop, List.length_take]; rfl)) ?_; (with_reducible refine (laws_toInt64S.calls k _ _ l3 t383 _ ?side1 ?side2 A15.out).mono ?_); (case side1 => repeat (first | exact (Kd.C_below HR3.out HB.out) | (with_reducible refine Kd.C_alloc ?_ _) | (with_reducible refine Kd.C_drewN ?_ _) | (with_reducible refine Kd.C_drew ?_))); (case side2 => exact HC3.out); rintro e w27 ⟨v384, rfl, ho0, hb⟩; refine ⟨_, rfl, ?_⟩; have n0_ := Aside0.mk (Kd.R_elder' (by (with_reducible repeat (first | apply Kd.R_alloc | apply Kd.R_drewN | apply Kd.R_drew)); exact HO368.out) (Kd.R_base ho0) hb); have n1_ := Aside0.mk (Kd.R_elder' (by (with_reducible repeat (first | apply Kd.R_alloc | apply Kd.R_drewN | apply Kd.R_drew)); exact HO371.out) (Kd.R_base ho0) hb); have n2_ := Aside0.mk (Kd.R_elder' (by (with_reducible repeat (first | apply Kd.R_alloc | apply Kd.R_drewN | apply Kd.R_drew)); exact HO374.out) (Kd.R_base ho0) hb); have n3_ := Aside0.mk (Kd.R_elder' (by (with_reducible repeat (first | apply Kd.R_alloc | apply Kd.R_drewN | apply Kd.R_drew)); exact HO379.out) (Kd.R_base ho0) hb); have n4_ := Aside0.mk (Kd.R_elder' (by (with_reducible repeat (first | apply Kd.R_alloc | apply Kd.R_drewN | apply Kd.R_drew)); exact HO382.out) (Kd.R_base ho0) hb); have n5_ := Aside0.mk (Kd.R_lower (Kd.R_new' (Kd.R_new' (Kd.R_new' (Kd.R_new' (Kd.R_new' ho0 (Kd.R_lt (by (with_reducible repeat (first | apply Kd.R_alloc | apply Kd.R_drewN | apply Kd.R_drew)); exact HO368.out))) (Kd.R_lt (by (with_reducible repeat (first | apply Kd.R_alloc | apply Kd.R_drewN | apply Kd.R_drew)); exact HO371.out))) (Kd.R_lt (by (with_reducible repeat (first | apply Kd.R_alloc | apply Kd.R_drewN | apply Kd.R_drew)); exact HO374.out))) (Kd.R_lt (by (with_reducible repeat (first | apply Kd.R_alloc | apply Kd.R_drewN | apply Kd.R_drew)); exact HO379.out))) (Kd.R_lt (by (with_reducible repeat (first | apply Kd.R_alloc | apply Kd.R_drewN | apply Kd.R_drew)); exact HO382.out))) (below_size (by repeat (first | (with_reducible first | exact HB.out | apply below_alloc | apply pw_below_drewN | apply below_drew1) | exact HB.out)))); have n6_ := Aside0.mk (below_step (by repeat (first | (with_reducible first | exact HB.out | apply below_alloc | apply pw_below_drewN | apply below_drew1) | exact HB.out)) hb); clear HO368; clear HO371; clear HO374; clear HO379; clear HO382; clear HB; have HO368 := n0_; have HO371 := n1_; have HO374 := n2_; have HO379 := n3_; have HO382 := n4_; have HO385 := n5_; have HB := n6_; clear n0_ n1_ n2_ n3_ n4_ n5_ n6_; (try clear hb); (try clear hb2); (try clear hk); (try clear hi); (try clear ho0); obtain ⟨Ao28, co28, eo28⟩ := Kd.R_slice HO379.out; subst eo28; obtain ⟨Ao29, co29, eo29⟩ := Kd.R_slice HO382.out; subst eo29; obtain ⟨Ao30, co30, eo30⟩ := Kd.R_slice HO385.out; subst eo30) | ((with_reducible refine gate_callee (f := 30) rfl ?_); refine goesL_ (some 50) rfl rfl Try.func30 (by kernel_rfl) rfl #[.string a0, .slice Ao28 t377.length co28, .slice Ao29 t380.length co29, .slice Ao30 t383.length co30] rfl (by (try simp only [List.map_toArray, List.map_cons, List.map_nil]); first | done | rfl | (simp only [List.length_drop, List.length_take]; rfl)) ?_; (with_reducible refine (impl_Patched.calls k a0 _ _ t377 _ _ t380 _ _ t383 t386 t387 _ ?side1 ?side2 ?side3 ?side4 ?side5 ?side6 A16.out).mono ?_); (case side1 => repeat (first | exact (Kd.R_reads' HO379.out).2.2 | (with_reducible refine Kd.C_alloc ?_ _) | (with_reducible refine Kd.C_drewN ?_ _) | (with_reducible refine Kd.C_drew ?_))); (case side2 => exact (Kd.R_reads' HO379.out).2.1); (case side3 => repeat (first | exact (Kd.R_reads' HO382.out).2.2 | (with_reducible refine Kd.C_alloc ?_ _) | (with_reducible refine Kd.C_drewN ?_ _) | (with_reducible refine Kd.C_drew ?_))); (case side4 => exact (Kd.R_reads' HO382.out).2.1); (case side5 => repeat (first | exact (Kd.R_reads' HO385.out).2.2 | (with_reducible refine Kd.C_alloc ?_ _) | (with_reducible refine Kd.C_drewN ?_ _) | (with_reducible refine Kd.C_drew ?_))); (case side6 => exact (Kd.R_reads' HO385.out).2.1); rintro e w31 ⟨rfl, hb⟩; refine ⟨_, rfl, ?_⟩; have n0_ := Aside0.mk (Kd.R_below (by (with_reducible repeat (first | apply Kd.R_alloc | apply Kd.R_drewN | apply Kd.R_drew)); exact HO368.out) hb); have n1_ := Aside0.mk (Kd.R_below (by (with_reducible repeat (first | apply Kd.R_alloc | apply Kd.R_drewN | apply Kd.R_drew)); exact HO371.out) hb); have n2_ := Aside0.mk (Kd.R_below (by (with_reducible repeat (first | apply Kd.R_alloc | apply Kd.R_drewN | apply Kd.R_drew)); exact HO374.out) hb); have n3_ := Aside0.mk (Kd.R_below (by (with_reducible repeat (first | apply Kd.R_alloc | apply Kd.R_drewN | apply Kd.R_drew)); exact HO379.out) hb); have n4_ := Aside0.mk (Kd.R_below (by (with_reducible repeat (first | apply Kd.R_alloc | apply Kd.R_drewN | apply Kd.R_drew)); exact HO382.out) hb); have n5_ := Aside0.mk (Kd.R_below (by (with_reducible repeat (first | apply Kd.R_alloc | apply Kd.R_drewN | apply Kd.R_drew)); exact HO385.out) hb); have n6_ := Aside0.mk (below_step (by repeat (first | (with_reducible first | exact HB.out | apply below_alloc | apply pw_below_drewN | apply below_drew1) | exact HB.out)) hb); clear HO368; clear HO371; clear HO374; clear HO379; clear HO382; clear HO385; clear HB; have HO368 := n0_; have HO371 := n1_; have HO374 := n2_; have HO379 := n3_; have HO382 := n4_; have HO385 := n5_; have HB := n6_; clear n0_ n1_ n2_ n3_ n4_ n5_ n6_; (try clear hb); (try clear hb2); (try clear hk); (try clear hi)))
          (try simp only [Act.put, List.setIfInBounds_toArray, List.set_cons_zero, List.set_cons_succ])
          go_cut [60] (fun v60 wc => ∃ (kq : Nat) (x60_16 : Bool), v60 = .bool x60_16 ∧ Aside0 (laws_FnExactPatched.j0 kq l1 l2 l3 t377 t380 t383 x60_16 = some r) ∧ Aside0 (kq ≤ k) ∧ Aside0 (Kd.R (Kd.int .i64) 2 wc w.heap.size (fun k_ => some k_ ≠ ((.slice Ao29 t380.length co29) : Value).ownBlock ∧ some k_ ≠ ((.slice Ao30 t383.length co30) : Value).ownBlock) (.slice Ao28 t377.length co28) t377) ∧ Aside0 (Kd.R (Kd.int .i64) 2 wc w.heap.size (fun k_ => some k_ ≠ ((.slice Ao28 t377.length co28) : Value).ownBlock ∧ some k_ ≠ ((.slice Ao30 t383.length co30) : Value).ownBlock) (.slice Ao29 t380.length co29) t380) ∧ Aside0 (Kd.R (Kd.int .i64) 2 wc w.heap.size (fun k_ => some k_ ≠ ((.slice Ao28 t377.length co28) : Value).ownBlock ∧ some k_ ≠ ((.slice Ao29 t380.length co29) : Value).ownBlock) (.slice Ao30 t383.length co30) t383) ∧ Aside0 (Below w.heap.size w wc))
          case first =>
            have H := HC17.out
            clear HC17
            by_cases c32 : t386.toList = t375.toList
            · rw [if_pos c32] at H
              have c32b0 : (t386.toList == t375.toList) = true := beq_iff_eq.mpr c32
              have c32b1 : (t386.toList != t375.toList) = false := bne_eq_false_iff_eq.mpr c32
              clear c32
              (first | rw [c32b0] | (simp only [i64_w, i32_w]; rw [c32b0]) | skip)
              have H' := Aside0.mk H
              clear H
              go_wp2
              go_meet
              case rel => exact ⟨_, ((t387 != t376)), (by first | rfl | (simp; done) | (simp [*]; done)), H', ⟨by first | omega | exact Nat.le_refl _⟩, ⟨by (with_reducible repeat (first | apply Kd.R_alloc | apply Kd.R_drewN | apply Kd.R_drew)); exact Kd.R_mono HO379.out (fun _ hk => ⟨hk.1.2, hk.2⟩)⟩, ⟨by (with_reducible repeat (first | apply Kd.R_alloc | apply Kd.R_drewN | apply Kd.R_drew)); exact Kd.R_mono HO382.out (fun _ hk => ⟨hk.1.2, hk.2⟩)⟩, ⟨by (with_reducible repeat (first | apply Kd.R_alloc | apply Kd.R_drewN | apply Kd.R_drew)); exact Kd.R_mono HO385.out (fun _ hk => ⟨hk.1.2, hk.2⟩)⟩, ⟨by repeat (first | (with_reducible first | exact HB.out | apply below_alloc | apply pw_below_drewN | apply below_drew1) | exact HB.out)⟩⟩
            · rw [if_neg c32] at H
              have c32b0 : (t386.toList == t375.toList) = false := beq_eq_false_iff_ne.mpr c32
              have c32b1 : (t386.toList != t375.toList) = true := bne_iff_ne.mpr c32
              (first | rw [c32b0] | (simp only [i64_w, i32_w]; rw [c32b0]) | skip)
              have H' := Aside0.mk H
              clear H
              go_wp2
              go_meet
              case rel => exact ⟨_, (true), (by first | rfl | (simp; done) | (simp [*]; done)), H', ⟨by first | omega | exact Nat.le_refl _⟩, ⟨by (with_reducible repeat (first | apply Kd.R_alloc | apply Kd.R_drewN | apply Kd.R_drew)); exact Kd.R_mono HO379.out (fun _ hk => ⟨hk.1.2, hk.2⟩)⟩, ⟨by (with_reducible repeat (first | apply Kd.R_alloc | apply Kd.R_drewN | apply Kd.R_drew)); exact Kd.R_mono HO382.out (fun _ hk => ⟨hk.1.2, hk.2⟩)⟩, ⟨by (with_reducible repeat (first | apply Kd.R_alloc | apply Kd.R_drewN | apply Kd.R_drew)); exact Kd.R_mono HO385.out (fun _ hk => ⟨hk.1.2, hk.2⟩)⟩, ⟨by repeat (first | (with_reducible first | exact HB.out | apply below_alloc | apply pw_below_drewN | apply below_drew1) | exact HB.out)⟩⟩
          case rest =>
            clear HC17
            try clear c1
            try clear c2
            try clear p2
            try clear c3
            try clear c5
            try clear c5b0
            try clear c5b1
            try clear c6
            try clear c6b0
            try clear c6b1
            try clear c7
            try clear c7b0
            try clear c7b1
            try clear c8
            try clear c8b0
            try clear c8b1
            try clear c16
            try clear c29
            try clear c30
            try clear c32
            try clear c32b0
            try clear c32b1
            obtain ⟨kq, x60_16, rfl, HA, HJ16, HO_11, HO_12, HO_13, HB⟩ := hcut
            cases kq with
            | zero => exact absurd HA.out (by simp [laws_FnExactPatched.j0])
            | succ kj16 =>
              have H := HA.out
              clear HA
              simp only [laws_FnExactPatched.j0] at H
              by_cases c33 : x60_16 = true
              · subst c33
                have H1 : (some false) = some r := by rw [if_pos rfl] at H; exact H
                clear H
                have H := H1
                clear H1
                obtain rfl := Option.some.inj H
                go_wp2
                go_ret
                exact ⟨by first | rfl | (simp [errW_none, errW_some] <;> rfl) | (simp [*, errW_none, errW_some] <;> rfl), by repeat (first | (with_reducible first | exact HB.out | apply below_alloc | apply pw_below_drewN | apply below_drew1) | exact HB.out)⟩
              · replace c33 := Bool.eq_false_iff.mpr c33
                subst c33
                have H1 : ((laws_toInt64S.f kj16 l1).bind fun t388 => ((laws_eqInt64S.f kj16 t377 t388).bind fun t391 => (if t391 = true then ((laws_toInt64S.f kj16 l2).bind fun t392 => ((laws_eqInt64S.f kj16 t380 t392).bind fun t395 => (if t395 = true then ((laws_toInt64S.f kj16 l3).bind fun t396 => ((laws_eqInt64S.f kj16 t383 t396).bind fun t399 => (if t399 = true then (some true) else (some false)))) else (some false)))) else (some false)))) = some r := by rw [if_neg (show ¬ (false = true) by decide)] at H; exact H
                clear H
                have H := H1
                clear H1
                replace H := Option.bind_eq_some_iff.mp H
                obtain ⟨t388, A340, H⟩ := H
                replace H : ((laws_eqInt64S.f kj16 t377 t388).bind fun t391 => (if t391 = true then ((laws_toInt64S.f kj16 l2).bind fun t392 => ((laws_eqInt64S.f kj16 t380 t392).bind fun t395 => (if t395 = true then ((laws_toInt64S.f kj16 l3).bind fun t396 => ((laws_eqInt64S.f kj16 t383 t396).bind fun t399 => (if t399 = true then (some true) else (some false)))) else (some false)))) else (some false))) = some r := H
                have A34 := Aside0.mk A340
                clear A340
                replace H := Option.bind_eq_some_iff.mp H
                obtain ⟨t391, A350, H⟩ := H
                replace H : (if t391 = true then ((laws_toInt64S.f kj16 l2).bind fun t392 => ((laws_eqInt64S.f kj16 t380 t392).bind fun t395 => (if t395 = true then ((laws_toInt64S.f kj16 l3).bind fun t396 => ((laws_eqInt64S.f kj16 t383 t396).bind fun t399 => (if t399 = true then (some true) else (some false)))) else (some false)))) else (some false)) = some r := H
                have A35 := Aside0.mk A350
                clear A350
                by_cases c36 : t391 = true
                · subst c36
                  have H1 : ((laws_toInt64S.f kj16 l2).bind fun t392 => ((laws_eqInt64S.f kj16 t380 t392).bind fun t395 => (if t395 = true then ((laws_toInt64S.f kj16 l3).bind fun t396 => ((laws_eqInt64S.f kj16 t383 t396).bind fun t399 => (if t399 = true then (some true) else (some false)))) else (some false)))) = some r := by rw [if_pos rfl] at H; exact H
                  clear H
                  have H := H1
                  clear H1
                  replace H := Option.bind_eq_some_iff.mp H
                  obtain ⟨t392, A370, H⟩ := H
                  replace H : ((laws_eqInt64S.f kj16 t380 t392).bind fun t395 => (if t395 = true then ((laws_toInt64S.f kj16 l3).bind fun t396 => ((laws_eqInt64S.f kj16 t383 t396).bind fun t399 => (if t399 = true then (some true) else (some false)))) else (some false))) = some r := H
                  have A37 := Aside0.mk A370
                  clear A370
                  replace H := Option.bind_eq_some_iff.mp H
                  obtain ⟨t395, A380, H⟩ := H
                  replace H : (if t395 = true then ((laws_toInt64S.f kj16 l3).bind fun t396 => ((laws_eqInt64S.f kj16 t383 t396).bind fun t399 => (if t399 = true then (some true) else (some false)))) else (some false)) = some r := H
                  have A38 := Aside0.mk A380
                  clear A380
                  by_cases c39 : t395 = true
                  · subst c39
                    have H1 : ((laws_toInt64S.f kj16 l3).bind fun t396 => ((laws_eqInt64S.f kj16 t383 t396).bind fun t399 => (if t399 = true then (some true) else (some false)))) = some r := by rw [if_pos rfl] at H; exact H
                    clear H
                    have H := H1
                    clear H1
                    replace H := Option.bind_eq_some_iff.mp H
                    obtain ⟨t396, A400, H⟩ := H
                    replace H : ((laws_eqInt64S.f kj16 t383 t396).bind fun t399 => (if t399 = true then (some true) else (some false))) = some r := H
                    have A40 := Aside0.mk A400
                    clear A400
                    replace H := Option.bind_eq_some_iff.mp H
                    obtain ⟨t399, A410, H⟩ := H
                    replace H : (if t399 = true then (some true) else (some false)) = some r := H
                    have A41 := Aside0.mk A410
                    clear A410
                    by_cases c42 : t399 = true
                    · subst c42
                      have H1 : (some true) = some r := by rw [if_pos rfl] at H; exact H
                      clear H
                      have H := H1
                      clear H1
                      obtain rfl := Option.some.inj H
                      go_wp2_with (first | ((with_reducible refine gate_callee (f := 16) rfl ?_); refine goesL_ (some 63) rfl rfl Try.func16 (by kernel_rfl) rfl #[.slice A1 l1.length c1] rfl (by (try simp only [List.map_toArray, List.map_cons, List.map_nil]); first | done | rfl | (simp only [List.length_drop, List.length_take]; rfl)) ?_; (with_reducible refine (laws_toInt64S.calls kj16 _ _ l1 t388 _ ?side1 ?side2 A34.out).mono ?_); (case side1 => repeat (first | exact (Kd.C_below HR1.out HB.out) | (with_reducible refine Kd.C_alloc ?_ _) | (with_reducible refine Kd.C_drewN ?_ _) | (with_reducible refine Kd.C_drew ?_))); (case side2 => exact HC1.out); rintro e w43 ⟨v389, rfl, ho0, hb⟩; refine ⟨_, rfl, ?_⟩; have n0_ := Aside0.mk (Kd.R_elder' (by (with_reducible repeat (first | apply Kd.R_alloc | apply Kd.R_drewN | apply Kd.R_drew)); exact HO_11.out) (Kd.R_base ho0) hb); have n1_ := Aside0.mk (Kd.R_elder' (by (with_reducible repeat (first | apply Kd.R_alloc | apply Kd.R_drewN | apply Kd.R_drew)); exact HO_12.out) (Kd.R_base ho0) hb); have n2_ := Aside0.mk (Kd.R_elder' (by (with_reducible repeat (first | apply Kd.R_alloc | apply Kd.R_drewN | apply Kd.R_drew)); exact HO_13.out) (Kd.R_base ho0) hb); have n3_ := Aside0.mk (Kd.R_lower (Kd.R_new' (Kd.R_new' (Kd.R_new' ho0 (Kd.R_lt (by (with_reducible repeat (first | apply Kd.R_alloc | apply Kd.R_drewN | apply Kd.R_drew)); exact HO_11.out))) (Kd.R_lt (by (with_reducible repeat (first | apply Kd.R_alloc | apply Kd.R_drewN | apply Kd.R_drew)); exact HO_12.out))) (Kd.R_lt (by (with_reducible repeat (first | apply Kd.R_alloc | apply Kd.R_drewN | apply Kd.R_drew)); exact HO_13.out))) (below_size (by repeat (first | (with_reducible first | exact HB.out | apply below_alloc | apply pw_below_drewN | apply below_drew1) | exact HB.out)))); have n4_ := Aside0.mk (below_step (by repeat (first | (with_reducible first | exact HB.out | apply below_alloc | apply pw_below_drewN | apply below_drew1) | exact HB.out)) hb); clear HO_11; clear HO_12; clear HO_13; clear HB; have HO_11 := n0_; have HO_12 := n1_; have HO_13 := n2_; have HO390 := n3_; have HB := n4_; clear n0_ n1_ n2_ n3_ n4_; (try clear hb); (try clear hb2); (try clear hk); (try clear hi); (try clear ho0); obtain ⟨Ao44, co44, eo44⟩ := Kd.R_slice HO390.out; subst eo44) | ((with_reducible refine gate_callee (f := 18) rfl ?_); refine goesL_ (some 64) rfl rfl Try.func18 (by kernel_rfl) rfl #[.slice Ao28 t377.length co28, .slice Ao44 t388.length co44] rfl (by (try simp only [List.map_toArray, List.map_cons, List.map_nil]); first | done | rfl | (simp only [List.length_drop, List.length_take]; rfl)) ?_; (with_reducible refine (laws_eqInt64S.calls kj16 _ _ t377 _ _ t388 true _ ?side1 ?side2 ?side3 ?side4 A35.out).mono ?_); (case side1 => repeat (first | exact (Kd.R_reads' HO_11.out).2.2 | (with_reducible refine Kd.C_alloc ?_ _) | (with_reducible refine Kd.C_drewN ?_ _) | (with_reducible refine Kd.C_drew ?_))); (case side2 => exact (Kd.R_reads' HO_11.out).2.1); (case side3 => repeat (first | exact (Kd.R_reads' HO390.out).2.2 | (with_reducible refine Kd.C_alloc ?_ _) | (with_reducible refine Kd.C_drewN ?_ _) | (with_reducible refine Kd.C_drew ?_))); (case side4 => exact (Kd.R_reads' HO390.out).2.1); rintro e w' ⟨rfl, ⟨nd, rfl⟩⟩; refine ⟨_, rfl, ?_⟩) | ((with_reducible refine gate_callee (f := 16) rfl ?_); refine goesL_ (some 68) rfl rfl Try.func16 (by kernel_rfl) rfl #[.slice A2 l2.length c2] rfl (by (try simp only [List.map_toArray, List.map_cons, List.map_nil]); first | done | rfl | (simp only [List.length_drop, List.length_take]; rfl)) ?_; (with_reducible refine (laws_toInt64S.calls kj16 _ _ l2 t392 _ ?side1 ?side2 A37.out).mono ?_); (case side1 => repeat (first | exact (Kd.C_below HR2.out (by repeat (first | (with_reducible first | exact HB.out | apply below_alloc | apply pw_below_drewN | apply below_drew1) | exact HB.out))) | (with_reducible refine Kd.C_alloc ?_ _) | (with_reducible refine Kd.C_drewN ?_ _) | (with_reducible refine Kd.C_drew ?_))); (case side2 => exact HC2.out); rintro e w45 ⟨v393, rfl, ho0, hb⟩; refine ⟨_, rfl, ?_⟩; have n0_ := Aside0.mk (Kd.R_elder' (by (with_reducible repeat (first | apply Kd.R_alloc | apply Kd.R_drewN | apply Kd.R_drew)); exact HO_11.out) (Kd.R_base ho0) hb); have n1_ := Aside0.mk (Kd.R_elder' (by (with_reducible repeat (first | apply Kd.R_alloc | apply Kd.R_drewN | apply Kd.R_drew)); exact HO_12.out) (Kd.R_base ho0) hb); have n2_ := Aside0.mk (Kd.R_elder' (by (with_reducible repeat (first | apply Kd.R_alloc | apply Kd.R_drewN | apply Kd.R_drew)); exact HO_13.out) (Kd.R_base ho0) hb); have n3_ := Aside0.mk (Kd.R_elder' (by (with_reducible repeat (first | apply Kd.R_alloc | apply Kd.R_drewN | apply Kd.R_drew)); exact HO390.out) (Kd.R_base ho0) hb); have n4_ := Aside0.mk (Kd.R_lower (Kd.R_new' (Kd.R_new' (Kd.R_new' (Kd.R_new' ho0 (Kd.R_lt (by (with_reducible repeat (first | apply Kd.R_alloc | apply Kd.R_drewN | apply Kd.R_drew)); exact HO_11.out))) (Kd.R_lt (by (with_reducible repeat (first | apply Kd.R_alloc | apply Kd.R_drewN | apply Kd.R_drew)); exact HO_12.out))) (Kd.R_lt (by (with_reducible repeat (first | apply Kd.R_alloc | apply Kd.R_drewN | apply Kd.R_drew)); exact HO_13.out))) (Kd.R_lt (by (with_reducible repeat (first | apply Kd.R_alloc | apply Kd.R_drewN | apply Kd.R_drew)); exact HO390.out))) (below_size (by repeat (first | (with_reducible first | exact HB.out | apply below_alloc | apply pw_below_drewN | apply below_drew1) | exact HB.out)))); have n5_ := Aside0.mk (below_step (by repeat (first | (with_reducible first | exact HB.out | apply below_alloc | apply pw_below_drewN | apply below_drew1) | exact HB.out)) hb); clear HO_11; clear HO_12; clear HO_13; clear HO390; clear HB; have HO_11 := n0_; have HO_12 := n1_; have HO_13 := n2_; have HO390 := n3_; have HO394 := n4_; have HB := n5_; clear n0_ n1_ n2_ n3_ n4_ n5_; (try clear hb); (try clear hb2); (try clear hk); (try clear hi); (try clear ho0); obtain ⟨Ao46, co46, eo46⟩ := Kd.R_slice HO394.out; subst eo46) | ((with_reducible refine gate_callee (f := 18) rfl ?_); refine goesL_ (some 69) rfl rfl Try.func18 (by kernel_rfl) rfl #[.slice Ao29 t380.length co29, .slice Ao46 t392.length co46] rfl (by (try simp only [List.map_toArray, List.map_cons, List.map_nil]); first | done | rfl | (simp only [List.length_drop, List.length_take]; rfl)) ?_; (with_reducible refine (laws_eqInt64S.calls kj16 _ _ t380 _ _ t392 true _ ?side1 ?side2 ?side3 ?side4 A38.out).mono ?_); (case side1 => repeat (first | exact (Kd.R_reads' HO_12.out).2.2 | (with_reducible refine Kd.C_alloc ?_ _) | (with_reducible refine Kd.C_drewN ?_ _) | (with_reducible refine Kd.C_drew ?_))); (case side2 => exact (Kd.R_reads' HO_12.out).2.1); (case side3 => repeat (first | exact (Kd.R_reads' HO394.out).2.2 | (with_reducible refine Kd.C_alloc ?_ _) | (with_reducible refine Kd.C_drewN ?_ _) | (with_reducible refine Kd.C_drew ?_))); (case side4 => exact (Kd.R_reads' HO394.out).2.1); rintro e w' ⟨rfl, ⟨nd, rfl⟩⟩; refine ⟨_, rfl, ?_⟩) | ((with_reducible refine gate_callee (f := 16) rfl ?_); refine goesL_ (some 73) rfl rfl Try.func16 (by kernel_rfl) rfl #[.slice A3 l3.length c3] rfl (by (try simp only [List.map_toArray, List.map_cons, List.map_nil]); first | done | rfl | (simp only [List.length_drop, List.length_take]; rfl)) ?_; (with_reducible refine (laws_toInt64S.calls kj16 _ _ l3 t396 _ ?side1 ?side2 A40.out).mono ?_); (case side1 => repeat (first | exact (Kd.C_below HR3.out (by repeat (first | (with_reducible first | exact HB.out | apply below_alloc | apply pw_below_drewN | apply below_drew1) | exact HB.out))) | (with_reducible refine Kd.C_alloc ?_ _) | (with_reducible refine Kd.C_drewN ?_ _) | (with_reducible refine Kd.C_drew ?_))); (case side2 => exact HC3.out); rintro e w47 ⟨v397, rfl, ho0, hb⟩; refine ⟨_, rfl, ?_⟩; have n0_ := Aside0.mk (Kd.R_elder' (by (with_reducible repeat (first | apply Kd.R_alloc | apply Kd.R_drewN | apply Kd.R_drew)); exact HO_11.out) (Kd.R_base ho0) hb); have n1_ := Aside0.mk (Kd.R_elder' (by (with_reducible repeat (first | apply Kd.R_alloc | apply Kd.R_drewN | apply Kd.R_drew)); exact HO_12.out) (Kd.R_base ho0) hb); have n2_ := Aside0.mk (Kd.R_elder' (by (with_reducible repeat (first | apply Kd.R_alloc | apply Kd.R_drewN | apply Kd.R_drew)); exact HO_13.out) (Kd.R_base ho0) hb); have n3_ := Aside0.mk (Kd.R_elder' (by (with_reducible repeat (first | apply Kd.R_alloc | apply Kd.R_drewN | apply Kd.R_drew)); exact HO390.out) (Kd.R_base ho0) hb); have n4_ := Aside0.mk (Kd.R_elder' (by (with_reducible repeat (first | apply Kd.R_alloc | apply Kd.R_drewN | apply Kd.R_drew)); exact HO394.out) (Kd.R_base ho0) hb); have n5_ := Aside0.mk (Kd.R_lower (Kd.R_new' (Kd.R_new' (Kd.R_new' (Kd.R_new' (Kd.R_new' ho0 (Kd.R_lt (by (with_reducible repeat (first | apply Kd.R_alloc | apply Kd.R_drewN | apply Kd.R_drew)); exact HO_11.out))) (Kd.R_lt (by (with_reducible repeat (first | apply Kd.R_alloc | apply Kd.R_drewN | apply Kd.R_drew)); exact HO_12.out))) (Kd.R_lt (by (with_reducible repeat (first | apply Kd.R_alloc | apply Kd.R_drewN | apply Kd.R_drew)); exact HO_13.out))) (Kd.R_lt (by (with_reducible repeat (first | apply Kd.R_alloc | apply Kd.R_drewN | apply Kd.R_drew)); exact HO390.out))) (Kd.R_lt (by (with_reducible repeat (first | apply Kd.R_alloc | apply Kd.R_drewN | apply Kd.R_drew)); exact HO394.out))) (below_size (by repeat (first | (with_reducible first | exact HB.out | apply below_alloc | apply pw_below_drewN | apply below_drew1) | exact HB.out)))); have n6_ := Aside0.mk (below_step (by repeat (first | (with_reducible first | exact HB.out | apply below_alloc | apply pw_below_drewN | apply below_drew1) | exact HB.out)) hb); clear HO_11; clear HO_12; clear HO_13; clear HO390; clear HO394; clear HB; have HO_11 := n0_; have HO_12 := n1_; have HO_13 := n2_; have HO390 := n3_; have HO394 := n4_; have HO398 := n5_; have HB := n6_; clear n0_ n1_ n2_ n3_ n4_ n5_ n6_; (try clear hb); (try clear hb2); (try clear hk); (try clear hi); (try clear ho0); obtain ⟨Ao48, co48, eo48⟩ := Kd.R_slice HO398.out; subst eo48) | ((with_reducible refine gate_callee (f := 18) rfl ?_); refine goesL_ (some 74) rfl rfl Try.func18 (by kernel_rfl) rfl #[.slice Ao30 t383.length co30, .slice Ao48 t396.length co48] rfl (by (try simp only [List.map_toArray, List.map_cons, List.map_nil]); first | done | rfl | (simp only [List.length_drop, List.length_take]; rfl)) ?_; (with_reducible refine (laws_eqInt64S.calls kj16 _ _ t383 _ _ t396 true _ ?side1 ?side2 ?side3 ?side4 A41.out).mono ?_); (case side1 => repeat (first | exact (Kd.R_reads' HO_13.out).2.2 | (with_reducible refine Kd.C_alloc ?_ _) | (with_reducible refine Kd.C_drewN ?_ _) | (with_reducible refine Kd.C_drew ?_))); (case side2 => exact (Kd.R_reads' HO_13.out).2.1); (case side3 => repeat (first | exact (Kd.R_reads' HO398.out).2.2 | (with_reducible refine Kd.C_alloc ?_ _) | (with_reducible refine Kd.C_drewN ?_ _) | (with_reducible refine Kd.C_drew ?_))); (case side4 => exact (Kd.R_reads' HO398.out).2.1); rintro e w' ⟨rfl, ⟨nd, rfl⟩⟩; refine ⟨_, rfl, ?_⟩))
                      go_ret
                      exact ⟨by first | rfl | (simp [errW_none, errW_some] <;> rfl) | (simp [*, errW_none, errW_some] <;> rfl), by repeat (first | (with_reducible first | exact HB.out | apply below_alloc | apply pw_below_drewN | apply below_drew1) | exact HB.out)⟩
                    · replace c42 := Bool.eq_false_iff.mpr c42
                      subst c42
                      have H1 : (some false) = some r := by rw [if_neg (show ¬ (false = true) by decide)] at H; exact H
                      clear H
                      have H := H1
                      clear H1
                      obtain rfl := Option.some.inj H
                      go_wp2_with (first | ((with_reducible refine gate_callee (f := 16) rfl ?_); refine goesL_ (some 63) rfl rfl Try.func16 (by kernel_rfl) rfl #[.slice A1 l1.length c1] rfl (by (try simp only [List.map_toArray, List.map_cons, List.map_nil]); first | done | rfl | (simp only [List.length_drop, List.length_take]; rfl)) ?_; (with_reducible refine (laws_toInt64S.calls kj16 _ _ l1 t388 _ ?side1 ?side2 A34.out).mono ?_); (case side1 => repeat (first | exact (Kd.C_below HR1.out HB.out) | (with_reducible refine Kd.C_alloc ?_ _) | (with_reducible refine Kd.C_drewN ?_ _) | (with_reducible refine Kd.C_drew ?_))); (case side2 => exact HC1.out); rintro e w49 ⟨v389, rfl, ho0, hb⟩; refine ⟨_, rfl, ?_⟩; have n0_ := Aside0.mk (Kd.R_elder' (by (with_reducible repeat (first | apply Kd.R_alloc | apply Kd.R_drewN | apply Kd.R_drew)); exact HO_11.out) (Kd.R_base ho0) hb); have n1_ := Aside0.mk (Kd.R_elder' (by (with_reducible repeat (first | apply Kd.R_alloc | apply Kd.R_drewN | apply Kd.R_drew)); exact HO_12.out) (Kd.R_base ho0) hb); have n2_ := Aside0.mk (Kd.R_elder' (by (with_reducible repeat (first | apply Kd.R_alloc | apply Kd.R_drewN | apply Kd.R_drew)); exact HO_13.out) (Kd.R_base ho0) hb); have n3_ := Aside0.mk (Kd.R_lower (Kd.R_new' (Kd.R_new' (Kd.R_new' ho0 (Kd.R_lt (by (with_reducible repeat (first | apply Kd.R_alloc | apply Kd.R_drewN | apply Kd.R_drew)); exact HO_11.out))) (Kd.R_lt (by (with_reducible repeat (first | apply Kd.R_alloc | apply Kd.R_drewN | apply Kd.R_drew)); exact HO_12.out))) (Kd.R_lt (by (with_reducible repeat (first | apply Kd.R_alloc | apply Kd.R_drewN | apply Kd.R_drew)); exact HO_13.out))) (below_size (by repeat (first | (with_reducible first | exact HB.out | apply below_alloc | apply pw_below_drewN | apply below_drew1) | exact HB.out)))); have n4_ := Aside0.mk (below_step (by repeat (first | (with_reducible first | exact HB.out | apply below_alloc | apply pw_below_drewN | apply below_drew1) | exact HB.out)) hb); clear HO_11; clear HO_12; clear HO_13; clear HB; have HO_11 := n0_; have HO_12 := n1_; have HO_13 := n2_; have HO390 := n3_; have HB := n4_; clear n0_ n1_ n2_ n3_ n4_; (try clear hb); (try clear hb2); (try clear hk); (try clear hi); (try clear ho0); obtain ⟨Ao50, co50, eo50⟩ := Kd.R_slice HO390.out; subst eo50) | ((with_reducible refine gate_callee (f := 18) rfl ?_); refine goesL_ (some 64) rfl rfl Try.func18 (by kernel_rfl) rfl #[.slice Ao28 t377.length co28, .slice Ao50 t388.length co50] rfl (by (try simp only [List.map_toArray, List.map_cons, List.map_nil]); first | done | rfl | (simp only [List.length_drop, List.length_take]; rfl)) ?_; (with_reducible refine (laws_eqInt64S.calls kj16 _ _ t377 _ _ t388 true _ ?side1 ?side2 ?side3 ?side4 A35.out).mono ?_); (case side1 => repeat (first | exact (Kd.R_reads' HO_11.out).2.2 | (with_reducible refine Kd.C_alloc ?_ _) | (with_reducible refine Kd.C_drewN ?_ _) | (with_reducible refine Kd.C_drew ?_))); (case side2 => exact (Kd.R_reads' HO_11.out).2.1); (case side3 => repeat (first | exact (Kd.R_reads' HO390.out).2.2 | (with_reducible refine Kd.C_alloc ?_ _) | (with_reducible refine Kd.C_drewN ?_ _) | (with_reducible refine Kd.C_drew ?_))); (case side4 => exact (Kd.R_reads' HO390.out).2.1); rintro e w' ⟨rfl, ⟨nd, rfl⟩⟩; refine ⟨_, rfl, ?_⟩) | ((with_reducible refine gate_callee (f := 16) rfl ?_); refine goesL_ (some 68) rfl rfl Try.func16 (by kernel_rfl) rfl #[.slice A2 l2.length c2] rfl (by (try simp only [List.map_toArray, List.map_cons, List.map_nil]); first | done | rfl | (simp only [List.length_drop, List.length_take]; rfl)) ?_; (with_reducible refine (laws_toInt64S.calls kj16 _ _ l2 t392 _ ?side1 ?side2 A37.out).mono ?_); (case side1 => repeat (first | exact (Kd.C_below HR2.out (by repeat (first | (with_reducible first | exact HB.out | apply below_alloc | apply pw_below_drewN | apply below_drew1) | exact HB.out))) | (with_reducible refine Kd.C_alloc ?_ _) | (with_reducible refine Kd.C_drewN ?_ _) | (with_reducible refine Kd.C_drew ?_))); (case side2 => exact HC2.out); rintro e w51 ⟨v393, rfl, ho0, hb⟩; refine ⟨_, rfl, ?_⟩; have n0_ := Aside0.mk (Kd.R_elder' (by (with_reducible repeat (first | apply Kd.R_alloc | apply Kd.R_drewN | apply Kd.R_drew)); exact HO_11.out) (Kd.R_base ho0) hb); have n1_ := Aside0.mk (Kd.R_elder' (by (with_reducible repeat (first | apply Kd.R_alloc | apply Kd.R_drewN | apply Kd.R_drew)); exact HO_12.out) (Kd.R_base ho0) hb); have n2_ := Aside0.mk (Kd.R_elder' (by (with_reducible repeat (first | apply Kd.R_alloc | apply Kd.R_drewN | apply Kd.R_drew)); exact HO_13.out) (Kd.R_base ho0) hb); have n3_ := Aside0.mk (Kd.R_elder' (by (with_reducible repeat (first | apply Kd.R_alloc | apply Kd.R_drewN | apply Kd.R_drew)); exact HO390.out) (Kd.R_base ho0) hb); have n4_ := Aside0.mk (Kd.R_lower (Kd.R_new' (Kd.R_new' (Kd.R_new' (Kd.R_new' ho0 (Kd.R_lt (by (with_reducible repeat (first | apply Kd.R_alloc | apply Kd.R_drewN | apply Kd.R_drew)); exact HO_11.out))) (Kd.R_lt (by (with_reducible repeat (first | apply Kd.R_alloc | apply Kd.R_drewN | apply Kd.R_drew)); exact HO_12.out))) (Kd.R_lt (by (with_reducible repeat (first | apply Kd.R_alloc | apply Kd.R_drewN | apply Kd.R_drew)); exact HO_13.out))) (Kd.R_lt (by (with_reducible repeat (first | apply Kd.R_alloc | apply Kd.R_drewN | apply Kd.R_drew)); exact HO390.out))) (below_size (by repeat (first | (with_reducible first | exact HB.out | apply below_alloc | apply pw_below_drewN | apply below_drew1) | exact HB.out)))); have n5_ := Aside0.mk (below_step (by repeat (first | (with_reducible first | exact HB.out | apply below_alloc | apply pw_below_drewN | apply below_drew1) | exact HB.out)) hb); clear HO_11; clear HO_12; clear HO_13; clear HO390; clear HB; have HO_11 := n0_; have HO_12 := n1_; have HO_13 := n2_; have HO390 := n3_; have HO394 := n4_; have HB := n5_; clear n0_ n1_ n2_ n3_ n4_ n5_; (try clear hb); (try clear hb2); (try clear hk); (try clear hi); (try clear ho0); obtain ⟨Ao52, co52, eo52⟩ := Kd.R_slice HO394.out; subst eo52) | ((with_reducible refine gate_callee (f := 18) rfl ?_); refine goesL_ (some 69) rfl rfl Try.func18 (by kernel_rfl) rfl #[.slice Ao29 t380.length co29, .slice Ao52 t392.length co52] rfl (by (try simp only [List.map_toArray, List.map_cons, List.map_nil]); first | done | rfl | (simp only [List.length_drop, List.length_take]; rfl)) ?_; (with_reducible refine (laws_eqInt64S.calls kj16 _ _ t380 _ _ t392 true _ ?side1 ?side2 ?side3 ?side4 A38.out).mono ?_); (case side1 => repeat (first | exact (Kd.R_reads' HO_12.out).2.2 | (with_reducible refine Kd.C_alloc ?_ _) | (with_reducible refine Kd.C_drewN ?_ _) | (with_reducible refine Kd.C_drew ?_))); (case side2 => exact (Kd.R_reads' HO_12.out).2.1); (case side3 => repeat (first | exact (Kd.R_reads' HO394.out).2.2 | (with_reducible refine Kd.C_alloc ?_ _) | (with_reducible refine Kd.C_drewN ?_ _) | (with_reducible refine Kd.C_drew ?_))); (case side4 => exact (Kd.R_reads' HO394.out).2.1); rintro e w' ⟨rfl, ⟨nd, rfl⟩⟩; refine ⟨_, rfl, ?_⟩) | ((with_reducible refine gate_callee (f := 16) rfl ?_); refine goesL_ (some 73) rfl rfl Try.func16 (by kernel_rfl) rfl #[.slice A3 l3.length c3] rfl (by (try simp only [List.map_toArray, List.map_cons, List.map_nil]); first | done | rfl | (simp only [List.length_drop, List.length_take]; rfl)) ?_; (with_reducible refine (laws_toInt64S.calls kj16 _ _ l3 t396 _ ?side1 ?side2 A40.out).mono ?_); (case side1 => repeat (first | exact (Kd.C_below HR3.out (by repeat (first | (with_reducible first | exact HB.out | apply below_alloc | apply pw_below_drewN | apply below_drew1) | exact HB.out))) | (with_reducible refine Kd.C_alloc ?_ _) | (with_reducible refine Kd.C_drewN ?_ _) | (with_reducible refine Kd.C_drew ?_))); (case side2 => exact HC3.out); rintro e w53 ⟨v397, rfl, ho0, hb⟩; refine ⟨_, rfl, ?_⟩; have n0_ := Aside0.mk (Kd.R_elder' (by (with_reducible repeat (first | apply Kd.R_alloc | apply Kd.R_drewN | apply Kd.R_drew)); exact HO_11.out) (Kd.R_base ho0) hb); have n1_ := Aside0.mk (Kd.R_elder' (by (with_reducible repeat (first | apply Kd.R_alloc | apply Kd.R_drewN | apply Kd.R_drew)); exact HO_12.out) (Kd.R_base ho0) hb); have n2_ := Aside0.mk (Kd.R_elder' (by (with_reducible repeat (first | apply Kd.R_alloc | apply Kd.R_drewN | apply Kd.R_drew)); exact HO_13.out) (Kd.R_base ho0) hb); have n3_ := Aside0.mk (Kd.R_elder' (by (with_reducible repeat (first | apply Kd.R_alloc | apply Kd.R_drewN | apply Kd.R_drew)); exact HO390.out) (Kd.R_base ho0) hb); have n4_ := Aside0.mk (Kd.R_elder' (by (with_reducible repeat (first | apply Kd.R_alloc | apply Kd.R_drewN | apply Kd.R_drew)); exact HO394.out) (Kd.R_base ho0) hb); have n5_ := Aside0.mk (Kd.R_lower (Kd.R_new' (Kd.R_new' (Kd.R_new' (Kd.R_new' (Kd.R_new' ho0 (Kd.R_lt (by (with_reducible repeat (first | apply Kd.R_alloc | apply Kd.R_drewN | apply Kd.R_drew)); exact HO_11.out))) (Kd.R_lt (by (with_reducible repeat (first | apply Kd.R_alloc | apply Kd.R_drewN | apply Kd.R_drew)); exact HO_12.out))) (Kd.R_lt (by (with_reducible repeat (first | apply Kd.R_alloc | apply Kd.R_drewN | apply Kd.R_drew)); exact HO_13.out))) (Kd.R_lt (by (with_reducible repeat (first | apply Kd.R_alloc | apply Kd.R_drewN | apply Kd.R_drew)); exact HO390.out))) (Kd.R_lt (by (with_reducible repeat (first | apply Kd.R_alloc | apply Kd.R_drewN | apply Kd.R_drew)); exact HO394.out))) (below_size (by repeat (first | (with_reducible first | exact HB.out | apply below_alloc | apply pw_below_drewN | apply below_drew1) | exact HB.out)))); have n6_ := Aside0.mk (below_step (by repeat (first | (with_reducible first | exact HB.out | apply below_alloc | apply pw_below_drewN | apply below_drew1) | exact HB.out)) hb); clear HO_11; clear HO_12; clear HO_13; clear HO390; clear HO394; clear HB; have HO_11 := n0_; have HO_12 := n1_; have HO_13 := n2_; have HO390 := n3_; have HO394 := n4_; have HO398 := n5_; have HB := n6_; clear n0_ n1_ n2_ n3_ n4_ n5_ n6_; (try clear hb); (try clear hb2); (try clear hk); (try clear hi); (try clear ho0); obtain ⟨Ao54, co54, eo54⟩ := Kd.R_slice HO398.out; subst eo54) | ((with_reducible refine gate_callee (f := 18) rfl ?_); refine goesL_ (some 74) rfl rfl Try.func18 (by kernel_rfl) rfl #[.slice Ao30 t383.length co30, .slice Ao54 t396.length co54] rfl (by (try simp only [List.map_toArray, List.map_cons, List.map_nil]); first | done | rfl | (simp only [List.length_drop, List.length_take]; rfl)) ?_; (with_reducible refine (laws_eqInt64S.calls kj16 _ _ t383 _ _ t396 false _ ?side1 ?side2 ?side3 ?side4 A41.out).mono ?_); (case side1 => repeat (first | exact (Kd.R_reads' HO_13.out).2.2 | (with_reducible refine Kd.C_alloc ?_ _) | (with_reducible refine Kd.C_drewN ?_ _) | (with_reducible refine Kd.C_drew ?_))); (case side2 => exact (Kd.R_reads' HO_13.out).2.1); (case side3 => repeat (first | exact (Kd.R_reads' HO398.out).2.2 | (with_reducible refine Kd.C_alloc ?_ _) | (with_reducible refine Kd.C_drewN ?_ _) | (with_reducible refine Kd.C_drew ?_))); (case side4 => exact (Kd.R_reads' HO398.out).2.1); rintro e w' ⟨rfl, ⟨nd, rfl⟩⟩; refine ⟨_, rfl, ?_⟩))
                      go_ret
                      exact ⟨by first | rfl | (simp [errW_none, errW_some] <;> rfl) | (simp [*, errW_none, errW_some] <;> rfl), by repeat (first | (with_reducible first | exact HB.out | apply below_alloc | apply pw_below_drewN | apply below_drew1) | exact HB.out)⟩
                  · replace c39 := Bool.eq_false_iff.mpr c39
                    subst c39
                    have H1 : (some false) = some r := by rw [if_neg (show ¬ (false = true) by decide)] at H; exact H
                    clear H
                    have H := H1
                    clear H1
                    obtain rfl := Option.some.inj H
                    go_wp2_with (first | ((with_reducible refine gate_callee (f := 16) rfl ?_); refine goesL_ (some 63) rfl rfl Try.func16 (by kernel_rfl) rfl #[.slice A1 l1.length c1] rfl (by (try simp only [List.map_toArray, List.map_cons, List.map_nil]); first | done | rfl | (simp only [List.length_drop, List.length_take]; rfl)) ?_; (with_reducible refine (laws_toInt64S.calls kj16 _ _ l1 t388 _ ?side1 ?side2 A34.out).mono ?_); (case side1 => repeat (first | exact (Kd.C_below HR1.out HB.out) | (with_reducible refine Kd.C_alloc ?_ _) | (with_reducible refine Kd.C_drewN ?_ _) | (with_reducible refine Kd.C_drew ?_))); (case side2 => exact HC1.out); rintro e w55 ⟨v389, rfl, ho0, hb⟩; refine ⟨_, rfl, ?_⟩; have n0_ := Aside0.mk (Kd.R_elder' (by (with_reducible repeat (first | apply Kd.R_alloc | apply Kd.R_drewN | apply Kd.R_drew)); exact HO_11.out) (Kd.R_base ho0) hb); have n1_ := Aside0.mk (Kd.R_elder' (by (with_reducible repeat (first | apply Kd.R_alloc | apply Kd.R_drewN | apply Kd.R_drew)); exact HO_12.out) (Kd.R_base ho0) hb); have n2_ := Aside0.mk (Kd.R_elder' (by (with_reducible repeat (first | apply Kd.R_alloc | apply Kd.R_drewN | apply Kd.R_drew)); exact HO_13.out) (Kd.R_base ho0) hb); have n3_ := Aside0.mk (Kd.R_lower (Kd.R_new' (Kd.R_new' (Kd.R_new' ho0 (Kd.R_lt (by (with_reducible repeat (first | apply Kd.R_alloc | apply Kd.R_drewN | apply Kd.R_drew)); exact HO_11.out))) (Kd.R_lt (by (with_reducible repeat (first | apply Kd.R_alloc | apply Kd.R_drewN | apply Kd.R_drew)); exact HO_12.out))) (Kd.R_lt (by (with_reducible repeat (first | apply Kd.R_alloc | apply Kd.R_drewN | apply Kd.R_drew)); exact HO_13.out))) (below_size (by repeat (first | (with_reducible first | exact HB.out | apply below_alloc | apply pw_below_drewN | apply below_drew1) | exact HB.out)))); have n4_ := Aside0.mk (below_step (by repeat (first | (with_reducible first | exact HB.out | apply below_alloc | apply pw_below_drewN | apply below_drew1) | exact HB.out)) hb); clear HO_11; clear HO_12; clear HO_13; clear HB; have HO_11 := n0_; have HO_12 := n1_; have HO_13 := n2_; have HO390 := n3_; have HB := n4_; clear n0_ n1_ n2_ n3_ n4_; (try clear hb); (try clear hb2); (try clear hk); (try clear hi); (try clear ho0); obtain ⟨Ao56, co56, eo56⟩ := Kd.R_slice HO390.out; subst eo56) | ((with_reducible refine gate_callee (f := 18) rfl ?_); refine goesL_ (some 64) rfl rfl Try.func18 (by kernel_rfl) rfl #[.slice Ao28 t377.length co28, .slice Ao56 t388.length co56] rfl (by (try simp only [List.map_toArray, List.map_cons, List.map_nil]); first | done | rfl | (simp only [List.length_drop, List.length_take]; rfl)) ?_; (with_reducible refine (laws_eqInt64S.calls kj16 _ _ t377 _ _ t388 true _ ?side1 ?side2 ?side3 ?side4 A35.out).mono ?_); (case side1 => repeat (first | exact (Kd.R_reads' HO_11.out).2.2 | (with_reducible refine Kd.C_alloc ?_ _) | (with_reducible refine Kd.C_drewN ?_ _) | (with_reducible refine Kd.C_drew ?_))); (case side2 => exact (Kd.R_reads' HO_11.out).2.1); (case side3 => repeat (first | exact (Kd.R_reads' HO390.out).2.2 | (with_reducible refine Kd.C_alloc ?_ _) | (with_reducible refine Kd.C_drewN ?_ _) | (with_reducible refine Kd.C_drew ?_))); (case side4 => exact (Kd.R_reads' HO390.out).2.1); rintro e w' ⟨rfl, ⟨nd, rfl⟩⟩; refine ⟨_, rfl, ?_⟩) | ((with_reducible refine gate_callee (f := 16) rfl ?_); refine goesL_ (some 68) rfl rfl Try.func16 (by kernel_rfl) rfl #[.slice A2 l2.length c2] rfl (by (try simp only [List.map_toArray, List.map_cons, List.map_nil]); first | done | rfl | (simp only [List.length_drop, List.length_take]; rfl)) ?_; (with_reducible refine (laws_toInt64S.calls kj16 _ _ l2 t392 _ ?side1 ?side2 A37.out).mono ?_); (case side1 => repeat (first | exact (Kd.C_below HR2.out (by repeat (first | (with_reducible first | exact HB.out | apply below_alloc | apply pw_below_drewN | apply below_drew1) | exact HB.out))) | (with_reducible refine Kd.C_alloc ?_ _) | (with_reducible refine Kd.C_drewN ?_ _) | (with_reducible refine Kd.C_drew ?_))); (case side2 => exact HC2.out); rintro e w57 ⟨v393, rfl, ho0, hb⟩; refine ⟨_, rfl, ?_⟩; have n0_ := Aside0.mk (Kd.R_elder' (by (with_reducible repeat (first | apply Kd.R_alloc | apply Kd.R_drewN | apply Kd.R_drew)); exact HO_11.out) (Kd.R_base ho0) hb); have n1_ := Aside0.mk (Kd.R_elder' (by (with_reducible repeat (first | apply Kd.R_alloc | apply Kd.R_drewN | apply Kd.R_drew)); exact HO_12.out) (Kd.R_base ho0) hb); have n2_ := Aside0.mk (Kd.R_elder' (by (with_reducible repeat (first | apply Kd.R_alloc | apply Kd.R_drewN | apply Kd.R_drew)); exact HO_13.out) (Kd.R_base ho0) hb); have n3_ := Aside0.mk (Kd.R_elder' (by (with_reducible repeat (first | apply Kd.R_alloc | apply Kd.R_drewN | apply Kd.R_drew)); exact HO390.out) (Kd.R_base ho0) hb); have n4_ := Aside0.mk (Kd.R_lower (Kd.R_new' (Kd.R_new' (Kd.R_new' (Kd.R_new' ho0 (Kd.R_lt (by (with_reducible repeat (first | apply Kd.R_alloc | apply Kd.R_drewN | apply Kd.R_drew)); exact HO_11.out))) (Kd.R_lt (by (with_reducible repeat (first | apply Kd.R_alloc | apply Kd.R_drewN | apply Kd.R_drew)); exact HO_12.out))) (Kd.R_lt (by (with_reducible repeat (first | apply Kd.R_alloc | apply Kd.R_drewN | apply Kd.R_drew)); exact HO_13.out))) (Kd.R_lt (by (with_reducible repeat (first | apply Kd.R_alloc | apply Kd.R_drewN | apply Kd.R_drew)); exact HO390.out))) (below_size (by repeat (first | (with_reducible first | exact HB.out | apply below_alloc | apply pw_below_drewN | apply below_drew1) | exact HB.out)))); have n5_ := Aside0.mk (below_step (by repeat (first | (with_reducible first | exact HB.out | apply below_alloc | apply pw_below_drewN | apply below_drew1) | exact HB.out)) hb); clear HO_11; clear HO_12; clear HO_13; clear HO390; clear HB; have HO_11 := n0_; have HO_12 := n1_; have HO_13 := n2_; have HO390 := n3_; have HO394 := n4_; have HB := n5_; clear n0_ n1_ n2_ n3_ n4_ n5_; (try clear hb); (try clear hb2); (try clear hk); (try clear hi); (try clear ho0); obtain ⟨Ao58, co58, eo58⟩ := Kd.R_slice HO394.out; subst eo58) | ((with_reducible refine gate_callee (f := 18) rfl ?_); refine goesL_ (some 69) rfl rfl Try.func18 (by kernel_rfl) rfl #[.slice Ao29 t380.length co29, .slice Ao58 t392.length co58] rfl (by (try simp only [List.map_toArray, List.map_cons, List.map_nil]); first | done | rfl | (simp only [List.length_drop, List.length_take]; rfl)) ?_; (with_reducible refine (laws_eqInt64S.calls kj16 _ _ t380 _ _ t392 false _ ?side1 ?side2 ?side3 ?side4 A38.out).mono ?_); (case side1 => repeat (first | exact (Kd.R_reads' HO_12.out).2.2 | (with_reducible refine Kd.C_alloc ?_ _) | (with_reducible refine Kd.C_drewN ?_ _) | (with_reducible refine Kd.C_drew ?_))); (case side2 => exact (Kd.R_reads' HO_12.out).2.1); (case side3 => repeat (first | exact (Kd.R_reads' HO394.out).2.2 | (with_reducible refine Kd.C_alloc ?_ _) | (with_reducible refine Kd.C_drewN ?_ _) | (with_reducible refine Kd.C_drew ?_))); (case side4 => exact (Kd.R_reads' HO394.out).2.1); rintro e w' ⟨rfl, ⟨nd, rfl⟩⟩; refine ⟨_, rfl, ?_⟩))
                    go_ret
                    exact ⟨by first | rfl | (simp [errW_none, errW_some] <;> rfl) | (simp [*, errW_none, errW_some] <;> rfl), by repeat (first | (with_reducible first | exact HB.out | apply below_alloc | apply pw_below_drewN | apply below_drew1) | exact HB.out)⟩
                · replace c36 := Bool.eq_false_iff.mpr c36
                  subst c36
                  have H1 : (some false) = some r := by rw [if_neg (show ¬ (false = true) by decide)] at H; exact H
                  clear H
                  have H := H1
                  clear H1
                  obtain rfl := Option.some.inj H
                  go_wp2_with (first | ((with_reducible refine gate_callee (f := 16) rfl ?_); refine goesL_ (some 63) rfl rfl Try.func16 (by kernel_rfl) rfl #[.slice A1 l1.length c1] rfl (by (try simp only [List.map_toArray, List.map_cons, List.map_nil]); first | done | rfl | (simp only [List.length_drop, List.length_take]; rfl)) ?_; (with_reducible refine (laws_toInt64S.calls kj16 _ _ l1 t388 _ ?side1 ?side2 A34.out).mono ?_); (case side1 => repeat (first | exact (Kd.C_below HR1.out HB.out) | (with_reducible refine Kd.C_alloc ?_ _) | (with_reducible refine Kd.C_drewN ?_ _) | (with_reducible refine Kd.C_drew ?_))); (case side2 => exact HC1.out); rintro e w59 ⟨v389, rfl, ho0, hb⟩; refine ⟨_, rfl, ?_⟩; have n0_ := Aside0.mk (Kd.R_elder' (by (with_reducible repeat (first | apply Kd.R_alloc | apply Kd.R_drewN | apply Kd.R_drew)); exact HO_11.out) (Kd.R_base ho0) hb); have n1_ := Aside0.mk (Kd.R_elder' (by (with_reducible repeat (first | apply Kd.R_alloc | apply Kd.R_drewN | apply Kd.R_drew)); exact HO_12.out) (Kd.R_base ho0) hb); have n2_ := Aside0.mk (Kd.R_elder' (by (with_reducible repeat (first | apply Kd.R_alloc | apply Kd.R_drewN | apply Kd.R_drew)); exact HO_13.out) (Kd.R_base ho0) hb); have n3_ := Aside0.mk (Kd.R_lower (Kd.R_new' (Kd.R_new' (Kd.R_new' ho0 (Kd.R_lt (by (with_reducible repeat (first | apply Kd.R_alloc | apply Kd.R_drewN | apply Kd.R_drew)); exact HO_11.out))) (Kd.R_lt (by (with_reducible repeat (first | apply Kd.R_alloc | apply Kd.R_drewN | apply Kd.R_drew)); exact HO_12.out))) (Kd.R_lt (by (with_reducible repeat (first | apply Kd.R_alloc | apply Kd.R_drewN | apply Kd.R_drew)); exact HO_13.out))) (below_size (by repeat (first | (with_reducible first | exact HB.out | apply below_alloc | apply pw_below_drewN | apply below_drew1) | exact HB.out)))); have n4_ := Aside0.mk (below_step (by repeat (first | (with_reducible first | exact HB.out | apply below_alloc | apply pw_below_drewN | apply below_drew1) | exact HB.out)) hb); clear HO_11; clear HO_12; clear HO_13; clear HB; have HO_11 := n0_; have HO_12 := n1_; have HO_13 := n2_; have HO390 := n3_; have HB := n4_; clear n0_ n1_ n2_ n3_ n4_; (try clear hb); (try clear hb2); (try clear hk); (try clear hi); (try clear ho0); obtain ⟨Ao60, co60, eo60⟩ := Kd.R_slice HO390.out; subst eo60) | ((with_reducible refine gate_callee (f := 18) rfl ?_); refine goesL_ (some 64) rfl rfl Try.func18 (by kernel_rfl) rfl #[.slice Ao28 t377.length co28, .slice Ao60 t388.length co60] rfl (by (try simp only [List.map_toArray, List.map_cons, List.map_nil]); first | done | rfl | (simp only [List.length_drop, List.length_take]; rfl)) ?_; (with_reducible refine (laws_eqInt64S.calls kj16 _ _ t377 _ _ t388 false _ ?side1 ?side2 ?side3 ?side4 A35.out).mono ?_); (case side1 => repeat (first | exact (Kd.R_reads' HO_11.out).2.2 | (with_reducible refine Kd.C_alloc ?_ _) | (with_reducible refine Kd.C_drewN ?_ _) | (with_reducible refine Kd.C_drew ?_))); (case side2 => exact (Kd.R_reads' HO_11.out).2.1); (case side3 => repeat (first | exact (Kd.R_reads' HO390.out).2.2 | (with_reducible refine Kd.C_alloc ?_ _) | (with_reducible refine Kd.C_drewN ?_ _) | (with_reducible refine Kd.C_drew ?_))); (case side4 => exact (Kd.R_reads' HO390.out).2.1); rintro e w' ⟨rfl, ⟨nd, rfl⟩⟩; refine ⟨_, rfl, ?_⟩))
                  go_ret
                  exact ⟨by first | rfl | (simp [errW_none, errW_some] <;> rfl) | (simp [*, errW_none, errW_some] <;> rfl), by repeat (first | (with_reducible first | exact HB.out | apply below_alloc | apply pw_below_drewN | apply below_drew1) | exact HB.out)⟩

/-- THE ONE PURE STATEMENT of laws_FnExactPatched: yours. -/
def laws_FnExactPatched.Pure : Prop := ∀ (a0 : ByteArray) (l1 : List Int) (l2 : List Int) (l3 : List Int), a0.size ≤ 140737488351232 → l1.length ≤ maxLen → l1.length * 8 ≤ 140737488351232 → (∀ x ∈ l1, (Lit.int .i64 x).wf = true) → l2.length ≤ maxLen → l2.length * 8 ≤ 140737488351232 → (∀ x ∈ l2, (Lit.int .i64 x).wf = true) → l3.length ≤ maxLen → l3.length * 8 ≤ 140737488351232 → (∀ x ∈ l3, (Lit.int .i64 x).wf = true) → ∃ k, laws_FnExactPatched.f k a0 l1 l2 l3 = some true
theorem laws_FnExactPatched.walk (P : laws_FnExactPatched.Pure) (a0 : ByteArray) (a1 : Option Addr) (len1 cap1 : Nat) (z1 : List Int) (a2 : Option Addr) (len2 cap2 : Nat) (z2 : List Int) (a3 : Option Addr) (len3 cap3 : Nat) (z3 : List Int) (w : World) (w0 : a0.size ≤ 140737488351232) (w1 : (a1 = none ∧ len1 = 0 ∧ cap1 = 0 ∧ z1 = []) ∨ ∃ x, a1 = some x ∧ len1 ≤ cap1 ∧ cap1 ≤ maxLen ∧ z1.length = cap1 ∧ (∀ i, i < z1.length → w.cell? (x.add i) = some (.int .i64 (z1.getD i 0))) ∧ ∀ n ∈ z1, (Lit.int .i64 n).wf = true) (y1 : len1 * 8 ≤ 140737488351232) (w2 : (a2 = none ∧ len2 = 0 ∧ cap2 = 0 ∧ z2 = []) ∨ ∃ x, a2 = some x ∧ len2 ≤ cap2 ∧ cap2 ≤ maxLen ∧ z2.length = cap2 ∧ (∀ i, i < z2.length → w.cell? (x.add i) = some (.int .i64 (z2.getD i 0))) ∧ ∀ n ∈ z2, (Lit.int .i64 n).wf = true) (y2 : len2 * 8 ≤ 140737488351232) (w3 : (a3 = none ∧ len3 = 0 ∧ cap3 = 0 ∧ z3 = []) ∨ ∃ x, a3 = some x ∧ len3 ≤ cap3 ∧ cap3 ≤ maxLen ∧ z3.length = cap3 ∧ (∀ i, i < z3.length → w.cell? (x.add i) = some (.int .i64 (z3.getD i 0))) ∧ ∀ n ∈ z3, (Lit.int .i64 n).wf = true) (y3 : len3 * 8 ≤ 140737488351232) :
    Calls Try.prog 7 #[.string a0, .slice a1 len1 cap1, .slice a2 len2 cap2, .slice a3 len3 cap3] w fun e w' => e = .returned (.bool true) ∧ Below w.heap.size w w' := by
  obtain ⟨l1, rfl, hr1, hm1, hw1, hc1⟩ := ReadsInt.ofRowC w1
  obtain ⟨l2, rfl, hr2, hm2, hw2, hc2⟩ := ReadsInt.ofRowC w2
  obtain ⟨l3, rfl, hr3, hm3, hw3, hc3⟩ := ReadsInt.ofRowC w3
  obtain ⟨k, h⟩ := P a0 l1 l2 l3 w0 hm1 y1 hw1 hm2 y2 hw2 hm3 y3 hw3
  refine (laws_FnExactPatched.calls k a0 _ _ l1 _ _ l2 _ _ l3 true w (Kd.C_of_reads (d := (0 : Int)) (h1 := fun _ => rfl) hr1) hc1 (Kd.C_of_reads (d := (0 : Int)) (h1 := fun _ => rfl) hr2) hc2 (Kd.C_of_reads (d := (0 : Int)) (h1 := fun _ => rfl) hr3) hc3 h).mono ?_
  rintro e w' ⟨rfl, hd⟩
  exact ⟨rfl, hd⟩

end Go.Proofs.Ytpeimlpipopeoaa.X
namespace Go.Proofs.Ytpeimlpipopeoaa.Pure
open Go.RowKit Go.Proofs.YtpeimlpipopeoaaW.PrintWords Go.Proofs.YtpeimlpipopeoaaW.PrintLast
set_option linter.unusedVariables false
set_option linter.unusedSimpArgs false

theorem w64 {x : Int} (h0 : -9223372036854775808 ≤ x) (h1 : x ≤ 9223372036854775807) : wrap64 x = x := by
  unfold wrap64
  omega

section
variable {α β : Type}
theorem Ev.pos {c : Prop} [Decidable c] {A B : Nat → Option α} {r : α} (h : c) (k : Ev A r) : Ev (fun n => if c then A n else B n) r := by
  obtain ⟨K, k⟩ := k
  exact ⟨K, fun n hn => by simp only [if_pos h]; exact k n hn⟩
theorem Ev.neg {c : Prop} [Decidable c] {A B : Nat → Option α} {r : α} (h : ¬ c) (k : Ev B r) : Ev (fun n => if c then A n else B n) r := by
  obtain ⟨K, k⟩ := k
  exact ⟨K, fun n hn => by simp only [if_neg h]; exact k n hn⟩
theorem Ev.cases {c : Prop} [Decidable c] {A B : Nat → Option α} {r : α} (h : c → Ev A r) (k : ¬ c → Ev B r) : Ev (fun n => if c then A n else B n) r := by
  by_cases hc : c
  · exact Ev.pos hc (h hc)
  · exact Ev.neg hc (k hc)
theorem Ev.eq {r r' : α} (h : r = r') : Ev (fun _ => some r) r' := ⟨0, fun _ _ => by rw [h]⟩
theorem Ev.val {g : Nat → Option α} {r r' : α} (h : Ev g r) (e : r = r') : Ev g r' := e ▸ h
theorem Ev.bindo {g : Option α} {f : Nat → α → Option β} {a : α} {r : β} (h : g = some a) (k : Ev (fun n => f n a) r) : Ev (fun n => g.bind (f n)) r := by
  obtain ⟨K, k⟩ := k
  exact ⟨K, fun n hn => by simp only [h, Option.bind_some]; exact k n hn⟩
theorem Ev.det {g : Nat → Option α} {r r' : α} (h : Ev g r) (k : Ev g r') : r = r' := by
  obtain ⟨K, h⟩ := h
  obtain ⟨K', k⟩ := k
  have h1 := h (max K K') (by omega)
  have h2 := k (max K K') (by omega)
  rw [h1] at h2
  exact Option.some.inj h2
end

/-! ### lists by place -/
theorem rd_get {l : List Int} {i : Nat} (h : i < l.length) : rd l (i : Int) = l[i] := by
  unfold rd
  simp [List.getD_eq_getElem?_getD, List.getElem?_eq_getElem h]
theorem rd_eq {l : List Int} {i : Nat} : rd l (i : Int) = l.getD i 0 := by
  unfold rd
  simp
theorem take_snoc2 {α : Type} (l : List α) (i : Nat) (h : i < l.length) : l.take (i + 1) = l.take i ++ [l[i]] := by
  rw [List.take_succ_eq_append_getElem h]
/-- k, k + 1, .., n numbers. -/
def marks (k : Int) (n : Nat) : List Int := (List.range n).map fun i : Nat => k + (i : Int)
theorem marks_length (k : Int) (n : Nat) : (marks k n).length = n := by simp [marks]
theorem marks_get (k : Int) (n i : Nat) (h : i < n) : rd (marks k n) (i : Int) = k + i := by
  have h' : i < (marks k n).length := by rw [marks_length]; exact h
  rw [rd_get h']
  simp [marks]
end Go.Proofs.Ytpeimlpipopeoaa.Pure
namespace Go.Proofs.Ytpeimlpipopeoaa.X
open Go.RowKit Go.Proofs.YtpeimlpipopeoaaW.PrintWords Go.Proofs.YtpeimlpipopeoaaW.PrintLast Go.Proofs.YtpeimlpipopeoaaW.PrintMore
attribute [local go_sem] max2_int min2_int max_two min_two max_three min_three max_four min_four   -- for this text's walks alone
set_option linter.unusedVariables false
set_option linter.unusedSimpArgs false

/-! ### laws_markInt64S: function 21 -/
def laws_markInt64S.l0 : Nat → List Int → Int → Int → Option (Int × List Int)
  | 0, _, _, _ => none
  | k + 1, x0, x1, x5 => if x5 < (x0.length : Int) then (if 0 ≤ x5 then (laws_markInt64S.l0 k (x0.set (x5 : Int).toNat x1) (wrap64 (x1 + 1)) (wrap64 (x5 + 1))) else (none)) else (some (x1, x0))
def laws_markInt64S.f (k : Nat) (l0 : List Int) (a1 : Int) : Option (Int × List Int) := laws_markInt64S.l0 k l0 a1 0
theorem laws_markInt64S.mono_l : ∀ k, (∀ y0 y1 y2, LeO (laws_markInt64S.l0 k y0 y1 y2) (laws_markInt64S.l0 (k + 1) y0 y1 y2))
  | 0 => fun _ _ _ r h => by simp [laws_markInt64S.l0] at h
  | k + 1 => by
    have ih0 := laws_markInt64S.mono_l k
    · intro y0 y1 y2
      unfold laws_markInt64S.l0
      repeat' first
      | (with_reducible exact ih0 _ _ _)
      | (with_reducible exact LeO.refl _)
      | (with_reducible exact LeO.none _)
      | (with_reducible refine LeO.ite ?_ ?_)
      | (with_reducible refine LeO.bind ?_ (fun _ => ?_))
      | exact ih0 _ _ _
      | exact LeO.none _
      | refine LeO.ite ?_ ?_
      | refine LeO.bind ?_ (fun _ => ?_)
theorem laws_markInt64S.mono : ∀ a0 a1 k, LeO (laws_markInt64S.f k a0 a1) (laws_markInt64S.f (k + 1) a0 a1) := by
  intro a0 a1 k
  have ih0 := laws_markInt64S.mono_l k
  unfold laws_markInt64S.f
  repeat' first
      | (with_reducible exact ih0 _ _ _)
      | (with_reducible exact LeO.refl _)
      | (with_reducible exact LeO.none _)
      | (with_reducible refine LeO.ite ?_ ?_)
      | (with_reducible refine LeO.bind ?_ (fun _ => ?_))
      | exact ih0 _ _ _
      | exact LeO.none _
      | refine LeO.ite ?_ ?_
      | refine LeO.bind ?_ (fun _ => ?_)
set_option maxHeartbeats 8000000 in
set_option maxRecDepth 100000 in
theorem laws_markInt64S.calls (k : Nat) (P0_ : Nat → Prop) (u9000_ : Value) (l0 : List Int) (a1 : Int) (r1 : Int) (r2 : List Int) (w0 w : World) (hB : Below w0.heap.size w0 w) (ho0 : Kd.R (Kd.int .i64) 2 w w0.heap.size P0_ u9000_ l0) (h : laws_markInt64S.f k l0 a1 = some (r1, r2)) :
    Calls Try.prog 21 #[u9000_, .int .i64 a1] w fun e w' => e = .returned (.int .i64 r1) ∧ Kd.R (Kd.int .i64) 2 w' w0.heap.size (fun k_ => (P0_ k_ ∨ w.heap.size ≤ k_)) u9000_ r2 ∧ Below w0.heap.size w0 w' ∧ Kept w w' (fun k_ => P0_ k_) := by
  have HO0 := Aside0.mk (show Kd.R (Kd.int .i64) 2 w w0.heap.size (fun k_ => (P0_ k_ ∨ w.heap.size ≤ k_)) u9000_ l0 from Kd.R_mono ho0 (fun k_ hk => (.inl hk)))
  have HK := Aside0.mk (Kept.refl w (fun k_ => P0_ k_))
  have HW0 := Aside0.mk hB.size
  have HB := Aside0.mk hB
  clear hB
  have H : (laws_markInt64S.l0 k l0 a1 0) = some (r1, r2) := h
  clear h
  have H' := Aside0.mk H
  clear H
  go_enter Try.func21, Try.ntmps21
  go_wp2
  go_loopg [1, 5] k (fun kq v1 v5 w' => ∃ (x0_1 : List Int) (x1_1 : Int) (x5_1 : Int), v1 = .int .i64 x1_1 ∧ v5 = .int .i64 x5_1 ∧ Aside0 (laws_markInt64S.l0 kq x0_1 x1_1 x5_1 = some (r1, r2)) ∧ Aside0 (kq ≤ k) ∧ Aside0 (Kd.R (Kd.int .i64) 2 w' w0.heap.size (fun k_ => (P0_ k_ ∨ w.heap.size ≤ k_)) u9000_ x0_1) ∧ Aside0 (Kept w w' (fun k_ => P0_ k_)) ∧ Aside0 (Below w0.heap.size w0 w'))
  case atStart => exact ⟨(l0), (a1), (0), (by first | rfl | (simp; done) | (simp [*]; done)), (by first | rfl | (simp; done) | (simp [*]; done)), H', ⟨Nat.le_refl _⟩, ⟨by (with_reducible repeat (first | apply Kd.R_alloc | apply Kd.R_drewN | apply Kd.R_drew)); exact HO0.out⟩, ⟨by repeat (first | (with_reducible first | exact HK.out | apply Kept.alloc | apply Kept.drewN | apply Kept.drew) | exact HK.out)⟩, ⟨by repeat (first | (with_reducible first | exact HB.out | apply below_alloc | apply pw_below_drewN | apply below_drew1) | exact HB.out)⟩⟩
  case round =>
    clear H'
    try clear c2
    try clear p2
    obtain ⟨x0_1, x1_1, x5_1, rfl, rfl, HA, HK1, HO_0, HK, HB⟩ := hrel
    cases gk with
    | zero => exact absurd HA.out (by simp [laws_markInt64S.l0])
    | succ k1 =>
      have H := HA.out
      clear HA
      simp only [laws_markInt64S.l0] at H
      by_cases c3 : x5_1 < (x0_1.length : Int)
      · rw [if_pos c3] at H
        have c3b0 : decide (x5_1 < (x0_1.length : Int)) = true := decide_eq_true c3
        clear c3
        by_cases c4 : 0 ≤ x5_1
        · rw [if_pos c4] at H
          have c4b0 : decide (0 ≤ x5_1) = true := decide_eq_true c4
          clear c4
          obtain ⟨y149, hy149⟩ : ∃ y_ : List Int, y_ = (x0_1.set (x5_1 : Int).toNat x1_1) := ⟨_, rfl⟩
          replace H : (laws_markInt64S.l0 k1 y149 (wrap64 (x1_1 + 1)) (wrap64 (x5_1 + 1))) = some (r1, r2) := by first | (rw [hy149]; with_reducible exact H) | (have H2_ := (Option.bind_some _ _).symm.trans H; rw [hy149]; with_reducible exact H2_) | (have H2_ := (Option.bind_some _ _).symm.trans H; with_reducible exact H2_) | with_reducible exact H | (rw [hy149]; exact H) | exact H
          have Ny149 := Aside0.mk hy149
          clear hy149
          have H' := Aside0.mk H
          clear H
          obtain ⟨Ao6, co6, eo6⟩ := Kd.R_slice HO_0.out
          subst eo6
          have p5 : 0 ≤ (x5_1 : Int) := of_decide_eq_true (by first | (with_reducible assumption) | assumption)
          have q5 : (x5_1 : Int) < ((x0_1.length : Int) : Int) := of_decide_eq_true (by first | (with_reducible assumption) | assumption)
          obtain ⟨go5, co5, eo5, gb5, gl5, cl5, HG5⟩ := Kd.R_form HO_0.out (by omega)
          (first | cases eo5 | (injection eo5 with ea_ en_ ec_; (first | subst ea_ | (injection ea_ with ea_; subst ea_)); subst ec_; clear en_))
          have GB5 := Aside0.mk gb5
          have GG5 := Aside0.mk HG5
          clear gb5 gl5 HG5
          have HMgo5 := Aside0.mk (show (P0_ go5 ∨ w.heap.size ≤ go5) from (HO_0.out.1 _ rfl))
          obtain ⟨hx5_0, hf5_0⟩ := Kd.R_celln 0 HO_0.out (x5_1 : Int) p5 q5
          replace p5 := eq_true p5
          replace q5 := eq_true q5
          have HP7 := Kd.R_putg HO_0.out (x5_1 : Int) x1_1
          go_wp2_with (first | ((with_reducible refine gate_store (t := 2) (p := 15) rfl ?_); refine store_event (t := 2) (p := 15) (v := ?vo_w8) (w1 := (wr.setCell ⟨go5, (x5_1 : Int).toNat, none⟩ (.int .i64 x1_1))) ?hg ?ho ?hn ?hr ?_; (case ho => rfl); (case hg => rfl); (case hn => rfl); (case hr => first | (go_simp; done) | (go_simp; rfl)); intro w8 hw; have hg : wr.grownBy w8 (some go5) := (by rw [hw]; exact HP7.2); have hp_ : Kd.R (Kd.int .i64) 2 w8 w0.heap.size (fun k_ => (P0_ k_ ∨ w.heap.size ≤ k_)) (.slice (some ⟨go5, 0, none⟩) x0_1.length co6) y149 := (by rw [hw, Ny149.out]; exact HP7.1); clear HP7; have n0_ := Aside0.mk (hp_); have n1_ := Aside0.mk ((by rw [hw]; exact below_set (HB.out) GB5.out : Below w0.heap.size w0 w8)); have n2_ := Aside0.mk (Kept.of_grown (S := (fun k_ => P0_ k_)) hg (by repeat (first | (with_reducible first | exact HK.out | apply Kept.alloc | apply Kept.drewN | apply Kept.drew) | exact HK.out)) (fun k_ e_ => (HO_0.out.1 k_ e_))); clear HO_0; clear HB; clear HK; have HO_0 := n0_; have HB := n1_; have HK := n2_; clear n0_ n1_ n2_; clear hg hw hp_))
          go_roundg k1
          case measure => have := HK1.out; omega
          case rel => exact ⟨(y149), (wrap64 (x1_1 + 1)), (wrap64 (x5_1 + 1)), (by first | rfl | (simp; done) | (simp [*]; done)), (by first | rfl | (simp; done) | (simp [*]; done)), H', ⟨by have := HK1.out; omega⟩, ⟨by (with_reducible repeat (first | apply Kd.R_alloc | apply Kd.R_drewN | apply Kd.R_drew)); exact HO_0.out⟩, ⟨by repeat (first | (with_reducible first | exact HK.out | apply Kept.alloc | apply Kept.drewN | apply Kept.drew) | exact HK.out)⟩, ⟨by repeat (first | (with_reducible first | exact HB.out | apply below_alloc | apply pw_below_drewN | apply below_drew1) | exact HB.out)⟩⟩
        · rw [if_neg c4] at H
          exact absurd H (by simp)
      · rw [if_neg c3] at H
        have c3b0 : decide (x5_1 < (x0_1.length : Int)) = false := decide_eq_false c3
        clear c3
        simp only [Option.some.injEq, Prod.mk.injEq] at H
        obtain ⟨rfl, rfl⟩ := H
        obtain ⟨Ao9, co9, eo9⟩ := Kd.R_slice HO_0.out
        subst eo9
        go_wp2
        go_ret
        exact ⟨by first | rfl | (simp [errW_none, errW_some] <;> rfl) | (simp [*, errW_none, errW_some] <;> rfl), by (with_reducible repeat (first | apply Kd.R_alloc | apply Kd.R_drewN | apply Kd.R_drew)); exact HO_0.out, by repeat (first | (with_reducible first | exact HB.out | apply below_alloc | apply pw_below_drewN | apply below_drew1) | exact HB.out), by repeat (first | (with_reducible first | exact HK.out | apply Kept.alloc | apply Kept.drewN | apply Kept.drew) | exact HK.out)⟩

end Go.Proofs.Ytpeimlpipopeoaa.X
namespace Go.Proofs.Ytpeimlpipopeoaa.X
open Go.RowKit Go.Proofs.YtpeimlpipopeoaaW.PrintWords Go.Proofs.YtpeimlpipopeoaaW.PrintLast Go.Proofs.YtpeimlpipopeoaaW.PrintMore
attribute [local go_sem] max2_int min2_int max_two min_two max_three min_three max_four min_four   -- for this text's walks alone
set_option linter.unusedVariables false
set_option linter.unusedSimpArgs false

/-! ### laws_heldInt64S: function 22 -/
def laws_heldInt64S.l0 : Nat → List Int → Int → Int → Option (Int)
  | 0, _, _, _ => none
  | k + 1, x0, x1, x5 => if x5 < (x0.length : Int) then (if 0 ≤ x5 then (if (rd x0 x5) = x1 then (laws_heldInt64S.l0 k x0 (wrap64 (x1 + 1)) (wrap64 (x5 + 1))) else (some (-1))) else (none)) else (some x1)
def laws_heldInt64S.f (k : Nat) (l0 : List Int) (a1 : Int) : Option (Int) := laws_heldInt64S.l0 k l0 a1 0
theorem laws_heldInt64S.mono_l : ∀ k, (∀ y0 y1 y2, LeO (laws_heldInt64S.l0 k y0 y1 y2) (laws_heldInt64S.l0 (k + 1) y0 y1 y2))
  | 0 => fun _ _ _ r h => by simp [laws_heldInt64S.l0] at h
  | k + 1 => by
    have ih0 := laws_heldInt64S.mono_l k
    · intro y0 y1 y2
      unfold laws_heldInt64S.l0
      repeat' first
      | (with_reducible exact ih0 _ _ _)
      | (with_reducible exact LeO.refl _)
      | (with_reducible exact LeO.none _)
      | (with_reducible refine LeO.ite ?_ ?_)
      | (with_reducible refine LeO.bind ?_ (fun _ => ?_))
      | exact ih0 _ _ _
      | exact LeO.none _
      | refine LeO.ite ?_ ?_
      | refine LeO.bind ?_ (fun _ => ?_)
theorem laws_heldInt64S.mono : ∀ a0 a1 k, LeO (laws_heldInt64S.f k a0 a1) (laws_heldInt64S.f (k + 1) a0 a1) := by
  intro a0 a1 k
  have ih0 := laws_heldInt64S.mono_l k
  unfold laws_heldInt64S.f
  repeat' first
      | (with_reducible exact ih0 _ _ _)
      | (with_reducible exact LeO.refl _)
      | (with_reducible exact LeO.none _)
      | (with_reducible refine LeO.ite ?_ ?_)
      | (with_reducible refine LeO.bind ?_ (fun _ => ?_))
      | exact ih0 _ _ _
      | exact LeO.none _
      | refine LeO.ite ?_ ?_
      | refine LeO.bind ?_ (fun _ => ?_)
set_option maxHeartbeats 8000000 in
set_option maxRecDepth 100000 in
theorem laws_heldInt64S.calls (k : Nat) (A0 : Option Addr) (c0 : Nat) (l0 : List Int) (a1 : Int) (r : Int) (w : World) (hr0 : Kd.C (Kd.int .i64) w A0 l0.length l0) (hc0 : l0.length ≤ c0) (h : laws_heldInt64S.f k l0 a1 = some r) :
    Calls Try.prog 22 #[.slice A0 l0.length c0, .int .i64 a1] w fun e w' => e = .returned (.int .i64 r) ∧ Drawn0 w w' := by
  have HR0 := Aside0.mk hr0
  have HC0 := Aside0.mk hc0
  clear hr0 hc0
  have H : (laws_heldInt64S.l0 k l0 a1 0) = some r := h
  clear h
  have H' := Aside0.mk H
  clear H
  go_enter Try.func22, Try.ntmps22
  go_wp2
  go_loopg [1, 5] k (fun kq v1 v5 w' => ∃ (x1_1 : Int) (x5_1 : Int), v1 = .int .i64 x1_1 ∧ v5 = .int .i64 x5_1 ∧ Aside0 (laws_heldInt64S.l0 kq l0 x1_1 x5_1 = some r) ∧ Aside0 (kq ≤ k) ∧ Drawn0 w w')
  case atStart => exact ⟨(a1), (0), (by first | rfl | (simp; done) | (simp [*]; done)), (by first | rfl | (simp; done) | (simp [*]; done)), H', ⟨Nat.le_refl _⟩, by repeat (first | exact Drawn0.refl _ | apply Drawn0.step)⟩
  case round =>
    clear H'
    try clear c2
    try clear p2
    obtain ⟨x1_1, x5_1, rfl, rfl, HA, HK1, ⟨m1, rfl⟩⟩ := hrel
    cases gk with
    | zero => exact absurd HA.out (by simp [laws_heldInt64S.l0])
    | succ k1 =>
      have H := HA.out
      clear HA
      simp only [laws_heldInt64S.l0] at H
      by_cases c3 : x5_1 < (l0.length : Int)
      · rw [if_pos c3] at H
        have c3b0 : decide (x5_1 < (l0.length : Int)) = true := decide_eq_true c3
        clear c3
        by_cases c4 : 0 ≤ x5_1
        · rw [if_pos c4] at H
          have c4b0 : decide (0 ≤ x5_1) = true := decide_eq_true c4
          clear c4
          by_cases c5 : (rd l0 x5_1) = x1_1
          · rw [if_pos c5] at H
            have c5b0 : ((rd l0 x5_1) == x1_1) = true := beq_iff_eq.mpr c5
            have c5b1 : ((rd l0 x5_1) != x1_1) = false := bne_eq_false_iff_eq.mpr c5
            clear c5
            have H' := Aside0.mk H
            clear H
            have p150 : 0 ≤ (x5_1 : Int) := of_decide_eq_true (by first | (with_reducible assumption) | assumption)
            have q150 : x5_1 < (l0.length : Int) := of_decide_eq_true (by first | (with_reducible assumption) | assumption)
            obtain ⟨ad150, e150, hx150_0⟩ := Kd.at_int HR0.out x5_1 p150 q150
            cases e150
            replace p150 := eq_true p150
            replace q150 := eq_true q150
            go_wp2
            go_roundg k1
            case measure => have := HK1.out; omega
            case rel => exact ⟨(wrap64 (x1_1 + 1)), (wrap64 (x5_1 + 1)), (by first | rfl | (simp; done) | (simp [*]; done)), (by first | rfl | (simp; done) | (simp [*]; done)), H', ⟨by have := HK1.out; omega⟩, by repeat (first | exact Drawn0.refl _ | apply Drawn0.step)⟩
          · rw [if_neg c5] at H
            have c5b0 : ((rd l0 x5_1) == x1_1) = false := beq_eq_false_iff_ne.mpr c5
            have c5b1 : ((rd l0 x5_1) != x1_1) = true := bne_iff_ne.mpr c5
            obtain rfl := Option.some.inj H
            have p150 : 0 ≤ (x5_1 : Int) := of_decide_eq_true (by first | (with_reducible assumption) | assumption)
            have q150 : x5_1 < (l0.length : Int) := of_decide_eq_true (by first | (with_reducible assumption) | assumption)
            obtain ⟨ad150, e150, hx150_0⟩ := Kd.at_int HR0.out x5_1 p150 q150
            cases e150
            replace p150 := eq_true p150
            replace q150 := eq_true q150
            go_wp2
            go_ret
            exact ⟨by first | rfl | (simp; done) | (simp [*]; done), by repeat (first | exact Drawn0.refl _ | apply Drawn0.step)⟩
        · rw [if_neg c4] at H
          exact absurd H (by simp)
      · rw [if_neg c3] at H
        have c3b0 : decide (x5_1 < (l0.length : Int)) = false := decide_eq_false c3
        clear c3
        obtain rfl := Option.some.inj H
        go_wp2
        go_ret
        exact ⟨by first | rfl | (simp; done) | (simp [*]; done), by repeat (first | exact Drawn0.refl _ | apply Drawn0.step)⟩

end Go.Proofs.Ytpeimlpipopeoaa.X
namespace Go.Proofs.Ytpeimlpipopeoaa.Pure
open Go.RowKit Go.Proofs.Ytpeimlpipopeoaa.X Go.Proofs.YtpeimlpipopeoaaW.PrintWords Go.Proofs.YtpeimlpipopeoaaW.PrintLast
set_option linter.unusedVariables false
set_option linter.unusedSimpArgs false

theorem toInt64S_l (l : List Int) (hl : l.length ≤ 1099511627776) (d : Nat) : ∀ (i : Nat) (x : List Int), l.length - i = d → i ≤ l.length → x.length = l.length → (∀ m (h : m < x.length) (h' : m < l.length), m < i → x[m] = l[m]) →
    Ev (fun k => laws_toInt64S.l0 k l x (i : Int)) l := by
  induction d with
  | zero =>
    intro i x hd hi hx hm
    refine Ev.step (fun k => by rw [laws_toInt64S.l0]) ?_
    refine Ev.neg (by omega) (Ev.eq ?_)
    exact List.ext_getElem hx (fun m h1 h2 => hm m h1 h2 (by omega))
  | succ d ih =>
    intro i x hd hi hx hm
    have hlt : i < l.length := by omega
    refine Ev.step (fun k => by rw [laws_toInt64S.l0]) ?_
    refine Ev.pos (by omega) (Ev.pos (by omega) (Ev.pos (by omega) ?_))
    rw [show wrap64 ((i : Int) + 1) = ((i + 1 : Nat) : Int) from by rw [w64 (by omega) (by omega)]; omega, rd_get hlt]
    refine ih (i + 1) _ (by omega) (by omega) (by simp [hx]) (fun m h1 h2 h3 => ?_)
    rw [List.getElem_set]
    simp only [Int.toNat_natCast]
    split
    · rename_i e; subst e; rfl
    · exact hm m (by simpa using h1) h2 (by omega)
theorem toInt64S_ev (l : List Int) (hl : l.length ≤ 1099511627776) : Ev (fun k => laws_toInt64S.f k l) l := by
  unfold laws_toInt64S.f
  refine Ev.pos (by omega) (Ev.pos (by omega) ?_)
  exact toInt64S_l l hl _ 0 _ rfl (by omega) (by simp) (fun m _ _ h => by omega)

theorem eqInt64S_l (a b : List Int) (hl : a.length ≤ 1099511627776) (he : a.length = b.length) (d : Nat) : ∀ (i : Nat), a.length - i = d → i ≤ a.length → (∀ m (h : m < a.length) (h' : m < b.length), m < i → a[m] = b[m]) →
    Ev (fun k => laws_eqInt64S.l0 k a b (i : Int)) (decide (a = b)) := by
  induction d with
  | zero =>
    intro i hd hi hm
    refine Ev.step (fun k => by rw [laws_eqInt64S.l0]) ?_
    refine Ev.neg (by omega) (Ev.eq ?_)
    exact (decide_eq_true (List.ext_getElem he (fun m h1 h2 => hm m h1 h2 (by omega)))).symm
  | succ d ih =>
    intro i hd hi hm
    have hlt : i < a.length := by omega
    have hlt2 : i < b.length := by omega
    refine Ev.step (fun k => by rw [laws_eqInt64S.l0]) ?_
    refine Ev.pos (by omega) (Ev.pos (by omega) (Ev.pos (by omega) ?_))
    rw [show wrap64 ((i : Int) + 1) = ((i + 1 : Nat) : Int) from by rw [w64 (by omega) (by omega)]; omega, rd_get hlt, rd_get hlt2]
    refine Ev.cases (fun e => ?_) (fun e => Ev.eq ?_)
    · exact ih (i + 1) (by omega) (by omega) (fun m h1 h2 h3 => by
        by_cases h : m = i
        · subst h; exact e
        · exact hm m h1 h2 (by omega))
    · exact (decide_eq_false (fun h => e (by subst h; rfl))).symm
theorem eqInt64S_ev (a b : List Int) (hl : a.length ≤ 1099511627776) : Ev (fun k => laws_eqInt64S.f k a b) (decide (a = b)) := by
  unfold laws_eqInt64S.f
  refine Ev.cases (fun e => ?_) (fun e => Ev.eq ?_)
  · exact eqInt64S_l a b hl (by omega) _ 0 rfl (by omega) (fun m _ _ h => by omega)
  · exact (decide_eq_false (fun h => e (by rw [h]))).symm
theorem eqInt64S_same (a : List Int) (hl : a.length ≤ 1099511627776) : Ev (fun k => laws_eqInt64S.f k a a) true := Ev.val (eqInt64S_ev a a hl) (by simp)

theorem markInt64S_l (k0 : Int) (h0 : 0 ≤ k0) (h1 : k0 ≤ 1099511627776) (n : Nat) (hn : n ≤ 1099511627776) (d : Nat) : ∀ (i : Nat) (x : List Int), n - i = d → i ≤ n → x.length = n → (∀ m (h : m < x.length), m < i → x[m] = k0 + m) →
    Ev (fun k => laws_markInt64S.l0 k x (k0 + i) (i : Int)) (k0 + n, marks k0 n) := by
  induction d with
  | zero =>
    intro i x hd hi hx hm
    refine Ev.step (fun k => by rw [laws_markInt64S.l0]) ?_
    refine Ev.neg (by omega) (Ev.eq ?_)
    obtain rfl : i = n := by omega
    refine congrArg (Prod.mk _) (List.ext_getElem (by rw [hx, marks_length]) (fun m h1 h2 => ?_))
    rw [hm m h1 (by omega)]
    simp [marks]
  | succ d ih =>
    intro i x hd hi hx hm
    have hlt : i < n := by omega
    refine Ev.step (fun k => by rw [laws_markInt64S.l0]) ?_
    refine Ev.pos (by omega) (Ev.pos (by omega) ?_)
    rw [show wrap64 ((i : Int) + 1) = ((i + 1 : Nat) : Int) from by rw [w64 (by omega) (by omega)]; omega, show wrap64 (k0 + (i : Int) + 1) = k0 + ((i + 1 : Nat) : Int) from by rw [w64 (by omega) (by omega)]; omega]
    refine ih (i + 1) _ (by omega) (by omega) (by simp [hx]) (fun m h1 h3 => ?_)
    rw [List.getElem_set]
    simp only [Int.toNat_natCast]
    split
    · rename_i e; subst e; rfl
    · exact hm m (by simpa using h1) (by omega)
theorem markInt64S_ev (l : List Int) (k0 : Int) (h0 : 0 ≤ k0) (h1 : k0 ≤ 1099511627776) (hl : l.length ≤ 1099511627776) : Ev (fun k => laws_markInt64S.f k l k0) (k0 + l.length, marks k0 l.length) := by
  unfold laws_markInt64S.f
  have h := markInt64S_l k0 h0 h1 l.length hl _ 0 l rfl (by omega) rfl (fun m _ h => by omega)
  simpa using h

theorem heldInt64S_l (k0 : Int) (h0 : 0 ≤ k0) (h1 : k0 ≤ 1099511627776) (n : Nat) (hn : n ≤ 1099511627776) (d : Nat) : ∀ (i : Nat), n - i = d → i ≤ n →
    Ev (fun k => laws_heldInt64S.l0 k (marks k0 n) (k0 + i) (i : Int)) (k0 + n) := by
  induction d with
  | zero =>
    intro i hd hi
    refine Ev.step (fun k => by rw [laws_heldInt64S.l0]) ?_
    rw [marks_length]
    exact Ev.neg (by omega) (Ev.eq (by omega))
  | succ d ih =>
    intro i hd hi
    refine Ev.step (fun k => by rw [laws_heldInt64S.l0]) ?_
    rw [marks_length]
    refine Ev.pos (by omega) (Ev.pos (by omega) ?_)
    refine Ev.pos (marks_get k0 n i (by omega)) ?_
    rw [show wrap64 ((i : Int) + 1) = ((i + 1 : Nat) : Int) from by rw [w64 (by omega) (by omega)]; omega, show wrap64 (k0 + (i : Int) + 1) = k0 + ((i + 1 : Nat) : Int) from by rw [w64 (by omega) (by omega)]; omega]
    exact ih (i + 1) (by omega) (by omega)
theorem heldInt64S_ev (k0 : Int) (n : Nat) (h0 : 0 ≤ k0) (h1 : k0 ≤ 1099511627776) (hn : n ≤ 1099511627776) : Ev (fun k => laws_heldInt64S.f k (marks k0 n) k0) (k0 + n) := by
  unfold laws_heldInt64S.f
  have h := heldInt64S_l k0 h0 h1 n hn _ 0 rfl (by omega)
  simpa using h
end Go.Proofs.Ytpeimlpipopeoaa.Pure
namespace Go.Proofs.Ytpeimlpipopeoaa.Pure
open Go.RowKit Go.Proofs.YtpeimlpipopeoaaW.PrintWords Go.Proofs.YtpeimlpipopeoaaW.PrintLast
set_option linter.unusedVariables false
set_option linter.unusedSimpArgs false

theorem or_low (a b : Nat) (ha : a % 256 = 0) (hb : b < 256) : a ||| b = a + b := by
  have hq : a = 2 ^ 8 * (a / 2 ^ 8) := by
    have := Nat.div_add_mod a (2 ^ 8)
    omega
  rw [hq, ← Nat.two_pow_add_eq_or_of_lt (by simpa using hb) (a / 2 ^ 8)]
theorem or8_u64 (x y : Int) (h0 : 0 ≤ x) (h1 : x < 18446744073709551616) (hx : x % 256 = 0) (hy : 0 ≤ y) (hy1 : y < 256) : Go.bits .or .u64 x y = x + y := by
  unfold Go.bits
  simp only [BitVec.toNat_or, BitVec.toNat_ofInt]
  rw [show IntKind.u64.bits = 64 from rfl, or_low _ _ (by omega) (by omega)]
  simp only [IntKind.wrap, IntKind.bits, IntKind.signed]
  simp
  omega
theorem or8_i64 (x y : Int) (h0 : -9223372036854775808 ≤ x) (h1 : x ≤ 9223372036854775807) (hx : x % 256 = 0) (hy : 0 ≤ y) (hy1 : y < 256) : Go.bits .or .i64 x y = x + y := by
  unfold Go.bits
  simp only [BitVec.toNat_or, BitVec.toNat_ofInt]
  rw [show IntKind.i64.bits = 64 from rfl, or_low _ _ (by omega) (by omega)]
  rw [IntKind.wrap_i64]
  omega

/-- The value of the first n bytes, the highest one first. -/
def be (f : Nat → Int) : Nat → Int
  | 0 => 0
  | n + 1 => be f n * 256 + f n
theorem be_range (f : Nat → Int) (hf : ∀ i, 0 ≤ f i ∧ f i ≤ 255) : ∀ n, 0 ≤ be f n ∧ be f n < 256 ^ n
  | 0 => by simp [be]
  | n + 1 => by
    have h := be_range f hf n
    have h2 := hf n
    simp only [be, Int.pow_succ]
    omega
theorem be_congr {f g : Nat → Int} (n : Nat) (h : ∀ i, i < n → f i = g i) : be f n = be g n := by
  induction n with
  | zero => rfl
  | succ n ih => simp only [be]; rw [ih (fun i hi => h i (by omega)), h n (by omega)]
theorem wrap64_mod (x y : Int) (h : x % 18446744073709551616 = y % 18446744073709551616) : wrap64 x = wrap64 y := by
  unfold wrap64
  omega
theorem wrap64_range (x : Int) : -9223372036854775808 ≤ wrap64 x ∧ wrap64 x ≤ 9223372036854775807 := by
  unfold wrap64
  omega
/-- The int64 in the eight bytes from place p on. -/
def wordv (s : ByteArray) (p : Nat) : Int := wrap64 (be (fun i => bt s ((p + i : Nat) : Int)) 8)
theorem bt_extract (s : ByteArray) (a b i : Nat) (h : a + i < b) (hb : b ≤ s.size) : bt (s.extract a b) (i : Int) = bt s ((a + i : Nat) : Int) := by
  have h1 : i < (s.extract a b).size := by rw [ByteArray.size_extract]; omega
  have h2 : a + i < s.size := by omega
  rw [← bt_at _ _ (by rw [Int.toNat_natCast]; exact h1), ← bt_at _ _ (by rw [Int.toNat_natCast]; exact h2)]
  simp only [Int.toNat_natCast]
  rw [ByteArray.getElem_extract]
/-- A step of reading: shifted by a byte, the next one laid in. -/
theorem be_step_u64 (f : Nat → Int) (hf : ∀ i, 0 ≤ f i ∧ f i ≤ 255) (n : Nat) (hn : n < 8) : Go.bits .or .u64 (IntKind.u64.wrap (be f n * 256)) (IntKind.u64.wrap (f n)) = be f (n + 1) := by
  have hr := be_range f hf n
  have h2 := hf n
  have h3 : (256 : Int) ^ n ≤ 256 ^ 7 := by
    obtain rfl | rfl | rfl | rfl | rfl | rfl | rfl | rfl : n = 0 ∨ n = 1 ∨ n = 2 ∨ n = 3 ∨ n = 4 ∨ n = 5 ∨ n = 6 ∨ n = 7 := by omega
    all_goals decide
  have h4 : be f n < 72057594037927936 := by have : (256 : Int) ^ 7 = 72057594037927936 := by decide
                                             omega
  have hw : ∀ x : Int, 0 ≤ x → x < 18446744073709551616 → IntKind.u64.wrap x = x := by
    intro x hx0 hx1
    simp [IntKind.wrap, IntKind.bits, IntKind.signed]
    omega
  rw [hw _ (by omega) (by omega), hw _ (by omega) (by omega), or8_u64 _ _ (by omega) (by omega) (by omega) h2.1 (by omega)]
  rfl
theorem be_step_i64 (f : Nat → Int) (hf : ∀ i, 0 ≤ f i ∧ f i ≤ 255) (n : Nat) : Go.bits .or .i64 (wrap64 (wrap64 (be f n) * 256)) (wrap64 (f n)) = wrap64 (be f (n + 1)) := by
  have h2 := hf n
  have hr := wrap64_range (wrap64 (be f n) * 256)
  have e : wrap64 (wrap64 (be f n) * 256) = wrap64 (be f n * 256) := wrap64_mod _ _ (by unfold wrap64; omega)
  have hd : wrap64 (be f n * 256) % 256 = 0 := by unfold wrap64; omega
  rw [e] at hr ⊢
  rw [w64 (x := f n) (by omega) (by omega), or8_i64 _ _ hr.1 hr.2 hd h2.1 (by omega)]
  simp only [be]
  unfold wrap64
  omega
end Go.Proofs.Ytpeimlpipopeoaa.Pure
namespace Go.Proofs.Ytpeimlpipopeoaa.Pure
open Go.RowKit Go.Proofs.YtpeimlpipopeoaaW.PrintWords Go.Proofs.YtpeimlpipopeoaaW.PrintLast Go.Proofs.YtpeimlpipopeoaaW.PrintMore
set_option linter.unusedVariables false
set_option linter.unusedSimpArgs false

/-! ### texts and lists of bytes -/
def isBytes (xs : List Int) : Prop := ∀ x ∈ xs, 0 ≤ x ∧ x ≤ 255
theorem bytesOf_isBytes (s : ByteArray) : isBytes (bytesOf s) := by
  intro x hx
  obtain ⟨b, _, rfl⟩ := List.mem_map.1 hx
  have := b.toNat_lt
  omega
theorem isBytes_of {xs : List Int} (h : ∀ x ∈ xs, (Go.Lit.int .u8 x).wf = true) : isBytes xs := by
  intro x hx
  have := h x hx
  simp [Go.Lit.wf, Go.IntKind.min, Go.IntKind.max, Go.IntKind.signed, Go.IntKind.bits] at this
  omega
theorem isBytes_set {xs : List Int} (h : isBytes xs) (i : Nat) {v : Int} (h0 : 0 ≤ v) (h1 : v ≤ 255) : isBytes (xs.set i v) := by
  intro x hx
  rcases List.mem_or_eq_of_mem_set hx with h2 | rfl
  · exact h x h2
  · exact ⟨h0, h1⟩
theorem isBytes_getD {xs : List Int} (h : isBytes xs) (i : Nat) : 0 ≤ xs.getD i 0 ∧ xs.getD i 0 ≤ 255 := by
  rcases Nat.lt_or_ge i xs.length with hi | hi
  · rw [List.getD_eq_getElem?_getD, List.getElem?_eq_getElem hi]
    exact h _ (List.getElem_mem hi)
  · rw [List.getD_eq_getElem?_getD, List.getElem?_eq_none hi]
    simp
theorem isBytes_replicate (n : Nat) : isBytes (List.replicate n 0) := by
  intro x hx
  rw [List.eq_of_mem_replicate hx]
  omega
theorem strOfNums_size (xs : List Int) : (strOfNums xs).size = xs.length := by
  show (List.toArray _).size = _
  simp
theorem bytesOf_strOfNums {xs : List Int} (h : isBytes xs) : bytesOf (strOfNums xs) = xs := by
  unfold bytesOf strOfNums
  simp only [List.map_map]
  conv => rhs; rw [← List.map_id xs]
  refine List.map_congr_left (fun x hx => ?_)
  have := h x hx
  simp
  omega
theorem strOfNums_bytesOf (s : ByteArray) : strOfNums (bytesOf s) = s := by
  unfold bytesOf strOfNums
  simp [Function.comp_def]
theorem bytesOf_inj {s t : ByteArray} (h : bytesOf s = bytesOf t) : s = t := by rw [← strOfNums_bytesOf s, h, strOfNums_bytesOf]
theorem toList_bytesOf (s : ByteArray) : s.toList.map (fun b => (b.toNat : Int)) = bytesOf s := by
  unfold bytesOf
  rw [ByteArray.toList_eq]
theorem toList_inj {s t : ByteArray} : s.toList = t.toList ↔ s = t :=
  ⟨fun h => bytesOf_inj (by rw [← toList_bytesOf, ← toList_bytesOf, h]), fun h => by rw [h]⟩
theorem toList_beq (s t : ByteArray) : (s.toList == t.toList) = decide (s = t) := by
  rw [Bool.eq_iff_iff]
  simp [toList_inj]
theorem bt_bytesOf (s : ByteArray) (i : Nat) : bt s (i : Int) = (bytesOf s).getD i 0 := by
  rw [← rd_bytesOf, rd_eq]

/-! ### a byte's bits -/
def bitv (x : Int) (r : Nat) : Bool := x / 2 ^ r % 2 == 1
theorem bitv_nat (n r : Nat) : bitv (n : Int) r = n.testBit r := by
  unfold bitv
  rw [Nat.testBit_eq_decide_div_mod_eq]
  have e : (n : Int) / 2 ^ r % 2 = ((n / 2 ^ r % 2 : Nat) : Int) := by simp
  rw [e, Bool.eq_iff_iff, beq_iff_eq, decide_eq_true_eq]
  omega
theorem wrap_u8_nat {n : Nat} (h : n < 256) : IntKind.u8.wrap (n : Int) = n := by
  rw [IntKind.wrap_u8]
  omega
theorem cast_mod {m : Nat} (h : m < 256) : (m : Int) % 256 = (m : Int) := by omega
theorem two_pow_lt {r : Nat} (hr : r < 8) : (2 ^ r : Nat) < 256 := by
  have : (2 ^ r : Nat) ≤ 2 ^ 7 := Nat.pow_le_pow_right (by decide) (by omega)
  omega
section
variable {x : Int} (h0 : 0 ≤ x) (h1 : x ≤ 255) {r : Nat} (hr : r < 8)
include h0 h1 hr
theorem byte_xor : (0 ≤ Go.bits .xor .u8 x (2 ^ r % 256) ∧ Go.bits .xor .u8 x (2 ^ r % 256) ≤ 255) ∧ ∀ q, q < 8 → bitv (Go.bits .xor .u8 x (2 ^ r % 256)) q = (bitv x q != decide (q = r)) := by
  obtain ⟨n, rfl⟩ := Int.eq_ofNat_of_zero_le h0
  have hp := two_pow_lt hr
  have e : (2 : Int) ^ r % 256 = ((2 ^ r : Nat) : Int) := by rw [show (2 : Int) ^ r = ((2 ^ r : Nat) : Int) from (Int.natCast_pow 2 r).symm]; exact cast_mod hp
  have hlt := ((BitVec.ofNat 8 n) ^^^ (BitVec.ofNat 8 (2 ^ r))).isLt
  have g : Go.bits .xor .u8 (n : Int) (2 ^ r % 256) = ((((BitVec.ofNat 8 n) ^^^ (BitVec.ofNat 8 (2 ^ r))).toNat : Nat) : Int) := by
    rw [e]
    unfold Go.bits
    simp only [BitVec.ofInt_natCast]
    exact wrap_u8_nat (Nat.lt_of_lt_of_eq hlt (by decide))
  rw [g]
  refine ⟨⟨by omega, by simp only [Nat.reducePow] at hlt; omega⟩, fun q hq => ?_⟩
  rw [bitv_nat, bitv_nat, BitVec.testBit_toNat, BitVec.getLsbD_xor, BitVec.getLsbD_ofNat, BitVec.getLsbD_ofNat, Nat.testBit_two_pow]
  simp [hq, eq_comm]
theorem byte_clear : (0 ≤ Go.bits .andNot .u8 x (2 ^ r % 256) ∧ Go.bits .andNot .u8 x (2 ^ r % 256) ≤ 255) ∧ ∀ q, q < 8 → bitv (Go.bits .andNot .u8 x (2 ^ r % 256)) q = (bitv x q && !decide (q = r)) := by
  obtain ⟨n, rfl⟩ := Int.eq_ofNat_of_zero_le h0
  have hp := two_pow_lt hr
  have e : (2 : Int) ^ r % 256 = ((2 ^ r : Nat) : Int) := by rw [show (2 : Int) ^ r = ((2 ^ r : Nat) : Int) from (Int.natCast_pow 2 r).symm]; exact cast_mod hp
  have hlt := ((BitVec.ofNat 8 n) &&& ~~~(BitVec.ofNat 8 (2 ^ r))).isLt
  have g : Go.bits .andNot .u8 (n : Int) (2 ^ r % 256) = ((((BitVec.ofNat 8 n) &&& ~~~(BitVec.ofNat 8 (2 ^ r))).toNat : Nat) : Int) := by
    rw [e]
    unfold Go.bits
    simp only [BitVec.ofInt_natCast]
    exact wrap_u8_nat (Nat.lt_of_lt_of_eq hlt (by decide))
  rw [g]
  refine ⟨⟨by omega, by simp only [Nat.reducePow] at hlt; omega⟩, fun q hq => ?_⟩
  rw [bitv_nat, bitv_nat, BitVec.testBit_toNat, BitVec.getLsbD_and, BitVec.getLsbD_not, BitVec.getLsbD_ofNat, BitVec.getLsbD_ofNat, Nat.testBit_two_pow]
  simp [hq, eq_comm]
theorem byte_set : (0 ≤ Go.bits .or .u8 x (2 ^ r % 256) ∧ Go.bits .or .u8 x (2 ^ r % 256) ≤ 255) ∧ ∀ q, q < 8 → bitv (Go.bits .or .u8 x (2 ^ r % 256)) q = (bitv x q || decide (q = r)) := by
  obtain ⟨n, rfl⟩ := Int.eq_ofNat_of_zero_le h0
  have hp := two_pow_lt hr
  have e : (2 : Int) ^ r % 256 = ((2 ^ r : Nat) : Int) := by rw [show (2 : Int) ^ r = ((2 ^ r : Nat) : Int) from (Int.natCast_pow 2 r).symm]; exact cast_mod hp
  have hlt := ((BitVec.ofNat 8 n) ||| (BitVec.ofNat 8 (2 ^ r))).isLt
  have g : Go.bits .or .u8 (n : Int) (2 ^ r % 256) = ((((BitVec.ofNat 8 n) ||| (BitVec.ofNat 8 (2 ^ r))).toNat : Nat) : Int) := by
    rw [e]
    unfold Go.bits
    simp only [BitVec.ofInt_natCast]
    exact wrap_u8_nat (Nat.lt_of_lt_of_eq hlt (by decide))
  rw [g]
  refine ⟨⟨by omega, by simp only [Nat.reducePow] at hlt; omega⟩, fun q hq => ?_⟩
  rw [bitv_nat, bitv_nat, BitVec.testBit_toNat, BitVec.getLsbD_or, BitVec.getLsbD_ofNat, BitVec.getLsbD_ofNat, Nat.testBit_two_pow]
  simp [hq, eq_comm]
end
theorem byte_ext {x y : Int} (h0 : 0 ≤ x) (h1 : x ≤ 255) (h2 : 0 ≤ y) (h3 : y ≤ 255) (h : ∀ q, q < 8 → bitv x q = bitv y q) : x = y := by
  obtain ⟨n, rfl⟩ := Int.eq_ofNat_of_zero_le h0
  obtain ⟨m, rfl⟩ := Int.eq_ofNat_of_zero_le h2
  refine congrArg _ (Nat.eq_of_testBit_eq (fun i => ?_))
  rcases Nat.lt_or_ge i 8 with hi | hi
  · simpa [bitv_nat] using h i hi
  · have hp : (2 : Nat) ^ 8 ≤ 2 ^ i := Nat.pow_le_pow_right (by decide) hi
    rw [Nat.testBit_lt_two_pow (by omega), Nat.testBit_lt_two_pow (by omega)]
/-- Bit i of a list of bytes. -/
def bitL (xs : List Int) (i : Nat) : Bool := bitv (xs.getD (i / 8) 0) (i % 8)
theorem bytes_ext {xs ys : List Int} (hx : isBytes xs) (hy : isBytes ys) (hl : xs.length = ys.length) (h : ∀ i, i < 8 * xs.length → bitL xs i = bitL ys i) : xs = ys := by
  refine List.ext_getElem hl (fun m h1 h2 => ?_)
  have gx := hx _ (List.getElem_mem h1)
  have gy := hy _ (List.getElem_mem h2)
  refine byte_ext gx.1 gx.2 gy.1 gy.2 (fun q hq => ?_)
  have e := h (8 * m + q) (by omega)
  unfold bitL at e
  rw [show (8 * m + q) / 8 = m from by omega, show (8 * m + q) % 8 = q from by omega] at e
  simpa [List.getD_eq_getElem?_getD, h1, h2] using e
/-- A byte changed: which bits change. -/
theorem bitL_set {xs : List Int} {i : Nat} (hi : i < xs.length) (v : Int) (j : Nat) : bitL (xs.set i v) j = if j / 8 = i then bitv v (j % 8) else bitL xs j := by
  unfold bitL
  split
  · rename_i h
    rw [h, List.getD_eq_getElem?_getD, List.getElem?_set_self hi]
    rfl
  · rename_i h
    rw [List.getD_eq_getElem?_getD, List.getElem?_set_ne (fun e => h e.symm), ← List.getD_eq_getElem?_getD]
end Go.Proofs.Ytpeimlpipopeoaa.Pure
namespace Go.Proofs.Ytpeimlpipopeoaa.Pure
open Go.RowKit Go.Proofs.YtpeimlpipopeoaaW.PrintWords Go.Proofs.YtpeimlpipopeoaaW.PrintLast
set_option linter.unusedVariables false
set_option linter.unusedSimpArgs false

def byte8 (u : Int) (i : Nat) : Int := u / 2 ^ (56 - 8 * i) % 256
def wordL (u : Int) : List Int := [byte8 u 0, byte8 u 1, byte8 u 2, byte8 u 3, byte8 u 4, byte8 u 5, byte8 u 6, byte8 u 7]
def wordB (n : Int) : ByteArray := strOfNums (wordL (IntKind.u64.wrap n))
theorem wordB_size (n : Int) : (wordB n).size = 8 := by rw [wordB, strOfNums_size]; rfl
theorem wordL_isBytes (u : Int) : isBytes (wordL u) := by
  intro x hx
  simp only [wordL, List.mem_cons, List.not_mem_nil, or_false, byte8] at hx
  omega
theorem wrap_u64 (x : Int) : IntKind.u64.wrap x = x % 18446744073709551616 := by
  simp [IntKind.wrap, IntKind.bits, IntKind.signed]
theorem wordv_wordB (n : Int) (h0 : -9223372036854775808 ≤ n) (h1 : n ≤ 9223372036854775807) : wordv (wordB n) 0 = n := by
  have hb : ∀ i, bt (wordB n) ((0 + i : Nat) : Int) = (wordL (IntKind.u64.wrap n)).getD i 0 := by
    intro i
    rw [bt_bytesOf, wordB, bytesOf_strOfNums (wordL_isBytes _), Nat.zero_add]
  unfold wordv
  simp only [hb]
  rw [wrap_u64]
  generalize hu : n % 18446744073709551616 = u
  have hu0 : 0 ≤ u ∧ u < 18446744073709551616 := by omega
  have e : be (fun i => (wordL u).getD i 0) 8 = u := by
    simp only [be, wordL, List.getD_cons_zero, List.getD_cons_succ, byte8]
    simp only [Nat.mul_zero, Nat.sub_zero, Nat.reduceMul, Nat.reduceSub, Int.reducePow, Int.pow_zero, Int.ediv_one]
    omega
  rw [e]
  unfold wrap64
  omega
/-- An image with other bytes from a place on. -/
def repl (s : ByteArray) (p : Nat) (t : ByteArray) : ByteArray := (s.extract 0 p ++ t) ++ s.extract (p + t.size) s.size
theorem repl_size {s t : ByteArray} {p : Nat} (h : p + t.size ≤ s.size) : (repl s p t).size = s.size := by
  simp only [repl, ByteArray.size_append, ByteArray.size_extract]
  omega
theorem bytesOf_append (s t : ByteArray) : bytesOf (s ++ t) = bytesOf s ++ bytesOf t := by
  unfold bytesOf
  rw [ByteArray.data_append, Array.toList_append, List.map_append]
theorem bytesOf_cut (s : ByteArray) (a b : Nat) : bytesOf (s.extract a b) = ((bytesOf s).drop a).take (b - a) := by
  unfold bytesOf
  rw [ByteArray.data_extract, Array.toList_extract, List.extract_eq_take_drop, List.map_take, List.map_drop]
theorem bytesOf_repl {s t : ByteArray} {p : Nat} (h : p + t.size ≤ s.size) : bytesOf (repl s p t) = (bytesOf s).take p ++ (bytesOf t ++ (bytesOf s).drop (p + t.size)) := by
  unfold repl
  rw [bytesOf_append, bytesOf_append, bytesOf_cut, bytesOf_cut, List.drop_zero, Nat.sub_zero, List.append_assoc]
  rw [List.take_of_length_le (l := (bytesOf s).drop (p + t.size)) (by rw [List.length_drop, bytesOf_length]; omega)]
theorem bt_repl {s t : ByteArray} {p : Nat} (h : p + t.size ≤ s.size) (i : Nat) : bt (repl s p t) (i : Int) = if p ≤ i ∧ i < p + t.size then bt t ((i - p : Nat) : Int) else bt s (i : Int) := by
  rw [bt_bytesOf, bt_bytesOf, bt_bytesOf, bytesOf_repl h]
  have hl := bytesOf_length s
  have ht := bytesOf_length t
  have htk : ((bytesOf s).take p).length = p := by rw [List.length_take]; omega
  simp only [List.getD_eq_getElem?_getD]
  by_cases c0 : i < p
  · rw [if_neg (by omega), List.getElem?_append_left (by omega), List.getElem?_take_of_lt c0]
  · rw [List.getElem?_append_right (by omega), htk]
    by_cases c1 : i < p + t.size
    · rw [if_pos (by omega), List.getElem?_append_left (by omega)]
    · rw [if_neg (by omega), List.getElem?_append_right (by omega), List.getElem?_drop, show p + t.size + (i - p - (bytesOf t).length) = i from by omega]
theorem wordv_repl_same {s : ByteArray} {p : Nat} (n : Int) (h : p + 8 ≤ s.size) (h0 : -9223372036854775808 ≤ n) (h1 : n ≤ 9223372036854775807) : wordv (repl s p (wordB n)) p = n := by
  have e := wordv_wordB n h0 h1
  have hz := wordB_size n
  unfold wordv at e ⊢
  refine Eq.trans (congrArg wrap64 (be_congr 8 (fun i hi => ?_))) e
  rw [bt_repl (by omega), if_pos (by omega), show p + i - p = 0 + i from by omega]
theorem wordv_repl_other {s t : ByteArray} {p q : Nat} (h : p + t.size ≤ s.size) (hd : q + 8 ≤ p ∨ p + t.size ≤ q) : wordv (repl s p t) q = wordv s q := by
  unfold wordv
  refine congrArg wrap64 (be_congr 8 (fun i hi => ?_))
  rw [bt_repl h, if_neg (by omega)]
theorem extract_ext {s t : ByteArray} {a b : Nat} (hs : b ≤ s.size) (ht : b ≤ t.size) (h : ∀ i : Nat, a ≤ i → i < b → bt s (i : Int) = bt t (i : Int)) : s.extract a b = t.extract a b := by
  refine bytesOf_inj ?_
  rw [bytesOf_cut, bytesOf_cut]
  refine List.ext_getElem (by simp only [List.length_take, List.length_drop, bytesOf_length]; omega) fun i h1 h2 => ?_
  simp only [List.length_take, List.length_drop, bytesOf_length] at h1 h2
  have hi := h (a + i) (by omega) (by omega)
  rw [bt_bytesOf, bt_bytesOf, List.getD_eq_getElem?_getD, List.getD_eq_getElem?_getD, List.getElem?_eq_getElem (by rw [bytesOf_length]; omega), List.getElem?_eq_getElem (by rw [bytesOf_length]; omega)] at hi
  simpa using hi
theorem wordv_range (s : ByteArray) (p : Nat) : -9223372036854775808 ≤ wordv s p ∧ wordv s p ≤ 9223372036854775807 := wrap64_range _
end Go.Proofs.Ytpeimlpipopeoaa.Pure
namespace Go.Proofs.Ytpeimlpipopeoaa.Pure
open Go.RowKit Go.Proofs.Ytpeimlpipopeoaa.X Go.Proofs.YtpeimlpipopeoaaW.PrintWords Go.Proofs.YtpeimlpipopeoaaW.PrintLast
set_option linter.unusedVariables false
set_option linter.unusedSimpArgs false
theorem spec_WordBytes_ev (n : Int) : Ev (fun k => spec_WordBytes.f k n) (wordB n) := by
  have hu : 0 ≤ IntKind.u64.wrap n ∧ IntKind.u64.wrap n < 18446744073709551616 := by rw [wrap_u64]; omega
  have set1 : ∀ (u : Int) (i : Nat), i < 8 → ((wordL u).take i ++ List.replicate (8 - i) 0).set i (byte8 u i) = (wordL u).take (i + 1) ++ List.replicate (8 - (i + 1)) 0 := by
    intro u i hi
    obtain rfl | rfl | rfl | rfl | rfl | rfl | rfl | rfl : i = 0 ∨ i = 1 ∨ i = 2 ∨ i = 3 ∨ i = 4 ∨ i = 5 ∨ i = 6 ∨ i = 7 := by omega
    all_goals rfl
  have lp : ∀ (d i : Nat), 8 - i = d → i ≤ 8 → Ev (fun k => spec_WordBytes.l0 k n ((wordL (IntKind.u64.wrap n)).take i ++ List.replicate (8 - i) 0) (i : Int)) (wordB n) := by
    intro d
    induction d with
    | zero =>
      intro i hd hi
      obtain rfl : i = 8 := by omega
      refine Ev.step (fun k => by rw [spec_WordBytes.l0]) ?_
      refine Ev.neg (by decide) (Ev.eq ?_)
      rfl
    | succ d ih =>
      intro i hd hi
      have hi8 : i < 8 := by omega
      have hl : ((wordL (IntKind.u64.wrap n)).take i ++ List.replicate (8 - i) 0).length = 8 := by
        rw [List.length_append, List.length_take, List.length_replicate, show (wordL (IntKind.u64.wrap n)).length = 8 from rfl]; omega
      have ih := ih (i + 1) (by omega) (by omega)
      rw [← set1 _ i hi8] at ih
      refine Ev.step (fun k => by rw [spec_WordBytes.l0]) ?_
      rw [w64 (x := 8 * (i : Int)) (by omega) (by omega), w64 (x := 56 - 8 * (i : Int)) (by omega) (by omega), show IntKind.u64.wrap (56 - 8 * (i : Int)) = ((56 - 8 * i : Nat) : Int) from by rw [wrap_u64]; omega,
        show wrap64 ((i : Int) + 1) = ((i + 1 : Nat) : Int) from by rw [w64 (by omega) (by omega)]; omega, Int.toNat_natCast,
        show shr .u64 (IntKind.u64.wrap n) ((56 - 8 * i : Nat) : Int) % 256 = byte8 (IntKind.u64.wrap n) i from by
          unfold shr byte8
          rw [Int.toNat_natCast, show min (56 - 8 * i) IntKind.u64.bits = 56 - 8 * i from Nat.min_eq_left (by show 56 - 8 * i ≤ 64; omega)]]
      exact Ev.pos (by omega) (Ev.pos (by omega) (Ev.pos (by omega) (Ev.pos (by rw [hl]; omega) ih)))
  unfold spec_WordBytes.f
  exact Ev.pos (by decide) (lp 8 0 rfl (by omega))
theorem impl_bigBytes_ev (u : Int) (h0 : 0 ≤ u) : Ev (fun k => impl_bigBytes.f k u 8) (strOfNums (wordL u)) := by
  have set1 : ∀ (i : Nat), i < 8 → (List.replicate (8 - i) 0 ++ (wordL u).drop (8 - i)).set (7 - i) (byte8 u (7 - i)) = List.replicate (8 - (i + 1)) 0 ++ (wordL u).drop (8 - (i + 1)) := by
    intro i hi
    obtain rfl | rfl | rfl | rfl | rfl | rfl | rfl | rfl : i = 0 ∨ i = 1 ∨ i = 2 ∨ i = 3 ∨ i = 4 ∨ i = 5 ∨ i = 6 ∨ i = 7 := by omega
    all_goals rfl
  have lp : ∀ (d i : Nat), 8 - i = d → i ≤ 8 → Ev (fun k => impl_bigBytes.l0 k (u / 2 ^ (8 * i)) 8 (List.replicate (8 - i) 0 ++ (wordL u).drop (8 - i)) 8 (i : Int)) (strOfNums (wordL u)) := by
    intro d
    induction d with
    | zero =>
      intro i hd hi
      obtain rfl : i = 8 := by omega
      refine Ev.step (fun k => by rw [impl_bigBytes.l0]) ?_
      refine Ev.neg (by decide) (Ev.eq ?_)
      rfl
    | succ d ih =>
      intro i hd hi
      have hi8 : i < 8 := by omega
      have hl : (List.replicate (8 - i) 0 ++ (wordL u).drop (8 - i)).length = 8 := by
        rw [List.length_append, List.length_drop, List.length_replicate, show (wordL u).length = 8 from rfl]; omega
      have ih := ih (i + 1) (by omega) (by omega)
      rw [← set1 i hi8] at ih
      refine Ev.step (fun k => by rw [impl_bigBytes.l0]) ?_
      rw [w64 (x := 8 - 1) (by omega) (by omega), w64 (x := 8 - 1 - (i : Int)) (by omega) (by omega), show (8 - 1 - (i : Int)) = ((7 - i : Nat) : Int) from by omega,
        show wrap64 ((i : Int) + 1) = ((i + 1 : Nat) : Int) from by rw [w64 (by omega) (by omega)]; omega, Int.toNat_natCast,
        show u / 2 ^ (8 * i) % 256 = byte8 u (7 - i) from by unfold byte8; rw [show 56 - 8 * (7 - i) = 8 * i from by omega],
        show u / 2 ^ (8 * i) / 256 = u / 2 ^ (8 * (i + 1)) from by
          rw [Int.ediv_ediv_of_nonneg (Int.pow_nonneg (by decide)), show (8 * (i + 1)) = 8 * i + 8 from by omega, Int.pow_add]; rfl]
      exact Ev.pos (by omega) (Ev.pos (by omega) (Ev.pos (by rw [hl]; omega) ih))
  unfold impl_bigBytes.f
  refine Ev.pos (by decide) (Ev.pos (by decide) (Ev.bindo rfl ?_))
  have h := lp 8 0 rfl (by omega)
  rw [Nat.mul_zero, Int.pow_zero, Int.ediv_one] at h
  exact h
theorem impl_WordBytes_ev (n : Int) : Ev (fun k => impl_WordBytes.f k n) (wordB n) := by
  unfold impl_WordBytes.f
  exact Ev.bind (impl_bigBytes_ev _ (by rw [wrap_u64]; omega)) (Ev.eq rfl)
end Go.Proofs.Ytpeimlpipopeoaa.Pure
namespace Go.Proofs.Ytpeimlpipopeoaa.Pure
open Go.RowKit Go.Proofs.Ytpeimlpipopeoaa.X Go.Proofs.YtpeimlpipopeoaaW.PrintWords Go.Proofs.YtpeimlpipopeoaaW.PrintLast
set_option linter.unusedVariables false
set_option linter.unusedSimpArgs false

/-- Strictly increasing, all in 0..1023. -/
def setOkB : List Int → Bool
  | [] => true
  | [x] => decide (0 ≤ x) && decide (x ≤ 1023)
  | x :: y :: l => decide (0 ≤ x) && decide (x ≤ 1023) && decide (x < y) && setOkB (y :: l)
/-- The same, place by place, from place i on. -/
def setFrom (l : List Int) (i : Nat) : Prop := ∀ j (h : j < l.length), i ≤ j → 0 ≤ l[j] ∧ l[j] ≤ 1023 ∧ ∀ (h0 : 0 < j), l[j - 1]'(by omega) < l[j]
instance (l : List Int) (i : Nat) : Decidable (setFrom l i) := by unfold setFrom; infer_instance
theorem l1In_f (a lo hi : Int) : spec_l1In.f a lo hi = some (decide (lo ≤ a) && decide (a ≤ hi)) := by
  unfold spec_l1In.f
  split
  · rename_i h; simp [show lo ≤ a from h]
  · rename_i h; have : ¬ lo ≤ a := h; simp [this]
theorem within_f (a lo hi : Int) : impl_within.f a lo hi = some (decide (lo ≤ a) && decide (a ≤ hi)) := by
  unfold impl_within.f
  split
  · rename_i h; simp [show lo ≤ a from h]
  · rename_i h; have : ¬ lo ≤ a := h; simp [this]
theorem setFrom_step {l : List Int} {i : Nat} (h : i < l.length) (h1 : 0 ≤ l[i]) (h2 : l[i] ≤ 1023) (h3 : ∀ (h0 : 0 < i), l[i - 1]'(by omega) < l[i]) : setFrom l i ↔ setFrom l (i + 1) :=
  ⟨fun hs j hj hi => hs j hj (by omega), fun hs j hj hi => by
    by_cases e : j = i
    · subst e; exact ⟨h1, h2, h3⟩
    · exact hs j hj (by omega)⟩
theorem spec_SetOk_l (l : List Int) (hl : l.length ≤ 1099511627776) (d : Nat) : ∀ (i : Nat), l.length - i = d → i ≤ l.length → Ev (fun k => spec_SetOk.l0 k l (i : Int)) (decide (setFrom l i)) := by
  induction d with
  | zero =>
    intro i hd hi
    refine Ev.step (fun k => by rw [spec_SetOk.l0]) ?_
    exact Ev.neg (by omega) (Ev.eq (decide_eq_true (fun j hj hij => absurd hj (by omega))).symm)
  | succ d ih =>
    intro i hd hi
    have hlt : i < l.length := by omega
    refine Ev.step (fun k => by rw [spec_SetOk.l0]) ?_
    refine Ev.pos (by omega) (Ev.pos (by omega) ?_)
    refine Ev.bindo (l1In_f _ _ _) ?_
    rw [show wrap64 ((i : Int) + 1) = ((i + 1 : Nat) : Int) from by rw [w64 (by omega) (by omega)]; omega, rd_get hlt]
    refine Ev.cases (fun e => ?_) (fun e => Ev.eq ?_)
    · simp only [Bool.and_eq_true, decide_eq_true_eq] at e
      refine Ev.cases (fun e2 => ?_) (fun e2 => ?_)
      · have hp : i - 1 < l.length := by omega
        rw [show wrap64 ((i : Int) - 1) = ((i - 1 : Nat) : Int) from by rw [w64 (by omega) (by omega)]; omega, rd_get hp]
        refine Ev.pos (by omega) (Ev.pos (by omega) ?_)
        refine Ev.cases (fun e3 => Ev.eq ?_) (fun e3 => ?_)
        · exact (decide_eq_false (fun h => by have := (h i hlt (by omega)).2.2 (by omega); omega)).symm
        · refine Ev.val (ih (i + 1) (by omega) (by omega)) (decide_eq_decide.2 (setFrom_step hlt e.1 e.2 (fun _ => by omega)).symm)
      · refine Ev.val (ih (i + 1) (by omega) (by omega)) (decide_eq_decide.2 (setFrom_step hlt e.1 e.2 (fun h0 => by omega)).symm)
    · exact (decide_eq_false (fun h => e (by have := h i hlt (by omega); simp [this.1, this.2.1]))).symm
theorem spec_SetOk_ev (l : List Int) (hl : l.length ≤ 1099511627776) : Ev (fun k => spec_SetOk.f k l) (decide (setFrom l 0)) := by
  unfold spec_SetOk.f
  exact spec_SetOk_l l hl _ 0 rfl (by omega)
theorem impl_SetOk_l (l : List Int) (hl : l.length ≤ 1099511627776) (d : Nat) : ∀ (i : Nat), l.length - i = d → i ≤ l.length → Ev (fun k => impl_SetOk.l0 k l l (l.length : Int) (i : Int)) (decide (setFrom l i)) := by
  induction d with
  | zero =>
    intro i hd hi
    refine Ev.step (fun k => by rw [impl_SetOk.l0]) ?_
    exact Ev.neg (by omega) (Ev.eq (decide_eq_true (fun j hj hij => absurd hj (by omega))).symm)
  | succ d ih =>
    intro i hd hi
    have hlt : i < l.length := by omega
    refine Ev.step (fun k => by rw [impl_SetOk.l0]) ?_
    refine Ev.pos (by omega) (Ev.pos (by omega) (Ev.pos (by omega) ?_))
    refine Ev.bindo (within_f _ _ _) ?_
    rw [show wrap64 ((i : Int) + 1) = ((i + 1 : Nat) : Int) from by rw [w64 (by omega) (by omega)]; omega, rd_get hlt]
    refine Ev.cases (fun e => ?_) (fun e => Ev.eq ?_)
    · simp only [Bool.and_eq_true, decide_eq_true_eq] at e
      refine Ev.cases (fun e2 => ?_) (fun e2 => ?_)
      · have hp : i - 1 < l.length := by omega
        rw [show wrap64 ((i : Int) - 1) = ((i - 1 : Nat) : Int) from by rw [w64 (by omega) (by omega)]; omega, rd_get hp]
        refine Ev.pos (by omega) (Ev.pos (by omega) ?_)
        refine Ev.cases (fun e3 => Ev.eq ?_) (fun e3 => ?_)
        · exact (decide_eq_false (fun h => by have := (h i hlt (by omega)).2.2 (by omega); omega)).symm
        · refine Ev.val (ih (i + 1) (by omega) (by omega)) (decide_eq_decide.2 (setFrom_step hlt e.1 e.2 (fun _ => by omega)).symm)
      · refine Ev.val (ih (i + 1) (by omega) (by omega)) (decide_eq_decide.2 (setFrom_step hlt e.1 e.2 (fun h0 => by omega)).symm)
    · exact (decide_eq_false (fun h => e (by have := h i hlt (by omega); simp [this.1, this.2.1]))).symm
theorem impl_SetOk_ev (l : List Int) (hl : l.length ≤ 1099511627776) : Ev (fun k => impl_SetOk.f k l) (decide (setFrom l 0)) := by
  unfold impl_SetOk.f
  exact impl_SetOk_l l hl _ 0 rfl (by omega)
end Go.Proofs.Ytpeimlpipopeoaa.Pure
namespace Go.Proofs.Ytpeimlpipopeoaa.Pure
open Go.RowKit Go.Proofs.Ytpeimlpipopeoaa.X Go.Proofs.YtpeimlpipopeoaaW.PrintWords Go.Proofs.YtpeimlpipopeoaaW.PrintLast
set_option linter.unusedVariables false
set_option linter.unusedSimpArgs false

def refk (a : Int) : Int := if a = 0 then 0 else if 2 ≤ a ∧ a ≤ 254 ∧ a % 2 = 0 then 1 else if 1 ≤ a ∧ a ≤ 799 ∧ a % 2 = 1 then 2 else -1
theorem refk_cases (a : Int) : refk a = 0 ∨ refk a = 1 ∨ refk a = 2 ∨ refk a = -1 := by
  unfold refk
  repeat' split
  all_goals simp
theorem tmod2 {a : Int} (h : 0 ≤ a) : Int.tmod a 2 = a % 2 := Int.tmod_eq_emod_of_nonneg h
theorem spec_RefKind_ev (a : Int) : Ev (fun k => spec_RefKind.f k a) (refk a) := by
  have j : ∀ b : Bool, (b = true → 2 ≤ a ∧ a ≤ 254 ∧ a % 2 = 0) → (b = false → ¬ (2 ≤ a ∧ a ≤ 254 ∧ a % 2 = 0)) → ¬ a = 0 → Ev (fun k => spec_RefKind.j0 k a b) (refk a) := by
    intro b h1 h2 h0
    refine Ev.step (fun k => by rw [spec_RefKind.j0]) ?_
    refine Ev.cases (fun e => Ev.eq ?_) (fun e => ?_)
    · unfold refk; rw [if_neg h0, if_pos (h1 e)]
    · have h2 := h2 (by simpa using e)
      refine Ev.bindo (l1In_f _ _ _) (Ev.cases (fun c => ?_) (fun c => Ev.eq ?_))
      · simp only [Bool.and_eq_true, decide_eq_true_eq] at c
        rw [tmod2 (by omega)]
        refine Ev.cases (fun c2 => Ev.eq ?_) (fun c2 => Ev.eq ?_)
        · unfold refk; rw [if_neg h0, if_neg h2, if_pos ⟨c.1, c.2, c2⟩]
        · unfold refk; rw [if_neg h0, if_neg h2, if_neg (by omega)]
      · unfold refk; rw [if_neg h0, if_neg h2, if_neg (fun x => c (by simp [x.1, x.2.1]))]
  unfold spec_RefKind.f
  refine Ev.cases (fun e => Ev.eq ?_) (fun e => ?_)
  · unfold refk; rw [if_pos e]
  · refine Ev.bindo (l1In_f _ _ _) (Ev.cases (fun c => ?_) (fun c => ?_))
    · simp only [Bool.and_eq_true, decide_eq_true_eq] at c
      rw [tmod2 (by omega)]
      exact j _ (fun h => ⟨c.1, c.2, by simpa using h⟩) (fun h x => by simp [x.2.2] at h) e
    · exact j _ (fun h => by cases h) (fun _ x => c (by simp [x.1, x.2.1])) e
theorem impl_RefKind_ev (a : Int) : Ev (fun k => impl_RefKind.f k a) (refk a) := by
  have j : ∀ b : Bool, (b = true → 2 ≤ a ∧ a ≤ 254 ∧ a % 2 = 0) → (b = false → ¬ (2 ≤ a ∧ a ≤ 254 ∧ a % 2 = 0)) → ¬ a = 0 → Ev (fun k => impl_RefKind.j0 k a b) (refk a) := by
    intro b h1 h2 h0
    refine Ev.step (fun k => by rw [impl_RefKind.j0]) ?_
    refine Ev.cases (fun e => Ev.eq ?_) (fun e => ?_)
    · unfold refk; rw [if_neg h0, if_pos (h1 e)]
    · have h2 := h2 (by simpa using e)
      refine Ev.bindo (within_f _ _ _) (Ev.cases (fun c => ?_) (fun c => Ev.eq ?_))
      · simp only [Bool.and_eq_true, decide_eq_true_eq] at c
        rw [tmod2 (by omega)]
        refine Ev.cases (fun c2 => Ev.eq ?_) (fun c2 => Ev.eq ?_)
        · unfold refk; rw [if_neg h0, if_neg h2, if_pos ⟨c.1, c.2, c2⟩]
        · unfold refk; rw [if_neg h0, if_neg h2, if_neg (by omega)]
      · unfold refk; rw [if_neg h0, if_neg h2, if_neg (fun x => c (by simp [x.1, x.2.1]))]
  unfold impl_RefKind.f
  refine Ev.cases (fun e => Ev.eq ?_) (fun e => ?_)
  · unfold refk; rw [if_pos e]
  · refine Ev.bindo (within_f _ _ _) (Ev.cases (fun c => ?_) (fun c => ?_))
    · simp only [Bool.and_eq_true, decide_eq_true_eq] at c
      rw [tmod2 (by omega)]
      exact j _ (fun h => ⟨c.1, c.2, by simpa using h⟩) (fun h x => by simp [x.2.2] at h) e
    · exact j _ (fun h => by cases h) (fun _ x => c (by simp [x.1, x.2.1])) e
theorem impl_isYoung_ev (a : Int) : Ev (fun k => impl_isYoung.f k a) (decide (refk a = 2)) := by
  unfold impl_isYoung.f
  refine Ev.bind (impl_RefKind_ev a) (Ev.eq ?_)
  by_cases h : refk a = 2 <;> simp [h]
end Go.Proofs.Ytpeimlpipopeoaa.Pure
namespace Go.Proofs.Ytpeimlpipopeoaa.Pure
open Go.RowKit Go.Proofs.Ytpeimlpipopeoaa.X Go.Proofs.YtpeimlpipopeoaaW.PrintWords Go.Proofs.YtpeimlpipopeoaaW.PrintLast
set_option linter.unusedVariables false
set_option linter.unusedSimpArgs false

theorem bt_byte (s : ByteArray) : ∀ p i : Nat, 0 ≤ bt s ((p + i : Nat) : Int) ∧ bt s ((p + i : Nat) : Int) ≤ 255 := fun p i => bt_range s _
theorem spec_ReadWord_ev (s : ByteArray) (h : s.size = 8) : Ev (fun k => spec_ReadWord.f k s) (wordv s 0, true) := by
  have l : ∀ d i : Nat, 8 - i = d → i ≤ 8 → Ev (fun k => spec_ReadWord.l0 k s (be (fun i => bt s ((0 + i : Nat) : Int)) i) (i : Int)) (wordv s 0, true) := by
    intro d
    induction d with
    | zero =>
      intro i hd hi
      refine Ev.step (fun k => by rw [spec_ReadWord.l0]) ?_
      obtain rfl : i = 8 := by omega
      exact Ev.neg (by omega) (Ev.eq rfl)
    | succ d ih =>
      intro i hd hi
      refine Ev.step (fun k => by rw [spec_ReadWord.l0]) ?_
      refine Ev.pos (by omega) (Ev.pos (by omega) (Ev.pos (by omega) ?_))
      have e := be_step_u64 (fun i => bt s ((0 + i : Nat) : Int)) (fun i => bt_byte s 0 i) i (by omega)
      simp only [Nat.zero_add] at e ih ⊢
      rw [e, show wrap64 ((i : Int) + 1) = ((i + 1 : Nat) : Int) from by rw [w64 (by omega) (by omega)]; omega]
      exact ih (i + 1) (by omega) (by omega)
  unfold spec_ReadWord.f
  exact Ev.pos (by omega) (l 8 0 rfl (by omega))
theorem impl_wordAt_ev (s : ByteArray) (p : Nat) (h : p + 8 ≤ s.size) (hs : s.size ≤ 140737488355328) : Ev (fun k => impl_wordAt.f k s (p : Int)) (wordv s p) := by
  have l : ∀ d i : Nat, 8 - i = d → i ≤ 8 → Ev (fun k => impl_wordAt.l0 k s (p : Int) (wrap64 (be (fun i => bt s ((p + i : Nat) : Int)) i)) (i : Int)) (wordv s p) := by
    intro d
    induction d with
    | zero =>
      intro i hd hi
      refine Ev.step (fun k => by rw [impl_wordAt.l0]) ?_
      obtain rfl : i = 8 := by omega
      exact Ev.neg (by omega) (Ev.eq rfl)
    | succ d ih =>
      intro i hd hi
      refine Ev.step (fun k => by rw [impl_wordAt.l0]) ?_
      rw [show wrap64 ((p : Int) + (i : Int)) = ((p + i : Nat) : Int) from by rw [w64 (by omega) (by omega)]; omega]
      refine Ev.pos (by omega) (Ev.pos (by omega) (Ev.pos (by omega) ?_))
      have e := be_step_i64 (fun i => bt s ((p + i : Nat) : Int)) (fun i => bt_byte s p i) i
      rw [e, show wrap64 ((i : Int) + 1) = ((i + 1 : Nat) : Int) from by rw [w64 (by omega) (by omega)]; omega]
      exact ih (i + 1) (by omega) (by omega)
  unfold impl_wordAt.f
  have h := l 8 0 rfl (by omega)
  rw [show wrap64 (be (fun i => bt s ((p + i : Nat) : Int)) 0) = 0 from by simp only [be]; exact w64 (by omega) (by omega)] at h
  exact h
theorem wordv_extract (s : ByteArray) (p : Nat) (h : p + 8 ≤ s.size) : wordv (s.extract p (p + 8)) 0 = wordv s p := by
  unfold wordv
  refine congrArg wrap64 (be_congr 8 (fun i hi => ?_))
  rw [Nat.zero_add]
  exact bt_extract s p (p + 8) i (by omega) h
theorem spec_l9Word_ev (s : ByteArray) (w : Nat) (h : 8 * w + 8 ≤ s.size) (hs : s.size ≤ 140737488355328) : Ev (fun k => spec_l9Word.f k s (w : Int)) (wordv s (8 * w)) := by
  unfold spec_l9Word.f
  rw [show wrap64 (8 * (w : Int)) = ((8 * w : Nat) : Int) from by rw [w64 (by omega) (by omega)]; omega, show wrap64 (((8 * w : Nat) : Int) + 8) = ((8 * w + 8 : Nat) : Int) from by rw [w64 (by omega) (by omega)]; omega]
  refine Ev.pos (by omega) (Ev.pos (by omega) (Ev.pos (by omega) ?_))
  simp only [Int.toNat_natCast]
  refine Ev.bind (spec_ReadWord_ev _ (by rw [ByteArray.size_extract]; omega)) (Ev.eq ?_)
  exact wordv_extract s (8 * w) h

def imageOk (s : ByteArray) : Prop := s.size % 64 = 0 ∧ 1 ≤ s.size / 64 ∧ s.size / 64 ≤ 128
instance (s : ByteArray) : Decidable (imageOk s) := by unfold imageOk; infer_instance
theorem spec_l9Image_f (s : ByteArray) (hs : s.size ≤ 140737488355328) : spec_l9Image.f s = some (decide (imageOk s)) := by
  unfold spec_l9Image.f imageOk
  split
  · rename_i h
    have h2 : s.size % 64 = 0 := by omega
    rw [l1In_f, w64 (by omega) (by omega)]
    simp only [Option.bind_some, h2, true_and]
    refine congrArg some ?_
    rw [← Bool.decide_and]
    exact decide_eq_decide.2 (by omega)
  · rename_i h
    have h2 : ¬ s.size % 64 = 0 := by omega
    simp [h2]
/-- The young references in the words of a set; nothing, if one is none. -/
def youngs (s : ByteArray) : List Int → Option (List Int)
  | [] => some []
  | w :: l => if 8 * w + 8 ≤ s.size ∧ refk (wordv s (8 * w.toNat)) = 2 then (youngs s l).map (wordv s (8 * w.toNat) :: ·) else none
def youngWords (s : ByteArray) (l : List Int) : List Int × Bool :=
  if setFrom l 0 ∧ imageOk s then match youngs s l with | some r => (r, true) | none => ([], false) else ([], false)
theorem youngs_length {s : ByteArray} : ∀ {l r : List Int}, youngs s l = some r → r.length = l.length
  | [], r, h => by simp [youngs] at h; simp [← h]
  | w :: l, r, h => by
    simp only [youngs] at h
    split at h
    · obtain ⟨q, hq, rfl⟩ := Option.map_eq_some_iff.1 h
      simp [youngs_length hq]
    · cases h
def fin (acc : List Int) : Option (List Int) → List Int × Bool
  | some r => (acc ++ r, true)
  | none => ([], false)
theorem fin_cons (acc : List Int) (x : Int) (o : Option (List Int)) : fin acc (o.map (x :: ·)) = fin (acc ++ [x]) o := by
  cases o <;> simp [fin]
theorem spec_YoungWords_l (s : ByteArray) (l : List Int) (hs : s.size ≤ 140737488355328) (hl : l.length ≤ 1099511627776) (hset : setFrom l 0) (d : Nat) : ∀ (i : Nat) (acc : List Int), l.length - i = d → i ≤ l.length → acc.length = i →
    Ev (fun k => spec_YoungWords.l0 k s l acc (i : Int)) (fin acc (youngs s (l.drop i))) := by
  induction d with
  | zero =>
    intro i acc hd hi ha
    refine Ev.step (fun k => by rw [spec_YoungWords.l0]) ?_
    refine Ev.neg (by omega) (Ev.eq ?_)
    rw [List.drop_eq_nil_of_le (by omega)]
    simp [youngs, fin]
  | succ d ih =>
    intro i acc hd hi ha
    have hlt : i < l.length := by omega
    have hr := hset i hlt (by omega)
    obtain ⟨w, hw⟩ : ∃ w : Nat, l[i] = (w : Int) := ⟨l[i].toNat, by omega⟩
    refine Ev.step (fun k => by rw [spec_YoungWords.l0]) ?_
    rw [rd_get hlt, hw, show wrap64 (8 * (w : Int)) = ((8 * w : Nat) : Int) from by rw [w64 (by omega) (by omega)]; omega, show wrap64 (((8 * w : Nat) : Int) + 8) = ((8 * w + 8 : Nat) : Int) from by rw [w64 (by omega) (by omega)]; omega]
    rw [List.drop_eq_getElem_cons hlt, hw]
    refine Ev.pos (by omega) (Ev.pos (by omega) (Ev.cases (fun c => Ev.eq ?_) (fun c => ?_)))
    · rw [youngs, if_neg (by omega)]; rfl
    · have h8 : 8 * w + 8 ≤ s.size := by omega
      refine Ev.bind (spec_l9Word_ev s w h8 hs) (Ev.bind (spec_RefKind_ev _) (Ev.cases (fun c2 => ?_) (fun c2 => Ev.eq ?_)))
      · refine Ev.bind (spec_l9Word_ev s w h8 hs) (Ev.pos (by omega) ?_)
        rw [show wrap64 ((i : Int) + 1) = ((i + 1 : Nat) : Int) from by rw [w64 (by omega) (by omega)]; omega]
        rw [youngs, if_pos ⟨by omega, by simpa using c2⟩, fin_cons]
        simp only [Int.toNat_natCast]
        exact ih (i + 1) _ (by omega) (by omega) (by simp [ha])
      · rw [youngs, if_neg (fun x => c2 (by simpa using x.2))]; rfl
theorem spec_YoungWords_ev (s : ByteArray) (l : List Int) (hs : s.size ≤ 140737488355328) (hl : l.length ≤ 1099511627776) : Ev (fun k => spec_YoungWords.f k s l) (youngWords s l) := by
  unfold spec_YoungWords.f
  refine Ev.bind (spec_SetOk_ev l hl) (Ev.cases (fun c => ?_) (fun c => ?_))
  · have c : setFrom l 0 := by simpa using c
    refine Ev.bindo (spec_l9Image_f s hs) ?_
    refine Ev.step (fun k => by rw [spec_YoungWords.j0]) ?_
    refine Ev.cases (fun c2 => Ev.eq ?_) (fun c2 => ?_)
    · rw [youngWords, if_neg (fun x => by simp [x.2] at c2)]
    · have c2 : imageOk s := by simpa using c2
      refine Ev.val (spec_YoungWords_l s l hs hl c _ 0 [] rfl (by omega) rfl) ?_
      rw [youngWords, if_pos ⟨c, c2⟩, List.drop_zero]
      cases youngs s l <;> simp [fin]
  · refine Ev.step (fun k => by rw [spec_YoungWords.j0]) ?_
    refine Ev.pos rfl (Ev.eq ?_)
    rw [youngWords, if_neg (fun x => c (by simp [x.1]))]
theorem impl_YoungWords_l (s : ByteArray) (l : List Int) (hs : s.size ≤ 140737488355328) (him : imageOk s) (hl : l.length ≤ 1099511627776) (hset : setFrom l 0) (d : Nat) : ∀ (i : Nat) (acc : List Int), l.length - i = d → i ≤ l.length → acc.length = i →
    Ev (fun k => impl_YoungWords.l0 k s acc l (l.length : Int) (i : Int)) (fin acc (youngs s (l.drop i))) := by
  induction d with
  | zero =>
    intro i acc hd hi ha
    refine Ev.step (fun k => by rw [impl_YoungWords.l0]) ?_
    refine Ev.neg (by omega) (Ev.eq ?_)
    rw [List.drop_eq_nil_of_le (by omega)]
    simp [youngs, fin]
  | succ d ih =>
    intro i acc hd hi ha
    have hlt : i < l.length := by omega
    have hr := hset i hlt (by omega)
    have him2 := him.1
    obtain ⟨w, hw⟩ : ∃ w : Nat, l[i] = (w : Int) := ⟨l[i].toNat, by omega⟩
    refine Ev.step (fun k => by rw [impl_YoungWords.l0]) ?_
    rw [rd_get hlt, hw, show wrap64 (8 * (w : Int)) = ((8 * w : Nat) : Int) from by rw [w64 (by omega) (by omega)]; omega, w64 (x := (s.size : Int) / 8) (by omega) (by omega)]
    rw [List.drop_eq_getElem_cons hlt, hw]
    refine Ev.pos (by omega) (Ev.pos (by omega) (Ev.pos (by omega) (Ev.cases (fun c => Ev.eq ?_) (fun c => ?_))))
    · rw [youngs, if_neg (by omega)]; rfl
    · have h8 : 8 * w + 8 ≤ s.size := by omega
      refine Ev.bind (impl_wordAt_ev s (8 * w) h8 hs) (Ev.bind (impl_isYoung_ev _) (Ev.cases (fun c2 => ?_) (fun c2 => Ev.eq ?_)))
      · refine Ev.bind (impl_wordAt_ev s (8 * w) h8 hs) (Ev.pos (by omega) ?_)
        rw [show wrap64 ((i : Int) + 1) = ((i + 1 : Nat) : Int) from by rw [w64 (by omega) (by omega)]; omega]
        rw [youngs, if_pos ⟨by omega, by simpa using c2⟩, fin_cons]
        simp only [Int.toNat_natCast]
        exact ih (i + 1) _ (by omega) (by omega) (by simp [ha])
      · rw [youngs, if_neg (fun x => c2 (by simpa using x.2))]; rfl
theorem impl_YoungWords_ev (s : ByteArray) (l : List Int) (hs : s.size ≤ 140737488355328) (hl : l.length ≤ 1099511627776) : Ev (fun k => impl_YoungWords.f k s l) (youngWords s l) := by
  have j : ∀ b : Bool, (b = true → ¬ (setFrom l 0 ∧ imageOk s)) → (b = false → setFrom l 0 ∧ imageOk s) → Ev (fun k => impl_YoungWords.j0 k s l b) (youngWords s l) := by
    intro b h1 h2
    refine Ev.step (fun k => by rw [impl_YoungWords.j0]) ?_
    refine Ev.cases (fun c => Ev.eq ?_) (fun c => ?_)
    · rw [youngWords, if_neg (h1 c)]
    · have h2 := h2 (by simpa using c)
      refine Ev.val (impl_YoungWords_l s l hs h2.2 hl h2.1 _ 0 [] rfl (by omega) rfl) ?_
      rw [youngWords, if_pos h2, List.drop_zero]
      cases youngs s l <;> simp [fin]
  unfold impl_YoungWords.f
  refine Ev.bind (impl_SetOk_ev l hl) (Ev.cases (fun c => ?_) (fun c => ?_))
  · have c : setFrom l 0 := by simpa using c
    refine Ev.cases (fun c2 => ?_) (fun c2 => ?_)
    · rw [w64 (x := (s.size : Int) / 64) (by omega) (by omega)]
      refine Ev.bindo (within_f _ _ _) ?_
      refine j _ (fun h x => ?_) (fun h => ⟨c, ?_⟩)
      · have := x.2
        unfold imageOk at this
        simp at h
        omega
      · unfold imageOk
        simp at h
        omega
    · exact j _ (fun _ x => c2 (by have := x.2.1; omega)) (fun h => by cases h)
  · exact j _ (fun _ x => c (by simp [x.1])) (fun h => by cases h)
end Go.Proofs.Ytpeimlpipopeoaa.Pure
namespace Go.Proofs.Ytpeimlpipopeoaa.Pure
open Go.RowKit Go.Proofs.Ytpeimlpipopeoaa.X Go.Proofs.YtpeimlpipopeoaaW.PrintWords Go.Proofs.YtpeimlpipopeoaaW.PrintLast
set_option linter.unusedVariables false
set_option linter.unusedSimpArgs false
/-- The place of a number in a list, from i on; -1 where it is not. -/
def placeFrom (x : Int) : List Int → Int → Int
  | [], _ => -1
  | y :: l, i => if x = y then i else placeFrom x l (i + 1)
theorem placeFrom_cases (x : Int) : ∀ (l : List Int) (i : Int), (placeFrom x l i = -1 ∧ x ∉ l) ∨ ∃ (k : Nat) (h : k < l.length), placeFrom x l i = i + k ∧ l[k] = x
  | [], i => .inl ⟨rfl, by simp⟩
  | y :: l, i => by
    by_cases c : x = y
    · exact .inr ⟨0, by simp, by rw [placeFrom, if_pos c]; simp, by simp [c]⟩
    · rcases placeFrom_cases x l (i + 1) with ⟨h1, h2⟩ | ⟨k, h1, h2, h3⟩
      · exact .inl ⟨by rw [placeFrom, if_neg c, h1], by simp [c, h2]⟩
      · exact .inr ⟨k + 1, by simp; omega, by rw [placeFrom, if_neg c, h2]; omega, by simpa using h3⟩
theorem index_ev (l : List Int) (x : Int) (hl : l.length ≤ 1099511627776) : Ev (fun k => slices_Index_int64_int64.f k l x) (placeFrom x l 0) := by
  have lp : ∀ (d i : Nat), l.length - i = d → i ≤ l.length → Ev (fun k => slices_Index_int64_int64.l0 k l x (l.length : Int) (i : Int)) (placeFrom x (l.drop i) (i : Int)) := by
    intro d
    induction d with
    | zero =>
      intro i hd hi
      rw [List.drop_eq_nil_of_le (by omega)]
      refine Ev.step (fun k => by rw [slices_Index_int64_int64.l0]) ?_
      refine Ev.neg (by omega) (Ev.eq ?_)
      rfl
    | succ d ih =>
      intro i hd hi
      have hlt : i < l.length := by omega
      refine Ev.step (fun k => by rw [slices_Index_int64_int64.l0]) ?_
      rw [rd_get hlt, show wrap64 ((i : Int) + 1) = ((i + 1 : Nat) : Int) from by rw [w64 (by omega) (by omega)]; omega, List.drop_eq_getElem_cons hlt]
      simp only [placeFrom]
      refine Ev.pos (by omega) (Ev.pos (by omega) (Ev.pos (by omega) (Ev.cases (fun c => Ev.eq ?_) (fun c => ?_))))
      · rw [if_pos c]
      · rw [if_neg c]
        exact ih (i + 1) (by omega) (by omega)
  unfold slices_Index_int64_int64.f
  exact lp _ 0 rfl (by omega)
theorem replaced_f (s : ByteArray) (p : Nat) (t : ByteArray) (h : p + t.size ≤ s.size) (hs : s.size ≤ 140737488355328) : impl_replaced.f s (p : Int) t = some (repl s p t) := by
  unfold impl_replaced.f
  have h1 : (s.extract 0 p).size = p := by rw [ByteArray.size_extract]; omega
  rw [w64 (x := (p : Int) + (t.size : Int)) (by omega) (by omega), Int.toNat_natCast, show ((p : Int) + (t.size : Int)).toNat = p + t.size from by omega]
  rw [if_pos (by omega), if_pos (by omega), if_pos (by rw [h1]; omega), if_pos (by omega), if_pos (by omega), if_pos (by rw [ByteArray.size_append, ByteArray.size_extract, ByteArray.size_extract]; omega)]
  rfl
/-- An image whose remembered words are replaced, one after another. -/
def patchL (frm dest : List Int) : ByteArray → List (Int × Int) → ByteArray
  | s, [] => s
  | s, (w, r) :: l => patchL frm dest (if placeFrom r frm 0 ≥ 0 then repl s (8 * w.toNat) (wordB (rd dest (placeFrom r frm 0))) else s) l
theorem patchL_size (frm dest : List Int) : ∀ (l : List (Int × Int)) (s : ByteArray), (∀ x ∈ l, 8 * x.1.toNat + 8 ≤ s.size) → (patchL frm dest s l).size = s.size
  | [], s, _ => rfl
  | (w, r) :: l, s, h => by
    have hw := h (w, r) (List.mem_cons_self ..)
    rw [patchL]
    split
    · have e := repl_size (s := s) (t := wordB (rd dest (placeFrom r frm 0))) (p := 8 * w.toNat) (by rw [wordB_size]; exact hw)
      rw [patchL_size frm dest l _ (fun x hx => by rw [e]; exact h x (List.mem_cons_of_mem _ hx)), e]
    · exact patchL_size frm dest l s (fun x hx => h x (List.mem_cons_of_mem _ hx))
/-- A word that is not remembered stays. -/
theorem patchL_bt (frm dest : List Int) (i : Nat) : ∀ (l : List (Int × Int)) (s : ByteArray), (∀ x ∈ l, 8 * x.1.toNat + 8 ≤ s.size) → (∀ x ∈ l, i < 8 * x.1.toNat ∨ 8 * x.1.toNat + 8 ≤ i) → bt (patchL frm dest s l) (i : Int) = bt s (i : Int)
  | [], s, _, _ => rfl
  | (w, r) :: l, s, h, hd => by
    have hw := h (w, r) (List.mem_cons_self ..)
    have hi := hd (w, r) (List.mem_cons_self ..)
    have hz := wordB_size (rd dest (placeFrom r frm 0))
    rw [patchL]
    split
    · have e := repl_size (s := s) (t := wordB (rd dest (placeFrom r frm 0))) (p := 8 * w.toNat) (by omega)
      rw [patchL_bt frm dest i l _ (fun x hx => by rw [e]; exact h x (List.mem_cons_of_mem _ hx)) (fun x hx => hd x (List.mem_cons_of_mem _ hx)), bt_repl (by omega), if_neg (by simp only [] at hi; omega)]
    · exact patchL_bt frm dest i l s (fun x hx => h x (List.mem_cons_of_mem _ hx)) (fun x hx => hd x (List.mem_cons_of_mem _ hx))
theorem patchL_word (frm dest : List Int) (q : Nat) (l : List (Int × Int)) (s : ByteArray) (h : ∀ x ∈ l, 8 * x.1.toNat + 8 ≤ s.size) (hd : ∀ x ∈ l, x.1.toNat ≠ q) : wordv (patchL frm dest s l) (8 * q) = wordv s (8 * q) := by
  unfold wordv
  refine congrArg wrap64 (be_congr 8 (fun i hi => ?_))
  exact patchL_bt frm dest (8 * q + i) l s h (fun x hx => by have := hd x hx; omega)
theorem noneNeg_ev (dest : List Int) (h : ∀ x ∈ dest, refk x ≠ -1) : Ev (fun k => slices_ContainsFunc_impl_areForwards_1.f k dest) false := by
  unfold slices_ContainsFunc_impl_areForwards_1.f
  induction dest with
  | nil => exact Ev.eq rfl
  | cons x l ih =>
    have ih := ih (fun y hy => h y (List.mem_cons_of_mem _ hy))
    have hx : Ev (fun k => impl_areForwards_1.f k x) false := by
      unfold impl_areForwards_1.f
      refine Ev.bind (impl_RefKind_ev x) (Ev.eq ?_)
      have h1 := h x (List.mem_cons_self ..)
      have h2 := refk_cases x
      simp only [decide_eq_false_iff_not]
      omega
    exact Ev.bind hx (Ev.neg (by simp) ih)
theorem impl_Patched_ev (s : ByteArray) (set frm dest lst : List Int) (hs : s.size ≤ 131072) (hset : set.length ≤ 1099511627776) (hf : frm.length ≤ 1099511627776) (hy : youngWords s set = (lst, true)) (hll : lst.length = set.length) (hle : frm.length = dest.length) (h400 : dest.length ≤ 400) (hto : ∀ x ∈ dest, refk x ≠ -1)
    (hfit : ∀ x ∈ set, 0 ≤ x ∧ 8 * x.toNat + 8 ≤ s.size) : Ev (fun k => impl_Patched.f k s set frm dest) (patchL frm dest s (set.zip lst), true) := by
  unfold impl_Patched.f impl_areForwards.f
  refine Ev.bind (impl_YoungWords_ev s set (by omega) hset) ?_
  rw [hy]
  refine Ev.pos rfl (Ev.bind (Ev.pos (by omega) (Ev.pos (by omega) (Ev.bind (noneNeg_ev dest hto) (Ev.eq rfl)))) ?_)
  refine Ev.step (fun k => by rw [impl_Patched.j0]) (Ev.neg (by simp) ?_)
  simp only []
  have lp : ∀ (d i : Nat) (x : ByteArray), lst.length - i = d → i ≤ lst.length → x.size = s.size → Ev (fun k => impl_Patched.l0 k x set frm dest lst (lst.length : Int) (i : Int)) (patchL frm dest x ((set.zip lst).drop i), true) := by
    intro d
    induction d with
    | zero =>
      intro i x hd hi hx
      rw [List.drop_eq_nil_of_le (by rw [List.length_zip]; omega)]
      refine Ev.step (fun k => by rw [impl_Patched.l0]) ?_
      refine Ev.neg (by omega) (Ev.eq ?_)
      rfl
    | succ d ih =>
      intro i x hd hi hx
      have hlt : i < lst.length := by omega
      have hlt2 : i < set.length := by omega
      have hw := hfit set[i] (List.getElem_mem hlt2)
      have hz : (set.zip lst).drop i = (set[i], lst[i]) :: (set.zip lst).drop (i + 1) := by
        rw [List.drop_eq_getElem_cons (by rw [List.length_zip]; omega), List.getElem_zip]
      refine Ev.step (fun k => by rw [impl_Patched.l0]) ?_
      rw [rd_get hlt, rd_get hlt2, hz, show wrap64 ((i : Int) + 1) = ((i + 1 : Nat) : Int) from by rw [w64 (by omega) (by omega)]; omega]
      refine Ev.pos (by omega) (Ev.pos (by omega) (Ev.pos (by omega) (Ev.bind (index_ev frm lst[i] hf) ?_)))
      rw [patchL]
      have hp := placeFrom_cases lst[i] frm 0
      generalize placeFrom lst[i] frm 0 = p at *
      refine Ev.cases (fun c => ?_) (fun c => ?_)
      · rw [if_pos c]
        obtain ⟨k, hk, e, _⟩ : ∃ (k : Nat) (h : k < frm.length), p = 0 + k ∧ frm[k] = lst[i] := by
          rcases hp with hp | hp
          · omega
          · exact hp
        clear hp
        have hz2 := wordB_size (rd dest p)
        refine Ev.pos (by omega) (Ev.pos (by omega) (Ev.pos (by omega) (Ev.bind (impl_WordBytes_ev _) ?_)))
        rw [w64 (x := 8 * set[i]) (by omega) (by omega), show 8 * set[i] = ((8 * set[i].toNat : Nat) : Int) from by omega]
        refine Ev.bindo (replaced_f x _ _ (by omega) (by omega)) ?_
        exact ih (i + 1) _ (by omega) (by omega) (by rw [repl_size (by omega), hx])
      · rw [if_neg c]
        clear hp
        exact ih (i + 1) x (by omega) (by omega) hx
  exact lp _ 0 s rfl (by omega) rfl
theorem youngWords_true {s : ByteArray} {set lst : List Int} (h : youngWords s set = (lst, true)) : setFrom set 0 ∧ imageOk s ∧ youngs s set = some lst := by
  unfold youngWords at h
  split at h
  · rename_i c
    cases hy : youngs s set with
    | none => rw [hy] at h; simp at h
    | some r =>
      rw [hy] at h
      simp only [Prod.mk.injEq, and_true] at h
      exact ⟨c.1, c.2, by rw [h]⟩
  · simp at h
theorem youngs_fit {s : ByteArray} : ∀ {set lst : List Int}, youngs s set = some lst → ∀ x ∈ set, 8 * x + 8 ≤ s.size
  | [], _, _, x, hx => by simp at hx
  | w :: l, r, h, x, hx => by
    simp only [youngs] at h
    split at h
    · rename_i c
      rcases List.mem_cons.1 hx with rfl | hx
      · exact c.1
      · cases hy : youngs s l with
        | none => rw [hy] at h; simp at h
        | some r2 => exact youngs_fit hy x hx
    · simp at h
end Go.Proofs.Ytpeimlpipopeoaa.Pure
namespace Go.Proofs.Ytpeimlpipopeoaa.Pure
open Go.RowKit Go.Proofs.Ytpeimlpipopeoaa.X Go.Proofs.YtpeimlpipopeoaaW.PrintWords Go.Proofs.YtpeimlpipopeoaaW.PrintLast
set_option linter.unusedVariables false
set_option linter.unusedSimpArgs false
/-- A word's own bytes laid into it change nothing. -/
theorem byte_word (s : ByteArray) (p i : Nat) (hi : i < 8) : bt (wordB (wordv s p)) (i : Int) = bt s ((p + i : Nat) : Int) := by
  have h0 := bt_byte s p 0
  have h1 := bt_byte s p 1
  have h2 := bt_byte s p 2
  have h3 := bt_byte s p 3
  have h4 := bt_byte s p 4
  have h5 := bt_byte s p 5
  have h6 := bt_byte s p 6
  have h7 := bt_byte s p 7
  have hr := be_range (fun i => bt s ((p + i : Nat) : Int)) (fun i => bt_byte s p i) 8
  have hB : ∀ B : Int, 0 ≤ B → B < 18446744073709551616 → wrap64 B % 18446744073709551616 = B := fun B _ _ => by unfold wrap64; omega
  rw [bt_bytesOf, wordB, bytesOf_strOfNums (wordL_isBytes _), wrap_u64, wordv, hB _ hr.1 (by have := hr.2; simpa using this)]
  clear hr hB
  simp only [be]
  obtain rfl | rfl | rfl | rfl | rfl | rfl | rfl | rfl : i = 0 ∨ i = 1 ∨ i = 2 ∨ i = 3 ∨ i = 4 ∨ i = 5 ∨ i = 6 ∨ i = 7 := by omega
  all_goals
    simp only [wordL, List.getD_cons_zero, List.getD_cons_succ, byte8, Nat.mul_zero, Nat.sub_zero, Nat.reduceMul, Nat.reduceSub, Int.reducePow, Int.pow_zero, Int.ediv_one]
    generalize bt s ((p + 0 : Nat) : Int) = b0 at *
    generalize bt s ((p + 1 : Nat) : Int) = b1 at *
    generalize bt s ((p + 2 : Nat) : Int) = b2 at *
    generalize bt s ((p + 3 : Nat) : Int) = b3 at *
    generalize bt s ((p + 4 : Nat) : Int) = b4 at *
    generalize bt s ((p + 5 : Nat) : Int) = b5 at *
    generalize bt s ((p + 6 : Nat) : Int) = b6 at *
    generalize bt s ((p + 7 : Nat) : Int) = b7 at *
    omega
theorem young_word {s : ByteArray} : ∀ {set lst : List Int}, youngs s set = some lst → ∀ (i : Nat) (h : i < set.length) (h2 : i < lst.length), lst[i] = wordv s (8 * set[i].toNat)
  | [], r, h => by simp [youngs] at h; subst h; simp
  | w :: l, r, h => by
    simp only [youngs] at h
    split at h
    · cases hy : youngs s l with
      | none => rw [hy] at h; simp at h
      | some r2 =>
        rw [hy] at h
        obtain rfl : wordv s (8 * w.toNat) :: r2 = r := by simpa using h
        intro i hi hi2
        cases i with
        | zero => rfl
        | succ i => exact young_word hy i (by simpa using hi) (by simpa using hi2)
    · simp at h
theorem repl_self (s : ByteArray) (p : Nat) (h : p + 8 ≤ s.size) : repl s p (wordB (wordv s p)) = s := by
  have hz := wordB_size (wordv s p)
  have hs : (repl s p (wordB (wordv s p))).size = s.size := repl_size (by omega)
  have e := extract_ext (s := repl s p (wordB (wordv s p))) (t := s) (a := 0) (b := s.size) (by omega) (by omega) (fun i _ hi => by
    rw [bt_repl (by omega)]
    split
    · rename_i c
      have := byte_word s p (i - p) (by omega)
      rw [this, show p + (i - p) = i from by omega]
    · rfl)
  have f : ∀ x : ByteArray, x.extract 0 x.size = x := fun x => bytesOf_inj (by rw [bytesOf_cut, List.drop_zero, Nat.sub_zero, List.take_of_length_le (by rw [bytesOf_length]; omega)])
  have e1 := f (repl s p (wordB (wordv s p)))
  rw [hs] at e1
  rw [← e1, e, f]
def destOf (dest : List Int) (r p : Int) : Int := if p ≥ 0 then rd dest p else r
theorem l4To_ev (r : Int) (frm dest : List Int) (hle : frm.length = dest.length) (hl : frm.length ≤ 1099511627776) : Ev (fun k => spec_l4To.f k r frm dest) (destOf dest r (placeFrom r frm 0)) := by
  have lp : ∀ (d i : Nat), frm.length - i = d → i ≤ frm.length → Ev (fun k => spec_l4To.l0 k r frm dest (i : Int)) (destOf dest r (placeFrom r (frm.drop i) (i : Int))) := by
    intro d
    induction d with
    | zero =>
      intro i hd hi
      rw [List.drop_eq_nil_of_le (by omega)]
      refine Ev.step (fun k => by rw [spec_l4To.l0]) ?_
      exact Ev.neg (by omega) (Ev.eq rfl)
    | succ d ih =>
      intro i hd hi
      have hlt : i < frm.length := by omega
      have ih := ih (i + 1) (by omega) (by omega)
      refine Ev.step (fun k => by rw [spec_l4To.l0]) ?_
      rw [rd_get hlt, show wrap64 ((i : Int) + 1) = ((i + 1 : Nat) : Int) from by rw [w64 (by omega) (by omega)]; omega, List.drop_eq_getElem_cons hlt]
      refine Ev.pos (by omega) ?_
      refine Ev.pos (by omega) ?_
      simp only [placeFrom]
      refine Ev.cases (fun c => ?_) (fun c => ?_)
      · rw [if_pos c.symm]
        refine Ev.pos (by omega) ?_
        rw [destOf, if_pos (by omega)]
        exact Ev.eq rfl
      · rw [if_neg (fun h => c h.symm)]
        exact ih
  exact lp _ 0 rfl (by omega)
theorem anyNeg_ev (dest : List Int) : Ev (fun k => slices_ContainsFunc_impl_areForwards_1.f k dest) (dest.any fun x => decide (refk x < 0)) := by
  unfold slices_ContainsFunc_impl_areForwards_1.f
  induction dest with
  | nil => exact Ev.eq rfl
  | cons x l ih =>
    have hx : Ev (fun k => impl_areForwards_1.f k x) (decide (refk x < 0)) := by
      unfold impl_areForwards_1.f
      exact Ev.bind (impl_RefKind_ev x) (Ev.eq rfl)
    rw [List.any_cons]
    refine Ev.bind hx (Ev.cases (fun c => ?_) (fun c => ?_))
    · rw [c, Bool.true_or]; exact Ev.eq rfl
    · rw [Bool.eq_false_iff.2 c, Bool.false_or]; exact ih
theorem bad_ev (dest : List Int) : Ev (fun k => spec_Patched.bad k dest) (dest.any fun x => decide (refk x < 0)) := by
  unfold spec_Patched.bad
  induction dest with
  | nil => exact Ev.eq rfl
  | cons x l ih =>
    rw [List.any_cons]
    refine Ev.bind (Ev.bind (spec_RefKind_ev x) (Ev.eq rfl)) (Ev.cases (fun c => ?_) (fun c => ?_))
    · rw [c, Bool.true_or]; exact Ev.eq rfl
    · rw [Bool.eq_false_iff.2 c, Bool.false_or]; exact ih
theorem spec_l1_ev (set lst frm dest : List Int) (hle : frm.length = dest.length) (hl : frm.length ≤ 1099511627776) (hll : lst.length = set.length)
    (hinc : ∀ i j (hi : i < set.length) (hj : j < set.length), i < j → set[i] < set[j]) (h0 : ∀ x ∈ set, 0 ≤ x) :
    ∀ (n : Nat) (s : ByteArray), n ≤ set.length → (∀ x ∈ set, 8 * x.toNat + 8 ≤ s.size) → (∀ j (h : j < set.length) (h2 : j < lst.length), set.length - n ≤ j → lst[j] = wordv s (8 * set[j].toNat)) →
      Ev (fun k => spec_Patched.l1 k set lst frm dest n s) (patchL frm dest s ((set.zip lst).drop (set.length - n))) := by
  intro n
  induction n with
  | zero =>
    intro s _ _ _
    rw [List.drop_eq_nil_of_le (by rw [List.length_zip]; omega)]
    exact Ev.eq rfl
  | succ n ih =>
    intro s hn hfit hw
    have hlt : set.length - (n + 1) < set.length := by omega
    have hlt2 : set.length - (n + 1) < lst.length := by omega
    have hd : (set.zip lst).drop (set.length - (n + 1)) = (set[set.length - (n + 1)], lst[set.length - (n + 1)]) :: (set.zip lst).drop (set.length - n) := by
      rw [List.drop_eq_getElem_cons (by rw [List.length_zip]; omega), List.getElem_zip, show set.length - (n + 1) + 1 = set.length - n from by omega]
    rw [hd]
    have hwi := hw _ hlt hlt2 (Nat.le_refl _)
    have hf := hfit _ (List.getElem_mem hlt)
    have hp := h0 _ (List.getElem_mem hlt)
    have hin := fun j (hj : j < set.length) (h : set.length - (n + 1) < j) => hinc _ j hlt hj h
    simp only [spec_Patched.l1, rd_get hlt, rd_get hlt2, patchL]
    generalize set[set.length - (n + 1)] = x at *
    generalize lst[set.length - (n + 1)] = y at *
    refine Ev.pos hp ?_
    refine Ev.pos (by omega) ?_
    refine Ev.bind (l4To_ev y frm dest hle hl) ?_
    refine Ev.bind (spec_WordBytes_ev _) ?_
    refine Ev.pos (wordB_size _) ?_
    have hnew : ∀ t : ByteArray, t.size = 8 → (∀ z ∈ set, 8 * z.toNat + 8 ≤ (repl s (8 * x.toNat) t).size) ∧ (∀ j (h : j < set.length) (h2 : j < lst.length), set.length - n ≤ j → lst[j] = wordv (repl s (8 * x.toNat) t) (8 * set[j].toNat)) := by
      intro t ht
      have hs : (repl s (8 * x.toNat) t).size = s.size := repl_size (by omega)
      refine ⟨fun z hz => by rw [hs]; exact hfit z hz, fun j hj h2 hj2 => ?_⟩
      have h1 := hin j hj (by omega)
      have h3 := h0 _ (List.getElem_mem hj)
      rw [hw j hj h2 (by omega)]
      exact (wordv_repl_other (by omega) (by omega)).symm
    have hstep := fun t ht => ih (repl s (8 * x.toNat) t) (by omega) (hnew t ht).1 (hnew t ht).2
    unfold destOf
    by_cases c : placeFrom y frm 0 ≥ 0
    · rw [if_pos c, if_pos c]
      exact hstep _ (wordB_size _)
    · rw [if_neg c, if_neg c]
      have hst := hstep (wordB y) (wordB_size _)
      have e : repl s (8 * x.toNat) (wordB y) = s := by rw [hwi]; exact repl_self s _ hf
      rw [e] at hst
      have e2 : putB s (8 * x.toNat) (wordB y) = s := e
      rw [e2]
      exact hst
/-- What both come to. -/
def patched (s : ByteArray) (set frm dest : List Int) : ByteArray × Bool :=
  if (youngWords s set).2 = true then (if frm.length = dest.length ∧ dest.length ≤ 400 then (if (dest.any fun x => decide (refk x < 0)) = true then (ByteArray.empty, false) else (patchL frm dest s (set.zip (youngWords s set).1), true)) else (ByteArray.empty, false)) else (ByteArray.empty, false)
theorem young_facts {s : ByteArray} {set lst : List Int} (hy : youngWords s set = (lst, true)) : s.size ≤ 131072 ∧ lst.length = set.length ∧ (∀ x ∈ set, 0 ≤ x ∧ 8 * x.toNat + 8 ≤ s.size) ∧ (∀ i j (hi : i < set.length) (hj : j < set.length), i < j → set[i] < set[j]) ∧ (∀ j (h : j < set.length) (h2 : j < lst.length), lst[j] = wordv s (8 * set[j].toNat)) := by
  obtain ⟨hset, himg, hys⟩ := youngWords_true hy
  have hfit0 := youngs_fit hys
  have hmem0 : ∀ x ∈ set, 0 ≤ x ∧ x ≤ 1023 := by
    intro x hx
    obtain ⟨j, hj, rfl⟩ := List.getElem_of_mem hx
    exact ⟨(hset j hj (by omega)).1, (hset j hj (by omega)).2.1⟩
  refine ⟨?_, youngs_length hys, fun x hx => ?_, ?_, ?_⟩
  · unfold imageOk at himg
    omega
  · have := hmem0 x hx
    have := hfit0 x hx
    omega
  · intro i j hi
    induction j with
    | zero => intro _ h; omega
    | succ j ih =>
      intro hj hij
      have h1 := (hset (j + 1) hj (by omega)).2.2 (by omega)
      simp only [Nat.add_sub_cancel] at h1
      by_cases e : i = j
      · subst e; exact h1
      · have := ih (by omega) (by omega)
        omega
  · exact fun j h h2 => young_word hys j h h2
theorem spec_Patched_ev (s : ByteArray) (set frm dest : List Int) (hs : s.size ≤ 1048576) (hset : set.length ≤ 1099511627776) (hf : frm.length ≤ 1099511627776) : Ev (fun k => spec_Patched.f k s set frm dest) (patched s set frm dest) := by
  unfold spec_Patched.f patched
  refine Ev.bind (spec_YoungWords_ev s set (by omega) hset) ?_
  cases hy : youngWords s set with
  | mk lst ok =>
  simp only []
  refine Ev.cases (fun c => ?_) (fun c => ?_)
  · subst c
    obtain ⟨hsz, hll, hfit, hinc, hw⟩ := young_facts hy
    rw [if_pos rfl]
    refine Ev.cases (fun c1 => ?_) (fun c1 => ?_)
    · refine Ev.cases (fun c2 => ?_) (fun c2 => ?_)
      · rw [if_pos ⟨c1, by omega⟩]
        refine Ev.bind (bad_ev dest) ?_
        refine Ev.cases (fun c3 => ?_) (fun c3 => ?_)
        · rw [if_pos c3]
          exact Ev.eq rfl
        · rw [if_neg c3]
          refine Ev.pos hs ?_
          refine Ev.pos hll ?_
          have h := spec_l1_ev set lst frm dest c1 hf hll hinc (fun x hx => (hfit x hx).1) set.length s (Nat.le_refl _) (fun x hx => (hfit x hx).2) (fun j h h2 _ => hw j h h2)
          rw [Nat.sub_self, List.drop_zero] at h
          exact Ev.bind h (Ev.eq rfl)
      · rw [if_neg (fun h => c2 (by omega))]
        exact Ev.eq rfl
    · rw [if_neg (fun h => c1 h.1)]
      exact Ev.eq rfl
  · rw [if_neg c]
    exact Ev.eq rfl
theorem impl_Patched_all (s : ByteArray) (set frm dest : List Int) (hs : s.size ≤ 1048576) (hset : set.length ≤ 1099511627776) (hf : frm.length ≤ 1099511627776) (hd : dest.length ≤ 1099511627776) : Ev (fun k => impl_Patched.f k s set frm dest) (patched s set frm dest) := by
  have bad : ∀ b : Bool, Ev (fun k => impl_areForwards.f k frm dest) b → b = false → (youngWords s set).2 = true → Ev (fun k => impl_Patched.f k s set frm dest) (ByteArray.empty, false) := by
    intro b h hb hy
    subst hb
    unfold impl_Patched.f
    refine Ev.bind (impl_YoungWords_ev s set (by omega) hset) ?_
    refine Ev.pos hy ?_
    refine Ev.bind h ?_
    refine Ev.step (fun k => by rw [impl_Patched.j0]) ?_
    exact Ev.pos rfl (Ev.eq rfl)
  unfold patched
  cases hy : youngWords s set with
  | mk lst ok =>
  simp only []
  cases ok with
  | false =>
    rw [if_neg (by simp)]
    unfold impl_Patched.f
    refine Ev.bind (impl_YoungWords_ev s set (by omega) hset) ?_
    rw [hy]
    refine Ev.neg (by simp) ?_
    refine Ev.step (fun k => by rw [impl_Patched.j0]) ?_
    exact Ev.pos rfl (Ev.eq rfl)
  | true =>
    obtain ⟨hsz, hll, hfit, hinc, hw⟩ := young_facts hy
    have hy2 : (youngWords s set).2 = true := by rw [hy]
    rw [if_pos rfl]
    by_cases c1 : frm.length = dest.length
    · by_cases c2 : dest.length ≤ 400
      · rw [if_pos ⟨c1, c2⟩]
        by_cases c3 : (dest.any fun x => decide (refk x < 0)) = true
        · rw [if_pos c3]
          refine bad (!(dest.any fun x => decide (refk x < 0))) ?_ (by rw [c3]; rfl) hy2
          unfold impl_areForwards.f
          exact Ev.pos (by omega) (Ev.pos (by omega) (Ev.bind (anyNeg_ev dest) (Ev.eq rfl)))
        · rw [if_neg c3]
          refine impl_Patched_ev s set frm dest lst hsz hset hf hy hll c1 c2 (fun x hx hneg => c3 ?_) hfit
          exact List.any_eq_true.2 ⟨x, hx, by rw [hneg]; decide⟩
      · rw [if_neg (fun h => c2 h.2)]
        refine bad false ?_ rfl hy2
        unfold impl_areForwards.f
        exact Ev.pos (by omega) (Ev.neg (by omega) (Ev.eq rfl))
    · rw [if_neg (fun h => c1 h.1)]
      refine bad false ?_ rfl hy2
      unfold impl_areForwards.f
      exact Ev.neg (by omega) (Ev.eq rfl)
theorem FnExactPatched : laws_FnExactPatched.Pure := by
  intro s l1 l2 l3 hs _ h8 _ _ h82 _ _ h83 _
  refine Ev.rounds ?_
  unfold laws_FnExactPatched.f
  refine Ev.cases (fun _ => Ev.eq rfl) (fun h0 => Ev.cases (fun _ => Ev.eq rfl) (fun h1 => Ev.cases (fun _ => Ev.eq rfl) (fun h2 => Ev.cases (fun _ => Ev.eq rfl) (fun h3 => ?_))))
  have hl1 : l1.length ≤ 1099511627776 := by omega
  have hl2 : l2.length ≤ 1099511627776 := by omega
  have hl3 : l3.length ≤ 1099511627776 := by omega
  have e1 := spec_Patched_ev s l1 l2 l3 (by omega) hl1 hl2
  have e2 := impl_Patched_all s l1 l2 l3 (by omega) hl1 hl2 hl3
  generalize patched s l1 l2 l3 = r at *
  refine Ev.bind (toInt64S_ev l1 hl1) (Ev.bind (toInt64S_ev l2 hl2) (Ev.bind (toInt64S_ev l3 hl3) (Ev.bind e1 (Ev.bind (toInt64S_ev l1 hl1) (Ev.bind (toInt64S_ev l2 hl2) (Ev.bind (toInt64S_ev l3 hl3) (Ev.bind e2 ?_)))))))
  refine Ev.pos rfl ?_
  refine Ev.step (fun k => by rw [laws_FnExactPatched.j0]) ?_
  refine Ev.neg (by simp) ?_
  exact Ev.bind (toInt64S_ev l1 hl1) (Ev.bind (eqInt64S_same l1 hl1) (Ev.pos rfl (Ev.bind (toInt64S_ev l2 hl2) (Ev.bind (eqInt64S_same l2 hl2) (Ev.pos rfl (Ev.bind (toInt64S_ev l3 hl3) (Ev.bind (eqInt64S_same l3 hl3) (Ev.pos rfl (Ev.eq rfl)))))))))
end Go.Proofs.Ytpeimlpipopeoaa.Pure
namespace Go.Proofs.Ytpeimlpipopeoaa.fnExactPatched
open Go.ChangeShapes Go.WideShapes Go.ChangeAt Go.RowKit
open Go.ChangeMaps (open_string shut_string)
set_option linter.unusedVariables false
theorem own : ownKnob Try.prog.godebug = none := by kernel_rfl
theorem laidOut : laidOutB Try.prog = true := by kernel_rfl
def IsRow (k : IntKind) (w : World) (a : Option Addr) (len cap : Nat) (zs : List Int) : Prop :=
  (a = none ∧ len = 0 ∧ cap = 0 ∧ zs = []) ∨
  ∃ x, a = some x ∧ len ≤ cap ∧ cap ≤ maxLen ∧ zs.length = cap ∧ (∀ i, i < zs.length → w.cell? (x.add i) = some (.int k (zs.getD i 0))) ∧ ∀ n ∈ zs, (Lit.int k n).wf = true
set_option maxRecDepth 100000 in
theorem lifted (os : Os) (started : os.Started) (H : Type) (enc : TypeId × Value → H) :
    ReturnsInHanded {} Try.checked os 7 .any (Rows.fnExactPatchedSpec.pre6 enc Try.prog Try.f7 Rows.fnExactPatchedRow.domain false) (Rows.fnExactPatchedSpec.post enc Try.prog Try.f7 false true false false) := by
  refine returnsInHanded_of_change_sized (C := Try.checked) own started (by kernel_rfl) Try.func7
    (ChangeSpec.witness6 (enc := enc) (C := Try.checked) false ⟨#[], #[.string ByteArray.empty, .slice none 0 0, .slice none 0 0, .slice none 0 0], []⟩ 8 (by kernel_rfl) (by kernel_rfl) (by kernel_rfl) (by kernel_rfl)) ?_
  intro W base args ds gs before hval0 hW hcnd hsz0 _
  have hsz : (DataW.weightsEach Try.prog (Try.f7.params.toList ++ Rows.fnExactPatchedSpec.plain.varTypes Try.prog) (ds ++ gs)).all (· ≤ reachBytes) = true := hsz0
  have hval : ∀ (j : Nat) t v, Try.f7.params[j]? = some t → args[j]? = some v → Value.okWide Try.prog W .any base t v := hval0
  have hW' := hW
  obtain ⟨p, q, hA0, hV, rfl, hfz, hnd⟩ := hW
  have hA : DataW.TrodAll enc Try.prog W 0 (fun _ => true) true Try.f7.params.toList args.toList ds p := hA0
  rw [Try.params7] at hA hval hsz
  obtain ⟨v0, vs0, d0, ds0, p0, q0, hargs, rfl, rfl, h0, r0⟩ := trodAll_cons hA
  obtain ⟨v1, vs1, d1, ds1, p1, q1, rfl, rfl, rfl, h1, r1⟩ := trodAll_cons r0
  obtain ⟨v2, vs2, d2, ds2, p2, q2, rfl, rfl, rfl, h2, r2⟩ := trodAll_cons r1
  obtain ⟨v3, vs3, d3, ds3, p3, q3, rfl, rfl, rfl, h3, r3⟩ := trodAll_cons r2
  obtain ⟨rfl, rfl, rfl⟩ := trodAll_nil r3
  obtain rfl : args = #[v0, v1, v2, v3] := by cases args; simp_all
  obtain ⟨rfl, rfl⟩ := trodVars_none hV
  obtain ⟨a0, rfl, rfl, rfl, y0⟩ := open_string Try.underlying9 (hval 0 9 v0 rfl rfl) h0
  have w0 : a0.size ≤ 140737488351232 := by
    have z := sized_string hsz (j := 0) (t := 9) rfl rfl
    rw [Array.length_toList] at z
    exact z
  obtain ⟨a1, len1, cap1, rfl⟩ := okWide_slice Try.underlying22 (hval 1 22 v1 rfl rfl)
  have k1 := h1
  have lt1 : ∀ x ∈ p1, x.block < W.heap.size := by obtain ⟨m, hm⟩ := k1; exact DataW.trod_lt m _ _ _ hm
  obtain ⟨z1, w1⟩ : ∃ zs, IsRow .i64 W a1 len1 cap1 zs := by
    obtain ⟨fuel, hf⟩ := h1
    rcases open_ints Try.underlying22 Try.underlying2 (by kernel_rfl) hf with ⟨hcs, _⟩ | ⟨x, l, c, zs, hcs, _, hl, hm, hz, _, hcell, hwz⟩
    · simp [Value.cells] at hcs
      obtain ⟨rfl, rfl, rfl⟩ := hcs
      exact ⟨[], .inl ⟨rfl, rfl, rfl, rfl⟩⟩
    · simp [Value.cells] at hcs
      obtain ⟨rfl, rfl, rfl⟩ := hcs
      exact ⟨zs, .inr ⟨_, rfl, hl, hm, by simpa using hz, hcell, hwz⟩⟩
  have y1 : len1 * 8 ≤ 140737488351232 := Go.Proofs.YtpeimlpipopeoaaW.PrintWords.sized_ints hsz (j := 1) (t := 22) rfl rfl Try.underlying22 Try.underlying2 (by kernel_rfl) (by kernel_rfl) h1
  obtain ⟨a2, len2, cap2, rfl⟩ := okWide_slice Try.underlying22 (hval 2 22 v2 rfl rfl)
  have k2 := h2
  have lt2 : ∀ x ∈ p2, x.block < W.heap.size := by obtain ⟨m, hm⟩ := k2; exact DataW.trod_lt m _ _ _ hm
  obtain ⟨z2, w2⟩ : ∃ zs, IsRow .i64 W a2 len2 cap2 zs := by
    obtain ⟨fuel, hf⟩ := h2
    rcases open_ints Try.underlying22 Try.underlying2 (by kernel_rfl) hf with ⟨hcs, _⟩ | ⟨x, l, c, zs, hcs, _, hl, hm, hz, _, hcell, hwz⟩
    · simp [Value.cells] at hcs
      obtain ⟨rfl, rfl, rfl⟩ := hcs
      exact ⟨[], .inl ⟨rfl, rfl, rfl, rfl⟩⟩
    · simp [Value.cells] at hcs
      obtain ⟨rfl, rfl, rfl⟩ := hcs
      exact ⟨zs, .inr ⟨_, rfl, hl, hm, by simpa using hz, hcell, hwz⟩⟩
  have y2 : len2 * 8 ≤ 140737488351232 := Go.Proofs.YtpeimlpipopeoaaW.PrintWords.sized_ints hsz (j := 2) (t := 22) rfl rfl Try.underlying22 Try.underlying2 (by kernel_rfl) (by kernel_rfl) h2
  obtain ⟨a3, len3, cap3, rfl⟩ := okWide_slice Try.underlying22 (hval 3 22 v3 rfl rfl)
  have k3 := h3
  have lt3 : ∀ x ∈ p3, x.block < W.heap.size := by obtain ⟨m, hm⟩ := k3; exact DataW.trod_lt m _ _ _ hm
  obtain ⟨z3, w3⟩ : ∃ zs, IsRow .i64 W a3 len3 cap3 zs := by
    obtain ⟨fuel, hf⟩ := h3
    rcases open_ints Try.underlying22 Try.underlying2 (by kernel_rfl) hf with ⟨hcs, _⟩ | ⟨x, l, c, zs, hcs, _, hl, hm, hz, _, hcell, hwz⟩
    · simp [Value.cells] at hcs
      obtain ⟨rfl, rfl, rfl⟩ := hcs
      exact ⟨[], .inl ⟨rfl, rfl, rfl, rfl⟩⟩
    · simp [Value.cells] at hcs
      obtain ⟨rfl, rfl, rfl⟩ := hcs
      exact ⟨zs, .inr ⟨_, rfl, hl, hm, by simpa using hz, hcell, hwz⟩⟩
  have y3 : len3 * 8 ≤ 140737488351232 := Go.Proofs.YtpeimlpipopeoaaW.PrintWords.sized_ints hsz (j := 3) (t := 22) rfl rfl Try.underlying22 Try.underlying2 (by kernel_rfl) (by kernel_rfl) h3
  clear hA0 hval0 hsz0 hsz
  refine (X.laws_FnExactPatched.walk Pure.FnExactPatched a0 a1 len1 cap1 z1 a2 len2 cap2 z2 a3 len3 cap3 z3 W w0 w1 y1 w2 y2 w3 y3).mono fun e W' ⟨he, bel⟩ => ?_
  subst he
  exact ⟨_, rfl, _, _, _, [], _, [], hW', trodAll_mk1 (shut_bool Try.underlying4 _), (trodAll_cons_mk (shut_string Try.underlying9 y0) (trodAll_cons_mk (Below.trod laidOut (by kernel_rfl) (of_decide_eq_true (by kernel_rfl)) k1 bel lt1) (trodAll_cons_mk (Below.trod laidOut (by kernel_rfl) (of_decide_eq_true (by kernel_rfl)) k2 bel lt2) (trodAll_cons_mk (Below.trod laidOut (by kernel_rfl) (of_decide_eq_true (by kernel_rfl)) k3 bel lt3) trodAll_mk0)))), rfl, bel.frame _, fun h => by cases h⟩
theorem over : Rows.fnExactPatchedRow.holds Try.pinned (OpenSpec.ofChange Rows.fnExactPatchedSpec) :=
  OpenClaim.holds_of_wide 7 Try.f7 rfl rfl rfl rfl rfl rfl rfl ⟨rfl, rfl, rfl, rfl, rfl⟩ rfl rfl rfl rfl rfl (by kernel_rfl) Try.func7 (by kernel_rfl)
    (of_decide_eq_true (by kernel_rfl)) (by unfold Func.isWrapper; first | (rw [if_pos (by decide +kernel)]; kernel_rfl) | (rw [if_neg (by decide +kernel)]; exact ⟨rfl, rfl⟩))
    (fun os started H enc _ => lifted os started H enc)
theorem proved : Rows.FnExactPatchedSaid := over
#print axioms proved
end Go.Proofs.Ytpeimlpipopeoaa.fnExactPatched
namespace Go.Proofs.Ytpeimlpipopeoaa
/-- The row, under a short name, for the claim. -/
theorem fnExactPatched_holds : Rows.FnExactPatchedSaid := fnExactPatched.proved
end Go.Proofs.Ytpeimlpipopeoaa
