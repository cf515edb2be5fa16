/- The drawn map, area and length of FindRun. For codes of at most 2^40 bytes. (Merged out of this claim's own texts.) -/
import Derived.Test.YtnhladaobcnmhaaBFnRoom3
import Derived.Test.YtnhladaobcnmhaaRows
import Derived.WalkKit
import Derived.ProofKit
import Derived.OpenShut
import Derived.ShutString
import Derived.ChangeOld
import Derived.Below
import Derived.SizedLaws
import Derived.Test.YtnhladaobcnmhaaWSized
namespace Go.Proofs.Ytnhladaobcnmhaa.X
open Go.RowKit Go.Proofs.YtnhladaobcnmhaaW.PrintWords Go.Proofs.YtnhladaobcnmhaaW.PrintLast Go.Proofs.YtnhladaobcnmhaaW.PrintMore
attribute [local go_sem] max2_int min2_int max_two min_two max_three min_three max_four min_four   -- for this text's walks alone
set_option linter.unusedVariables false
set_option linter.unusedSimpArgs false

/-! ### impl_MapOf: function 35 -/
def impl_MapOf.l0 : Nat → List Int → ByteArray → List Int → Int → Int → Option (ByteArray)
  | 0, _, _, _, _, _ => none
  | k + 1, x0, x3, x7, x8, x9 => if x9 < x8 then (if 0 ≤ x9 then (if x9 < (x7.length : Int) then ((impl_within.f (rd x7 x9) 0 127).bind fun t503 => (if t503 = true then (if x9 > 0 then (if 0 ≤ (wrap64 (x9 - 1)) then (if (wrap64 (x9 - 1)) < (x0.length : Int) then (if (rd x7 x9) ≤ (rd x0 (wrap64 (x9 - 1))) then (some (⟨#[]⟩ : ByteArray)) else ((impl_changedMap.f x3 (rd x7 x9) 1 true).bind fun t505 => (impl_MapOf.l0 k x0 t505 x7 x8 (wrap64 (x9 + 1))))) else (none)) else (none)) else ((impl_changedMap.f x3 (rd x7 x9) 1 true).bind fun t506 => (impl_MapOf.l0 k x0 t506 x7 x8 (wrap64 (x9 + 1))))) else (some (⟨#[]⟩ : ByteArray)))) else (none)) else (none)) else (some x3)
def impl_MapOf.f (k : Nat) (l0 : List Int) : Option (ByteArray) := (impl_zeros.f 64).bind fun t501 => (impl_MapOf.l0 k l0 t501 l0 (l0.length : Int) 0)
theorem impl_MapOf.mono_l : ∀ k, (∀ y0 y1 y2 y3 y4, LeO (impl_MapOf.l0 k y0 y1 y2 y3 y4) (impl_MapOf.l0 (k + 1) y0 y1 y2 y3 y4))
  | 0 => fun _ _ _ _ _ r h => by simp [impl_MapOf.l0] at h
  | k + 1 => by
    have ih0 := impl_MapOf.mono_l k
    · intro y0 y1 y2 y3 y4
      unfold impl_MapOf.l0
      repeat' first
      | (with_reducible exact ih0 _ _ _ _ _)
      | (with_reducible exact LeO.refl _)
      | (with_reducible exact LeO.none _)
      | (with_reducible refine LeO.ite ?_ ?_)
      | (with_reducible refine LeO.bind ?_ (fun _ => ?_))
      | exact ih0 _ _ _ _ _
      | exact LeO.none _
      | refine LeO.ite ?_ ?_
      | refine LeO.bind ?_ (fun _ => ?_)
theorem impl_MapOf.mono : ∀ a0 k, LeO (impl_MapOf.f k a0) (impl_MapOf.f (k + 1) a0) := by
  intro a0 k
  have ih0 := impl_MapOf.mono_l k
  unfold impl_MapOf.f
  repeat' first
      | (with_reducible exact ih0 _ _ _ _ _)
      | (with_reducible exact LeO.refl _)
      | (with_reducible exact LeO.none _)
      | (with_reducible refine LeO.ite ?_ ?_)
      | (with_reducible refine LeO.bind ?_ (fun _ => ?_))
      | exact ih0 _ _ _ _ _
      | exact LeO.none _
      | refine LeO.ite ?_ ?_
      | refine LeO.bind ?_ (fun _ => ?_)
set_option maxHeartbeats 8000000 in
set_option maxRecDepth 100000 in
theorem impl_MapOf.calls (k : Nat) (A0 : Option Addr) (c0 : Nat) (l0 : List Int) (r : ByteArray) (w : World) (hr0 : Kd.C (Kd.int .i64) w A0 l0.length l0) (hc0 : l0.length ≤ c0) (h : impl_MapOf.f k l0 = some r) :
    Calls Try.prog 35 #[.slice A0 l0.length c0] w fun e w' => e = .returned (.string r) ∧ Below w.heap.size w w' := by
  have HR0 := Aside0.mk hr0
  have HC0 := Aside0.mk hc0
  clear hr0 hc0
  have HB := Aside0.mk (Below.refl w.heap.size w)
  have H : ((impl_zeros.f 64).bind fun t501 => (impl_MapOf.l0 k l0 t501 l0 (l0.length : Int) 0)) = some r := h
  clear h
  replace H := Option.bind_eq_some_iff.mp H
  obtain ⟨t501, A20, H⟩ := H
  replace H : (impl_MapOf.l0 k l0 t501 l0 (l0.length : Int) 0) = some r := H
  have A2 := Aside0.mk A20
  clear A20
  have H' := Aside0.mk H
  clear H
  go_enter Try.func35, Try.ntmps35
  go_wp2_with (first | ((with_reducible refine gate_callee (f := 83) rfl ?_); refine goesL_ (some 6) rfl rfl Try.func83 (by kernel_rfl) rfl #[.int .i64 64] rfl (by (try simp only [List.map_toArray, List.map_cons, List.map_nil]); first | done | rfl | (simp only [List.length_drop, List.length_take]; rfl)) ?_; (with_reducible refine (impl_zeros.calls 64 t501 _ A2.out).mono ?_); rintro e w3 ⟨rfl, hb⟩; refine ⟨_, rfl, ?_⟩; have n0_ := Aside0.mk (below_step (by repeat (first | (with_reducible first | exact HB.out | apply below_alloc | apply pw_below_drewN | apply below_drew1) | exact HB.out)) hb); clear HB; have HB := n0_; clear n0_; (try clear hb); (try clear hb2); (try clear hk); (try clear hi)))
  go_loopg [3, 9] k (fun kq v3 v9 w' => ∃ (x3_1 : ByteArray) (x9_1 : Int), v3 = .string x3_1 ∧ v9 = .int .i64 x9_1 ∧ Aside0 (impl_MapOf.l0 kq l0 x3_1 l0 (l0.length : Int) x9_1 = some r) ∧ Aside0 (kq ≤ k) ∧ Aside0 (Below w.heap.size w w'))
  case atStart => exact ⟨(t501), (0), (by first | rfl | (simp; done) | (simp [*]; done)), (by first | rfl | (simp; done) | (simp [*]; done)), H', ⟨Nat.le_refl _⟩, ⟨by repeat (first | (with_reducible first | exact HB.out | apply below_alloc | apply pw_below_drewN | apply below_drew1) | exact HB.out)⟩⟩
  case round =>
    clear H'
    try clear p2
    try clear c3
    obtain ⟨x3_1, x9_1, rfl, rfl, HA, HK1, HB⟩ := hrel
    cases gk with
    | zero => exact absurd HA.out (by simp [impl_MapOf.l0])
    | succ k1 =>
      have H := HA.out
      clear HA
      simp only [impl_MapOf.l0] at H
      by_cases c4 : x9_1 < (l0.length : Int)
      · rw [if_pos c4] at H
        have c4b0 : decide (x9_1 < (l0.length : Int)) = true := decide_eq_true c4
        clear c4
        by_cases c5 : 0 ≤ x9_1
        · rw [if_pos c5] at H
          have c5b0 : decide (0 ≤ x9_1) = true := decide_eq_true c5
          clear c5
          by_cases c6 : x9_1 < (l0.length : Int)
          · rw [if_pos c6] at H
            have c6b0 : decide (x9_1 < (l0.length : Int)) = true := decide_eq_true c6
            clear c6
            replace H := Option.bind_eq_some_iff.mp H
            obtain ⟨t503, A70, H⟩ := H
            replace H : (if t503 = true then (if x9_1 > 0 then (if 0 ≤ (wrap64 (x9_1 - 1)) then (if (wrap64 (x9_1 - 1)) < (l0.length : Int) then (if (rd l0 x9_1) ≤ (rd l0 (wrap64 (x9_1 - 1))) then (some (⟨#[]⟩ : ByteArray)) else ((impl_changedMap.f x3_1 (rd l0 x9_1) 1 true).bind fun t505 => (impl_MapOf.l0 k1 l0 t505 l0 (l0.length : Int) (wrap64 (x9_1 + 1))))) else (none)) else (none)) else ((impl_changedMap.f x3_1 (rd l0 x9_1) 1 true).bind fun t506 => (impl_MapOf.l0 k1 l0 t506 l0 (l0.length : Int) (wrap64 (x9_1 + 1))))) else (some (⟨#[]⟩ : ByteArray))) = some r := H
            have A7 := Aside0.mk A70
            clear A70
            by_cases c8 : t503 = true
            · subst c8
              have H1 : (if x9_1 > 0 then (if 0 ≤ (wrap64 (x9_1 - 1)) then (if (wrap64 (x9_1 - 1)) < (l0.length : Int) then (if (rd l0 x9_1) ≤ (rd l0 (wrap64 (x9_1 - 1))) then (some (⟨#[]⟩ : ByteArray)) else ((impl_changedMap.f x3_1 (rd l0 x9_1) 1 true).bind fun t505 => (impl_MapOf.l0 k1 l0 t505 l0 (l0.length : Int) (wrap64 (x9_1 + 1))))) else (none)) else (none)) else ((impl_changedMap.f x3_1 (rd l0 x9_1) 1 true).bind fun t506 => (impl_MapOf.l0 k1 l0 t506 l0 (l0.length : Int) (wrap64 (x9_1 + 1))))) = some r := by rw [if_pos rfl] at H; exact H
              clear H
              have H := H1
              clear H1
              by_cases c9 : x9_1 > 0
              · rw [if_pos c9] at H
                have c9b0 : decide (0 < x9_1) = true := decide_eq_true c9
                clear c9
                obtain ⟨ji10, hji10⟩ : ∃ j_ : Int, (wrap64 (x9_1 - 1)) = j_ := ⟨_, rfl⟩
                replace H : (if 0 ≤ (ji10) then (if (ji10) < (l0.length : Int) then (if (rd l0 x9_1) ≤ (rd l0 (ji10)) then (some (⟨#[]⟩ : ByteArray)) else ((impl_changedMap.f x3_1 (rd l0 x9_1) 1 true).bind fun t505 => (impl_MapOf.l0 k1 l0 t505 l0 (l0.length : Int) (wrap64 (x9_1 + 1))))) else (none)) else (none)) = some r := by first | (rw [hji10] at H; exact H) | (simp only [hji10] at H ⊢; exact H)
                (try rw [hji10] at A7)
                have hji10w : (IntKind.i64.wrap (x9_1 - 1)) = ji10 := (i64_w _).trans hji10
                by_cases c11 : 0 ≤ (ji10)
                · rw [if_pos c11] at H
                  have c11b0 : decide (0 ≤ (ji10)) = true := decide_eq_true c11
                  clear c11
                  by_cases c12 : (ji10) < (l0.length : Int)
                  · rw [if_pos c12] at H
                    have c12b0 : decide ((ji10) < (l0.length : Int)) = true := decide_eq_true c12
                    clear c12
                    by_cases c13 : (rd l0 x9_1) ≤ (rd l0 (ji10))
                    · rw [if_pos c13] at H
                      have c13b0 : decide ((rd l0 x9_1) ≤ (rd l0 (ji10))) = true := decide_eq_true c13
                      clear c13
                      obtain rfl := Option.some.inj H
                      have p502 : 0 ≤ (x9_1 : Int) := of_decide_eq_true (by first | (with_reducible assumption) | assumption)
                      have q502 : x9_1 < (l0.length : Int) := of_decide_eq_true (by first | (with_reducible assumption) | assumption)
                      obtain ⟨ad502, e502, hx502_0⟩ := Kd.at_int HR0.out x9_1 p502 q502
                      cases e502
                      replace hx502_0 := (HB.out.cell (World.block_lt_of_cell? w _ hx502_0)).trans hx502_0
                      replace p502 := eq_true p502
                      replace q502 := eq_true q502
                      go_wp2_with (first | ((with_reducible refine gate_callee (f := 55) rfl ?_); refine goesL_ (some 15) rfl rfl Try.func55 (by kernel_rfl) rfl #[.int .i64 (rd l0 x9_1), .int .i64 0, .int .i64 127] rfl (by (try simp only [List.map_toArray, List.map_cons, List.map_nil]); first | done | rfl | (simp only [List.length_drop, List.length_take]; rfl)) ?_; (with_reducible refine (impl_within.calls (rd l0 x9_1) 0 127 true _ A7.out).mono ?_); rintro e w' ⟨rfl, ⟨nd, rfl⟩⟩; refine ⟨_, rfl, ?_⟩; have p504 : 0 ≤ ((ji10) : Int) := of_decide_eq_true (by first | (with_reducible assumption) | assumption); have q504 : (ji10) < (l0.length : Int) := of_decide_eq_true (by first | (with_reducible assumption) | assumption); obtain ⟨ad504, e504, hx504_0⟩ := Kd.at_int HR0.out (ji10) p504 q504; obtain rfl : ad502 = ad504 := (by injection e504); replace hx504_0 := (HB.out.cell (World.block_lt_of_cell? w _ hx504_0)).trans hx504_0; replace p504 := eq_true p504; replace q504 := eq_true q504))
                      go_ret
                      exact ⟨by first | rfl | (simp [errW_none, errW_some] <;> rfl) | (simp only [← hji10]; first | rfl | (simp [errW_none, errW_some] <;> rfl)) | (simp [*, errW_none, errW_some] <;> rfl), by repeat (first | (with_reducible first | exact HB.out | apply below_alloc | apply pw_below_drewN | apply below_drew1) | exact HB.out)⟩
                    · rw [if_neg c13] at H
                      have c13b0 : decide ((rd l0 x9_1) ≤ (rd l0 (ji10))) = false := decide_eq_false c13
                      clear c13
                      replace H := Option.bind_eq_some_iff.mp H
                      obtain ⟨t505, A140, H⟩ := H
                      replace H : (impl_MapOf.l0 k1 l0 t505 l0 (l0.length : Int) (wrap64 (x9_1 + 1))) = some r := H
                      have A14 := Aside0.mk A140
                      clear A140
                      have H' := Aside0.mk H
                      clear H
                      have p502 : 0 ≤ (x9_1 : Int) := of_decide_eq_true (by first | (with_reducible assumption) | assumption)
                      have q502 : x9_1 < (l0.length : Int) := of_decide_eq_true (by first | (with_reducible assumption) | assumption)
                      obtain ⟨ad502, e502, hx502_0⟩ := Kd.at_int HR0.out x9_1 p502 q502
                      cases e502
                      replace hx502_0 := (HB.out.cell (World.block_lt_of_cell? w _ hx502_0)).trans hx502_0
                      replace p502 := eq_true p502
                      replace q502 := eq_true q502
                      go_wp2_with (first | ((with_reducible refine gate_callee (f := 55) rfl ?_); refine goesL_ (some 15) rfl rfl Try.func55 (by kernel_rfl) rfl #[.int .i64 (rd l0 x9_1), .int .i64 0, .int .i64 127] rfl (by (try simp only [List.map_toArray, List.map_cons, List.map_nil]); first | done | rfl | (simp only [List.length_drop, List.length_take]; rfl)) ?_; (with_reducible refine (impl_within.calls (rd l0 x9_1) 0 127 true _ A7.out).mono ?_); rintro e w' ⟨rfl, ⟨nd, rfl⟩⟩; refine ⟨_, rfl, ?_⟩; have p504 : 0 ≤ ((ji10) : Int) := of_decide_eq_true (by first | (with_reducible assumption) | assumption); have q504 : (ji10) < (l0.length : Int) := of_decide_eq_true (by first | (with_reducible assumption) | assumption); obtain ⟨ad504, e504, hx504_0⟩ := Kd.at_int HR0.out (ji10) p504 q504; obtain rfl : ad502 = ad504 := (by injection e504); replace hx504_0 := (HB.out.cell (World.block_lt_of_cell? w _ hx504_0)).trans hx504_0; replace p504 := eq_true p504; replace q504 := eq_true q504) | ((with_reducible refine gate_callee (f := 81) rfl ?_); refine goesL_ (some 32) rfl rfl Try.func81 (by kernel_rfl) rfl #[.string x3_1, .int .i64 (rd l0 x9_1), .int .i64 1, .bool true] rfl (by (try simp only [List.map_toArray, List.map_cons, List.map_nil]); first | done | rfl | (simp only [List.length_drop, List.length_take]; rfl)) ?_; (with_reducible refine (impl_changedMap.calls x3_1 (rd l0 x9_1) 1 true t505 _ A14.out).mono ?_); rintro e w15 ⟨rfl, hb⟩; refine ⟨_, rfl, ?_⟩; have n0_ := Aside0.mk (below_step (by repeat (first | (with_reducible first | exact HB.out | apply below_alloc | apply pw_below_drewN | apply below_drew1) | exact HB.out)) hb); clear HB; have HB := n0_; clear n0_; (try clear hb); (try clear hb2); (try clear hk); (try clear hi)))
                      go_roundg k1
                      case measure => have := HK1.out; omega
                      case rel => exact ⟨(t505), (wrap64 (x9_1 + 1)), (by first | rfl | (simp; done) | (simp [*]; done)), (by first | rfl | (simp; done) | (simp [*]; done)), H', ⟨by have := HK1.out; omega⟩, ⟨by repeat (first | (with_reducible first | exact HB.out | apply below_alloc | apply pw_below_drewN | apply below_drew1) | exact HB.out)⟩⟩
                  · rw [if_neg c12] at H
                    exact absurd H (by simp)
                · rw [if_neg c11] at H
                  exact absurd H (by simp)
              · rw [if_neg c9] at H
                have c9b0 : decide (0 < x9_1) = false := decide_eq_false c9
                clear c9
                replace H := Option.bind_eq_some_iff.mp H
                obtain ⟨t506, A160, H⟩ := H
                replace H : (impl_MapOf.l0 k1 l0 t506 l0 (l0.length : Int) (wrap64 (x9_1 + 1))) = some r := H
                have A16 := Aside0.mk A160
                clear A160
                have H' := Aside0.mk H
                clear H
                have p502 : 0 ≤ (x9_1 : Int) := of_decide_eq_true (by first | (with_reducible assumption) | assumption)
                have q502 : x9_1 < (l0.length : Int) := of_decide_eq_true (by first | (with_reducible assumption) | assumption)
                obtain ⟨ad502, e502, hx502_0⟩ := Kd.at_int HR0.out x9_1 p502 q502
                cases e502
                replace hx502_0 := (HB.out.cell (World.block_lt_of_cell? w _ hx502_0)).trans hx502_0
                replace p502 := eq_true p502
                replace q502 := eq_true q502
                go_wp2_with (first | ((with_reducible refine gate_callee (f := 55) rfl ?_); refine goesL_ (some 15) rfl rfl Try.func55 (by kernel_rfl) rfl #[.int .i64 (rd l0 x9_1), .int .i64 0, .int .i64 127] rfl (by (try simp only [List.map_toArray, List.map_cons, List.map_nil]); first | done | rfl | (simp only [List.length_drop, List.length_take]; rfl)) ?_; (with_reducible refine (impl_within.calls (rd l0 x9_1) 0 127 true _ A7.out).mono ?_); rintro e w' ⟨rfl, ⟨nd, rfl⟩⟩; refine ⟨_, rfl, ?_⟩) | ((with_reducible refine gate_callee (f := 81) rfl ?_); refine goesL_ (some 32) rfl rfl Try.func81 (by kernel_rfl) rfl #[.string x3_1, .int .i64 (rd l0 x9_1), .int .i64 1, .bool true] rfl (by (try simp only [List.map_toArray, List.map_cons, List.map_nil]); first | done | rfl | (simp only [List.length_drop, List.length_take]; rfl)) ?_; (with_reducible refine (impl_changedMap.calls x3_1 (rd l0 x9_1) 1 true t506 _ A16.out).mono ?_); rintro e w17 ⟨rfl, hb⟩; refine ⟨_, rfl, ?_⟩; have n0_ := Aside0.mk (below_step (by repeat (first | (with_reducible first | exact HB.out | apply below_alloc | apply pw_below_drewN | apply below_drew1) | exact HB.out)) hb); clear HB; have HB := n0_; clear n0_; (try clear hb); (try clear hb2); (try clear hk); (try clear hi)))
                go_roundg k1
                case measure => have := HK1.out; omega
                case rel => exact ⟨(t506), (wrap64 (x9_1 + 1)), (by first | rfl | (simp; done) | (simp [*]; done)), (by first | rfl | (simp; done) | (simp [*]; done)), H', ⟨by have := HK1.out; omega⟩, ⟨by repeat (first | (with_reducible first | exact HB.out | apply below_alloc | apply pw_below_drewN | apply below_drew1) | exact HB.out)⟩⟩
            · replace c8 := Bool.eq_false_iff.mpr c8
              subst c8
              have H1 : (some (⟨#[]⟩ : ByteArray)) = some r := by rw [if_neg (show ¬ (false = true) by decide)] at H; exact H
              clear H
              have H := H1
              clear H1
              obtain rfl := Option.some.inj H
              have p502 : 0 ≤ (x9_1 : Int) := of_decide_eq_true (by first | (with_reducible assumption) | assumption)
              have q502 : x9_1 < (l0.length : Int) := of_decide_eq_true (by first | (with_reducible assumption) | assumption)
              obtain ⟨ad502, e502, hx502_0⟩ := Kd.at_int HR0.out x9_1 p502 q502
              cases e502
              replace hx502_0 := (HB.out.cell (World.block_lt_of_cell? w _ hx502_0)).trans hx502_0
              replace p502 := eq_true p502
              replace q502 := eq_true q502
              go_wp2_with (first | ((with_reducible refine gate_callee (f := 55) rfl ?_); refine goesL_ (some 15) rfl rfl Try.func55 (by kernel_rfl) rfl #[.int .i64 (rd l0 x9_1), .int .i64 0, .int .i64 127] rfl (by (try simp only [List.map_toArray, List.map_cons, List.map_nil]); first | done | rfl | (simp only [List.length_drop, List.length_take]; rfl)) ?_; (with_reducible refine (impl_within.calls (rd l0 x9_1) 0 127 false _ A7.out).mono ?_); rintro e w' ⟨rfl, ⟨nd, rfl⟩⟩; refine ⟨_, rfl, ?_⟩))
              go_ret
              exact ⟨by first | rfl | (simp [errW_none, errW_some] <;> rfl) | (simp [*, errW_none, errW_some] <;> rfl), by repeat (first | (with_reducible first | exact HB.out | apply below_alloc | apply pw_below_drewN | apply below_drew1) | exact HB.out)⟩
          · rw [if_neg c6] at H
            exact absurd H (by simp)
        · rw [if_neg c5] at H
          exact absurd H (by simp)
      · rw [if_neg c4] at H
        have c4b0 : decide (x9_1 < (l0.length : Int)) = false := decide_eq_false c4
        clear c4
        obtain rfl := Option.some.inj H
        go_wp2
        go_ret
        exact ⟨by first | rfl | (simp [errW_none, errW_some] <;> rfl) | (simp [*, errW_none, errW_some] <;> rfl), by repeat (first | (with_reducible first | exact HB.out | apply below_alloc | apply pw_below_drewN | apply below_drew1) | exact HB.out)⟩

end Go.Proofs.Ytnhladaobcnmhaa.X
namespace Go.Proofs.Ytnhladaobcnmhaa.Pure
open Go.RowKit Go.Proofs.Ytnhladaobcnmhaa.X Go.Proofs.YtnhladaobcnmhaaW.PrintWords Go.Proofs.YtnhladaobcnmhaaW.PrintLast Go.Proofs.YtnhladaobcnmhaaW.PrintMore
set_option linter.unusedVariables false
set_option linter.unusedSimpArgs false

/-- Strictly increasing, all in 0..127, place by place, up to place i. -/
def lineTo (l : List Int) (i : Nat) : Prop := ∀ j (h : j < l.length), j < i → 0 ≤ l[j] ∧ l[j] ≤ 127 ∧ ∀ (h0 : 0 < j), l[j - 1]'(by omega) < l[j]
instance (l : List Int) (i : Nat) : Decidable (lineTo l i) := by unfold lineTo; infer_instance
theorem lineTo_next {l : List Int} {i : Nat} (h : i < l.length) (hs : lineTo l i) (h1 : 0 ≤ l[i]) (h2 : l[i] ≤ 127) (h3 : ∀ (h0 : 0 < i), l[i - 1]'(by omega) < l[i]) : lineTo l (i + 1) := by
  intro j hj hi
  by_cases e : j = i
  · subst e; exact ⟨h1, h2, h3⟩
  · exact hs j hj (by omega)
theorem lineTo_all {l : List Int} {i : Nat} (hi : l.length ≤ i) (hs : lineTo l i) : lineTo l l.length := fun j hj _ => hs j hj (by omega)
theorem lineTo_mem {l : List Int} (hs : lineTo l l.length) : ∀ x ∈ l, 0 ≤ x ∧ x ≤ 127 := by
  intro x hx
  obtain ⟨j, hj, rfl⟩ := List.getElem_of_mem hx
  have := hs j hj hj
  exact ⟨this.1, this.2.1⟩
/-- The lines are set one behind the other. -/
def setAll (xs : List Int) : List Int → List Int
  | [] => xs
  | n :: l => setAll (change1 xs n.toNat true) l
theorem setAll_isBytes : ∀ (l : List Int) {xs : List Int}, isBytes xs → isBytes (setAll xs l)
  | [], _, h => h
  | _ :: l, _, h => setAll_isBytes l (change1_isBytes h _ _)
theorem setAll_length : ∀ (l : List Int) (xs : List Int), (setAll xs l).length = xs.length
  | [], _ => rfl
  | _ :: l, xs => by rw [setAll, setAll_length l, change1_length]
theorem setAll_snoc (l : List Int) (x : Int) : ∀ xs : List Int, setAll xs (l ++ [x]) = change1 (setAll xs l) x.toNat true := by
  induction l with
  | nil => intro xs; rfl
  | cons y l ih => intro xs; exact ih _
def mapOf (l : List Int) : ByteArray := if lineTo l l.length then strOfNums (setAll (List.replicate 64 0) l) else ⟨#[]⟩
theorem or_change {xs : List Int} (hx : isBytes xs) (i : Nat) (hi : i / 8 < xs.length) : xs.set (i / 8) (Go.bits .or .u8 (xs.getD (i / 8) 0) (2 ^ (i % 8) % 256)) = change1 xs i true := by
  have hb := isBytes_getD hx (i / 8)
  have hs := byte_set hb.1 hb.2 (show i % 8 < 8 by omega)
  refine bytes_ext (isBytes_set hx _ hs.1.1 hs.1.2) (change1_isBytes hx i true) (by rw [List.length_set, change1_length]) (fun j hj => ?_)
  rw [set1_bit hx hi, bitL_set hi]
  split
  · rename_i e
    rw [hs.2 _ (by omega)]
    unfold bitL
    rw [e]
    congr 1
    exact decide_eq_decide.2 (by omega)
  · rename_i e
    rw [show decide (j = i) = false from decide_eq_false (fun q => e (by rw [q]))]
    simp
theorem shl_u8 (r : Nat) (hr : r < 8) : shl .u8 1 (r : Int) = 2 ^ r % 256 := by
  unfold shl
  rw [Int.toNat_natCast, show min r IntKind.u8.bits = r from Nat.min_eq_left (by show r ≤ 8; omega), IntKind.wrap_u8, Int.one_mul]
theorem spec_l6MapOf_ev (l : List Int) (hl : l.length ≤ 1099511627776) (hs : ∀ x ∈ l, 0 ≤ x ∧ x ≤ 127) : Ev (fun k => spec_l6MapOf.f k l) (strOfNums (setAll (List.replicate 64 0) l)) := by
  have lp : ∀ (d i : Nat), l.length - i = d → i ≤ l.length → Ev (fun k => spec_l6MapOf.l0 k l (setAll (List.replicate 64 0) (l.take i)) (i : Int)) (strOfNums (setAll (List.replicate 64 0) l)) := by
    intro d
    induction d with
    | zero =>
      intro i hd hi
      refine Ev.step (fun k => by rw [spec_l6MapOf.l0]) (Ev.neg (by omega) (Ev.eq ?_))
      rw [List.take_of_length_le (by omega)]
    | succ d ih =>
      intro i hd hi
      have hlt : i < l.length := by omega
      have hr := hs _ (List.getElem_mem hlt)
      obtain ⟨w, hw⟩ : ∃ w : Nat, l[i] = (w : Int) := ⟨l[i].toNat, by omega⟩
      have hlen : (setAll (List.replicate 64 0) (l.take i)).length = 64 := by rw [setAll_length, List.length_replicate]
      have hby := setAll_isBytes (l.take i) (isBytes_replicate 64)
      refine Ev.step (fun k => by rw [spec_l6MapOf.l0]) ?_
      rw [rd_get hlt, hw, Int.tdiv_eq_ediv_of_nonneg (by omega), Int.tmod_eq_emod_of_nonneg (by omega), w64 (x := (w : Int) / 8) (by omega) (by omega)]
      rw [show (w : Int) / 8 = ((w / 8 : Nat) : Int) from by omega, show IntKind.u64.wrap ((w : Int) % 8) = ((w % 8 : Nat) : Int) from by simp [IntKind.wrap, IntKind.bits, IntKind.signed]; omega]
      refine Ev.pos (by omega) (Ev.pos (by omega) (Ev.pos (by omega) (Ev.pos (by omega) (Ev.pos (by omega) ?_))))
      rw [shl_u8 _ (by omega), rd_eq, Int.toNat_natCast, or_change hby w (by omega), show wrap64 ((i : Int) + 1) = ((i + 1 : Nat) : Int) from by rw [w64 (by omega) (by omega)]; omega]
      have e : setAll (List.replicate 64 0) (l.take (i + 1)) = change1 (setAll (List.replicate 64 0) (l.take i)) w true := by
        rw [take_snoc2 l i hlt, setAll_snoc, hw, Int.toNat_natCast]
      rw [← e]
      exact ih (i + 1) (by omega) (by omega)
  unfold spec_l6MapOf.f
  refine Ev.pos (by decide) ?_
  have h := lp _ 0 rfl (by omega)
  simpa [setAll] using h
theorem spec_MapOf_ev (l : List Int) (hl : l.length ≤ 1099511627776) : Ev (fun k => spec_MapOf.f k l) (mapOf l) := by
  have lp : ∀ (d i : Nat), l.length - i = d → i ≤ l.length → lineTo l i → Ev (fun k => spec_MapOf.l0 k l (i : Int)) (mapOf l) := by
    intro d
    induction d with
    | zero =>
      intro i hd hi hs
      have ha := lineTo_all (by omega) hs
      refine Ev.step (fun k => by rw [spec_MapOf.l0]) (Ev.neg (by omega) (Ev.bind (spec_l6MapOf_ev l hl (lineTo_mem ha)) (Ev.eq ?_)))
      rw [mapOf, if_pos ha]
    | succ d ih =>
      intro i hd hi hs
      have hlt : i < l.length := by omega
      refine Ev.step (fun k => by rw [spec_MapOf.l0]) ?_
      refine Ev.pos (by omega) (Ev.pos (by omega) (Ev.bindo (l1In_f _ _ _) ?_))
      rw [rd_get hlt, show wrap64 ((i : Int) + 1) = ((i + 1 : Nat) : Int) from by rw [w64 (by omega) (by omega)]; omega]
      refine Ev.cases (fun e => ?_) (fun e => Ev.eq ?_)
      · have e : 0 ≤ l[i] ∧ l[i] ≤ 127 := by simpa using e
        refine Ev.cases (fun e2 => ?_) (fun e2 => ih (i + 1) (by omega) (by omega) (lineTo_next hlt hs e.1 e.2 (fun h => by omega)))
        have hp : i - 1 < l.length := by omega
        rw [show wrap64 ((i : Int) - 1) = ((i - 1 : Nat) : Int) from by rw [w64 (by omega) (by omega)]; omega, rd_get hp]
        refine Ev.pos (by omega) (Ev.pos (by omega) (Ev.cases (fun e3 => Ev.eq ?_) (fun e3 => ih (i + 1) (by omega) (by omega) (lineTo_next hlt hs e.1 e.2 (fun h => by omega)))))
        rw [mapOf, if_neg (fun h => by have := (h i hlt hlt).2.2 (by omega); omega)]
      · rw [mapOf, if_neg (fun h => e (by have := h i hlt hlt; simp [this.1, this.2.1]))]
  unfold spec_MapOf.f
  exact lp _ 0 rfl (by omega) (fun j hj hi => absurd hi (by omega))
theorem changed_strOf (xs : List Int) (hx : isBytes xs) (w : Nat) : changed (strOfNums xs) true w 1 = strOfNums (change1 xs w true) := by
  unfold changed
  rw [bytesOf_strOfNums hx]
  rfl
theorem impl_MapOf_ev (l : List Int) (hl : l.length ≤ 1099511627776) : Ev (fun k => impl_MapOf.f k l) (mapOf l) := by
  have lp : ∀ (d i : Nat), l.length - i = d → i ≤ l.length → lineTo l i → Ev (fun k => impl_MapOf.l0 k l (strOfNums (setAll (List.replicate 64 0) (l.take i))) l (l.length : Int) (i : Int)) (mapOf l) := by
    intro d
    induction d with
    | zero =>
      intro i hd hi hs
      have ha := lineTo_all (by omega) hs
      refine Ev.step (fun k => by rw [impl_MapOf.l0]) (Ev.neg (by omega) (Ev.eq ?_))
      rw [mapOf, if_pos ha, List.take_of_length_le (by omega)]
    | succ d ih =>
      intro i hd hi hs
      have hlt : i < l.length := by omega
      refine Ev.step (fun k => by rw [impl_MapOf.l0]) ?_
      refine Ev.pos (by omega) (Ev.pos (by omega) (Ev.pos (by omega) (Ev.bindo (within_f _ _ _) ?_)))
      rw [rd_get hlt, show wrap64 ((i : Int) + 1) = ((i + 1 : Nat) : Int) from by rw [w64 (by omega) (by omega)]; omega]
      refine Ev.cases (fun e => ?_) (fun e => Ev.eq ?_)
      · have e : 0 ≤ l[i] ∧ l[i] ≤ 127 := by simpa using e
        obtain ⟨w, hw⟩ : ∃ w : Nat, l[i] = (w : Int) := ⟨l[i].toNat, by omega⟩
        have hby := setAll_isBytes (l.take i) (isBytes_replicate 64)
        have hsz : (strOfNums (setAll (List.replicate 64 0) (l.take i))).size = 64 := by rw [strOfNums_size, setAll_length, List.length_replicate]
        have hc := changedMap_f (strOfNums (setAll (List.replicate 64 0) (l.take i))) w 1 true (by omega) (by omega)
        have e4 : setAll (List.replicate 64 0) (l.take (i + 1)) = change1 (setAll (List.replicate 64 0) (l.take i)) w true := by
          rw [take_snoc2 l i hlt, setAll_snoc, hw, Int.toNat_natCast]
        rw [changed_strOf _ hby, ← e4] at hc
        rw [hw] at e ⊢
        refine Ev.cases (fun e2 => ?_) (fun e2 => Ev.bindo hc (ih (i + 1) (by omega) (by omega) (lineTo_next hlt hs (by omega) (by omega) (fun h => by omega))))
        have hp : i - 1 < l.length := by omega
        rw [show wrap64 ((i : Int) - 1) = ((i - 1 : Nat) : Int) from by rw [w64 (by omega) (by omega)]; omega, rd_get hp]
        refine Ev.pos (by omega) (Ev.pos (by omega) (Ev.cases (fun e3 => Ev.eq ?_) (fun e3 => Ev.bindo hc (ih (i + 1) (by omega) (by omega) (lineTo_next hlt hs (by omega) (by omega) (fun h => by omega))))))
        rw [mapOf, if_neg (fun h => by have := (h i hlt hlt).2.2 (by omega); omega)]
      · rw [mapOf, if_neg (fun h => e (by have := h i hlt hlt; simp [this.1, this.2.1]))]
  unfold impl_MapOf.f
  refine Ev.bindo (impl_zeros_f 64 (by omega)) ?_
  have h := lp _ 0 rfl (by omega) (fun j hj hi => absurd hi (by omega))
  simpa [setAll, zerosB] using h
end Go.Proofs.Ytnhladaobcnmhaa.Pure
namespace Go.Proofs.Ytnhladaobcnmhaa.Pure
open Go.RowKit Go.Proofs.Ytnhladaobcnmhaa.X Go.Proofs.YtnhladaobcnmhaaW.PrintWords Go.Proofs.YtnhladaobcnmhaaW.PrintLast
set_option linter.unusedVariables false
set_option linter.unusedSimpArgs false
/-- Lines in order, each below b. -/
structure Asc (l : List Int) (b : Int) : Prop where
  range : ∀ x ∈ l, 0 ≤ x ∧ x < b
  sorted : l.Pairwise (· < ·)
theorem Asc.snoc {l : List Int} {b c : Int} (h : Asc l b) (h0 : 0 ≤ b) (hc : b < c) : Asc (l ++ [b]) c := by
  refine ⟨fun x hx => ?_, List.pairwise_append.2 ⟨h.sorted, by simp, fun x hx y hy => ?_⟩⟩
  · rcases List.mem_append.1 hx with hx | hx
    · have := h.range x hx; omega
    · obtain rfl : x = b := by simpa using hx
      omega
  · obtain rfl : y = b := by simpa using hy
    exact (h.range x hx).2
theorem Asc.nil (b : Int) : Asc [] b := ⟨by simp, List.Pairwise.nil⟩
theorem lines_ev {l : List Int} {p : Int} (h : Rd l p) : ∃ v q, Ev (fun k => spec_l1Rd_lines.f k l p) (v, q) ∧ Asc v 128 ∧ v.length ≤ 128 ∧ Rd l q := by
  obtain ⟨s, q, e, hs0, hs1, hq⟩ := below_f h 12 (by omega) (by omega)
  have lp : ∀ (d : Nat) (i : Int) (acc : List Int) (p : Int), (128 - i).toNat ≤ d → 0 ≤ i → i ≤ 256 → Asc acc i → Asc acc 128 → (acc.length : Int) ≤ i → acc.length ≤ 128 → Rd l p →
      ∃ v q, Ev (fun k => spec_l1Rd_lines.l0 k acc (1 + s) i l p) (v, q) ∧ Asc v 128 ∧ v.length ≤ 128 ∧ Rd l q := by
    intro d
    induction d with
    | zero =>
      intro i acc p hd h0 h1 ha hb hl1 hl2 hp
      exact ⟨_, _, Ev.step (fun k => by rw [spec_l1Rd_lines.l0]) (Ev.neg (by omega) (Ev.eq rfl)), hb, hl2, hp⟩
    | succ d ih =>
      intro i acc p hd h0 h1 ha hb hl1 hl2 hp
      by_cases c : i < 128
      · obtain ⟨x, q, e, hx0, hx1, hq⟩ := below_f hp (1 + s) (by omega) (by omega)
        have hl : (acc ++ [i]).length = acc.length + 1 := by rw [List.length_append, List.length_singleton]
        obtain ⟨v, q2, he, hv⟩ := ih (i + 1 + x) (acc ++ [i]) q (by omega) (by omega) (by omega) (ha.snoc h0 (by omega)) (ha.snoc h0 c) (by omega) (by omega) hq
        refine ⟨v, q2, Ev.step (fun k => by rw [spec_l1Rd_lines.l0]) (Ev.pos c ?_), hv⟩
        refine Ev.pos (by omega) (Ev.bindo e ?_)
        simp only []
        rw [w64 (x := i + 1) (by omega) (by omega), w64 (x := i + 1 + x) (by omega) (by omega)]
        exact he
      · exact ⟨_, _, Ev.step (fun k => by rw [spec_l1Rd_lines.l0]) (Ev.neg c (Ev.eq rfl)), hb, hl2, hp⟩
  obtain ⟨x, q2, e2, hx0, hx1, hq2⟩ := below_f hq (1 + s) (by omega) (by omega)
  obtain ⟨v, q3, he, hv⟩ := lp 128 x [] q2 (by omega) hx0 (by omega) (Asc.nil _) (Asc.nil _) (by simp only [List.length_nil]; omega) (by simp) hq2
  refine ⟨v, q3, ?_, hv⟩
  unfold spec_l1Rd_lines.f
  refine Ev.bindo e ?_
  simp only []
  rw [w64 (x := 1 + s) (by omega) (by omega)]
  exact Ev.bindo e2 he
theorem aMap_ev {l : List Int} {p : Int} (h : Rd l p) : ∃ m q, Ev (fun k => spec_l1Rd_aMap.f k l p) (m, q) ∧ m.size ≤ 65 ∧ Rd l q := by
  obtain ⟨v, q, e, hv, hl, hq⟩ := lines_ev h
  obtain ⟨o, q2, e2, hq2⟩ := once_f hq 20 (by omega) (by omega)
  have em := spec_l6MapOf_ev v (by omega) (fun x hx => by have := hv.range x hx; omega)
  have hm : (strOfNums (setAll (List.replicate 64 0) v)).size = 64 := by rw [strOfNums_size, setAll_length, List.length_replicate]
  generalize strOfNums (setAll (List.replicate 64 0) v) = m at *
  unfold spec_l1Rd_aMap.f
  by_cases c : o = true
  · obtain ⟨t, q3, e3, ht, hq3⟩ := hurt_f hq2 m (by omega)
    exact ⟨t, q3, Ev.bind e (Ev.bind em (Ev.bindo e2 (Ev.pos c (Ev.bindo e3 (Ev.eq rfl))))), by omega, hq3⟩
  · exact ⟨m, q2, Ev.bind e (Ev.bind em (Ev.bindo e2 (Ev.neg c (Ev.eq rfl)))), by omega, hq2⟩
end Go.Proofs.Ytnhladaobcnmhaa.Pure
namespace Go.Proofs.Ytnhladaobcnmhaa.Pure
open Go.RowKit Go.Proofs.Ytnhladaobcnmhaa.X Go.Proofs.YtnhladaobcnmhaaW.PrintWords Go.Proofs.YtnhladaobcnmhaaW.PrintLast
set_option linter.unusedVariables false
set_option linter.unusedSimpArgs false
theorem drawFindRun_ev {l : List Int} (hb : isBytes l) (hl : l.length ≤ 1099511627776) : ∃ m a b n, Ev (fun k => spec_DrawFindRun.f k l) (m, a, b, n) := by
  obtain ⟨m, q, e, _, hq⟩ := aMap_ev (Rd.start hb hl)
  obtain ⟨o, q2, e2, hq2⟩ := once_f hq 8 (by omega) (by omega)
  unfold spec_DrawFindRun.f
  by_cases c : o = true
  · obtain ⟨x, q3, e3, _, _, hq3⟩ := off_ev hq2 0 128 (by omega) (by omega) (by omega) (by omega)
    obtain ⟨y, q4, e4, _, _, hq4⟩ := off_ev hq3 0 128 (by omega) (by omega) (by omega) (by omega)
    obtain ⟨z, q5, e5, _, _, hq5⟩ := off_ev hq4 1 128 (by omega) (by omega) (by omega) (by omega)
    exact ⟨m, x, y, z, Ev.bindo rfl (Ev.bind e (Ev.bindo e2 (Ev.pos c (Ev.bind e3 (Ev.bind e4 (Ev.bind e5 (Ev.eq rfl)))))))⟩
  · obtain ⟨x, q3, e3, _, _, hq3⟩ := below_f hq2 60 (by omega) (by omega)
    obtain ⟨y, q4, e4, _, _, hq4⟩ := below_f hq3 68 (by omega) (by omega)
    obtain ⟨z, q5, e5, _, _, hq5⟩ := below_f hq4 6 (by omega) (by omega)
    exact ⟨m, _, _, _, Ev.bindo rfl (Ev.bind e (Ev.bindo e2 (Ev.neg c (Ev.bindo e3 (Ev.bindo e4 (Ev.bindo e5 (Ev.eq rfl)))))))⟩
end Go.Proofs.Ytnhladaobcnmhaa.Pure
namespace Go.Proofs.Ytnhladaobcnmhaa.Pure
open Go.RowKit Go.Proofs.Ytnhladaobcnmhaa.X Go.Proofs.YtnhladaobcnmhaaW.PrintWords Go.Proofs.YtnhladaobcnmhaaW.PrintLast
set_option linter.unusedVariables false
set_option linter.unusedSimpArgs false
def fits (n : Int) (g : List S46) : Bool := g.any fun x => decide (x.f1 ≥ n)
theorem firstGap_fits {a n : Int} (ha : 0 ≤ a) : ∀ (g : List S46), (∀ x ∈ g, a ≤ x.f0) → decide (firstGap g n ≥ 0) = fits n g
  | [], _ => by simp [firstGap, fits]
  | x :: g, h => by
    have ih := firstGap_fits (n := n) ha g (fun y hy => h y (List.mem_cons_of_mem _ hy))
    have hx := h x (List.mem_cons_self ..)
    simp only [firstGap, fits, List.any_cons]
    by_cases c : x.f1 ≥ n
    · simp only [if_pos c, decide_eq_true c, Bool.true_or, decide_eq_true_eq]; omega
    · simp only [if_neg c, decide_eq_false c, Bool.false_or]; exact ih
theorem sum_small (n : Int) : ∀ (g : List S46), fits n g = false → sumLen g ≤ (n - 1) * g.length
  | [], _ => by simp [sumLen]
  | x :: g, h => by
    simp only [fits, List.any_cons, Bool.or_eq_false_iff] at h
    have ih := sum_small n g h.2
    have hx : x.f1 < n := by simpa using h.1
    simp only [sumLen, List.map_cons, List.sum_cons, List.length_cons] at ih ⊢
    have e : (n - 1) * ((g.length + 1 : Nat) : Int) = (n - 1) * g.length + (n - 1) := by
      rw [Int.natCast_add, Int.mul_add]; simp
    rw [e]
    omega
theorem fits_snoc (n : Int) (g : List S46) (x : S46) : fits n (g ++ [x]) = (fits n g || decide (x.f1 ≥ n)) := by simp [fits]
theorem sum_w {i : Nat} {b : Int} (hi : i ≤ 128) (hb : b ≤ 128) {q z : Int} (h0 : 0 ≤ q) (h1 : q ≤ 128 * (i : Int)) (h2 : 1 ≤ z) (h3 : z ≤ b) : wrap64 (q + z) = q + z := w64 (by omega) (by omega)
theorem end_le {a b x y : Int} (h0 : 0 ≤ a) (h : a ≤ x ∧ 1 ≤ y ∧ x + y ≤ b) : y ≤ b := by omega
theorem nat_next {i : Nat} (h : i ≤ 1000000) : wrap64 ((i : Int) + 1) = ((i + 1 : Nat) : Int) := by rw [w64 (by omega) (by omega)]; omega
theorem nat_back {i : Nat} (h0 : 0 < i) (h : i ≤ 1000000) : wrap64 ((i : Int) - 1) = ((i - 1 : Nat) : Int) := by rw [w64 (by omega) (by omega)]; omega
theorem prev_ok {t : Int → Bool} {a b : Int} {g : List S46} (hg : Gap t a b g) (ha : 0 ≤ a) (hb : b ≤ 128) (hl : g.length ≤ 128) {i : Nat} (hlt : i < g.length) (h0 : (i : Int) > 0) :
    0 ≤ wrap64 ((i : Int) - 1) ∧ wrap64 ((i : Int) - 1) < (g.length : Int) ∧ ¬ g[i].f0 ≤ wrap64 ((rd_T46 g (wrap64 ((i : Int) - 1))).f0 + (rd_T46 g (wrap64 ((i : Int) - 1))).f1) := by
  have hlt1 : i - 1 < g.length := by omega
  have hp := hg.each g[i - 1] (List.getElem_mem hlt1)
  have hs := List.pairwise_iff_getElem.1 hg.sorted (i - 1) i hlt1 hlt (by omega)
  rw [nat_back (by omega) (by omega), rdT_get g (i - 1) hlt1]
  generalize g[i - 1] = x at *
  generalize g[i] = y at *
  rw [w64 (by omega) (by omega)]
  exact ⟨by omega, by omega, by omega⟩
theorem FnRoom : laws_FnRoom.Pure := by
  intro l _ hl8 hb
  refine Ev.rounds ?_
  unfold laws_FnRoom.f
  refine Ev.bindo rfl ?_
  refine Ev.cases (fun _ => Ev.eq rfl) (fun c => ?_)
  have hlen : l.length ≤ 1099511627776 := by
    have : ¬ (l.length : Int) > 1048576 := by simpa using c
    omega
  obtain ⟨m, a, b, n, hd⟩ := drawFindRun_ev (isBytes_of hb) hlen
  have stop : Ev (fun k => laws_FnRoom.j0 k m a b n (if areaOk m a b then freeFrom (tk m) a (b - a).toNat else -1) true) true :=
    Ev.step (fun k => by rw [laws_FnRoom.j0]) (Ev.pos rfl (Ev.bind (spec_FreeOf_ev m a b) (Ev.eq (beq_self_eq_true _))))
  refine Ev.bind hd (Ev.bind (impl_FreeOf_ev m a b) (Ev.bind (spec_FreeOf_ev m a b) (Ev.pos rfl ?_)))
  refine Ev.cases (fun _ => stop) (fun c1 => Ev.cases (fun _ => stop) (fun c2 => ?_))
  simp only [] at c1 c2
  by_cases c3 : n > 128
  · rw [show decide (n > 128) = true from by simpa using c3]
    exact stop
  have hok : areaOk m a b := by
    refine Classical.byContradiction fun h => ?_
    rw [if_neg h] at c1
    omega
  rw [show decide (n > 128) = false from by simpa using c3, if_pos hok]
  refine Ev.step (fun k => by rw [laws_FnRoom.j0]) (Ev.neg (by simp) (Ev.bind (impl_Gaps_ev m a b) ?_))
  rw [if_pos hok]
  have hr : findRun m a b n = firstGap (gapsOf m a b) n := by rw [findRun, if_pos hok, if_pos (by omega)]
  obtain ⟨hm, ha, hab, hb8⟩ := id hok
  have hg := gapsOf_gap m a b hab
  have hgl := hg.length hab
  have hsum : sumLen (gapsOf m a b) = freeFrom (tk m) a (b - a).toNat := by
    rw [gapsOf, sumLen_go]; simp [sumLen]
  have hfr := freeFrom_range (tk m) (b - a).toNat a
  generalize gapsOf m a b = g at *
  generalize freeFrom (tk m) a (b - a).toNat = fr at *
  have hg128 : g.length ≤ 128 := by clear hfr hsum c1 c2 c3; omega
  have hfit := firstGap_fits (n := n) ha g (fun x hx => (hg.each x hx).1)
  have lp : ∀ (d i : Nat), g.length - i = d → i ≤ g.length → Ev (fun k => laws_FnRoom.l0 k m a b n fr g (sumLen (g.take i)) (fits n (g.take i)) (i : Int)) true := by
    intro d
    induction d with
    | zero =>
      intro i hd hi
      rw [List.take_of_length_le (by omega)]
      refine Ev.step (fun k => by rw [laws_FnRoom.l0]) (Ev.neg (by omega) (Ev.bind (impl_FindRun_ev m a b n) ?_))
      rw [hr, hfit]
      refine Ev.pos hsum (Ev.pos (by simp) (Ev.cases (fun _ => Ev.eq rfl) (fun c => Ev.eq ?_)))
      cases hfx : fits n g with
      | true => rfl
      | false =>
        exfalso
        have hs := sum_small n g hfx
        have hmul : (n - 1) * (g.length : Int) ≤ 128 * 128 := Int.mul_le_mul (by omega) (by omega) (by omega) (by omega)
        have hmul0 : 0 ≤ (n - 1) * (g.length : Int) := Int.mul_nonneg (by omega) (by omega)
        rw [w64 (x := n - 1) (by omega) (by omega), w64 (by omega) (by omega)] at c
        omega
    | succ d ih =>
      intro i hd hi
      have hlt : i < g.length := by omega
      have hi128 : i ≤ 128 := Nat.le_of_lt (Nat.lt_of_lt_of_le hlt hg128)
      have hst := sumLen_take g b hb8 a ha hg.each i (by omega)
      have hx := hg.each g[i] (List.getElem_mem hlt)
      have hnext := ih (i + 1) (by omega) (by omega)
      rw [take_snoc2 g i hlt, sumLen_append, fits_snoc] at hnext
      rw [show sumLen [g[i]] = g[i].f1 from by simp [sumLen]] at hnext
      have hw : wrap64 ((i : Int) + 1) = ((i + 1 : Nat) : Int) := nat_next (Nat.le_trans hi128 (by decide))
      have hsw : wrap64 (sumLen (g.take i) + g[i].f1) = sumLen (g.take i) + g[i].f1 := sum_w hi128 hb8 hst.1 hst.2 hx.2.1 (end_le ha hx)
      have hprev := fun h0 => prev_ok hg ha hb8 hg128 hlt h0
      have hlti : (i : Int) < (g.length : Int) := Int.ofNat_lt.2 hlt
      clear hst hx hsum hfit hfr hgl c1 c2 c3
      refine Ev.step (fun k => by rw [laws_FnRoom.l0]) ?_
      rw [rdT_get g i hlt, hw, hsw]
      refine Ev.pos hlti ?_
      refine Ev.pos (Int.natCast_nonneg i) ?_
      cases hfx : fits n (g.take i) with
      | true =>
        rw [hfx, Bool.true_or] at hnext
        refine Ev.pos rfl ?_
        refine Ev.cases (fun h0 => ?_) (fun _ => hnext)
        refine Ev.pos (hprev h0).1 ?_
        refine Ev.pos (hprev h0).2.1 ?_
        exact Ev.neg (hprev h0).2.2 hnext
      | false =>
        rw [hfx, Bool.false_or] at hnext
        refine Ev.neg (by simp) ?_
        refine Ev.cases (fun h0 => ?_) (fun _ => hnext)
        refine Ev.pos (hprev h0).1 ?_
        refine Ev.pos (hprev h0).2.1 ?_
        exact Ev.neg (hprev h0).2.2 hnext
  exact lp _ 0 rfl (by omega)
end Go.Proofs.Ytnhladaobcnmhaa.Pure
namespace Go.Proofs.Ytnhladaobcnmhaa.fnRoom
open Go.ChangeShapes Go.WideShapes Go.ChangeAt Go.RowKit
open Go.ChangeMaps (open_string shut_string)
set_option linter.unusedVariables false
theorem own : ownKnob Try.prog.godebug = none := by kernel_rfl
theorem laidOut : laidOutB Try.prog = true := by kernel_rfl
def IsRow (k : IntKind) (w : World) (a : Option Addr) (len cap : Nat) (zs : List Int) : Prop :=
  (a = none ∧ len = 0 ∧ cap = 0 ∧ zs = []) ∨
  ∃ x, a = some x ∧ len ≤ cap ∧ cap ≤ maxLen ∧ zs.length = cap ∧ (∀ i, i < zs.length → w.cell? (x.add i) = some (.int k (zs.getD i 0))) ∧ ∀ n ∈ zs, (Lit.int k n).wf = true
set_option maxRecDepth 100000 in
theorem lifted (os : Os) (started : os.Started) (H : Type) (enc : TypeId × Value → H) :
    ReturnsInHanded {} Try.checked os 5 .any (Rows.fnRoomSpec.pre6 enc Try.prog Try.f5 Rows.fnRoomRow.domain false) (Rows.fnRoomSpec.post enc Try.prog Try.f5 false true false false) := by
  refine returnsInHanded_of_change_sized (C := Try.checked) own started (by kernel_rfl) Try.func5
    (ChangeSpec.witness6 (enc := enc) (C := Try.checked) false ⟨#[], #[.slice none 0 0], []⟩ 8 (by kernel_rfl) (by kernel_rfl) (by kernel_rfl) (by kernel_rfl)) ?_
  intro W base args ds gs before hval0 hW hcnd hsz0 _
  have hsz : (DataW.weightsEach Try.prog (Try.f5.params.toList ++ Rows.fnRoomSpec.plain.varTypes Try.prog) (ds ++ gs)).all (· ≤ reachBytes) = true := hsz0
  have hval : ∀ (j : Nat) t v, Try.f5.params[j]? = some t → args[j]? = some v → Value.okWide Try.prog W .any base t v := hval0
  have hW' := hW
  obtain ⟨p, q, hA0, hV, rfl, hfz, hnd⟩ := hW
  have hA : DataW.TrodAll enc Try.prog W 0 (fun _ => true) true Try.f5.params.toList args.toList ds p := hA0
  rw [Try.params5] at hA hval hsz
  obtain ⟨v0, vs0, d0, ds0, p0, q0, hargs, rfl, rfl, h0, r0⟩ := trodAll_cons hA
  obtain ⟨rfl, rfl, rfl⟩ := trodAll_nil r0
  obtain rfl : args = #[v0] := by cases args; simp_all
  obtain ⟨rfl, rfl⟩ := trodVars_none hV
  obtain ⟨a0, len0, cap0, rfl⟩ := okWide_slice Try.underlying29 (hval 0 29 v0 rfl rfl)
  have k0 := h0
  have lt0 : ∀ x ∈ p0, x.block < W.heap.size := by obtain ⟨m, hm⟩ := k0; exact DataW.trod_lt m _ _ _ hm
  obtain ⟨z0, w0⟩ : ∃ zs, IsRow .u8 W a0 len0 cap0 zs := by
    obtain ⟨fuel, hf⟩ := h0
    rcases open_ints Try.underlying29 Try.underlying5 (by kernel_rfl) hf with ⟨hcs, _⟩ | ⟨x, l, c, zs, hcs, _, hl, hm, hz, _, hcell, hwz⟩
    · simp [Value.cells] at hcs
      obtain ⟨rfl, rfl, rfl⟩ := hcs
      exact ⟨[], .inl ⟨rfl, rfl, rfl, rfl⟩⟩
    · simp [Value.cells] at hcs
      obtain ⟨rfl, rfl, rfl⟩ := hcs
      exact ⟨zs, .inr ⟨_, rfl, hl, hm, by simpa using hz, hcell, hwz⟩⟩
  have y0 : len0 * 1 ≤ 140737488351232 := Go.Proofs.YtnhladaobcnmhaaW.PrintWords.sized_ints hsz (j := 0) (t := 29) rfl rfl Try.underlying29 Try.underlying5 (by kernel_rfl) (by kernel_rfl) h0
  clear hA0 hval0 hsz0 hsz
  refine (X.laws_FnRoom.walk Pure.FnRoom a0 len0 cap0 z0 W w0 y0).mono fun e W' ⟨he, bel⟩ => ?_
  subst he
  exact ⟨_, rfl, _, _, _, [], _, [], hW', trodAll_mk1 (shut_bool Try.underlying4 _), (trodAll_cons_mk (Below.trod laidOut (by kernel_rfl) (of_decide_eq_true (by kernel_rfl)) k0 bel lt0) trodAll_mk0), rfl, bel.frame _, fun h => by cases h⟩
theorem over : Rows.fnRoomRow.holds Try.pinned (OpenSpec.ofChange Rows.fnRoomSpec) :=
  OpenClaim.holds_of_wide 5 Try.f5 rfl rfl rfl rfl rfl rfl rfl ⟨rfl, rfl, rfl, rfl, rfl⟩ rfl rfl rfl rfl rfl (by kernel_rfl) Try.func5 (by kernel_rfl)
    (of_decide_eq_true (by kernel_rfl)) (by unfold Func.isWrapper; first | (rw [if_pos (by decide +kernel)]; kernel_rfl) | (rw [if_neg (by decide +kernel)]; exact ⟨rfl, rfl⟩))
    (fun os started H enc _ => lifted os started H enc)
theorem proved : Rows.FnRoomSaid := over
#print axioms proved
end Go.Proofs.Ytnhladaobcnmhaa.fnRoom
namespace Go.Proofs.Ytnhladaobcnmhaa
/-- The row, under a short name, for the claim. -/
theorem fnRoom_holds : Rows.FnRoomSaid := fnRoom.proved
end Go.Proofs.Ytnhladaobcnmhaa
