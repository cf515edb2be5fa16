/- Lean functions, walks and rows for the seat Ytnhladaobcnmhaa, written by a program of this repo (wip/tools/xprint.py). (Merged out of this claim's own texts.) -/
import Derived.Test.YtnhladaobcnmhaaBFnRoom2
import Derived.Test.YtnhladaobcnmhaaWMore
import Derived.WalkKit
import Derived.Lib.ConvBytes
import Derived.Lib.Hide
import Derived.RegionTactic
import Derived.ChangeAlike
namespace Go.Proofs.Ytnhladaobcnmhaa.X
open Go.RowKit Go.Proofs.YtnhladaobcnmhaaW.PrintWords Go.Proofs.YtnhladaobcnmhaaW.PrintLast Go.Proofs.YtnhladaobcnmhaaW.PrintMore
attribute [local go_sem] max2_int min2_int max_two min_two max_three min_three max_four min_four   -- for this text's walks alone
set_option linter.unusedVariables false
set_option linter.unusedSimpArgs false

/-! ### impl_SetOk: function 41 -/
def impl_SetOk.l0 : Nat → List Int → List Int → Int → Int → Option (Bool)
  | 0, _, _, _, _ => none
  | k + 1, x0, x5, x6, x7 => if x7 < x6 then (if 0 ≤ x7 then (if x7 < (x5.length : Int) then ((impl_within.f (rd x5 x7) 0 1023).bind fun t133 => (if t133 = true then (if x7 > 0 then (if 0 ≤ (wrap64 (x7 - 1)) then (if (wrap64 (x7 - 1)) < (x0.length : Int) then (if (rd x5 x7) ≤ (rd x0 (wrap64 (x7 - 1))) then (some false) else (impl_SetOk.l0 k x0 x5 x6 (wrap64 (x7 + 1)))) else (none)) else (none)) else (impl_SetOk.l0 k x0 x5 x6 (wrap64 (x7 + 1)))) else (some false))) else (none)) else (none)) else (some true)
def impl_SetOk.f (k : Nat) (l0 : List Int) : Option (Bool) := impl_SetOk.l0 k l0 l0 (l0.length : Int) 0
theorem impl_SetOk.mono_l : ∀ k, (∀ y0 y1 y2 y3, LeO (impl_SetOk.l0 k y0 y1 y2 y3) (impl_SetOk.l0 (k + 1) y0 y1 y2 y3))
  | 0 => fun _ _ _ _ r h => by simp [impl_SetOk.l0] at h
  | k + 1 => by
    have ih0 := impl_SetOk.mono_l k
    · intro y0 y1 y2 y3
      unfold impl_SetOk.l0
      repeat' first
      | (with_reducible exact ih0 _ _ _ _)
      | (with_reducible exact LeO.refl _)
      | (with_reducible exact LeO.none _)
      | (with_reducible refine LeO.ite ?_ ?_)
      | (with_reducible refine LeO.bind ?_ (fun _ => ?_))
      | exact ih0 _ _ _ _
      | exact LeO.none _
      | refine LeO.ite ?_ ?_
      | refine LeO.bind ?_ (fun _ => ?_)
theorem impl_SetOk.mono : ∀ a0 k, LeO (impl_SetOk.f k a0) (impl_SetOk.f (k + 1) a0) := by
  intro a0 k
  have ih0 := impl_SetOk.mono_l k
  unfold impl_SetOk.f
  repeat' first
      | (with_reducible exact ih0 _ _ _ _)
      | (with_reducible exact LeO.refl _)
      | (with_reducible exact LeO.none _)
      | (with_reducible refine LeO.ite ?_ ?_)
      | (with_reducible refine LeO.bind ?_ (fun _ => ?_))
      | exact ih0 _ _ _ _
      | exact LeO.none _
      | refine LeO.ite ?_ ?_
      | refine LeO.bind ?_ (fun _ => ?_)
set_option maxHeartbeats 8000000 in
set_option maxRecDepth 100000 in
theorem impl_SetOk.calls (k : Nat) (A0 : Option Addr) (c0 : Nat) (l0 : List Int) (r : Bool) (w : World) (hr0 : Kd.C (Kd.int .i64) w A0 l0.length l0) (hc0 : l0.length ≤ c0) (h : impl_SetOk.f k l0 = some r) :
    Calls Try.prog 41 #[.slice A0 l0.length c0] w fun e w' => e = .returned (.bool r) ∧ Drawn0 w w' := by
  have HR0 := Aside0.mk hr0
  have HC0 := Aside0.mk hc0
  clear hr0 hc0
  have H : (impl_SetOk.l0 k l0 l0 (l0.length : Int) 0) = some r := h
  clear h
  have H' := Aside0.mk H
  clear H
  go_enter Try.func41, Try.ntmps41
  go_wp2
  go_loopg [7] k (fun kq v7 w' => ∃ (x7_1 : Int), v7 = .int .i64 x7_1 ∧ Aside0 (impl_SetOk.l0 kq l0 l0 (l0.length : Int) x7_1 = some r) ∧ Aside0 (kq ≤ k) ∧ Drawn0 w w')
  case atStart => exact ⟨(0), (by first | rfl | (simp; done) | (simp [*]; done)), H', ⟨Nat.le_refl _⟩, by repeat (first | exact Drawn0.refl _ | apply Drawn0.step)⟩
  case round =>
    clear H'
    obtain ⟨x7_1, rfl, HA, HK1, ⟨m1, rfl⟩⟩ := hrel
    cases gk with
    | zero => exact absurd HA.out (by simp [impl_SetOk.l0])
    | succ k1 =>
      have H := HA.out
      clear HA
      simp only [impl_SetOk.l0] at H
      by_cases c2 : x7_1 < (l0.length : Int)
      · rw [if_pos c2] at H
        have c2b0 : decide (x7_1 < (l0.length : Int)) = true := decide_eq_true c2
        clear c2
        by_cases c3 : 0 ≤ x7_1
        · rw [if_pos c3] at H
          have c3b0 : decide (0 ≤ x7_1) = true := decide_eq_true c3
          clear c3
          by_cases c4 : x7_1 < (l0.length : Int)
          · rw [if_pos c4] at H
            have c4b0 : decide (x7_1 < (l0.length : Int)) = true := decide_eq_true c4
            clear c4
            replace H := Option.bind_eq_some_iff.mp H
            obtain ⟨t133, A50, H⟩ := H
            replace H : (if t133 = true then (if x7_1 > 0 then (if 0 ≤ (wrap64 (x7_1 - 1)) then (if (wrap64 (x7_1 - 1)) < (l0.length : Int) then (if (rd l0 x7_1) ≤ (rd l0 (wrap64 (x7_1 - 1))) then (some false) else (impl_SetOk.l0 k1 l0 l0 (l0.length : Int) (wrap64 (x7_1 + 1)))) else (none)) else (none)) else (impl_SetOk.l0 k1 l0 l0 (l0.length : Int) (wrap64 (x7_1 + 1)))) else (some false)) = some r := H
            have A5 := Aside0.mk A50
            clear A50
            by_cases c6 : t133 = true
            · subst c6
              have H1 : (if x7_1 > 0 then (if 0 ≤ (wrap64 (x7_1 - 1)) then (if (wrap64 (x7_1 - 1)) < (l0.length : Int) then (if (rd l0 x7_1) ≤ (rd l0 (wrap64 (x7_1 - 1))) then (some false) else (impl_SetOk.l0 k1 l0 l0 (l0.length : Int) (wrap64 (x7_1 + 1)))) else (none)) else (none)) else (impl_SetOk.l0 k1 l0 l0 (l0.length : Int) (wrap64 (x7_1 + 1)))) = some r := by rw [if_pos rfl] at H; exact H
              clear H
              have H := H1
              clear H1
              by_cases c7 : x7_1 > 0
              · rw [if_pos c7] at H
                have c7b0 : decide (0 < x7_1) = true := decide_eq_true c7
                clear c7
                obtain ⟨ji8, hji8⟩ : ∃ j_ : Int, (wrap64 (x7_1 - 1)) = j_ := ⟨_, rfl⟩
                replace H : (if 0 ≤ (ji8) then (if (ji8) < (l0.length : Int) then (if (rd l0 x7_1) ≤ (rd l0 (ji8)) then (some false) else (impl_SetOk.l0 k1 l0 l0 (l0.length : Int) (wrap64 (x7_1 + 1)))) else (none)) else (none)) = some r := by first | (rw [hji8] at H; exact H) | (simp only [hji8] at H ⊢; exact H)
                (try rw [hji8] at A5)
                have hji8w : (IntKind.i64.wrap (x7_1 - 1)) = ji8 := (i64_w _).trans hji8
                by_cases c9 : 0 ≤ (ji8)
                · rw [if_pos c9] at H
                  have c9b0 : decide (0 ≤ (ji8)) = true := decide_eq_true c9
                  clear c9
                  by_cases c10 : (ji8) < (l0.length : Int)
                  · rw [if_pos c10] at H
                    have c10b0 : decide ((ji8) < (l0.length : Int)) = true := decide_eq_true c10
                    clear c10
                    by_cases c11 : (rd l0 x7_1) ≤ (rd l0 (ji8))
                    · rw [if_pos c11] at H
                      have c11b0 : decide ((rd l0 x7_1) ≤ (rd l0 (ji8))) = true := decide_eq_true c11
                      clear c11
                      obtain rfl := Option.some.inj H
                      have p132 : 0 ≤ (x7_1 : Int) := of_decide_eq_true (by first | (with_reducible assumption) | assumption)
                      have q132 : x7_1 < (l0.length : Int) := of_decide_eq_true (by first | (with_reducible assumption) | assumption)
                      obtain ⟨ad132, e132, hx132_0⟩ := Kd.at_int HR0.out x7_1 p132 q132
                      cases e132
                      replace p132 := eq_true p132
                      replace q132 := eq_true q132
                      go_wp2_with (first | ((with_reducible refine gate_callee (f := 55) rfl ?_); refine goesL_ (some 13) rfl rfl Try.func55 (by kernel_rfl) rfl #[.int .i64 (rd l0 x7_1), .int .i64 0, .int .i64 1023] rfl (by (try simp only [List.map_toArray, List.map_cons, List.map_nil]); first | done | rfl | (simp only [List.length_drop, List.length_take]; rfl)) ?_; (with_reducible refine (impl_within.calls (rd l0 x7_1) 0 1023 true _ A5.out).mono ?_); rintro e w' ⟨rfl, ⟨nd, rfl⟩⟩; refine ⟨_, rfl, ?_⟩; have p134 : 0 ≤ ((ji8) : Int) := of_decide_eq_true (by first | (with_reducible assumption) | assumption); have q134 : (ji8) < (l0.length : Int) := of_decide_eq_true (by first | (with_reducible assumption) | assumption); obtain ⟨ad134, e134, hx134_0⟩ := Kd.at_int HR0.out (ji8) p134 q134; obtain rfl : ad132 = ad134 := (by injection e134); replace p134 := eq_true p134; replace q134 := eq_true q134))
                      go_ret
                      exact ⟨by first | rfl | (simp; done) | (simp only [← hji8] <;> (first | rfl | simp)) | (simp [*]; done), by repeat (first | exact Drawn0.refl _ | apply Drawn0.step)⟩
                    · rw [if_neg c11] at H
                      have c11b0 : decide ((rd l0 x7_1) ≤ (rd l0 (ji8))) = false := decide_eq_false c11
                      clear c11
                      have H' := Aside0.mk H
                      clear H
                      have p132 : 0 ≤ (x7_1 : Int) := of_decide_eq_true (by first | (with_reducible assumption) | assumption)
                      have q132 : x7_1 < (l0.length : Int) := of_decide_eq_true (by first | (with_reducible assumption) | assumption)
                      obtain ⟨ad132, e132, hx132_0⟩ := Kd.at_int HR0.out x7_1 p132 q132
                      cases e132
                      replace p132 := eq_true p132
                      replace q132 := eq_true q132
                      go_wp2_with (first | ((with_reducible refine gate_callee (f := 55) rfl ?_); refine goesL_ (some 13) rfl rfl Try.func55 (by kernel_rfl) rfl #[.int .i64 (rd l0 x7_1), .int .i64 0, .int .i64 1023] rfl (by (try simp only [List.map_toArray, List.map_cons, List.map_nil]); first | done | rfl | (simp only [List.length_drop, List.length_take]; rfl)) ?_; (with_reducible refine (impl_within.calls (rd l0 x7_1) 0 1023 true _ A5.out).mono ?_); rintro e w' ⟨rfl, ⟨nd, rfl⟩⟩; refine ⟨_, rfl, ?_⟩; have p134 : 0 ≤ ((ji8) : Int) := of_decide_eq_true (by first | (with_reducible assumption) | assumption); have q134 : (ji8) < (l0.length : Int) := of_decide_eq_true (by first | (with_reducible assumption) | assumption); obtain ⟨ad134, e134, hx134_0⟩ := Kd.at_int HR0.out (ji8) p134 q134; obtain rfl : ad132 = ad134 := (by injection e134); replace p134 := eq_true p134; replace q134 := eq_true q134))
                      go_roundg k1
                      case measure => have := HK1.out; omega
                      case rel => exact ⟨(wrap64 (x7_1 + 1)), (by first | rfl | (simp; done) | (simp [*]; done)), H', ⟨by have := HK1.out; omega⟩, by repeat (first | exact Drawn0.refl _ | apply Drawn0.step)⟩
                  · rw [if_neg c10] at H
                    exact absurd H (by simp)
                · rw [if_neg c9] at H
                  exact absurd H (by simp)
              · rw [if_neg c7] at H
                have c7b0 : decide (0 < x7_1) = false := decide_eq_false c7
                clear c7
                have H' := Aside0.mk H
                clear H
                have p132 : 0 ≤ (x7_1 : Int) := of_decide_eq_true (by first | (with_reducible assumption) | assumption)
                have q132 : x7_1 < (l0.length : Int) := of_decide_eq_true (by first | (with_reducible assumption) | assumption)
                obtain ⟨ad132, e132, hx132_0⟩ := Kd.at_int HR0.out x7_1 p132 q132
                cases e132
                replace p132 := eq_true p132
                replace q132 := eq_true q132
                go_wp2_with (first | ((with_reducible refine gate_callee (f := 55) rfl ?_); refine goesL_ (some 13) rfl rfl Try.func55 (by kernel_rfl) rfl #[.int .i64 (rd l0 x7_1), .int .i64 0, .int .i64 1023] rfl (by (try simp only [List.map_toArray, List.map_cons, List.map_nil]); first | done | rfl | (simp only [List.length_drop, List.length_take]; rfl)) ?_; (with_reducible refine (impl_within.calls (rd l0 x7_1) 0 1023 true _ A5.out).mono ?_); rintro e w' ⟨rfl, ⟨nd, rfl⟩⟩; refine ⟨_, rfl, ?_⟩))
                go_roundg k1
                case measure => have := HK1.out; omega
                case rel => exact ⟨(wrap64 (x7_1 + 1)), (by first | rfl | (simp; done) | (simp [*]; done)), H', ⟨by have := HK1.out; omega⟩, by repeat (first | exact Drawn0.refl _ | apply Drawn0.step)⟩
            · replace c6 := Bool.eq_false_iff.mpr c6
              subst c6
              have H1 : (some false) = some r := by rw [if_neg (show ¬ (false = true) by decide)] at H; exact H
              clear H
              have H := H1
              clear H1
              obtain rfl := Option.some.inj H
              have p132 : 0 ≤ (x7_1 : Int) := of_decide_eq_true (by first | (with_reducible assumption) | assumption)
              have q132 : x7_1 < (l0.length : Int) := of_decide_eq_true (by first | (with_reducible assumption) | assumption)
              obtain ⟨ad132, e132, hx132_0⟩ := Kd.at_int HR0.out x7_1 p132 q132
              cases e132
              replace p132 := eq_true p132
              replace q132 := eq_true q132
              go_wp2_with (first | ((with_reducible refine gate_callee (f := 55) rfl ?_); refine goesL_ (some 13) rfl rfl Try.func55 (by kernel_rfl) rfl #[.int .i64 (rd l0 x7_1), .int .i64 0, .int .i64 1023] rfl (by (try simp only [List.map_toArray, List.map_cons, List.map_nil]); first | done | rfl | (simp only [List.length_drop, List.length_take]; rfl)) ?_; (with_reducible refine (impl_within.calls (rd l0 x7_1) 0 1023 false _ A5.out).mono ?_); rintro e w' ⟨rfl, ⟨nd, rfl⟩⟩; refine ⟨_, rfl, ?_⟩))
              go_ret
              exact ⟨by first | rfl | (simp; done) | (simp [*]; done), by repeat (first | exact Drawn0.refl _ | apply Drawn0.step)⟩
          · rw [if_neg c4] at H
            exact absurd H (by simp)
        · rw [if_neg c3] at H
          exact absurd H (by simp)
      · rw [if_neg c2] at H
        have c2b0 : decide (x7_1 < (l0.length : Int)) = false := decide_eq_false c2
        clear c2
        obtain rfl := Option.some.inj H
        go_wp2
        go_ret
        exact ⟨by first | rfl | (simp; done) | (simp [*]; done), by repeat (first | exact Drawn0.refl _ | apply Drawn0.step)⟩

end Go.Proofs.Ytnhladaobcnmhaa.X
namespace Go.Proofs.Ytnhladaobcnmhaa.Pure
open Go.RowKit Go.Proofs.Ytnhladaobcnmhaa.X Go.Proofs.YtnhladaobcnmhaaW.PrintWords Go.Proofs.YtnhladaobcnmhaaW.PrintLast
set_option linter.unusedVariables false
set_option linter.unusedSimpArgs false

/-- Strictly increasing, all in 0..1023. -/
def setOkB : List Int → Bool
  | [] => true
  | [x] => decide (0 ≤ x) && decide (x ≤ 1023)
  | x :: y :: l => decide (0 ≤ x) && decide (x ≤ 1023) && decide (x < y) && setOkB (y :: l)
/-- The same, place by place, from place i on. -/
def setFrom (l : List Int) (i : Nat) : Prop := ∀ j (h : j < l.length), i ≤ j → 0 ≤ l[j] ∧ l[j] ≤ 1023 ∧ ∀ (h0 : 0 < j), l[j - 1]'(by omega) < l[j]
instance (l : List Int) (i : Nat) : Decidable (setFrom l i) := by unfold setFrom; infer_instance
theorem l1In_f (a lo hi : Int) : spec_l1In.f a lo hi = some (decide (lo ≤ a) && decide (a ≤ hi)) := by
  unfold spec_l1In.f
  split
  · rename_i h; simp [show lo ≤ a from h]
  · rename_i h; have : ¬ lo ≤ a := h; simp [this]
theorem within_f (a lo hi : Int) : impl_within.f a lo hi = some (decide (lo ≤ a) && decide (a ≤ hi)) := by
  unfold impl_within.f
  split
  · rename_i h; simp [show lo ≤ a from h]
  · rename_i h; have : ¬ lo ≤ a := h; simp [this]
theorem setFrom_step {l : List Int} {i : Nat} (h : i < l.length) (h1 : 0 ≤ l[i]) (h2 : l[i] ≤ 1023) (h3 : ∀ (h0 : 0 < i), l[i - 1]'(by omega) < l[i]) : setFrom l i ↔ setFrom l (i + 1) :=
  ⟨fun hs j hj hi => hs j hj (by omega), fun hs j hj hi => by
    by_cases e : j = i
    · subst e; exact ⟨h1, h2, h3⟩
    · exact hs j hj (by omega)⟩
theorem spec_SetOk_l (l : List Int) (hl : l.length ≤ 1099511627776) (d : Nat) : ∀ (i : Nat), l.length - i = d → i ≤ l.length → Ev (fun k => spec_SetOk.l0 k l (i : Int)) (decide (setFrom l i)) := by
  induction d with
  | zero =>
    intro i hd hi
    refine Ev.step (fun k => by rw [spec_SetOk.l0]) ?_
    exact Ev.neg (by omega) (Ev.eq (decide_eq_true (fun j hj hij => absurd hj (by omega))).symm)
  | succ d ih =>
    intro i hd hi
    have hlt : i < l.length := by omega
    refine Ev.step (fun k => by rw [spec_SetOk.l0]) ?_
    refine Ev.pos (by omega) (Ev.pos (by omega) ?_)
    refine Ev.bindo (l1In_f _ _ _) ?_
    rw [show wrap64 ((i : Int) + 1) = ((i + 1 : Nat) : Int) from by rw [w64 (by omega) (by omega)]; omega, rd_get hlt]
    refine Ev.cases (fun e => ?_) (fun e => Ev.eq ?_)
    · simp only [Bool.and_eq_true, decide_eq_true_eq] at e
      refine Ev.cases (fun e2 => ?_) (fun e2 => ?_)
      · have hp : i - 1 < l.length := by omega
        rw [show wrap64 ((i : Int) - 1) = ((i - 1 : Nat) : Int) from by rw [w64 (by omega) (by omega)]; omega, rd_get hp]
        refine Ev.pos (by omega) (Ev.pos (by omega) ?_)
        refine Ev.cases (fun e3 => Ev.eq ?_) (fun e3 => ?_)
        · exact (decide_eq_false (fun h => by have := (h i hlt (by omega)).2.2 (by omega); omega)).symm
        · refine Ev.val (ih (i + 1) (by omega) (by omega)) (decide_eq_decide.2 (setFrom_step hlt e.1 e.2 (fun _ => by omega)).symm)
      · refine Ev.val (ih (i + 1) (by omega) (by omega)) (decide_eq_decide.2 (setFrom_step hlt e.1 e.2 (fun h0 => by omega)).symm)
    · exact (decide_eq_false (fun h => e (by have := h i hlt (by omega); simp [this.1, this.2.1]))).symm
theorem spec_SetOk_ev (l : List Int) (hl : l.length ≤ 1099511627776) : Ev (fun k => spec_SetOk.f k l) (decide (setFrom l 0)) := by
  unfold spec_SetOk.f
  exact spec_SetOk_l l hl _ 0 rfl (by omega)
theorem impl_SetOk_l (l : List Int) (hl : l.length ≤ 1099511627776) (d : Nat) : ∀ (i : Nat), l.length - i = d → i ≤ l.length → Ev (fun k => impl_SetOk.l0 k l l (l.length : Int) (i : Int)) (decide (setFrom l i)) := by
  induction d with
  | zero =>
    intro i hd hi
    refine Ev.step (fun k => by rw [impl_SetOk.l0]) ?_
    exact Ev.neg (by omega) (Ev.eq (decide_eq_true (fun j hj hij => absurd hj (by omega))).symm)
  | succ d ih =>
    intro i hd hi
    have hlt : i < l.length := by omega
    refine Ev.step (fun k => by rw [impl_SetOk.l0]) ?_
    refine Ev.pos (by omega) (Ev.pos (by omega) (Ev.pos (by omega) ?_))
    refine Ev.bindo (within_f _ _ _) ?_
    rw [show wrap64 ((i : Int) + 1) = ((i + 1 : Nat) : Int) from by rw [w64 (by omega) (by omega)]; omega, rd_get hlt]
    refine Ev.cases (fun e => ?_) (fun e => Ev.eq ?_)
    · simp only [Bool.and_eq_true, decide_eq_true_eq] at e
      refine Ev.cases (fun e2 => ?_) (fun e2 => ?_)
      · have hp : i - 1 < l.length := by omega
        rw [show wrap64 ((i : Int) - 1) = ((i - 1 : Nat) : Int) from by rw [w64 (by omega) (by omega)]; omega, rd_get hp]
        refine Ev.pos (by omega) (Ev.pos (by omega) ?_)
        refine Ev.cases (fun e3 => Ev.eq ?_) (fun e3 => ?_)
        · exact (decide_eq_false (fun h => by have := (h i hlt (by omega)).2.2 (by omega); omega)).symm
        · refine Ev.val (ih (i + 1) (by omega) (by omega)) (decide_eq_decide.2 (setFrom_step hlt e.1 e.2 (fun _ => by omega)).symm)
      · refine Ev.val (ih (i + 1) (by omega) (by omega)) (decide_eq_decide.2 (setFrom_step hlt e.1 e.2 (fun h0 => by omega)).symm)
    · exact (decide_eq_false (fun h => e (by have := h i hlt (by omega); simp [this.1, this.2.1]))).symm
theorem impl_SetOk_ev (l : List Int) (hl : l.length ≤ 1099511627776) : Ev (fun k => impl_SetOk.f k l) (decide (setFrom l 0)) := by
  unfold impl_SetOk.f
  exact impl_SetOk_l l hl _ 0 rfl (by omega)
end Go.Proofs.Ytnhladaobcnmhaa.Pure
namespace Go.Proofs.Ytnhladaobcnmhaa.X
open Go.RowKit Go.Proofs.YtnhladaobcnmhaaW.PrintWords Go.Proofs.YtnhladaobcnmhaaW.PrintLast Go.Proofs.YtnhladaobcnmhaaW.PrintMore
attribute [local go_sem] max2_int min2_int max_two min_two max_three min_three max_four min_four   -- for this text's walks alone
set_option linter.unusedVariables false
set_option linter.unusedSimpArgs false

/-! ### impl_LinesOf: function 37 -/
def impl_LinesOf.l0 : Nat → ByteArray → List Int → Int → Option (List Int)
  | 0, _, _, _ => none
  | k + 1, x0, x3, x9 => if x9 < 128 then ((impl_isTaken.f x0 x9).bind fun t516 => (if t516 = true then (if x3.length < 17592186044416 then (impl_LinesOf.l0 k x0 (x3 ++ [x9]) (wrap64 (x9 + 1))) else (none)) else (impl_LinesOf.l0 k x0 x3 (wrap64 (x9 + 1))))) else (some x3)
def impl_LinesOf.f (k : Nat) (a0 : ByteArray) : Option (List Int) := (impl_isMap.f a0).bind fun t512 => (if t512 = true then (impl_LinesOf.l0 k a0 (([] : List Int)) 0) else (some ([] : List Int)))
theorem impl_LinesOf.mono_l : ∀ k, (∀ y0 y1 y2, LeO (impl_LinesOf.l0 k y0 y1 y2) (impl_LinesOf.l0 (k + 1) y0 y1 y2))
  | 0 => fun _ _ _ r h => by simp [impl_LinesOf.l0] at h
  | k + 1 => by
    have ih0 := impl_LinesOf.mono_l k
    · intro y0 y1 y2
      unfold impl_LinesOf.l0
      repeat' first
      | (with_reducible exact ih0 _ _ _)
      | (with_reducible exact LeO.refl _)
      | (with_reducible exact LeO.none _)
      | (with_reducible refine LeO.ite ?_ ?_)
      | (with_reducible refine LeO.bind ?_ (fun _ => ?_))
      | exact ih0 _ _ _
      | exact LeO.none _
      | refine LeO.ite ?_ ?_
      | refine LeO.bind ?_ (fun _ => ?_)
theorem impl_LinesOf.mono : ∀ a0 k, LeO (impl_LinesOf.f k a0) (impl_LinesOf.f (k + 1) a0) := by
  intro a0 k
  have ih0 := impl_LinesOf.mono_l k
  unfold impl_LinesOf.f
  repeat' first
      | (with_reducible exact ih0 _ _ _)
      | (with_reducible exact LeO.refl _)
      | (with_reducible exact LeO.none _)
      | (with_reducible refine LeO.ite ?_ ?_)
      | (with_reducible refine LeO.bind ?_ (fun _ => ?_))
      | exact ih0 _ _ _
      | exact LeO.none _
      | refine LeO.ite ?_ ?_
      | refine LeO.bind ?_ (fun _ => ?_)
set_option maxHeartbeats 8000000 in
set_option maxRecDepth 100000 in
theorem impl_LinesOf.calls (k : Nat) (a0 : ByteArray) (r : List Int) (w : World) (h : impl_LinesOf.f k a0 = some r) :
    Calls Try.prog 37 #[.string a0] w fun e w' => ∃ v0_ : Value, e = .returned (v0_) ∧ Kd.R (Kd.int .i64) 2 w' w.heap.size (fun _ => True) v0_ r ∧ Below w.heap.size w w' := by
  have HB := Aside0.mk (Below.refl w.heap.size w)
  have H : ((impl_isMap.f a0).bind fun t512 => (if t512 = true then (impl_LinesOf.l0 k a0 (([] : List Int)) 0) else (some ([] : List Int)))) = some r := h
  clear h
  replace H := Option.bind_eq_some_iff.mp H
  obtain ⟨t512, A20, H⟩ := H
  replace H : (if t512 = true then (impl_LinesOf.l0 k a0 (([] : List Int)) 0) else (some ([] : List Int))) = some r := H
  have A2 := Aside0.mk A20
  clear A20
  by_cases c3 : t512 = true
  · subst c3
    have H1 : (impl_LinesOf.l0 k a0 (([] : List Int)) 0) = some r := by rw [if_pos rfl] at H; exact H
    clear H
    have H := H1
    clear H1
    obtain ⟨y513, hy513⟩ : ∃ y_ : List Int, y_ = (([] : List Int)) := ⟨_, rfl⟩
    replace H : (impl_LinesOf.l0 k a0 y513 0) = some r := by first | (rw [hy513]; with_reducible exact H) | (have H2_ := (Option.bind_some _ _).symm.trans H; rw [hy513]; with_reducible exact H2_) | (have H2_ := (Option.bind_some _ _).symm.trans H; with_reducible exact H2_) | with_reducible exact H | (rw [hy513]; exact H) | exact H
    have Ny513 := Aside0.mk hy513
    clear hy513
    have H' := Aside0.mk H
    clear H
    go_enter Try.func37, Try.ntmps37
    go_wp2_with (first | ((with_reducible refine gate_callee (f := 84) rfl ?_); refine goesL_ (some 6) rfl rfl Try.func84 (by kernel_rfl) rfl #[.string a0] rfl (by (try simp only [List.map_toArray, List.map_cons, List.map_nil]); first | done | rfl | (simp only [List.length_drop, List.length_take]; rfl)) ?_; (with_reducible refine (impl_isMap.calls a0 true _ A2.out).mono ?_); rintro e w4 ⟨rfl, hb⟩; refine ⟨_, rfl, ?_⟩; have n0_ := Aside0.mk (below_step (by repeat (first | (with_reducible first | exact HB.out | apply below_alloc | apply pw_below_drewN | apply below_drew1) | exact HB.out)) hb); clear HB; have HB := n0_; clear n0_; (try clear hb); (try clear hb2); (try clear hk); (try clear hi)) | ((with_reducible refine gate_dst (N := 8) rfl ?_); refine Kd.R_lit (Kd.int .i64) _ 2 ?hg (N := 8) ?hd (xs := ([] : List Int)) (inner := []) (ok := fun _ => True) (okp := fun _ => True) ?hr ?hp (fun _ hk => hk) trivial (Below.refl _ _) (Nat.le_refl _) (by simp) ?_; (case hd => rfl); (case hg => rfl); (case hr => first | (go_simp; done) | (go_simp; rfl)); (case hp => exact (Reps.none _ _)); intro v514 w5 ho6 hb hg_ hnew_; clear hg_ hnew_; (first | rw [← Ny513.out] at ho6 | (simp only [Int.reduceToNat] at ho6; rw [← Ny513.out] at ho6)); have n0_ := Aside0.mk (Kd.R_lower ho6 (below_size (by repeat (first | (with_reducible first | exact HB.out | apply below_alloc | apply pw_below_drewN | apply below_drew1) | exact HB.out)))); have n1_ := Aside0.mk (below_step (by repeat (first | (with_reducible first | exact HB.out | apply below_alloc | apply pw_below_drewN | apply below_drew1) | exact HB.out)) hb); clear HB; have HO515 := n0_; have HB := n1_; clear n0_ n1_; clear hb ho6))
    go_loopg [3, 9] k (fun kq v3 v9 w' => ∃ (x3_1 : List Int) (x9_1 : Int), v9 = .int .i64 x9_1 ∧ Aside0 (impl_LinesOf.l0 kq a0 x3_1 x9_1 = some r) ∧ Aside0 (kq ≤ k) ∧ Aside0 (Kd.R (Kd.int .i64) 2 w' w.heap.size (fun _ => True) v3 x3_1) ∧ Aside0 (Below w.heap.size w w'))
    case atStart => exact ⟨(y513), (0), (by first | rfl | (simp; done) | (simp [*]; done)), H', ⟨Nat.le_refl _⟩, ⟨by (with_reducible repeat (first | apply Kd.R_alloc | apply Kd.R_drewN | apply Kd.R_drew)); exact HO515.out⟩, ⟨by repeat (first | (with_reducible first | exact HB.out | apply below_alloc | apply pw_below_drewN | apply below_drew1) | exact HB.out)⟩⟩
    case round =>
      clear H'
      try clear p2
      try clear c3
      obtain ⟨x3_1, x9_1, rfl, HA, HK1, HO_3, HB⟩ := hrel
      cases gk with
      | zero => exact absurd HA.out (by simp [impl_LinesOf.l0])
      | succ k1 =>
        have H := HA.out
        clear HA
        simp only [impl_LinesOf.l0] at H
        by_cases c7 : x9_1 < 128
        · rw [if_pos c7] at H
          have c7b0 : decide (x9_1 < 128) = true := decide_eq_true c7
          clear c7
          replace H := Option.bind_eq_some_iff.mp H
          obtain ⟨t516, A80, H⟩ := H
          replace H : (if t516 = true then (if x3_1.length < 17592186044416 then (impl_LinesOf.l0 k1 a0 (x3_1 ++ [x9_1]) (wrap64 (x9_1 + 1))) else (none)) else (impl_LinesOf.l0 k1 a0 x3_1 (wrap64 (x9_1 + 1)))) = some r := H
          have A8 := Aside0.mk A80
          clear A80
          by_cases c9 : t516 = true
          · subst c9
            have H1 : (if x3_1.length < 17592186044416 then (impl_LinesOf.l0 k1 a0 (x3_1 ++ [x9_1]) (wrap64 (x9_1 + 1))) else (none)) = some r := by rw [if_pos rfl] at H; exact H
            clear H
            have H := H1
            clear H1
            by_cases c10 : x3_1.length < 17592186044416
            · rw [if_pos c10] at H
              have LMc10 := Aside0.mk c10
              clear c10
              obtain ⟨y517, hy517⟩ : ∃ y_ : List Int, y_ = (x3_1 ++ [x9_1]) := ⟨_, rfl⟩
              replace H : (impl_LinesOf.l0 k1 a0 y517 (wrap64 (x9_1 + 1))) = some r := by first | (rw [hy517]; with_reducible exact H) | (have H2_ := (Option.bind_some _ _).symm.trans H; rw [hy517]; with_reducible exact H2_) | (have H2_ := (Option.bind_some _ _).symm.trans H; with_reducible exact H2_) | with_reducible exact H | (rw [hy517]; exact H) | exact H
              have Ny517 := Aside0.mk hy517
              clear hy517
              have H' := Aside0.mk H
              clear H
              go_wp2_with (first | ((with_reducible refine gate_callee (f := 85) rfl ?_); refine goesL_ (some 14) rfl rfl Try.func85 (by kernel_rfl) rfl #[.string a0, .int .i64 x9_1] rfl (by (try simp only [List.map_toArray, List.map_cons, List.map_nil]); first | done | rfl | (simp only [List.length_drop, List.length_take]; rfl)) ?_; (with_reducible refine (impl_isTaken.calls a0 x9_1 true _ A8.out).mono ?_); rintro e w' ⟨rfl, ⟨nd, rfl⟩⟩; refine ⟨_, rfl, ?_⟩) | ((with_reducible refine gate_builtin (b := .append) (xs := #[.tmp 15, .tmp 17]) rfl ?_); at_builtin; refine Kd.R_append (Kd.int .i64) (w0 := w) w.heap.size rfl (.tmp 15) (.tmp 17) 22 2 (.int .i64 0) 8 rfl Try.underlying22 info2 rfl (by decide) (by omega) u3 x3_1 x9_1 [.int .i64 x9_1] (fun _ => True) (fun _ => False) rfl rfl ?aP (fun _ hk => hk.elim) ?aF ?aO ?aB ?aS ?aL ?_; (case aP => exact rfl); (case aB => exact (by repeat (first | (with_reducible first | exact HB.out | apply below_alloc | apply pw_below_drewN | apply below_drew1) | exact HB.out))); (case aF => exact (fun _ _ => trivial)); (case aO => exact (by (with_reducible repeat (first | apply Kd.R_alloc | apply Kd.R_drewN | apply Kd.R_drew)); exact HO_3.out)); (case aS => exact (below_size (by repeat (first | (with_reducible first | exact HB.out | apply below_alloc | apply pw_below_drewN | apply below_drew1) | exact HB.out)))); (case aL => have := LMc10.out; omega); intro v518 w11 ho hb hg hat; rw [← Ny517.out] at ho; have n0_ := Aside0.mk (hb); have n1_ := Aside0.mk (ho); clear HB; clear HO_3; have HB := n0_; have HO519 := n1_; clear n0_ n1_; clear ho hb hg hat))
              go_roundg k1
              case measure => have := HK1.out; omega
              case rel => exact ⟨(y517), (wrap64 (x9_1 + 1)), (by first | rfl | (simp; done) | (simp [*]; done)), H', ⟨by have := HK1.out; omega⟩, ⟨by (with_reducible repeat (first | apply Kd.R_alloc | apply Kd.R_drewN | apply Kd.R_drew)); exact HO519.out⟩, ⟨by repeat (first | (with_reducible first | exact HB.out | apply below_alloc | apply pw_below_drewN | apply below_drew1) | exact HB.out)⟩⟩
            · rw [if_neg c10] at H
              exact absurd H (by simp)
          · replace c9 := Bool.eq_false_iff.mpr c9
            subst c9
            have H1 : (impl_LinesOf.l0 k1 a0 x3_1 (wrap64 (x9_1 + 1))) = some r := by rw [if_neg (show ¬ (false = true) by decide)] at H; exact H
            clear H
            have H := H1
            clear H1
            have H' := Aside0.mk H
            clear H
            go_wp2_with (first | ((with_reducible refine gate_callee (f := 85) rfl ?_); refine goesL_ (some 14) rfl rfl Try.func85 (by kernel_rfl) rfl #[.string a0, .int .i64 x9_1] rfl (by (try simp only [List.map_toArray, List.map_cons, List.map_nil]); first | done | rfl | (simp only [List.length_drop, List.length_take]; rfl)) ?_; (with_reducible refine (impl_isTaken.calls a0 x9_1 false _ A8.out).mono ?_); rintro e w' ⟨rfl, ⟨nd, rfl⟩⟩; refine ⟨_, rfl, ?_⟩))
            go_roundg k1
            case measure => have := HK1.out; omega
            case rel => exact ⟨(x3_1), (wrap64 (x9_1 + 1)), (by first | rfl | (simp; done) | (simp [*]; done)), H', ⟨by have := HK1.out; omega⟩, ⟨by (with_reducible repeat (first | apply Kd.R_alloc | apply Kd.R_drewN | apply Kd.R_drew)); exact HO_3.out⟩, ⟨by repeat (first | (with_reducible first | exact HB.out | apply below_alloc | apply pw_below_drewN | apply below_drew1) | exact HB.out)⟩⟩
        · rw [if_neg c7] at H
          have c7b0 : decide (x9_1 < 128) = false := decide_eq_false c7
          clear c7
          obtain rfl := Option.some.inj H
          go_wp2
          go_ret
          exact ⟨_, by first | rfl | (simp [errW_none, errW_some] <;> rfl) | (simp [*, errW_none, errW_some] <;> rfl), by (with_reducible repeat (first | apply Kd.R_alloc | apply Kd.R_drewN | apply Kd.R_drew)); exact HO_3.out, by repeat (first | (with_reducible first | exact HB.out | apply below_alloc | apply pw_below_drewN | apply below_drew1) | exact HB.out)⟩
  · replace c3 := Bool.eq_false_iff.mpr c3
    subst c3
    have H1 : (some ([] : List Int)) = some r := by rw [if_neg (show ¬ (false = true) by decide)] at H; exact H
    clear H
    have H := H1
    clear H1
    obtain rfl := Option.some.inj H
    go_enter Try.func37, Try.ntmps37
    go_wp2_with (first | ((with_reducible refine gate_callee (f := 84) rfl ?_); refine goesL_ (some 6) rfl rfl Try.func84 (by kernel_rfl) rfl #[.string a0] rfl (by (try simp only [List.map_toArray, List.map_cons, List.map_nil]); first | done | rfl | (simp only [List.length_drop, List.length_take]; rfl)) ?_; (with_reducible refine (impl_isMap.calls a0 false _ A2.out).mono ?_); rintro e w12 ⟨rfl, hb⟩; refine ⟨_, rfl, ?_⟩; have n0_ := Aside0.mk (below_step (by repeat (first | (with_reducible first | exact HB.out | apply below_alloc | apply pw_below_drewN | apply below_drew1) | exact HB.out)) hb); clear HB; have HB := n0_; clear n0_; (try clear hb); (try clear hb2); (try clear hk); (try clear hi)))
    go_ret
    exact ⟨_, by first | rfl | (simp [errW_none, errW_some] <;> rfl) | (simp [*, errW_none, errW_some] <;> rfl), by first | exact Kd.R_nil _ _ _ _ _ | exact Kd.N_nil _ _ _ _ _ | exact Kd.V_nil _ _ _ _ _ | exact Kd.Q_nil _ _ _ _ _ | exact Kd.S_nil _ _ _ _ _, by repeat (first | (with_reducible first | exact HB.out | apply below_alloc | apply pw_below_drewN | apply below_drew1) | exact HB.out)⟩

end Go.Proofs.Ytnhladaobcnmhaa.X
namespace Go.Proofs.Ytnhladaobcnmhaa.X
open Go.RowKit Go.Proofs.YtnhladaobcnmhaaW.PrintWords Go.Proofs.YtnhladaobcnmhaaW.PrintLast Go.Proofs.YtnhladaobcnmhaaW.PrintMore
attribute [local go_sem] max2_int min2_int max_two min_two max_three min_three max_four min_four   -- for this text's walks alone
set_option linter.unusedVariables false
set_option linter.unusedSimpArgs false

/-! ### spec_LinesOf: function 39 -/
mutual
def spec_LinesOf.l0 : Nat → ByteArray → List Int → Int → Option (List Int)
  | 0, _, _, _ => none
  | k + 1, x0, x3, x4 => if x4 < 128 then ((spec_l6Map.f x0).bind fun t528 => (spec_LinesOf.j1 k x0 x3 x4 t528)) else (spec_LinesOf.j1 k x0 x3 x4 false)
def spec_LinesOf.j1 : Nat → ByteArray → List Int → Int → Bool → Option (List Int)
  | 0, _, _, _, _ => none
  | k + 1, x0, x3, x4, x11 => if x11 = true then ((spec_l6Bit.f x0 x4).bind fun t529 => (if t529 = true then (if x3.length < 17592186044416 then (spec_LinesOf.l0 k x0 (x3 ++ [x4]) (wrap64 (x4 + 1))) else (none)) else (spec_LinesOf.l0 k x0 x3 (wrap64 (x4 + 1))))) else (some x3)
end
def spec_LinesOf.f (k : Nat) (a0 : ByteArray) : Option (List Int) := spec_LinesOf.l0 k a0 (([] : List Int)) 0
theorem spec_LinesOf.mono_l : ∀ k, (∀ y0 y1 y2, LeO (spec_LinesOf.l0 k y0 y1 y2) (spec_LinesOf.l0 (k + 1) y0 y1 y2)) ∧ (∀ y0 y1 y2 y3, LeO (spec_LinesOf.j1 k y0 y1 y2 y3) (spec_LinesOf.j1 (k + 1) y0 y1 y2 y3))
  | 0 => ⟨fun _ _ _ r h => by simp [spec_LinesOf.l0] at h, fun _ _ _ _ r h => by simp [spec_LinesOf.j1] at h⟩
  | k + 1 => by
    obtain ⟨ih0, ih1⟩ := spec_LinesOf.mono_l k
    refine ⟨?_, ?_⟩
    · intro y0 y1 y2
      unfold spec_LinesOf.l0
      repeat' first
      | (with_reducible exact ih0 _ _ _)
      | (with_reducible exact ih1 _ _ _ _)
      | (with_reducible exact LeO.refl _)
      | (with_reducible exact LeO.none _)
      | (with_reducible refine LeO.ite ?_ ?_)
      | (with_reducible refine LeO.bind ?_ (fun _ => ?_))
      | exact ih0 _ _ _
      | exact ih1 _ _ _ _
      | exact LeO.none _
      | refine LeO.ite ?_ ?_
      | refine LeO.bind ?_ (fun _ => ?_)
    · intro y0 y1 y2 y3
      unfold spec_LinesOf.j1
      repeat' first
      | (with_reducible exact ih0 _ _ _)
      | (with_reducible exact ih1 _ _ _ _)
      | (with_reducible exact LeO.refl _)
      | (with_reducible exact LeO.none _)
      | (with_reducible refine LeO.ite ?_ ?_)
      | (with_reducible refine LeO.bind ?_ (fun _ => ?_))
      | exact ih0 _ _ _
      | exact ih1 _ _ _ _
      | exact LeO.none _
      | refine LeO.ite ?_ ?_
      | refine LeO.bind ?_ (fun _ => ?_)
theorem spec_LinesOf.mono : ∀ a0 k, LeO (spec_LinesOf.f k a0) (spec_LinesOf.f (k + 1) a0) := by
  intro a0 k
  obtain ⟨ih0, ih1⟩ := spec_LinesOf.mono_l k
  unfold spec_LinesOf.f
  repeat' first
      | (with_reducible exact ih0 _ _ _)
      | (with_reducible exact ih1 _ _ _ _)
      | (with_reducible exact LeO.refl _)
      | (with_reducible exact LeO.none _)
      | (with_reducible refine LeO.ite ?_ ?_)
      | (with_reducible refine LeO.bind ?_ (fun _ => ?_))
      | exact ih0 _ _ _
      | exact ih1 _ _ _ _
      | exact LeO.none _
      | refine LeO.ite ?_ ?_
      | refine LeO.bind ?_ (fun _ => ?_)
set_option maxHeartbeats 8000000 in
set_option maxRecDepth 100000 in
theorem spec_LinesOf.calls (k : Nat) (a0 : ByteArray) (r : List Int) (w : World) (h : spec_LinesOf.f k a0 = some r) :
    Calls Try.prog 39 #[.string a0] w fun e w' => ∃ v0_ : Value, e = .returned (v0_) ∧ Kd.R (Kd.int .i64) 2 w' w.heap.size (fun _ => True) v0_ r ∧ Below w.heap.size w w' := by
  have HB := Aside0.mk (Below.refl w.heap.size w)
  have H : (spec_LinesOf.l0 k a0 (([] : List Int)) 0) = some r := h
  clear h
  obtain ⟨y525, hy525⟩ : ∃ y_ : List Int, y_ = (([] : List Int)) := ⟨_, rfl⟩
  replace H : (spec_LinesOf.l0 k a0 y525 0) = some r := by first | (rw [hy525]; with_reducible exact H) | (have H2_ := (Option.bind_some _ _).symm.trans H; rw [hy525]; with_reducible exact H2_) | (have H2_ := (Option.bind_some _ _).symm.trans H; with_reducible exact H2_) | with_reducible exact H | (rw [hy525]; exact H) | exact H
  have Ny525 := Aside0.mk hy525
  clear hy525
  have H' := Aside0.mk H
  clear H
  go_enter Try.func39, Try.ntmps39
  go_wp2_with (first | ((with_reducible refine gate_dst (N := 5) rfl ?_); refine Kd.R_lit (Kd.int .i64) _ 2 ?hg (N := 5) ?hd (xs := ([] : List Int)) (inner := []) (ok := fun _ => True) (okp := fun _ => True) ?hr ?hp (fun _ hk => hk) trivial (Below.refl _ _) (Nat.le_refl _) (by simp) ?_; (case hd => rfl); (case hg => rfl); (case hr => first | (go_simp; done) | (go_simp; rfl)); (case hp => exact (Reps.none _ _)); intro v526 w2 ho3 hb hg_ hnew_; clear hg_ hnew_; (first | rw [← Ny525.out] at ho3 | (simp only [Int.reduceToNat] at ho3; rw [← Ny525.out] at ho3)); have n0_ := Aside0.mk (Kd.R_lower ho3 (below_size (by repeat (first | (with_reducible first | exact HB.out | apply below_alloc | apply pw_below_drewN | apply below_drew1) | exact HB.out)))); have n1_ := Aside0.mk (below_step (by repeat (first | (with_reducible first | exact HB.out | apply below_alloc | apply pw_below_drewN | apply below_drew1) | exact HB.out)) hb); clear HB; have HO527 := n0_; have HB := n1_; clear n0_ n1_; clear hb ho3))
  go_loopg [3, 4] k (fun kq v3 v4 w' => ∃ (x3_1 : List Int) (x4_1 : Int), v4 = .int .i64 x4_1 ∧ Aside0 (spec_LinesOf.l0 kq a0 x3_1 x4_1 = some r) ∧ Aside0 (kq ≤ k) ∧ Aside0 (Kd.R (Kd.int .i64) 2 w' w.heap.size (fun _ => True) v3 x3_1) ∧ Aside0 (Below w.heap.size w w'))
  case atStart => exact ⟨(y525), (0), (by first | rfl | (simp; done) | (simp [*]; done)), H', ⟨Nat.le_refl _⟩, ⟨by (with_reducible repeat (first | apply Kd.R_alloc | apply Kd.R_drewN | apply Kd.R_drew)); exact HO527.out⟩, ⟨by repeat (first | (with_reducible first | exact HB.out | apply below_alloc | apply pw_below_drewN | apply below_drew1) | exact HB.out)⟩⟩
  case round =>
    clear H'
    try clear p2
    try clear c3
    obtain ⟨x3_1, x4_1, rfl, HA, HK1, HO_3, HB⟩ := hrel
    cases gk with
    | zero => exact absurd HA.out (by simp [spec_LinesOf.l0])
    | succ k1 =>
      have H := HA.out
      clear HA
      simp only [spec_LinesOf.l0] at H
      have HC4 := Aside0.mk H
      clear H
      go_upto_region 3 with (fail)
      go_cut [11] (fun v11 wc => ∃ (kq : Nat) (x11_3 : Bool), v11 = .bool x11_3 ∧ Aside0 (spec_LinesOf.j1 kq a0 x3_1 x4_1 x11_3 = some r) ∧ Aside0 (kq ≤ k1) ∧ Aside0 (Kd.R (Kd.int .i64) 2 wc w.heap.size (fun _ => True) u3 x3_1) ∧ Aside0 (Below w.heap.size w wc))
      case first =>
        have H := HC4.out
        clear HC4
        by_cases c5 : x4_1 < 128
        · rw [if_pos c5] at H
          have c5b0 : decide (x4_1 < 128) = true := decide_eq_true c5
          clear c5
          (first | rw [c5b0] | (simp only [i64_w, i32_w]; rw [c5b0]) | skip)
          replace H := Option.bind_eq_some_iff.mp H
          obtain ⟨t528, A60, H⟩ := H
          replace H : (spec_LinesOf.j1 k1 a0 x3_1 x4_1 t528) = some r := H
          have A6 := Aside0.mk A60
          clear A60
          have H' := Aside0.mk H
          clear H
          go_wp2_with (first | (go_at_call 87; (with_reducible refine (spec_l6Map.calls a0 t528 _ A6.out).mono ?_); rintro e w7 ⟨rfl, hb⟩; have n0_ := Aside0.mk (Kd.R_below (by (with_reducible repeat (first | apply Kd.R_alloc | apply Kd.R_drewN | apply Kd.R_drew)); exact HO_3.out) hb); have n1_ := Aside0.mk (below_step (by repeat (first | (with_reducible first | exact HB.out | apply below_alloc | apply pw_below_drewN | apply below_drew1) | exact HB.out)) hb); clear HO_3; clear HB; have HO_3 := n0_; have HB := n1_; clear n0_ n1_; (try clear hb); (try clear hb2); (try clear hk); (try clear hi)))
          go_meet
          case rel => exact ⟨_, (t528), (by first | rfl | (simp; done) | (simp [*]; done)), H', ⟨by have := HK1.out; first | omega | exact Nat.le_refl _⟩, ⟨by (with_reducible repeat (first | apply Kd.R_alloc | apply Kd.R_drewN | apply Kd.R_drew)); exact HO_3.out⟩, ⟨by repeat (first | (with_reducible first | exact HB.out | apply below_alloc | apply pw_below_drewN | apply below_drew1) | exact HB.out)⟩⟩
        · rw [if_neg c5] at H
          have c5b0 : decide (x4_1 < 128) = false := decide_eq_false c5
          clear c5
          (first | rw [c5b0] | (simp only [i64_w, i32_w]; rw [c5b0]) | skip)
          have H' := Aside0.mk H
          clear H
          go_wp2
          go_meet
          case rel => exact ⟨_, (false), (by first | rfl | (simp; done) | (simp [*]; done)), H', ⟨by have := HK1.out; first | omega | exact Nat.le_refl _⟩, ⟨by (with_reducible repeat (first | apply Kd.R_alloc | apply Kd.R_drewN | apply Kd.R_drew)); exact HO_3.out⟩, ⟨by repeat (first | (with_reducible first | exact HB.out | apply below_alloc | apply pw_below_drewN | apply below_drew1) | exact HB.out)⟩⟩
      case rest =>
        clear HC4
        try clear p2
        try clear c3
        try clear c5
        try clear c5b0
        try clear p2
        obtain ⟨kq, x11_3, rfl, HA, HJ3, HO_3, HB⟩ := hcut
        cases kq with
        | zero => exact absurd HA.out (by simp [spec_LinesOf.j1])
        | succ kj3 =>
          have H := HA.out
          clear HA
          simp only [spec_LinesOf.j1] at H
          by_cases c8 : x11_3 = true
          · subst c8
            have H1 : ((spec_l6Bit.f a0 x4_1).bind fun t529 => (if t529 = true then (if x3_1.length < 17592186044416 then (spec_LinesOf.l0 kj3 a0 (x3_1 ++ [x4_1]) (wrap64 (x4_1 + 1))) else (none)) else (spec_LinesOf.l0 kj3 a0 x3_1 (wrap64 (x4_1 + 1))))) = some r := by rw [if_pos rfl] at H; exact H
            clear H
            have H := H1
            clear H1
            replace H := Option.bind_eq_some_iff.mp H
            obtain ⟨t529, A90, H⟩ := H
            replace H : (if t529 = true then (if x3_1.length < 17592186044416 then (spec_LinesOf.l0 kj3 a0 (x3_1 ++ [x4_1]) (wrap64 (x4_1 + 1))) else (none)) else (spec_LinesOf.l0 kj3 a0 x3_1 (wrap64 (x4_1 + 1)))) = some r := H
            have A9 := Aside0.mk A90
            clear A90
            by_cases c10 : t529 = true
            · subst c10
              have H1 : (if x3_1.length < 17592186044416 then (spec_LinesOf.l0 kj3 a0 (x3_1 ++ [x4_1]) (wrap64 (x4_1 + 1))) else (none)) = some r := by rw [if_pos rfl] at H; exact H
              clear H
              have H := H1
              clear H1
              by_cases c11 : x3_1.length < 17592186044416
              · rw [if_pos c11] at H
                have LMc11 := Aside0.mk c11
                clear c11
                obtain ⟨y530, hy530⟩ : ∃ y_ : List Int, y_ = (x3_1 ++ [x4_1]) := ⟨_, rfl⟩
                replace H : (spec_LinesOf.l0 kj3 a0 y530 (wrap64 (x4_1 + 1))) = some r := by first | (rw [hy530]; with_reducible exact H) | (have H2_ := (Option.bind_some _ _).symm.trans H; rw [hy530]; with_reducible exact H2_) | (have H2_ := (Option.bind_some _ _).symm.trans H; with_reducible exact H2_) | with_reducible exact H | (rw [hy530]; exact H) | exact H
                have Ny530 := Aside0.mk hy530
                clear hy530
                have H' := Aside0.mk H
                clear H
                go_wp2_with (first | ((with_reducible refine gate_callee (f := 78) rfl ?_); refine goesL_ (some 16) rfl rfl Try.func78 (by kernel_rfl) rfl #[.string a0, .int .i64 x4_1] rfl (by (try simp only [List.map_toArray, List.map_cons, List.map_nil]); first | done | rfl | (simp only [List.length_drop, List.length_take]; rfl)) ?_; (with_reducible refine (spec_l6Bit.calls a0 x4_1 true _ A9.out).mono ?_); rintro e w' ⟨rfl, ⟨nd, rfl⟩⟩; refine ⟨_, rfl, ?_⟩) | ((with_reducible refine gate_builtin (b := .append) (xs := #[.tmp 17, .tmp 19]) rfl ?_); at_builtin; refine Kd.R_append (Kd.int .i64) (w0 := w) w.heap.size rfl (.tmp 17) (.tmp 19) 22 2 (.int .i64 0) 8 rfl Try.underlying22 info2 rfl (by decide) (by omega) u3 x3_1 x4_1 [.int .i64 x4_1] (fun _ => True) (fun _ => False) rfl rfl ?aP (fun _ hk => hk.elim) ?aF ?aO ?aB ?aS ?aL ?_; (case aP => exact rfl); (case aB => exact (by repeat (first | (with_reducible first | exact HB.out | apply below_alloc | apply pw_below_drewN | apply below_drew1) | exact HB.out))); (case aF => exact (fun _ _ => trivial)); (case aO => exact (by (with_reducible repeat (first | apply Kd.R_alloc | apply Kd.R_drewN | apply Kd.R_drew)); exact HO_3.out)); (case aS => exact (below_size (by repeat (first | (with_reducible first | exact HB.out | apply below_alloc | apply pw_below_drewN | apply below_drew1) | exact HB.out)))); (case aL => have := LMc11.out; omega); intro v531 w12 ho hb hg hat; rw [← Ny530.out] at ho; have n0_ := Aside0.mk (hb); have n1_ := Aside0.mk (ho); clear HB; clear HO_3; have HB := n0_; have HO532 := n1_; clear n0_ n1_; clear ho hb hg hat))
                go_roundg kj3
                case measure => have := HK1.out; have := HJ3.out; omega
                case rel => exact ⟨(y530), (wrap64 (x4_1 + 1)), (by first | rfl | (simp; done) | (simp [*]; done)), H', ⟨by have := HK1.out; have := HJ3.out; omega⟩, ⟨by (with_reducible repeat (first | apply Kd.R_alloc | apply Kd.R_drewN | apply Kd.R_drew)); exact HO532.out⟩, ⟨by repeat (first | (with_reducible first | exact HB.out | apply below_alloc | apply pw_below_drewN | apply below_drew1) | exact HB.out)⟩⟩
              · rw [if_neg c11] at H
                exact absurd H (by simp)
            · replace c10 := Bool.eq_false_iff.mpr c10
              subst c10
              have H1 : (spec_LinesOf.l0 kj3 a0 x3_1 (wrap64 (x4_1 + 1))) = some r := by rw [if_neg (show ¬ (false = true) by decide)] at H; exact H
              clear H
              have H := H1
              clear H1
              have H' := Aside0.mk H
              clear H
              go_wp2_with (first | ((with_reducible refine gate_callee (f := 78) rfl ?_); refine goesL_ (some 16) rfl rfl Try.func78 (by kernel_rfl) rfl #[.string a0, .int .i64 x4_1] rfl (by (try simp only [List.map_toArray, List.map_cons, List.map_nil]); first | done | rfl | (simp only [List.length_drop, List.length_take]; rfl)) ?_; (with_reducible refine (spec_l6Bit.calls a0 x4_1 false _ A9.out).mono ?_); rintro e w' ⟨rfl, ⟨nd, rfl⟩⟩; refine ⟨_, rfl, ?_⟩))
              go_roundg kj3
              case measure => have := HK1.out; have := HJ3.out; omega
              case rel => exact ⟨(x3_1), (wrap64 (x4_1 + 1)), (by first | rfl | (simp; done) | (simp [*]; done)), H', ⟨by have := HK1.out; have := HJ3.out; omega⟩, ⟨by (with_reducible repeat (first | apply Kd.R_alloc | apply Kd.R_drewN | apply Kd.R_drew)); exact HO_3.out⟩, ⟨by repeat (first | (with_reducible first | exact HB.out | apply below_alloc | apply pw_below_drewN | apply below_drew1) | exact HB.out)⟩⟩
          · replace c8 := Bool.eq_false_iff.mpr c8
            subst c8
            have H1 : (some x3_1) = some r := by rw [if_neg (show ¬ (false = true) by decide)] at H; exact H
            clear H
            have H := H1
            clear H1
            obtain rfl := Option.some.inj H
            go_wp2
            go_ret
            exact ⟨_, by first | rfl | (simp [errW_none, errW_some] <;> rfl) | (simp [*, errW_none, errW_some] <;> rfl), by (with_reducible repeat (first | apply Kd.R_alloc | apply Kd.R_drewN | apply Kd.R_drew)); exact HO_3.out, by repeat (first | (with_reducible first | exact HB.out | apply below_alloc | apply pw_below_drewN | apply below_drew1) | exact HB.out)⟩

end Go.Proofs.Ytnhladaobcnmhaa.X
namespace Go.Proofs.Ytnhladaobcnmhaa.X
open Go.RowKit Go.Proofs.YtnhladaobcnmhaaW.PrintWords Go.Proofs.YtnhladaobcnmhaaW.PrintLast Go.Proofs.YtnhladaobcnmhaaW.PrintMore
attribute [local go_sem] max2_int min2_int max_two min_two max_three min_three max_four min_four   -- for this text's walks alone
set_option linter.unusedVariables false
set_option linter.unusedSimpArgs false

/-! ### spec_l6Free: function 79 -/
def spec_l6Free.l0 : Nat → ByteArray → Int → Int → Int → Option (Bool)
  | 0, _, _, _, _ => none
  | k + 1, x0, x1, x2, x7 => if x7 < (wrap64 (x1 + x2)) then ((spec_l6Bit.f x0 x7).bind fun t465 => (if t465 = true then (some false) else (spec_l6Free.l0 k x0 x1 x2 (wrap64 (x7 + 1))))) else (some true)
def spec_l6Free.f (k : Nat) (a0 : ByteArray) (a1 : Int) (a2 : Int) : Option (Bool) := spec_l6Free.l0 k a0 a1 a2 a1
theorem spec_l6Free.mono_l : ∀ k, (∀ y0 y1 y2 y3, LeO (spec_l6Free.l0 k y0 y1 y2 y3) (spec_l6Free.l0 (k + 1) y0 y1 y2 y3))
  | 0 => fun _ _ _ _ r h => by simp [spec_l6Free.l0] at h
  | k + 1 => by
    have ih0 := spec_l6Free.mono_l k
    · intro y0 y1 y2 y3
      unfold spec_l6Free.l0
      repeat' first
      | (with_reducible exact ih0 _ _ _ _)
      | (with_reducible exact LeO.refl _)
      | (with_reducible exact LeO.none _)
      | (with_reducible refine LeO.ite ?_ ?_)
      | (with_reducible refine LeO.bind ?_ (fun _ => ?_))
      | exact ih0 _ _ _ _
      | exact LeO.none _
      | refine LeO.ite ?_ ?_
      | refine LeO.bind ?_ (fun _ => ?_)
theorem spec_l6Free.mono : ∀ a0 a1 a2 k, LeO (spec_l6Free.f k a0 a1 a2) (spec_l6Free.f (k + 1) a0 a1 a2) := by
  intro a0 a1 a2 k
  have ih0 := spec_l6Free.mono_l k
  unfold spec_l6Free.f
  repeat' first
      | (with_reducible exact ih0 _ _ _ _)
      | (with_reducible exact LeO.refl _)
      | (with_reducible exact LeO.none _)
      | (with_reducible refine LeO.ite ?_ ?_)
      | (with_reducible refine LeO.bind ?_ (fun _ => ?_))
      | exact ih0 _ _ _ _
      | exact LeO.none _
      | refine LeO.ite ?_ ?_
      | refine LeO.bind ?_ (fun _ => ?_)
set_option maxHeartbeats 8000000 in
set_option maxRecDepth 100000 in
theorem spec_l6Free.calls (k : Nat) (a0 : ByteArray) (a1 : Int) (a2 : Int) (r : Bool) (w : World) (h : spec_l6Free.f k a0 a1 a2 = some r) :
    Calls Try.prog 79 #[.string a0, .int .i64 a1, .int .i64 a2] w fun e w' => e = .returned (.bool r) ∧ Drawn0 w w' := by
  have H : (spec_l6Free.l0 k a0 a1 a2 a1) = some r := h
  clear h
  have H' := Aside0.mk H
  clear H
  go_enter Try.func79, Try.ntmps79
  go_wp2
  go_loopg [7] k (fun kq v7 w' => ∃ (x7_1 : Int), v7 = .int .i64 x7_1 ∧ Aside0 (spec_l6Free.l0 kq a0 a1 a2 x7_1 = some r) ∧ Aside0 (kq ≤ k) ∧ Drawn0 w w')
  case atStart => exact ⟨(a1), (by first | rfl | (simp; done) | (simp [*]; done)), H', ⟨Nat.le_refl _⟩, by repeat (first | exact Drawn0.refl _ | apply Drawn0.step)⟩
  case round =>
    clear H'
    try clear p2
    obtain ⟨x7_1, rfl, HA, HK1, ⟨m1, rfl⟩⟩ := hrel
    cases gk with
    | zero => exact absurd HA.out (by simp [spec_l6Free.l0])
    | succ k1 =>
      have H := HA.out
      clear HA
      simp only [spec_l6Free.l0] at H
      by_cases c4 : x7_1 < (wrap64 (a1 + a2))
      · rw [if_pos c4] at H
        have c4b0 : decide (x7_1 < (wrap64 (a1 + a2))) = true := decide_eq_true c4
        clear c4
        replace H := Option.bind_eq_some_iff.mp H
        obtain ⟨t465, A50, H⟩ := H
        replace H : (if t465 = true then (some false) else (spec_l6Free.l0 k1 a0 a1 a2 (wrap64 (x7_1 + 1)))) = some r := H
        have A5 := Aside0.mk A50
        clear A50
        by_cases c6 : t465 = true
        · subst c6
          have H1 : (some false) = some r := by rw [if_pos rfl] at H; exact H
          clear H
          have H := H1
          clear H1
          obtain rfl := Option.some.inj H
          go_wp2_with (first | ((with_reducible refine gate_callee (f := 78) rfl ?_); refine goesL_ (some 18) rfl rfl Try.func78 (by kernel_rfl) rfl #[.string a0, .int .i64 x7_1] rfl (by (try simp only [List.map_toArray, List.map_cons, List.map_nil]); first | done | rfl | (simp only [List.length_drop, List.length_take]; rfl)) ?_; (with_reducible refine (spec_l6Bit.calls a0 x7_1 true _ A5.out).mono ?_); rintro e w' ⟨rfl, ⟨nd, rfl⟩⟩; refine ⟨_, rfl, ?_⟩))
          go_ret
          exact ⟨by first | rfl | (simp; done) | (simp [*]; done), by repeat (first | exact Drawn0.refl _ | apply Drawn0.step)⟩
        · replace c6 := Bool.eq_false_iff.mpr c6
          subst c6
          have H1 : (spec_l6Free.l0 k1 a0 a1 a2 (wrap64 (x7_1 + 1))) = some r := by rw [if_neg (show ¬ (false = true) by decide)] at H; exact H
          clear H
          have H := H1
          clear H1
          have H' := Aside0.mk H
          clear H
          go_wp2_with (first | ((with_reducible refine gate_callee (f := 78) rfl ?_); refine goesL_ (some 18) rfl rfl Try.func78 (by kernel_rfl) rfl #[.string a0, .int .i64 x7_1] rfl (by (try simp only [List.map_toArray, List.map_cons, List.map_nil]); first | done | rfl | (simp only [List.length_drop, List.length_take]; rfl)) ?_; (with_reducible refine (spec_l6Bit.calls a0 x7_1 false _ A5.out).mono ?_); rintro e w' ⟨rfl, ⟨nd, rfl⟩⟩; refine ⟨_, rfl, ?_⟩))
          go_roundg k1
          case measure => have := HK1.out; omega
          case rel => exact ⟨(wrap64 (x7_1 + 1)), (by first | rfl | (simp; done) | (simp [*]; done)), H', ⟨by have := HK1.out; omega⟩, by repeat (first | exact Drawn0.refl _ | apply Drawn0.step)⟩
      · rw [if_neg c4] at H
        have c4b0 : decide (x7_1 < (wrap64 (a1 + a2))) = false := decide_eq_false c4
        clear c4
        obtain rfl := Option.some.inj H
        go_wp2
        go_ret
        exact ⟨by first | rfl | (simp; done) | (simp [*]; done), by repeat (first | exact Drawn0.refl _ | apply Drawn0.step)⟩

end Go.Proofs.Ytnhladaobcnmhaa.X
namespace Go.Proofs.Ytnhladaobcnmhaa.X
open Go.RowKit Go.Proofs.YtnhladaobcnmhaaW.PrintWords Go.Proofs.YtnhladaobcnmhaaW.PrintLast Go.Proofs.YtnhladaobcnmhaaW.PrintMore
attribute [local go_sem] max2_int min2_int max_two min_two max_three min_three max_four min_four   -- for this text's walks alone
set_option linter.unusedVariables false
set_option linter.unusedSimpArgs false

/-! ### spec_FindRun: function 32 -/
mutual
def spec_FindRun.j0 : Nat → ByteArray → Int → Int → Int → Bool → Option (Int)
  | 0, _, _, _, _, _ => none
  | k + 1, x0, x1, x2, x3, x19 => if x19 = true then (some (-1)) else (spec_FindRun.l0 k x0 x2 x3 x1)
def spec_FindRun.l0 : Nat → ByteArray → Int → Int → Int → Option (Int)
  | 0, _, _, _, _ => none
  | k + 1, x0, x2, x3, x9 => if (wrap64 (x9 + x3)) ≤ x2 then ((spec_l6Free.f k x0 x9 x3).bind fun t468 => (if t468 = true then (some x9) else (spec_FindRun.l0 k x0 x2 x3 (wrap64 (x9 + 1))))) else (some (-1))
end
def spec_FindRun.f (k : Nat) (a0 : ByteArray) (a1 : Int) (a2 : Int) (a3 : Int) : Option (Int) := (spec_l6Range.f a0 a1 a2).bind fun t466 => (if t466 = true then ((spec_l1In.f a3 1 128).bind fun t467 => (spec_FindRun.j0 k a0 a1 a2 a3 (!t467))) else (spec_FindRun.j0 k a0 a1 a2 a3 true))
theorem spec_FindRun.mono_l : ∀ k, (∀ y0 y1 y2 y3 y4, LeO (spec_FindRun.j0 k y0 y1 y2 y3 y4) (spec_FindRun.j0 (k + 1) y0 y1 y2 y3 y4)) ∧ (∀ y0 y1 y2 y3, LeO (spec_FindRun.l0 k y0 y1 y2 y3) (spec_FindRun.l0 (k + 1) y0 y1 y2 y3))
  | 0 => ⟨fun _ _ _ _ _ r h => by simp [spec_FindRun.j0] at h, fun _ _ _ _ r h => by simp [spec_FindRun.l0] at h⟩
  | k + 1 => by
    obtain ⟨ih0, ih1⟩ := spec_FindRun.mono_l k
    refine ⟨?_, ?_⟩
    · intro y0 y1 y2 y3 y4
      unfold spec_FindRun.j0
      repeat' first
      | (with_reducible exact ih0 _ _ _ _ _)
      | (with_reducible exact ih1 _ _ _ _)
      | (with_reducible exact spec_l6Free.mono _ _ _ _)
      | (with_reducible exact LeO.refl _)
      | (with_reducible exact LeO.none _)
      | (with_reducible refine LeO.ite ?_ ?_)
      | (with_reducible refine LeO.bind ?_ (fun _ => ?_))
      | exact ih0 _ _ _ _ _
      | exact ih1 _ _ _ _
      | exact spec_l6Free.mono _ _ _ _
      | exact LeO.none _
      | refine LeO.ite ?_ ?_
      | refine LeO.bind ?_ (fun _ => ?_)
    · intro y0 y1 y2 y3
      unfold spec_FindRun.l0
      repeat' first
      | (with_reducible exact ih0 _ _ _ _ _)
      | (with_reducible exact ih1 _ _ _ _)
      | (with_reducible exact spec_l6Free.mono _ _ _ _)
      | (with_reducible exact LeO.refl _)
      | (with_reducible exact LeO.none _)
      | (with_reducible refine LeO.ite ?_ ?_)
      | (with_reducible refine LeO.bind ?_ (fun _ => ?_))
      | exact ih0 _ _ _ _ _
      | exact ih1 _ _ _ _
      | exact spec_l6Free.mono _ _ _ _
      | exact LeO.none _
      | refine LeO.ite ?_ ?_
      | refine LeO.bind ?_ (fun _ => ?_)
theorem spec_FindRun.mono : ∀ a0 a1 a2 a3 k, LeO (spec_FindRun.f k a0 a1 a2 a3) (spec_FindRun.f (k + 1) a0 a1 a2 a3) := by
  intro a0 a1 a2 a3 k
  obtain ⟨ih0, ih1⟩ := spec_FindRun.mono_l k
  unfold spec_FindRun.f
  repeat' first
      | (with_reducible exact ih0 _ _ _ _ _)
      | (with_reducible exact ih1 _ _ _ _)
      | (with_reducible exact spec_l6Free.mono _ _ _ _)
      | (with_reducible exact LeO.refl _)
      | (with_reducible exact LeO.none _)
      | (with_reducible refine LeO.ite ?_ ?_)
      | (with_reducible refine LeO.bind ?_ (fun _ => ?_))
      | exact ih0 _ _ _ _ _
      | exact ih1 _ _ _ _
      | exact spec_l6Free.mono _ _ _ _
      | exact LeO.none _
      | refine LeO.ite ?_ ?_
      | refine LeO.bind ?_ (fun _ => ?_)
set_option maxHeartbeats 8000000 in
set_option maxRecDepth 100000 in
theorem spec_FindRun.calls (k : Nat) (a0 : ByteArray) (a1 : Int) (a2 : Int) (a3 : Int) (r : Int) (w : World) (h : spec_FindRun.f k a0 a1 a2 a3 = some r) :
    Calls Try.prog 32 #[.string a0, .int .i64 a1, .int .i64 a2, .int .i64 a3] w fun e w' => e = .returned (.int .i64 r) ∧ Below w.heap.size w w' := by
  have HB := Aside0.mk (Below.refl w.heap.size w)
  have H : ((spec_l6Range.f a0 a1 a2).bind fun t466 => (if t466 = true then ((spec_l1In.f a3 1 128).bind fun t467 => (spec_FindRun.j0 k a0 a1 a2 a3 (!t467))) else (spec_FindRun.j0 k a0 a1 a2 a3 true))) = some r := h
  clear h
  have HC5 := Aside0.mk H
  clear H
  go_enter Try.func32, Try.ntmps32
  go_upto_region 1 with (fail)
  go_cut [19] (fun v19 wc => ∃ (kq : Nat) (x19_4 : Bool), v19 = .bool x19_4 ∧ Aside0 (spec_FindRun.j0 kq a0 a1 a2 a3 x19_4 = some r) ∧ Aside0 (kq ≤ k) ∧ Aside0 (Below w.heap.size w wc))
  case first =>
    have H := HC5.out
    clear HC5
    replace H := Option.bind_eq_some_iff.mp H
    obtain ⟨t466, A60, H⟩ := H
    replace H : (if t466 = true then ((spec_l1In.f a3 1 128).bind fun t467 => (spec_FindRun.j0 k a0 a1 a2 a3 (!t467))) else (spec_FindRun.j0 k a0 a1 a2 a3 true)) = some r := H
    have A6 := Aside0.mk A60
    clear A60
    by_cases c7 : t466 = true
    · subst c7
      have H1 : ((spec_l1In.f a3 1 128).bind fun t467 => (spec_FindRun.j0 k a0 a1 a2 a3 (!t467))) = some r := by rw [if_pos rfl] at H; exact H
      clear H
      have H := H1
      clear H1
      replace H := Option.bind_eq_some_iff.mp H
      obtain ⟨t467, A80, H⟩ := H
      replace H : (spec_FindRun.j0 k a0 a1 a2 a3 (!t467)) = some r := H
      have A8 := Aside0.mk A80
      clear A80
      have H' := Aside0.mk H
      clear H
      go_wp2_with (first | ((with_reducible refine gate_callee (f := 77) rfl ?_); refine goesL_ (some 13) rfl rfl Try.func77 (by kernel_rfl) rfl #[.string a0, .int .i64 a1, .int .i64 a2] rfl (by (try simp only [List.map_toArray, List.map_cons, List.map_nil]); first | done | rfl | (simp only [List.length_drop, List.length_take]; rfl)) ?_; (with_reducible refine (spec_l6Range.calls a0 a1 a2 true _ A6.out).mono ?_); rintro e w9 ⟨rfl, hb⟩; refine ⟨_, rfl, ?_⟩; have n0_ := Aside0.mk (below_step (by repeat (first | (with_reducible first | exact HB.out | apply below_alloc | apply pw_below_drewN | apply below_drew1) | exact HB.out)) hb); clear HB; have HB := n0_; clear n0_; (try clear hb); (try clear hb2); (try clear hk); (try clear hi)) | (go_at_call 52; (with_reducible refine (spec_l1In.calls a3 1 128 t467 _ A8.out).mono ?_); rintro e w' ⟨rfl, ⟨nd, rfl⟩⟩))
      go_meet
      case rel => exact ⟨_, (!t467), (by first | rfl | (simp; done) | (simp [*]; done)), H', ⟨by first | omega | exact Nat.le_refl _⟩, ⟨by repeat (first | (with_reducible first | exact HB.out | apply below_alloc | apply pw_below_drewN | apply below_drew1) | exact HB.out)⟩⟩
    · replace c7 := Bool.eq_false_iff.mpr c7
      subst c7
      have H1 : (spec_FindRun.j0 k a0 a1 a2 a3 true) = some r := by rw [if_neg (show ¬ (false = true) by decide)] at H; exact H
      clear H
      have H := H1
      clear H1
      have H' := Aside0.mk H
      clear H
      go_wp2_with (first | ((with_reducible refine gate_callee (f := 77) rfl ?_); refine goesL_ (some 13) rfl rfl Try.func77 (by kernel_rfl) rfl #[.string a0, .int .i64 a1, .int .i64 a2] rfl (by (try simp only [List.map_toArray, List.map_cons, List.map_nil]); first | done | rfl | (simp only [List.length_drop, List.length_take]; rfl)) ?_; (with_reducible refine (spec_l6Range.calls a0 a1 a2 false _ A6.out).mono ?_); rintro e w10 ⟨rfl, hb⟩; refine ⟨_, rfl, ?_⟩; have n0_ := Aside0.mk (below_step (by repeat (first | (with_reducible first | exact HB.out | apply below_alloc | apply pw_below_drewN | apply below_drew1) | exact HB.out)) hb); clear HB; have HB := n0_; clear n0_; (try clear hb); (try clear hb2); (try clear hk); (try clear hi)))
      go_meet
      case rel => exact ⟨_, (true), (by first | rfl | (simp; done) | (simp [*]; done)), H', ⟨by first | omega | exact Nat.le_refl _⟩, ⟨by repeat (first | (with_reducible first | exact HB.out | apply below_alloc | apply pw_below_drewN | apply below_drew1) | exact HB.out)⟩⟩
  case rest =>
    clear HC5
    try clear p2
    try clear c3
    try clear c7
    obtain ⟨kq, x19_4, rfl, HA, HJ4, HB⟩ := hcut
    cases kq with
    | zero => exact absurd HA.out (by simp [spec_FindRun.j0])
    | succ kj4 =>
      have H := HA.out
      clear HA
      simp only [spec_FindRun.j0] at H
      by_cases c11 : x19_4 = true
      · subst c11
        have H1 : (some (-1)) = some r := by rw [if_pos rfl] at H; exact H
        clear H
        have H := H1
        clear H1
        obtain rfl := Option.some.inj H
        go_wp2
        go_ret
        exact ⟨by first | rfl | (simp [errW_none, errW_some] <;> rfl) | (simp [*, errW_none, errW_some] <;> rfl), by repeat (first | (with_reducible first | exact HB.out | apply below_alloc | apply pw_below_drewN | apply below_drew1) | exact HB.out)⟩
      · replace c11 := Bool.eq_false_iff.mpr c11
        subst c11
        have H1 : (spec_FindRun.l0 kj4 a0 a2 a3 a1) = some r := by rw [if_neg (show ¬ (false = true) by decide)] at H; exact H
        clear H
        have H := H1
        clear H1
        have H' := Aside0.mk H
        clear H
        go_wp2
        go_loopg [9] kj4 (fun kq v9 w' => ∃ (x9_2 : Int), v9 = .int .i64 x9_2 ∧ Aside0 (spec_FindRun.l0 kq a0 a2 a3 x9_2 = some r) ∧ Aside0 (kq ≤ kj4) ∧ Aside0 (Below w.heap.size w w'))
        case atStart => exact ⟨(a1), (by first | rfl | (simp; done) | (simp [*]; done)), H', ⟨Nat.le_refl _⟩, ⟨by repeat (first | (with_reducible first | exact HB.out | apply below_alloc | apply pw_below_drewN | apply below_drew1) | exact HB.out)⟩⟩
        case round =>
          clear H'
          try clear c1
          try clear p2
          try clear c3
          try clear c7
          try clear c11
          try clear p2
          obtain ⟨x9_2, rfl, HA, HK2, HB⟩ := hrel
          cases gk with
          | zero => exact absurd HA.out (by simp [spec_FindRun.l0])
          | succ k2 =>
            have H := HA.out
            clear HA
            simp only [spec_FindRun.l0] at H
            by_cases c12 : (wrap64 (x9_2 + a3)) ≤ a2
            · rw [if_pos c12] at H
              have c12b0 : decide ((wrap64 (x9_2 + a3)) ≤ a2) = true := decide_eq_true c12
              clear c12
              replace H := Option.bind_eq_some_iff.mp H
              obtain ⟨t468, A130, H⟩ := H
              replace H : (if t468 = true then (some x9_2) else (spec_FindRun.l0 k2 a0 a2 a3 (wrap64 (x9_2 + 1)))) = some r := H
              have A13 := Aside0.mk A130
              clear A130
              by_cases c14 : t468 = true
              · subst c14
                have H1 : (some x9_2) = some r := by rw [if_pos rfl] at H; exact H
                clear H
                have H := H1
                clear H1
                obtain rfl := Option.some.inj H
                go_wp2_with (first | ((with_reducible refine gate_callee (f := 79) rfl ?_); refine goesL_ (some 31) rfl rfl Try.func79 (by kernel_rfl) rfl #[.string a0, .int .i64 x9_2, .int .i64 a3] rfl (by (try simp only [List.map_toArray, List.map_cons, List.map_nil]); first | done | rfl | (simp only [List.length_drop, List.length_take]; rfl)) ?_; (with_reducible refine (spec_l6Free.calls k2 a0 x9_2 a3 true _ A13.out).mono ?_); rintro e w' ⟨rfl, ⟨nd, rfl⟩⟩; refine ⟨_, rfl, ?_⟩))
                go_ret
                exact ⟨by first | rfl | (simp [errW_none, errW_some] <;> rfl) | (simp [*, errW_none, errW_some] <;> rfl), by repeat (first | (with_reducible first | exact HB.out | apply below_alloc | apply pw_below_drewN | apply below_drew1) | exact HB.out)⟩
              · replace c14 := Bool.eq_false_iff.mpr c14
                subst c14
                have H1 : (spec_FindRun.l0 k2 a0 a2 a3 (wrap64 (x9_2 + 1))) = some r := by rw [if_neg (show ¬ (false = true) by decide)] at H; exact H
                clear H
                have H := H1
                clear H1
                have H' := Aside0.mk H
                clear H
                go_wp2_with (first | ((with_reducible refine gate_callee (f := 79) rfl ?_); refine goesL_ (some 31) rfl rfl Try.func79 (by kernel_rfl) rfl #[.string a0, .int .i64 x9_2, .int .i64 a3] rfl (by (try simp only [List.map_toArray, List.map_cons, List.map_nil]); first | done | rfl | (simp only [List.length_drop, List.length_take]; rfl)) ?_; (with_reducible refine (spec_l6Free.calls k2 a0 x9_2 a3 false _ A13.out).mono ?_); rintro e w' ⟨rfl, ⟨nd, rfl⟩⟩; refine ⟨_, rfl, ?_⟩))
                go_roundg k2
                case measure => have := HJ4.out; have := HK2.out; omega
                case rel => exact ⟨(wrap64 (x9_2 + 1)), (by first | rfl | (simp; done) | (simp [*]; done)), H', ⟨by have := HJ4.out; have := HK2.out; omega⟩, ⟨by repeat (first | (with_reducible first | exact HB.out | apply below_alloc | apply pw_below_drewN | apply below_drew1) | exact HB.out)⟩⟩
            · rw [if_neg c12] at H
              have c12b0 : decide ((wrap64 (x9_2 + a3)) ≤ a2) = false := decide_eq_false c12
              clear c12
              obtain rfl := Option.some.inj H
              go_wp2
              go_ret
              exact ⟨by first | rfl | (simp [errW_none, errW_some] <;> rfl) | (simp [*, errW_none, errW_some] <;> rfl), by repeat (first | (with_reducible first | exact HB.out | apply below_alloc | apply pw_below_drewN | apply below_drew1) | exact HB.out)⟩

end Go.Proofs.Ytnhladaobcnmhaa.X
namespace Go.Proofs.Ytnhladaobcnmhaa.X
open Go.RowKit Go.Proofs.YtnhladaobcnmhaaW.PrintWords Go.Proofs.YtnhladaobcnmhaaW.PrintLast Go.Proofs.YtnhladaobcnmhaaW.PrintMore
attribute [local go_sem] max2_int min2_int max_two min_two max_three min_three max_four min_four   -- for this text's walks alone
set_option linter.unusedVariables false
set_option linter.unusedSimpArgs false

/-! ### spec_Gaps: function 95 -/
def spec_Gaps.l0 : Nat → ByteArray → Int → List (S46) → Int → Option ((List (S46)))
  | 0, _, _, _, _ => none
  | k + 1, x0, x2, x7, x8 => if x8 < x2 then ((spec_l6Bit.f x0 x8).bind fun t743 => (if t743 = true then (spec_Gaps.l0 k x0 x2 x7 (wrap64 (x8 + 1))) else (if (wrap64 ((x7.length : Int) - 1)) ≥ 0 then (if 0 ≤ (wrap64 ((x7.length : Int) - 1)) then (if (wrap64 ((x7.length : Int) - 1)) < (x7.length : Int) then (if (wrap64 (((rd_T46 x7 (wrap64 ((x7.length : Int) - 1))).f0) + ((rd_T46 x7 (wrap64 ((x7.length : Int) - 1))).f1))) = x8 then (spec_Gaps.l0 k x0 x2 (x7.set ((wrap64 ((x7.length : Int) - 1)) : Int).toNat (⟨(rd_T46 x7 (wrap64 ((x7.length : Int) - 1))).f0, wrap64 (((rd_T46 x7 (wrap64 ((x7.length : Int) - 1))).f1) + 1)⟩ : S46)) (wrap64 (x8 + 1))) else (if x7.length < 8796093022208 then (spec_Gaps.l0 k x0 x2 (x7 ++ [(⟨x8, 1⟩ : S46)]) (wrap64 (x8 + 1))) else (none))) else (none)) else (none)) else (if x7.length < 8796093022208 then (spec_Gaps.l0 k x0 x2 (x7 ++ [(⟨x8, 1⟩ : S46)]) (wrap64 (x8 + 1))) else (none))))) else (some x7)
def spec_Gaps.f (k : Nat) (a0 : ByteArray) (a1 : Int) (a2 : Int) : Option ((List (S46))) := (some (([] : List (S46)) : List (S46))).bind fun y739 => ((spec_l6Range.f a0 a1 a2).bind fun t742 => (if t742 = true then (spec_Gaps.l0 k a0 a2 y739 a1) else (some y739)))
theorem spec_Gaps.mono_l : ∀ k, (∀ y0 y1 y2 y3, LeO (spec_Gaps.l0 k y0 y1 y2 y3) (spec_Gaps.l0 (k + 1) y0 y1 y2 y3))
  | 0 => fun _ _ _ _ r h => by simp [spec_Gaps.l0] at h
  | k + 1 => by
    have ih0 := spec_Gaps.mono_l k
    · intro y0 y1 y2 y3
      unfold spec_Gaps.l0
      repeat' first
      | (with_reducible exact ih0 _ _ _ _)
      | (with_reducible exact LeO.refl _)
      | (with_reducible exact LeO.none _)
      | (with_reducible refine LeO.ite ?_ ?_)
      | (with_reducible refine LeO.bind ?_ (fun _ => ?_))
      | exact ih0 _ _ _ _
      | exact LeO.none _
      | refine LeO.ite ?_ ?_
      | refine LeO.bind ?_ (fun _ => ?_)
theorem spec_Gaps.mono : ∀ a0 a1 a2 k, LeO (spec_Gaps.f k a0 a1 a2) (spec_Gaps.f (k + 1) a0 a1 a2) := by
  intro a0 a1 a2 k
  have ih0 := spec_Gaps.mono_l k
  unfold spec_Gaps.f
  repeat' first
      | (with_reducible exact ih0 _ _ _ _)
      | (with_reducible exact LeO.refl _)
      | (with_reducible exact LeO.none _)
      | (with_reducible refine LeO.ite ?_ ?_)
      | (with_reducible refine LeO.bind ?_ (fun _ => ?_))
      | exact ih0 _ _ _ _
      | exact LeO.none _
      | refine LeO.ite ?_ ?_
      | refine LeO.bind ?_ (fun _ => ?_)
set_option maxHeartbeats 8000000 in
set_option maxRecDepth 100000 in
theorem spec_Gaps.calls (k : Nat) (a0 : ByteArray) (a1 : Int) (a2 : Int) (r : List (S46)) (w : World) (h : spec_Gaps.f k a0 a1 a2 = some r) :
    Calls Try.prog 95 #[.string a0, .int .i64 a1, .int .i64 a2] w fun e w' => ∃ v0_ : Value, e = .returned (v0_) ∧ Kd.R k46 46 w' w.heap.size (fun _ => True) v0_ r ∧ Below w.heap.size w w' := by
  have hu46 := Try.underlying46
  have HB := Aside0.mk (Below.refl w.heap.size w)
  have H : ((some (([] : List (S46)) : List (S46))).bind fun y739 => ((spec_l6Range.f a0 a1 a2).bind fun t742 => (if t742 = true then (spec_Gaps.l0 k a0 a2 y739 a1) else (some y739)))) = some r := h
  clear h
  obtain ⟨y739, hy739⟩ : ∃ y_ : List (S46), y_ = (([] : List (S46))) := ⟨_, rfl⟩
  replace H : ((spec_l6Range.f a0 a1 a2).bind fun t742 => (if t742 = true then (spec_Gaps.l0 k a0 a2 y739 a1) else (some y739))) = some r := by first | (rw [hy739]; with_reducible exact H) | (have H2_ := (Option.bind_some _ _).symm.trans H; rw [hy739]; with_reducible exact H2_) | (have H2_ := (Option.bind_some _ _).symm.trans H; with_reducible exact H2_) | with_reducible exact H | (rw [hy739]; exact H) | exact H
  have Ny739 := Aside0.mk hy739
  clear hy739
  replace H := Option.bind_eq_some_iff.mp H
  obtain ⟨t742, A40, H⟩ := H
  replace H : (if t742 = true then (spec_Gaps.l0 k a0 a2 y739 a1) else (some y739)) = some r := H
  have A4 := Aside0.mk A40
  clear A40
  by_cases c5 : t742 = true
  · subst c5
    have H1 : (spec_Gaps.l0 k a0 a2 y739 a1) = some r := by rw [if_pos rfl] at H; exact H
    clear H
    have H := H1
    clear H1
    have H' := Aside0.mk H
    clear H
    go_enter Try.func95, Try.ntmps95
    go_wp2_with (first | ((with_reducible refine gate_dst (N := 10) rfl ?_); refine Kd.R_lit k46 _ 46 ?hg (N := 10) ?hd (xs := ([] : List (S46))) (inner := []) (ok := fun _ => True) (okp := fun _ => True) ?hr ?hp (fun _ hk => hk) trivial (Below.refl _ _) (Nat.le_refl _) (by simp) ?_; (case hd => rfl); (case hg => rfl); (case hr => first | (go_simp; done) | (go_simp; rfl)); (case hp => exact (Reps.none _ _)); intro v740 w6 ho7 hb hg_ hnew_; clear hg_ hnew_; (first | rw [← Ny739.out] at ho7 | (simp only [Int.reduceToNat] at ho7; rw [← Ny739.out] at ho7)); have n0_ := Aside0.mk (Kd.R_lower ho7 (below_size (by repeat (first | (with_reducible first | exact HB.out | apply below_alloc | apply pw_below_drewN | apply below_drew1) | exact HB.out)))); have n1_ := Aside0.mk (below_step (by repeat (first | (with_reducible first | exact HB.out | apply below_alloc | apply pw_below_drewN | apply below_drew1) | exact HB.out)) hb); clear HB; have HO741 := n0_; have HB := n1_; clear n0_ n1_; clear hb ho7) | (go_at_call 77; (with_reducible refine (spec_l6Range.calls a0 a1 a2 true _ A4.out).mono ?_); rintro e w8 ⟨rfl, hb⟩; have n0_ := Aside0.mk (Kd.R_below (by (with_reducible repeat (first | apply Kd.R_alloc | apply Kd.R_drewN | apply Kd.R_drew)); exact HO741.out) hb); have n1_ := Aside0.mk (below_step (by repeat (first | (with_reducible first | exact HB.out | apply below_alloc | apply pw_below_drewN | apply below_drew1) | exact HB.out)) hb); clear HO741; clear HB; have HO741 := n0_; have HB := n1_; clear n0_ n1_; (try clear hb); (try clear hb2); (try clear hk); (try clear hi)))
    repeat (go_quiet (first | ((with_reducible refine gate_dst (N := 10) rfl ?_); refine Kd.R_lit k46 _ 46 ?hg (N := 10) ?hd (xs := ([] : List (S46))) (inner := []) (ok := fun _ => True) (okp := fun _ => True) ?hr ?hp (fun _ hk => hk) trivial (Below.refl _ _) (Nat.le_refl _) (by simp) ?_; (case hd => rfl); (case hg => rfl); (case hr => first | (go_simp; done) | (go_simp; rfl)); (case hp => exact (Reps.none _ _)); intro v740 w6 ho7 hb hg_ hnew_; clear hg_ hnew_; (first | rw [← Ny739.out] at ho7 | (simp only [Int.reduceToNat] at ho7; rw [← Ny739.out] at ho7)); have n0_ := Aside0.mk (Kd.R_lower ho7 (below_size (by repeat (first | (with_reducible first | exact HB.out | apply below_alloc | apply pw_below_drewN | apply below_drew1) | exact HB.out)))); have n1_ := Aside0.mk (below_step (by repeat (first | (with_reducible first | exact HB.out | apply below_alloc | apply pw_below_drewN | apply below_drew1) | exact HB.out)) hb); clear HB; have HO741 := n0_; have HB := n1_; clear n0_ n1_; clear hb ho7) | (go_at_call 77; (with_reducible refine (spec_l6Range.calls a0 a1 a2 true _ A4.out).mono ?_); rintro e w8 ⟨rfl, hb⟩; have n0_ := Aside0.mk (Kd.R_below (by (with_reducible repeat (first | apply Kd.R_alloc | apply Kd.R_drewN | apply Kd.R_drew)); exact HO741.out) hb); have n1_ := Aside0.mk (below_step (by repeat (first | (with_reducible first | exact HB.out | apply below_alloc | apply pw_below_drewN | apply below_drew1) | exact HB.out)) hb); clear HO741; clear HB; have HO741 := n0_; have HB := n1_; clear n0_ n1_; (try clear hb); (try clear hb2); (try clear hk); (try clear hi))); try go_wp2_with (first | ((with_reducible refine gate_dst (N := 10) rfl ?_); refine Kd.R_lit k46 _ 46 ?hg (N := 10) ?hd (xs := ([] : List (S46))) (inner := []) (ok := fun _ => True) (okp := fun _ => True) ?hr ?hp (fun _ hk => hk) trivial (Below.refl _ _) (Nat.le_refl _) (by simp) ?_; (case hd => rfl); (case hg => rfl); (case hr => first | (go_simp; done) | (go_simp; rfl)); (case hp => exact (Reps.none _ _)); intro v740 w6 ho7 hb hg_ hnew_; clear hg_ hnew_; (first | rw [← Ny739.out] at ho7 | (simp only [Int.reduceToNat] at ho7; rw [← Ny739.out] at ho7)); have n0_ := Aside0.mk (Kd.R_lower ho7 (below_size (by repeat (first | (with_reducible first | exact HB.out | apply below_alloc | apply pw_below_drewN | apply below_drew1) | exact HB.out)))); have n1_ := Aside0.mk (below_step (by repeat (first | (with_reducible first | exact HB.out | apply below_alloc | apply pw_below_drewN | apply below_drew1) | exact HB.out)) hb); clear HB; have HO741 := n0_; have HB := n1_; clear n0_ n1_; clear hb ho7) | (go_at_call 77; (with_reducible refine (spec_l6Range.calls a0 a1 a2 true _ A4.out).mono ?_); rintro e w8 ⟨rfl, hb⟩; have n0_ := Aside0.mk (Kd.R_below (by (with_reducible repeat (first | apply Kd.R_alloc | apply Kd.R_drewN | apply Kd.R_drew)); exact HO741.out) hb); have n1_ := Aside0.mk (below_step (by repeat (first | (with_reducible first | exact HB.out | apply below_alloc | apply pw_below_drewN | apply below_drew1) | exact HB.out)) hb); clear HO741; clear HB; have HO741 := n0_; have HB := n1_; clear n0_ n1_; (try clear hb); (try clear hb2); (try clear hk); (try clear hi))))
    go_loopg [7, 8] k (fun kq v7 v8 w' => ∃ (x7_1 : List (S46)) (x8_1 : Int), v8 = .int .i64 x8_1 ∧ Aside0 (spec_Gaps.l0 kq a0 a2 x7_1 x8_1 = some r) ∧ Aside0 (kq ≤ k) ∧ Aside0 (Kd.R k46 46 w' w.heap.size (fun _ => True) v7 x7_1) ∧ Aside0 (Below w.heap.size w w'))
    case atStart => exact ⟨(y739), (a1), (by first | rfl | (simp; done) | (simp [*]; done)), H', ⟨Nat.le_refl _⟩, ⟨by (with_reducible repeat (first | apply Kd.R_alloc | apply Kd.R_drewN | apply Kd.R_drew)); exact HO741.out⟩, ⟨by repeat (first | (with_reducible first | exact HB.out | apply below_alloc | apply pw_below_drewN | apply below_drew1) | exact HB.out)⟩⟩
    case round =>
      clear H'
      try clear p2
      try clear c5
      obtain ⟨x7_1, x8_1, rfl, HA, HK1, HO_7, HB⟩ := hrel
      cases gk with
      | zero => exact absurd HA.out (by simp [spec_Gaps.l0])
      | succ k1 =>
        have H := HA.out
        clear HA
        simp only [spec_Gaps.l0] at H
        by_cases c9 : x8_1 < a2
        · rw [if_pos c9] at H
          have c9b0 : decide (x8_1 < a2) = true := decide_eq_true c9
          clear c9
          replace H := Option.bind_eq_some_iff.mp H
          obtain ⟨t743, A100, H⟩ := H
          replace H : (if t743 = true then (spec_Gaps.l0 k1 a0 a2 x7_1 (wrap64 (x8_1 + 1))) else (if (wrap64 ((x7_1.length : Int) - 1)) ≥ 0 then (if 0 ≤ (wrap64 ((x7_1.length : Int) - 1)) then (if (wrap64 ((x7_1.length : Int) - 1)) < (x7_1.length : Int) then (if (wrap64 (((rd_T46 x7_1 (wrap64 ((x7_1.length : Int) - 1))).f0) + ((rd_T46 x7_1 (wrap64 ((x7_1.length : Int) - 1))).f1))) = x8_1 then (spec_Gaps.l0 k1 a0 a2 (x7_1.set ((wrap64 ((x7_1.length : Int) - 1)) : Int).toNat (⟨(rd_T46 x7_1 (wrap64 ((x7_1.length : Int) - 1))).f0, wrap64 (((rd_T46 x7_1 (wrap64 ((x7_1.length : Int) - 1))).f1) + 1)⟩ : S46)) (wrap64 (x8_1 + 1))) else (if x7_1.length < 8796093022208 then (spec_Gaps.l0 k1 a0 a2 (x7_1 ++ [(⟨x8_1, 1⟩ : S46)]) (wrap64 (x8_1 + 1))) else (none))) else (none)) else (none)) else (if x7_1.length < 8796093022208 then (spec_Gaps.l0 k1 a0 a2 (x7_1 ++ [(⟨x8_1, 1⟩ : S46)]) (wrap64 (x8_1 + 1))) else (none)))) = some r := H
          have A10 := Aside0.mk A100
          clear A100
          by_cases c11 : t743 = true
          · subst c11
            have H1 : (spec_Gaps.l0 k1 a0 a2 x7_1 (wrap64 (x8_1 + 1))) = some r := by rw [if_pos rfl] at H; exact H
            clear H
            have H := H1
            clear H1
            have H' := Aside0.mk H
            clear H
            go_wp2_with (first | (go_at_call 78; (with_reducible refine (spec_l6Bit.calls a0 x8_1 true _ A10.out).mono ?_); rintro e w' ⟨rfl, ⟨nd, rfl⟩⟩; (try first | exact ⟨rfl, _, World.drewN_drewN _ _ _⟩ | exact ⟨rfl, _, Eq.trans (World.drewN_drewN _ _ _) (congrArg (World.drewN _) (Nat.add_assoc _ _ _))⟩)))
            repeat (go_quiet (first | (go_at_call 78; (with_reducible refine (spec_l6Bit.calls a0 x8_1 true _ A10.out).mono ?_); rintro e w' ⟨rfl, ⟨nd, rfl⟩⟩; (try first | exact ⟨rfl, _, World.drewN_drewN _ _ _⟩ | exact ⟨rfl, _, Eq.trans (World.drewN_drewN _ _ _) (congrArg (World.drewN _) (Nat.add_assoc _ _ _))⟩))); try go_wp2_with (first | (go_at_call 78; (with_reducible refine (spec_l6Bit.calls a0 x8_1 true _ A10.out).mono ?_); rintro e w' ⟨rfl, ⟨nd, rfl⟩⟩; (try first | exact ⟨rfl, _, World.drewN_drewN _ _ _⟩ | exact ⟨rfl, _, Eq.trans (World.drewN_drewN _ _ _) (congrArg (World.drewN _) (Nat.add_assoc _ _ _))⟩))))
            go_roundg k1
            case measure => have := HK1.out; omega
            case rel => exact ⟨(x7_1), (wrap64 (x8_1 + 1)), (by first | rfl | (simp; done) | (simp [*]; done)), H', ⟨by have := HK1.out; omega⟩, ⟨by (with_reducible repeat (first | apply Kd.R_alloc | apply Kd.R_drewN | apply Kd.R_drew)); exact HO_7.out⟩, ⟨by repeat (first | (with_reducible first | exact HB.out | apply below_alloc | apply pw_below_drewN | apply below_drew1) | exact HB.out)⟩⟩
          · replace c11 := Bool.eq_false_iff.mpr c11
            subst c11
            have H1 : (if (wrap64 ((x7_1.length : Int) - 1)) ≥ 0 then (if 0 ≤ (wrap64 ((x7_1.length : Int) - 1)) then (if (wrap64 ((x7_1.length : Int) - 1)) < (x7_1.length : Int) then (if (wrap64 (((rd_T46 x7_1 (wrap64 ((x7_1.length : Int) - 1))).f0) + ((rd_T46 x7_1 (wrap64 ((x7_1.length : Int) - 1))).f1))) = x8_1 then (spec_Gaps.l0 k1 a0 a2 (x7_1.set ((wrap64 ((x7_1.length : Int) - 1)) : Int).toNat (⟨(rd_T46 x7_1 (wrap64 ((x7_1.length : Int) - 1))).f0, wrap64 (((rd_T46 x7_1 (wrap64 ((x7_1.length : Int) - 1))).f1) + 1)⟩ : S46)) (wrap64 (x8_1 + 1))) else (if x7_1.length < 8796093022208 then (spec_Gaps.l0 k1 a0 a2 (x7_1 ++ [(⟨x8_1, 1⟩ : S46)]) (wrap64 (x8_1 + 1))) else (none))) else (none)) else (none)) else (if x7_1.length < 8796093022208 then (spec_Gaps.l0 k1 a0 a2 (x7_1 ++ [(⟨x8_1, 1⟩ : S46)]) (wrap64 (x8_1 + 1))) else (none))) = some r := by rw [if_neg (show ¬ (false = true) by decide)] at H; exact H
            clear H
            have H := H1
            clear H1
            by_cases c12 : (wrap64 ((x7_1.length : Int) - 1)) ≥ 0
            · rw [if_pos c12] at H
              have c12b0 : decide (0 ≤ (wrap64 ((x7_1.length : Int) - 1))) = true := decide_eq_true c12
              clear c12
              obtain ⟨ji13, hji13⟩ : ∃ j_ : Int, (wrap64 ((x7_1.length : Int) - 1)) = j_ := ⟨_, rfl⟩
              replace H : (if 0 ≤ (ji13) then (if (ji13) < (x7_1.length : Int) then (if (wrap64 (((rd_T46 x7_1 (ji13)).f0) + ((rd_T46 x7_1 (ji13)).f1))) = x8_1 then (spec_Gaps.l0 k1 a0 a2 (x7_1.set ((ji13) : Int).toNat (⟨(rd_T46 x7_1 (ji13)).f0, wrap64 (((rd_T46 x7_1 (ji13)).f1) + 1)⟩ : S46)) (wrap64 (x8_1 + 1))) else (if x7_1.length < 8796093022208 then (spec_Gaps.l0 k1 a0 a2 (x7_1 ++ [(⟨x8_1, 1⟩ : S46)]) (wrap64 (x8_1 + 1))) else (none))) else (none)) else (none)) = some r := by first | (rw [hji13] at H; exact H) | (simp only [hji13] at H ⊢; exact H)
              (try rw [hji13] at c12b0)
              (try rw [hji13] at A10)
              have hji13w : (IntKind.i64.wrap ((x7_1.length : Int) - 1)) = ji13 := (i64_w _).trans hji13
              by_cases c14 : 0 ≤ (ji13)
              · rw [if_pos c14] at H
                have c14b0 : decide (0 ≤ (ji13)) = true := decide_eq_true c14
                clear c14
                by_cases c15 : (ji13) < (x7_1.length : Int)
                · rw [if_pos c15] at H
                  have c15b0 : decide ((ji13) < (x7_1.length : Int)) = true := decide_eq_true c15
                  clear c15
                  by_cases c16 : (wrap64 (((rd_T46 x7_1 (ji13)).f0) + ((rd_T46 x7_1 (ji13)).f1))) = x8_1
                  · rw [if_pos c16] at H
                    have c16b0 : ((wrap64 (((rd_T46 x7_1 (ji13)).f0) + ((rd_T46 x7_1 (ji13)).f1))) == x8_1) = true := beq_iff_eq.mpr c16
                    have c16b1 : ((wrap64 (((rd_T46 x7_1 (ji13)).f0) + ((rd_T46 x7_1 (ji13)).f1))) != x8_1) = false := bne_eq_false_iff_eq.mpr c16
                    clear c16
                    obtain ⟨y747, hy747⟩ : ∃ y_ : List (S46), y_ = (x7_1.set ((ji13) : Int).toNat (⟨(rd_T46 x7_1 (ji13)).f0, wrap64 (((rd_T46 x7_1 (ji13)).f1) + 1)⟩ : S46)) := ⟨_, rfl⟩
                    replace H : (spec_Gaps.l0 k1 a0 a2 y747 (wrap64 (x8_1 + 1))) = some r := by first | (rw [hy747]; with_reducible exact H) | (have H2_ := (Option.bind_some _ _).symm.trans H; rw [hy747]; with_reducible exact H2_) | (have H2_ := (Option.bind_some _ _).symm.trans H; with_reducible exact H2_) | with_reducible exact H | (rw [hy747]; exact H) | exact H
                    have Ny747 := Aside0.mk hy747
                    clear hy747
                    have H' := Aside0.mk H
                    clear H
                    go_wp2_with (first | (go_at_call 78; (with_reducible refine (spec_l6Bit.calls a0 x8_1 false _ A10.out).mono ?_); rintro e w' ⟨rfl, ⟨nd, rfl⟩⟩; (try first | exact ⟨rfl, _, World.drewN_drewN _ _ _⟩ | exact ⟨rfl, _, Eq.trans (World.drewN_drewN _ _ _) (congrArg (World.drewN _) (Nat.add_assoc _ _ _))⟩); obtain ⟨Ao18, co18, eo18⟩ := Kd.R_slice HO_7.out; subst eo18; have p744 : 0 ≤ ((ji13) : Int) := of_decide_eq_true (by first | (with_reducible assumption) | assumption); have q744 : (ji13) < (x7_1.length : Int) := of_decide_eq_true (by first | (with_reducible assumption) | assumption); obtain ⟨ad744, e744, hx744_0, hx744_1⟩ := at_T46 (Kd.R_reads' HO_7.out).2.2 (ji13) p744 q744; cases e744; replace p744 := eq_true p744; replace q744 := eq_true q744; have p745 : 0 ≤ ((ji13) : Int) := of_decide_eq_true (by first | (with_reducible assumption) | assumption); have q745 : (ji13) < (x7_1.length : Int) := of_decide_eq_true (by first | (with_reducible assumption) | assumption); obtain ⟨ad745, e745, hx745_0, hx745_1⟩ := at_T46 (Kd.R_reads' HO_7.out).2.2 (ji13) p745 q745; obtain rfl : ad744 = ad745 := (by injection e745); replace p745 := eq_true p745; replace q745 := eq_true q745; have p746 : 0 ≤ ((ji13) : Int) := of_decide_eq_true (by first | (with_reducible assumption) | assumption); have q746 : (ji13) < (x7_1.length : Int) := of_decide_eq_true (by first | (with_reducible assumption) | assumption); obtain ⟨ad746, e746, hx746_0, hx746_1⟩ := at_T46 (Kd.R_reads' HO_7.out).2.2 (ji13) p746 q746; obtain rfl : ad744 = ad746 := (by injection e746); replace p746 := eq_true p746; replace q746 := eq_true q746; have p17 : 0 ≤ ((ji13) : Int) := of_decide_eq_true (by first | (with_reducible assumption) | assumption); have q17 : ((ji13) : Int) < ((x7_1.length : Int) : Int) := of_decide_eq_true (by first | (with_reducible assumption) | assumption); obtain ⟨go17, co17, eo17, gb17, gl17, cl17, HG17⟩ := Kd.R_form HO_7.out (by omega); (first | cases eo17 | (injection eo17 with ea_ en_ ec_; (first | subst ea_ | (injection ea_ with ea_; subst ea_)); subst ec_; clear en_)); have GB17 := Aside0.mk gb17; have GG17 := Aside0.mk HG17; clear gb17 gl17 HG17; (first | simp only [add_plain] at hx744_0 | skip); (first | simp only [add_plain] at hx744_1 | skip); (first | simp only [add_plain] at hx745_0 | skip); (first | simp only [add_plain] at hx745_1 | skip); (first | simp only [add_plain] at hx746_0 | skip); (first | simp only [add_plain] at hx746_1 | skip); obtain ⟨ce17, hcl17, hM17, hcc17, hfr17⟩ := Kd.R_elem HO_7.out z46 ((ji13) : Int) p17 q17; obtain rfl := k46_openM hM17; have hx17_0 : wr.cell? ⟨go17, ((ji13) : Int).toNat * 2, none⟩ = some (.int .i64 ((rd_T46 x7_1 (ji13)).f0)) := hcc17 0 _ rfl; have hx17_1 : wr.cell? ⟨go17, ((ji13) : Int).toNat * 2 + 1, none⟩ = some (.int .i64 ((rd_T46 x7_1 (ji13)).f1)) := hcc17 1 _ rfl; have hf17_0 : wr.frozen? ⟨go17, ((ji13) : Int).toNat * 2, none⟩ = false := hfr17 0; have hf17_1 : wr.frozen? ⟨go17, ((ji13) : Int).toNat * 2 + 1, none⟩ = false := hfr17 1; clear hcl17 hcc17 hfr17 hM17; replace p17 := eq_true p17; replace q17 := eq_true q17; have HX19 := Aside0.mk (show Kd.R k46 46 wr w.heap.size (fun _ => True) (.slice (some ⟨go17, 0, none⟩) x7_1.length co18) x7_1 from (by (with_reducible repeat (first | apply Kd.R_alloc | apply Kd.R_drewN | apply Kd.R_drew)); exact HO_7.out)); obtain ⟨ce19, hcl19, hM19, hcc19, hfr19⟩ := Kd.R_elem HX19.out z46 ((ji13) : Int) (of_decide_eq_true (by first | (with_reducible assumption) | assumption)) (by have h_ : ((ji13) : Int) < ((x7_1.length : Int) : Int) := of_decide_eq_true (by first | (with_reducible assumption) | assumption); first | exact h_ | (have e_ := (Kd.R_reads' HO_7.out).1; omega) | simpa using h_); obtain rfl := k46_openM hM19; have HP19 := Kd.R_seg HX19.out ((ji13) : Int) (of_decide_eq_true (by first | (with_reducible assumption) | assumption)) (by have h_ : ((ji13) : Int) < ((x7_1.length : Int) : Int) := of_decide_eq_true (by first | (with_reducible assumption) | assumption); first | exact h_ | (have e_ := (Kd.R_reads' HO_7.out).1; omega) | simpa using h_) (seg := [.int .i64 (wrap64 (((rd_T46 x7_1 (ji13)).f1) + 1))]) (j := 1) hcl19 hcc19 (show 2 ≤ 2 from by decide) (x' := (⟨(rd_T46 x7_1 (ji13)).f0, wrap64 (((rd_T46 x7_1 (ji13)).f1) + 1)⟩ : S46)) (k46_mkM _ _ _ (⟨(rd_T46 x7_1 (ji13)).f0, wrap64 (((rd_T46 x7_1 (ji13)).f1) + 1)⟩ : S46) ) (fun _ hk => hk); have hx19_1 := hcc19 1 _ rfl; (try simp only [show (k46).sz = 2 from rfl, Nat.mul_one, Nat.add_zero] at hx19_1); have hf19_1 := hfr19 1; (try simp only [show (k46).sz = 2 from rfl, Nat.mul_one, Nat.add_zero] at hf19_1); clear hcl19 hcc19 hfr19 hM19) | ((with_reducible refine gate_store (t := 2) (p := 53) rfl ?_); (try (rw [drewN_self wr]; generalize hq_ : World.drewN wr _ = wr; have n0_ := Aside0.mk (Kd.R_at hq_ HO_7.out); have n1_ := Aside0.mk (below_at hq_ HB.out); clear hq_ HO_7 HB; have HO_7 := n0_; have HB := n1_; clear n0_ n1_; (try (have HX19 := Aside0.mk (show Kd.R k46 46 wr w.heap.size (fun _ => True) (.slice (some ⟨go17, 0, none⟩) x7_1.length co18) x7_1 from (by (with_reducible repeat (first | apply Kd.R_alloc | apply Kd.R_drewN | apply Kd.R_drew)); exact HO_7.out)))); (try (obtain ⟨ce19, hcl19, hM19, hcc19, hfr19⟩ := Kd.R_elem HX19.out z46 ((ji13) : Int) (of_decide_eq_true (by first | (with_reducible assumption) | assumption)) (by have h_ : ((ji13) : Int) < ((x7_1.length : Int) : Int) := of_decide_eq_true (by first | (with_reducible assumption) | assumption); first | exact h_ | (have e_ := (Kd.R_reads' HO_7.out).1; omega) | simpa using h_))); (try (obtain rfl := k46_openM hM19)); (try (have HP19 := Kd.R_seg HX19.out ((ji13) : Int) (of_decide_eq_true (by first | (with_reducible assumption) | assumption)) (by have h_ : ((ji13) : Int) < ((x7_1.length : Int) : Int) := of_decide_eq_true (by first | (with_reducible assumption) | assumption); first | exact h_ | (have e_ := (Kd.R_reads' HO_7.out).1; omega) | simpa using h_) (seg := [.int .i64 (wrap64 (((rd_T46 x7_1 (ji13)).f1) + 1))]) (j := 1) hcl19 hcc19 (show 2 ≤ 2 from by decide) (x' := (⟨(rd_T46 x7_1 (ji13)).f0, wrap64 (((rd_T46 x7_1 (ji13)).f1) + 1)⟩ : S46)) (k46_mkM _ _ _ (⟨(rd_T46 x7_1 (ji13)).f0, wrap64 (((rd_T46 x7_1 (ji13)).f1) + 1)⟩ : S46) ) (fun _ hk => hk))); (try (have hx19_1 := hcc19 1 _ rfl)); (try (try simp only [show (k46).sz = 2 from rfl, Nat.mul_one, Nat.add_zero] at hx19_1)); (try (have hf19_1 := hfr19 1)); (try (try simp only [show (k46).sz = 2 from rfl, Nat.mul_one, Nat.add_zero] at hf19_1)); (try (clear hcl19 hcc19 hfr19 hM19)))); refine store_event (t := 2) (p := 53) (v := ?vo_w20) (w1 := (wr.setCell ⟨go17, ((ji13) : Int).toNat * 2 + 1, none⟩ (.int .i64 (wrap64 (((rd_T46 x7_1 (ji13)).f1) + 1))))) ?hg ?ho ?hn ?hr ?_; (case ho => rfl); (case hg => rfl); (case hn => rfl); (case hr => first | (go_simp; done) | (go_simp; rfl)); intro w20 hw; have hg : wr.grownBy w20 (some go17) := (by rw [hw]; exact HP19.2); have hp_ : Kd.R k46 46 w20 w.heap.size (fun _ => True) (.slice (some ⟨go17, 0, none⟩) x7_1.length co18) y747 := (by rw [hw, Ny747.out]; exact HP19.1); clear HP19; have n0_ := Aside0.mk (hp_); have n1_ := Aside0.mk ((by rw [hw]; exact below_set (HB.out) GB17.out : Below w.heap.size w w20)); clear HO_7; clear HB; have HO_7 := n0_; have HB := n1_; clear n0_ n1_; clear hg hw hp_))
                    repeat (go_quiet (first | (go_at_call 78; (with_reducible refine (spec_l6Bit.calls a0 x8_1 false _ A10.out).mono ?_); rintro e w' ⟨rfl, ⟨nd, rfl⟩⟩; (try first | exact ⟨rfl, _, World.drewN_drewN _ _ _⟩ | exact ⟨rfl, _, Eq.trans (World.drewN_drewN _ _ _) (congrArg (World.drewN _) (Nat.add_assoc _ _ _))⟩); obtain ⟨Ao18, co18, eo18⟩ := Kd.R_slice HO_7.out; subst eo18; have p744 : 0 ≤ ((ji13) : Int) := of_decide_eq_true (by first | (with_reducible assumption) | assumption); have q744 : (ji13) < (x7_1.length : Int) := of_decide_eq_true (by first | (with_reducible assumption) | assumption); obtain ⟨ad744, e744, hx744_0, hx744_1⟩ := at_T46 (Kd.R_reads' HO_7.out).2.2 (ji13) p744 q744; cases e744; replace p744 := eq_true p744; replace q744 := eq_true q744; have p745 : 0 ≤ ((ji13) : Int) := of_decide_eq_true (by first | (with_reducible assumption) | assumption); have q745 : (ji13) < (x7_1.length : Int) := of_decide_eq_true (by first | (with_reducible assumption) | assumption); obtain ⟨ad745, e745, hx745_0, hx745_1⟩ := at_T46 (Kd.R_reads' HO_7.out).2.2 (ji13) p745 q745; obtain rfl : ad744 = ad745 := (by injection e745); replace p745 := eq_true p745; replace q745 := eq_true q745; have p746 : 0 ≤ ((ji13) : Int) := of_decide_eq_true (by first | (with_reducible assumption) | assumption); have q746 : (ji13) < (x7_1.length : Int) := of_decide_eq_true (by first | (with_reducible assumption) | assumption); obtain ⟨ad746, e746, hx746_0, hx746_1⟩ := at_T46 (Kd.R_reads' HO_7.out).2.2 (ji13) p746 q746; obtain rfl : ad744 = ad746 := (by injection e746); replace p746 := eq_true p746; replace q746 := eq_true q746; have p17 : 0 ≤ ((ji13) : Int) := of_decide_eq_true (by first | (with_reducible assumption) | assumption); have q17 : ((ji13) : Int) < ((x7_1.length : Int) : Int) := of_decide_eq_true (by first | (with_reducible assumption) | assumption); obtain ⟨go17, co17, eo17, gb17, gl17, cl17, HG17⟩ := Kd.R_form HO_7.out (by omega); (first | cases eo17 | (injection eo17 with ea_ en_ ec_; (first | subst ea_ | (injection ea_ with ea_; subst ea_)); subst ec_; clear en_)); have GB17 := Aside0.mk gb17; have GG17 := Aside0.mk HG17; clear gb17 gl17 HG17; (first | simp only [add_plain] at hx744_0 | skip); (first | simp only [add_plain] at hx744_1 | skip); (first | simp only [add_plain] at hx745_0 | skip); (first | simp only [add_plain] at hx745_1 | skip); (first | simp only [add_plain] at hx746_0 | skip); (first | simp only [add_plain] at hx746_1 | skip); obtain ⟨ce17, hcl17, hM17, hcc17, hfr17⟩ := Kd.R_elem HO_7.out z46 ((ji13) : Int) p17 q17; obtain rfl := k46_openM hM17; have hx17_0 : wr.cell? ⟨go17, ((ji13) : Int).toNat * 2, none⟩ = some (.int .i64 ((rd_T46 x7_1 (ji13)).f0)) := hcc17 0 _ rfl; have hx17_1 : wr.cell? ⟨go17, ((ji13) : Int).toNat * 2 + 1, none⟩ = some (.int .i64 ((rd_T46 x7_1 (ji13)).f1)) := hcc17 1 _ rfl; have hf17_0 : wr.frozen? ⟨go17, ((ji13) : Int).toNat * 2, none⟩ = false := hfr17 0; have hf17_1 : wr.frozen? ⟨go17, ((ji13) : Int).toNat * 2 + 1, none⟩ = false := hfr17 1; clear hcl17 hcc17 hfr17 hM17; replace p17 := eq_true p17; replace q17 := eq_true q17; have HX19 := Aside0.mk (show Kd.R k46 46 wr w.heap.size (fun _ => True) (.slice (some ⟨go17, 0, none⟩) x7_1.length co18) x7_1 from (by (with_reducible repeat (first | apply Kd.R_alloc | apply Kd.R_drewN | apply Kd.R_drew)); exact HO_7.out)); obtain ⟨ce19, hcl19, hM19, hcc19, hfr19⟩ := Kd.R_elem HX19.out z46 ((ji13) : Int) (of_decide_eq_true (by first | (with_reducible assumption) | assumption)) (by have h_ : ((ji13) : Int) < ((x7_1.length : Int) : Int) := of_decide_eq_true (by first | (with_reducible assumption) | assumption); first | exact h_ | (have e_ := (Kd.R_reads' HO_7.out).1; omega) | simpa using h_); obtain rfl := k46_openM hM19; have HP19 := Kd.R_seg HX19.out ((ji13) : Int) (of_decide_eq_true (by first | (with_reducible assumption) | assumption)) (by have h_ : ((ji13) : Int) < ((x7_1.length : Int) : Int) := of_decide_eq_true (by first | (with_reducible assumption) | assumption); first | exact h_ | (have e_ := (Kd.R_reads' HO_7.out).1; omega) | simpa using h_) (seg := [.int .i64 (wrap64 (((rd_T46 x7_1 (ji13)).f1) + 1))]) (j := 1) hcl19 hcc19 (show 2 ≤ 2 from by decide) (x' := (⟨(rd_T46 x7_1 (ji13)).f0, wrap64 (((rd_T46 x7_1 (ji13)).f1) + 1)⟩ : S46)) (k46_mkM _ _ _ (⟨(rd_T46 x7_1 (ji13)).f0, wrap64 (((rd_T46 x7_1 (ji13)).f1) + 1)⟩ : S46) ) (fun _ hk => hk); have hx19_1 := hcc19 1 _ rfl; (try simp only [show (k46).sz = 2 from rfl, Nat.mul_one, Nat.add_zero] at hx19_1); have hf19_1 := hfr19 1; (try simp only [show (k46).sz = 2 from rfl, Nat.mul_one, Nat.add_zero] at hf19_1); clear hcl19 hcc19 hfr19 hM19) | ((with_reducible refine gate_store (t := 2) (p := 53) rfl ?_); (try (rw [drewN_self wr]; generalize hq_ : World.drewN wr _ = wr; have n0_ := Aside0.mk (Kd.R_at hq_ HO_7.out); have n1_ := Aside0.mk (below_at hq_ HB.out); clear hq_ HO_7 HB; have HO_7 := n0_; have HB := n1_; clear n0_ n1_; (try (have HX19 := Aside0.mk (show Kd.R k46 46 wr w.heap.size (fun _ => True) (.slice (some ⟨go17, 0, none⟩) x7_1.length co18) x7_1 from (by (with_reducible repeat (first | apply Kd.R_alloc | apply Kd.R_drewN | apply Kd.R_drew)); exact HO_7.out)))); (try (obtain ⟨ce19, hcl19, hM19, hcc19, hfr19⟩ := Kd.R_elem HX19.out z46 ((ji13) : Int) (of_decide_eq_true (by first | (with_reducible assumption) | assumption)) (by have h_ : ((ji13) : Int) < ((x7_1.length : Int) : Int) := of_decide_eq_true (by first | (with_reducible assumption) | assumption); first | exact h_ | (have e_ := (Kd.R_reads' HO_7.out).1; omega) | simpa using h_))); (try (obtain rfl := k46_openM hM19)); (try (have HP19 := Kd.R_seg HX19.out ((ji13) : Int) (of_decide_eq_true (by first | (with_reducible assumption) | assumption)) (by have h_ : ((ji13) : Int) < ((x7_1.length : Int) : Int) := of_decide_eq_true (by first | (with_reducible assumption) | assumption); first | exact h_ | (have e_ := (Kd.R_reads' HO_7.out).1; omega) | simpa using h_) (seg := [.int .i64 (wrap64 (((rd_T46 x7_1 (ji13)).f1) + 1))]) (j := 1) hcl19 hcc19 (show 2 ≤ 2 from by decide) (x' := (⟨(rd_T46 x7_1 (ji13)).f0, wrap64 (((rd_T46 x7_1 (ji13)).f1) + 1)⟩ : S46)) (k46_mkM _ _ _ (⟨(rd_T46 x7_1 (ji13)).f0, wrap64 (((rd_T46 x7_1 (ji13)).f1) + 1)⟩ : S46) ) (fun _ hk => hk))); (try (have hx19_1 := hcc19 1 _ rfl)); (try (try simp only [show (k46).sz = 2 from rfl, Nat.mul_one, Nat.add_zero] at hx19_1)); (try (have hf19_1 := hfr19 1)); (try (try simp only [show (k46).sz = 2 from rfl, Nat.mul_one, Nat.add_zero] at hf19_1)); (try (clear hcl19 hcc19 hfr19 hM19)))); refine store_event (t := 2) (p := 53) (v := ?vo_w20) (w1 := (wr.setCell ⟨go17, ((ji13) : Int).toNat * 2 + 1, none⟩ (.int .i64 (wrap64 (((rd_T46 x7_1 (ji13)).f1) + 1))))) ?hg ?ho ?hn ?hr ?_; (case ho => rfl); (case hg => rfl); (case hn => rfl); (case hr => first | (go_simp; done) | (go_simp; rfl)); intro w20 hw; have hg : wr.grownBy w20 (some go17) := (by rw [hw]; exact HP19.2); have hp_ : Kd.R k46 46 w20 w.heap.size (fun _ => True) (.slice (some ⟨go17, 0, none⟩) x7_1.length co18) y747 := (by rw [hw, Ny747.out]; exact HP19.1); clear HP19; have n0_ := Aside0.mk (hp_); have n1_ := Aside0.mk ((by rw [hw]; exact below_set (HB.out) GB17.out : Below w.heap.size w w20)); clear HO_7; clear HB; have HO_7 := n0_; have HB := n1_; clear n0_ n1_; clear hg hw hp_)); try go_wp2_with (first | (go_at_call 78; (with_reducible refine (spec_l6Bit.calls a0 x8_1 false _ A10.out).mono ?_); rintro e w' ⟨rfl, ⟨nd, rfl⟩⟩; (try first | exact ⟨rfl, _, World.drewN_drewN _ _ _⟩ | exact ⟨rfl, _, Eq.trans (World.drewN_drewN _ _ _) (congrArg (World.drewN _) (Nat.add_assoc _ _ _))⟩); obtain ⟨Ao18, co18, eo18⟩ := Kd.R_slice HO_7.out; subst eo18; have p744 : 0 ≤ ((ji13) : Int) := of_decide_eq_true (by first | (with_reducible assumption) | assumption); have q744 : (ji13) < (x7_1.length : Int) := of_decide_eq_true (by first | (with_reducible assumption) | assumption); obtain ⟨ad744, e744, hx744_0, hx744_1⟩ := at_T46 (Kd.R_reads' HO_7.out).2.2 (ji13) p744 q744; cases e744; replace p744 := eq_true p744; replace q744 := eq_true q744; have p745 : 0 ≤ ((ji13) : Int) := of_decide_eq_true (by first | (with_reducible assumption) | assumption); have q745 : (ji13) < (x7_1.length : Int) := of_decide_eq_true (by first | (with_reducible assumption) | assumption); obtain ⟨ad745, e745, hx745_0, hx745_1⟩ := at_T46 (Kd.R_reads' HO_7.out).2.2 (ji13) p745 q745; obtain rfl : ad744 = ad745 := (by injection e745); replace p745 := eq_true p745; replace q745 := eq_true q745; have p746 : 0 ≤ ((ji13) : Int) := of_decide_eq_true (by first | (with_reducible assumption) | assumption); have q746 : (ji13) < (x7_1.length : Int) := of_decide_eq_true (by first | (with_reducible assumption) | assumption); obtain ⟨ad746, e746, hx746_0, hx746_1⟩ := at_T46 (Kd.R_reads' HO_7.out).2.2 (ji13) p746 q746; obtain rfl : ad744 = ad746 := (by injection e746); replace p746 := eq_true p746; replace q746 := eq_true q746; have p17 : 0 ≤ ((ji13) : Int) := of_decide_eq_true (by first | (with_reducible assumption) | assumption); have q17 : ((ji13) : Int) < ((x7_1.length : Int) : Int) := of_decide_eq_true (by first | (with_reducible assumption) | assumption); obtain ⟨go17, co17, eo17, gb17, gl17, cl17, HG17⟩ := Kd.R_form HO_7.out (by omega); (first | cases eo17 | (injection eo17 with ea_ en_ ec_; (first | subst ea_ | (injection ea_ with ea_; subst ea_)); subst ec_; clear en_)); have GB17 := Aside0.mk gb17; have GG17 := Aside0.mk HG17; clear gb17 gl17 HG17; (first | simp only [add_plain] at hx744_0 | skip); (first | simp only [add_plain] at hx744_1 | skip); (first | simp only [add_plain] at hx745_0 | skip); (first | simp only [add_plain] at hx745_1 | skip); (first | simp only [add_plain] at hx746_0 | skip); (first | simp only [add_plain] at hx746_1 | skip); obtain ⟨ce17, hcl17, hM17, hcc17, hfr17⟩ := Kd.R_elem HO_7.out z46 ((ji13) : Int) p17 q17; obtain rfl := k46_openM hM17; have hx17_0 : wr.cell? ⟨go17, ((ji13) : Int).toNat * 2, none⟩ = some (.int .i64 ((rd_T46 x7_1 (ji13)).f0)) := hcc17 0 _ rfl; have hx17_1 : wr.cell? ⟨go17, ((ji13) : Int).toNat * 2 + 1, none⟩ = some (.int .i64 ((rd_T46 x7_1 (ji13)).f1)) := hcc17 1 _ rfl; have hf17_0 : wr.frozen? ⟨go17, ((ji13) : Int).toNat * 2, none⟩ = false := hfr17 0; have hf17_1 : wr.frozen? ⟨go17, ((ji13) : Int).toNat * 2 + 1, none⟩ = false := hfr17 1; clear hcl17 hcc17 hfr17 hM17; replace p17 := eq_true p17; replace q17 := eq_true q17; have HX19 := Aside0.mk (show Kd.R k46 46 wr w.heap.size (fun _ => True) (.slice (some ⟨go17, 0, none⟩) x7_1.length co18) x7_1 from (by (with_reducible repeat (first | apply Kd.R_alloc | apply Kd.R_drewN | apply Kd.R_drew)); exact HO_7.out)); obtain ⟨ce19, hcl19, hM19, hcc19, hfr19⟩ := Kd.R_elem HX19.out z46 ((ji13) : Int) (of_decide_eq_true (by first | (with_reducible assumption) | assumption)) (by have h_ : ((ji13) : Int) < ((x7_1.length : Int) : Int) := of_decide_eq_true (by first | (with_reducible assumption) | assumption); first | exact h_ | (have e_ := (Kd.R_reads' HO_7.out).1; omega) | simpa using h_); obtain rfl := k46_openM hM19; have HP19 := Kd.R_seg HX19.out ((ji13) : Int) (of_decide_eq_true (by first | (with_reducible assumption) | assumption)) (by have h_ : ((ji13) : Int) < ((x7_1.length : Int) : Int) := of_decide_eq_true (by first | (with_reducible assumption) | assumption); first | exact h_ | (have e_ := (Kd.R_reads' HO_7.out).1; omega) | simpa using h_) (seg := [.int .i64 (wrap64 (((rd_T46 x7_1 (ji13)).f1) + 1))]) (j := 1) hcl19 hcc19 (show 2 ≤ 2 from by decide) (x' := (⟨(rd_T46 x7_1 (ji13)).f0, wrap64 (((rd_T46 x7_1 (ji13)).f1) + 1)⟩ : S46)) (k46_mkM _ _ _ (⟨(rd_T46 x7_1 (ji13)).f0, wrap64 (((rd_T46 x7_1 (ji13)).f1) + 1)⟩ : S46) ) (fun _ hk => hk); have hx19_1 := hcc19 1 _ rfl; (try simp only [show (k46).sz = 2 from rfl, Nat.mul_one, Nat.add_zero] at hx19_1); have hf19_1 := hfr19 1; (try simp only [show (k46).sz = 2 from rfl, Nat.mul_one, Nat.add_zero] at hf19_1); clear hcl19 hcc19 hfr19 hM19) | ((with_reducible refine gate_store (t := 2) (p := 53) rfl ?_); (try (rw [drewN_self wr]; generalize hq_ : World.drewN wr _ = wr; have n0_ := Aside0.mk (Kd.R_at hq_ HO_7.out); have n1_ := Aside0.mk (below_at hq_ HB.out); clear hq_ HO_7 HB; have HO_7 := n0_; have HB := n1_; clear n0_ n1_; (try (have HX19 := Aside0.mk (show Kd.R k46 46 wr w.heap.size (fun _ => True) (.slice (some ⟨go17, 0, none⟩) x7_1.length co18) x7_1 from (by (with_reducible repeat (first | apply Kd.R_alloc | apply Kd.R_drewN | apply Kd.R_drew)); exact HO_7.out)))); (try (obtain ⟨ce19, hcl19, hM19, hcc19, hfr19⟩ := Kd.R_elem HX19.out z46 ((ji13) : Int) (of_decide_eq_true (by first | (with_reducible assumption) | assumption)) (by have h_ : ((ji13) : Int) < ((x7_1.length : Int) : Int) := of_decide_eq_true (by first | (with_reducible assumption) | assumption); first | exact h_ | (have e_ := (Kd.R_reads' HO_7.out).1; omega) | simpa using h_))); (try (obtain rfl := k46_openM hM19)); (try (have HP19 := Kd.R_seg HX19.out ((ji13) : Int) (of_decide_eq_true (by first | (with_reducible assumption) | assumption)) (by have h_ : ((ji13) : Int) < ((x7_1.length : Int) : Int) := of_decide_eq_true (by first | (with_reducible assumption) | assumption); first | exact h_ | (have e_ := (Kd.R_reads' HO_7.out).1; omega) | simpa using h_) (seg := [.int .i64 (wrap64 (((rd_T46 x7_1 (ji13)).f1) + 1))]) (j := 1) hcl19 hcc19 (show 2 ≤ 2 from by decide) (x' := (⟨(rd_T46 x7_1 (ji13)).f0, wrap64 (((rd_T46 x7_1 (ji13)).f1) + 1)⟩ : S46)) (k46_mkM _ _ _ (⟨(rd_T46 x7_1 (ji13)).f0, wrap64 (((rd_T46 x7_1 (ji13)).f1) + 1)⟩ : S46) ) (fun _ hk => hk))); (try (have hx19_1 := hcc19 1 _ rfl)); (try (try simp only [show (k46).sz = 2 from rfl, Nat.mul_one, Nat.add_zero] at hx19_1)); (try (have hf19_1 := hfr19 1)); (try (try simp only [show (k46).sz = 2 from rfl, Nat.mul_one, Nat.add_zero] at hf19_1)); (try (clear hcl19 hcc19 hfr19 hM19)))); refine store_event (t := 2) (p := 53) (v := ?vo_w20) (w1 := (wr.setCell ⟨go17, ((ji13) : Int).toNat * 2 + 1, none⟩ (.int .i64 (wrap64 (((rd_T46 x7_1 (ji13)).f1) + 1))))) ?hg ?ho ?hn ?hr ?_; (case ho => rfl); (case hg => rfl); (case hn => rfl); (case hr => first | (go_simp; done) | (go_simp; rfl)); intro w20 hw; have hg : wr.grownBy w20 (some go17) := (by rw [hw]; exact HP19.2); have hp_ : Kd.R k46 46 w20 w.heap.size (fun _ => True) (.slice (some ⟨go17, 0, none⟩) x7_1.length co18) y747 := (by rw [hw, Ny747.out]; exact HP19.1); clear HP19; have n0_ := Aside0.mk (hp_); have n1_ := Aside0.mk ((by rw [hw]; exact below_set (HB.out) GB17.out : Below w.heap.size w w20)); clear HO_7; clear HB; have HO_7 := n0_; have HB := n1_; clear n0_ n1_; clear hg hw hp_)))
                    go_roundg k1
                    case measure => have := HK1.out; omega
                    case rel => exact ⟨(y747), (wrap64 (x8_1 + 1)), (by first | rfl | (simp; done) | (simp [*]; done)), H', ⟨by have := HK1.out; omega⟩, ⟨by (with_reducible repeat (first | apply Kd.R_alloc | apply Kd.R_drewN | apply Kd.R_drew)); exact HO_7.out⟩, ⟨by repeat (first | (with_reducible first | exact HB.out | apply below_alloc | apply pw_below_drewN | apply below_drew1) | exact HB.out)⟩⟩
                  · rw [if_neg c16] at H
                    have c16b0 : ((wrap64 (((rd_T46 x7_1 (ji13)).f0) + ((rd_T46 x7_1 (ji13)).f1))) == x8_1) = false := beq_eq_false_iff_ne.mpr c16
                    have c16b1 : ((wrap64 (((rd_T46 x7_1 (ji13)).f0) + ((rd_T46 x7_1 (ji13)).f1))) != x8_1) = true := bne_iff_ne.mpr c16
                    by_cases c21 : x7_1.length < 8796093022208
                    · rw [if_pos c21] at H
                      have LMc21 := Aside0.mk c21
                      clear c21
                      obtain ⟨y748, hy748⟩ : ∃ y_ : List (S46), y_ = (x7_1 ++ [(⟨x8_1, 1⟩ : S46)]) := ⟨_, rfl⟩
                      replace H : (spec_Gaps.l0 k1 a0 a2 y748 (wrap64 (x8_1 + 1))) = some r := by first | (rw [hy748]; with_reducible exact H) | (have H2_ := (Option.bind_some _ _).symm.trans H; rw [hy748]; with_reducible exact H2_) | (have H2_ := (Option.bind_some _ _).symm.trans H; with_reducible exact H2_) | with_reducible exact H | (rw [hy748]; exact H) | exact H
                      have Ny748 := Aside0.mk hy748
                      clear hy748
                      have H' := Aside0.mk H
                      clear H
                      go_wp2_with (first | (go_at_call 78; (with_reducible refine (spec_l6Bit.calls a0 x8_1 false _ A10.out).mono ?_); rintro e w' ⟨rfl, ⟨nd, rfl⟩⟩; (try first | exact ⟨rfl, _, World.drewN_drewN _ _ _⟩ | exact ⟨rfl, _, Eq.trans (World.drewN_drewN _ _ _) (congrArg (World.drewN _) (Nat.add_assoc _ _ _))⟩); obtain ⟨Ao22, co22, eo22⟩ := Kd.R_slice HO_7.out; subst eo22; have p744 : 0 ≤ ((ji13) : Int) := of_decide_eq_true (by first | (with_reducible assumption) | assumption); have q744 : (ji13) < (x7_1.length : Int) := of_decide_eq_true (by first | (with_reducible assumption) | assumption); obtain ⟨ad744, e744, hx744_0, hx744_1⟩ := at_T46 (Kd.R_reads' HO_7.out).2.2 (ji13) p744 q744; cases e744; replace p744 := eq_true p744; replace q744 := eq_true q744; have p745 : 0 ≤ ((ji13) : Int) := of_decide_eq_true (by first | (with_reducible assumption) | assumption); have q745 : (ji13) < (x7_1.length : Int) := of_decide_eq_true (by first | (with_reducible assumption) | assumption); obtain ⟨ad745, e745, hx745_0, hx745_1⟩ := at_T46 (Kd.R_reads' HO_7.out).2.2 (ji13) p745 q745; obtain rfl : ad744 = ad745 := (by injection e745); replace p745 := eq_true p745; replace q745 := eq_true q745) | ((with_reducible refine gate_builtin (b := .append) (xs := #[.tmp 54, .tmp 57]) rfl ?_); at_builtin; refine Kd.R_append k46 (w0 := w) w.heap.size rfl (.tmp 54) (.tmp 57) 43 46 (.agg #[(.int .i64 0), (.int .i64 0)]) 16 rfl Try.underlying43 info46 rfl (by decide) (by omega) (.slice (some ad744) x7_1.length co22) x7_1 (⟨x8_1, 1⟩ : S46) [.int .i64 x8_1, .int .i64 1] (fun _ => True) (fun _ => False) rfl rfl ?aP (fun _ hk => hk.elim) ?aF ?aO ?aB ?aS ?aL ?_; (case aP => exact k46_mkM _ _ _ (⟨x8_1, 1⟩ : S46)); (case aB => exact (by repeat (first | (with_reducible first | exact HB.out | apply below_alloc | apply pw_below_drewN | apply below_drew1) | exact HB.out))); (case aF => exact (fun _ _ => trivial)); (case aO => exact (by (with_reducible repeat (first | apply Kd.R_alloc | apply Kd.R_drewN | apply Kd.R_drew)); exact HO_7.out)); (case aS => exact (below_size (by repeat (first | (with_reducible first | exact HB.out | apply below_alloc | apply pw_below_drewN | apply below_drew1) | exact HB.out)))); (case aL => have := LMc21.out; omega); intro v749 w23 ho hb hg hat; rw [← Ny748.out] at ho; have n0_ := Aside0.mk (hb); have n1_ := Aside0.mk (ho); clear HB; clear HO_7; have HB := n0_; have HO750 := n1_; clear n0_ n1_; clear ho hb hg hat))
                      repeat (go_quiet (first | (go_at_call 78; (with_reducible refine (spec_l6Bit.calls a0 x8_1 false _ A10.out).mono ?_); rintro e w' ⟨rfl, ⟨nd, rfl⟩⟩; (try first | exact ⟨rfl, _, World.drewN_drewN _ _ _⟩ | exact ⟨rfl, _, Eq.trans (World.drewN_drewN _ _ _) (congrArg (World.drewN _) (Nat.add_assoc _ _ _))⟩); obtain ⟨Ao22, co22, eo22⟩ := Kd.R_slice HO_7.out; subst eo22; have p744 : 0 ≤ ((ji13) : Int) := of_decide_eq_true (by first | (with_reducible assumption) | assumption); have q744 : (ji13) < (x7_1.length : Int) := of_decide_eq_true (by first | (with_reducible assumption) | assumption); obtain ⟨ad744, e744, hx744_0, hx744_1⟩ := at_T46 (Kd.R_reads' HO_7.out).2.2 (ji13) p744 q744; cases e744; replace p744 := eq_true p744; replace q744 := eq_true q744; have p745 : 0 ≤ ((ji13) : Int) := of_decide_eq_true (by first | (with_reducible assumption) | assumption); have q745 : (ji13) < (x7_1.length : Int) := of_decide_eq_true (by first | (with_reducible assumption) | assumption); obtain ⟨ad745, e745, hx745_0, hx745_1⟩ := at_T46 (Kd.R_reads' HO_7.out).2.2 (ji13) p745 q745; obtain rfl : ad744 = ad745 := (by injection e745); replace p745 := eq_true p745; replace q745 := eq_true q745) | ((with_reducible refine gate_builtin (b := .append) (xs := #[.tmp 54, .tmp 57]) rfl ?_); at_builtin; refine Kd.R_append k46 (w0 := w) w.heap.size rfl (.tmp 54) (.tmp 57) 43 46 (.agg #[(.int .i64 0), (.int .i64 0)]) 16 rfl Try.underlying43 info46 rfl (by decide) (by omega) (.slice (some ad744) x7_1.length co22) x7_1 (⟨x8_1, 1⟩ : S46) [.int .i64 x8_1, .int .i64 1] (fun _ => True) (fun _ => False) rfl rfl ?aP (fun _ hk => hk.elim) ?aF ?aO ?aB ?aS ?aL ?_; (case aP => exact k46_mkM _ _ _ (⟨x8_1, 1⟩ : S46)); (case aB => exact (by repeat (first | (with_reducible first | exact HB.out | apply below_alloc | apply pw_below_drewN | apply below_drew1) | exact HB.out))); (case aF => exact (fun _ _ => trivial)); (case aO => exact (by (with_reducible repeat (first | apply Kd.R_alloc | apply Kd.R_drewN | apply Kd.R_drew)); exact HO_7.out)); (case aS => exact (below_size (by repeat (first | (with_reducible first | exact HB.out | apply below_alloc | apply pw_below_drewN | apply below_drew1) | exact HB.out)))); (case aL => have := LMc21.out; omega); intro v749 w23 ho hb hg hat; rw [← Ny748.out] at ho; have n0_ := Aside0.mk (hb); have n1_ := Aside0.mk (ho); clear HB; clear HO_7; have HB := n0_; have HO750 := n1_; clear n0_ n1_; clear ho hb hg hat)); try go_wp2_with (first | (go_at_call 78; (with_reducible refine (spec_l6Bit.calls a0 x8_1 false _ A10.out).mono ?_); rintro e w' ⟨rfl, ⟨nd, rfl⟩⟩; (try first | exact ⟨rfl, _, World.drewN_drewN _ _ _⟩ | exact ⟨rfl, _, Eq.trans (World.drewN_drewN _ _ _) (congrArg (World.drewN _) (Nat.add_assoc _ _ _))⟩); obtain ⟨Ao22, co22, eo22⟩ := Kd.R_slice HO_7.out; subst eo22; have p744 : 0 ≤ ((ji13) : Int) := of_decide_eq_true (by first | (with_reducible assumption) | assumption); have q744 : (ji13) < (x7_1.length : Int) := of_decide_eq_true (by first | (with_reducible assumption) | assumption); obtain ⟨ad744, e744, hx744_0, hx744_1⟩ := at_T46 (Kd.R_reads' HO_7.out).2.2 (ji13) p744 q744; cases e744; replace p744 := eq_true p744; replace q744 := eq_true q744; have p745 : 0 ≤ ((ji13) : Int) := of_decide_eq_true (by first | (with_reducible assumption) | assumption); have q745 : (ji13) < (x7_1.length : Int) := of_decide_eq_true (by first | (with_reducible assumption) | assumption); obtain ⟨ad745, e745, hx745_0, hx745_1⟩ := at_T46 (Kd.R_reads' HO_7.out).2.2 (ji13) p745 q745; obtain rfl : ad744 = ad745 := (by injection e745); replace p745 := eq_true p745; replace q745 := eq_true q745) | ((with_reducible refine gate_builtin (b := .append) (xs := #[.tmp 54, .tmp 57]) rfl ?_); at_builtin; refine Kd.R_append k46 (w0 := w) w.heap.size rfl (.tmp 54) (.tmp 57) 43 46 (.agg #[(.int .i64 0), (.int .i64 0)]) 16 rfl Try.underlying43 info46 rfl (by decide) (by omega) (.slice (some ad744) x7_1.length co22) x7_1 (⟨x8_1, 1⟩ : S46) [.int .i64 x8_1, .int .i64 1] (fun _ => True) (fun _ => False) rfl rfl ?aP (fun _ hk => hk.elim) ?aF ?aO ?aB ?aS ?aL ?_; (case aP => exact k46_mkM _ _ _ (⟨x8_1, 1⟩ : S46)); (case aB => exact (by repeat (first | (with_reducible first | exact HB.out | apply below_alloc | apply pw_below_drewN | apply below_drew1) | exact HB.out))); (case aF => exact (fun _ _ => trivial)); (case aO => exact (by (with_reducible repeat (first | apply Kd.R_alloc | apply Kd.R_drewN | apply Kd.R_drew)); exact HO_7.out)); (case aS => exact (below_size (by repeat (first | (with_reducible first | exact HB.out | apply below_alloc | apply pw_below_drewN | apply below_drew1) | exact HB.out)))); (case aL => have := LMc21.out; omega); intro v749 w23 ho hb hg hat; rw [← Ny748.out] at ho; have n0_ := Aside0.mk (hb); have n1_ := Aside0.mk (ho); clear HB; clear HO_7; have HB := n0_; have HO750 := n1_; clear n0_ n1_; clear ho hb hg hat)))
                      go_roundg k1
                      case measure => have := HK1.out; omega
                      case rel => exact ⟨(y748), (wrap64 (x8_1 + 1)), (by first | rfl | (simp; done) | (simp [*]; done)), H', ⟨by have := HK1.out; omega⟩, ⟨by (with_reducible repeat (first | apply Kd.R_alloc | apply Kd.R_drewN | apply Kd.R_drew)); exact HO750.out⟩, ⟨by repeat (first | (with_reducible first | exact HB.out | apply below_alloc | apply pw_below_drewN | apply below_drew1) | exact HB.out)⟩⟩
                    · rw [if_neg c21] at H
                      exact absurd H (by simp)
                · rw [if_neg c15] at H
                  exact absurd H (by simp)
              · rw [if_neg c14] at H
                exact absurd H (by simp)
            · rw [if_neg c12] at H
              have c12b0 : decide (0 ≤ (wrap64 ((x7_1.length : Int) - 1))) = false := decide_eq_false c12
              clear c12
              by_cases c24 : x7_1.length < 8796093022208
              · rw [if_pos c24] at H
                have LMc24 := Aside0.mk c24
                clear c24
                obtain ⟨y751, hy751⟩ : ∃ y_ : List (S46), y_ = (x7_1 ++ [(⟨x8_1, 1⟩ : S46)]) := ⟨_, rfl⟩
                replace H : (spec_Gaps.l0 k1 a0 a2 y751 (wrap64 (x8_1 + 1))) = some r := by first | (rw [hy751]; with_reducible exact H) | (have H2_ := (Option.bind_some _ _).symm.trans H; rw [hy751]; with_reducible exact H2_) | (have H2_ := (Option.bind_some _ _).symm.trans H; with_reducible exact H2_) | with_reducible exact H | (rw [hy751]; exact H) | exact H
                have Ny751 := Aside0.mk hy751
                clear hy751
                have H' := Aside0.mk H
                clear H
                go_wp2_with (first | (go_at_call 78; (with_reducible refine (spec_l6Bit.calls a0 x8_1 false _ A10.out).mono ?_); rintro e w' ⟨rfl, ⟨nd, rfl⟩⟩; (try first | exact ⟨rfl, _, World.drewN_drewN _ _ _⟩ | exact ⟨rfl, _, Eq.trans (World.drewN_drewN _ _ _) (congrArg (World.drewN _) (Nat.add_assoc _ _ _))⟩); obtain ⟨Ao25, co25, eo25⟩ := Kd.R_slice HO_7.out; subst eo25) | ((with_reducible refine gate_builtin (b := .append) (xs := #[.tmp 54, .tmp 57]) rfl ?_); at_builtin; refine Kd.R_append k46 (w0 := w) w.heap.size rfl (.tmp 54) (.tmp 57) 43 46 (.agg #[(.int .i64 0), (.int .i64 0)]) 16 rfl Try.underlying43 info46 rfl (by decide) (by omega) (.slice Ao25 x7_1.length co25) x7_1 (⟨x8_1, 1⟩ : S46) [.int .i64 x8_1, .int .i64 1] (fun _ => True) (fun _ => False) rfl rfl ?aP (fun _ hk => hk.elim) ?aF ?aO ?aB ?aS ?aL ?_; (case aP => exact k46_mkM _ _ _ (⟨x8_1, 1⟩ : S46)); (case aB => exact (by repeat (first | (with_reducible first | exact HB.out | apply below_alloc | apply pw_below_drewN | apply below_drew1) | exact HB.out))); (case aF => exact (fun _ _ => trivial)); (case aO => exact (by (with_reducible repeat (first | apply Kd.R_alloc | apply Kd.R_drewN | apply Kd.R_drew)); exact HO_7.out)); (case aS => exact (below_size (by repeat (first | (with_reducible first | exact HB.out | apply below_alloc | apply pw_below_drewN | apply below_drew1) | exact HB.out)))); (case aL => have := LMc24.out; omega); intro v752 w26 ho hb hg hat; rw [← Ny751.out] at ho; have n0_ := Aside0.mk (hb); have n1_ := Aside0.mk (ho); clear HB; clear HO_7; have HB := n0_; have HO753 := n1_; clear n0_ n1_; clear ho hb hg hat))
                repeat (go_quiet (first | (go_at_call 78; (with_reducible refine (spec_l6Bit.calls a0 x8_1 false _ A10.out).mono ?_); rintro e w' ⟨rfl, ⟨nd, rfl⟩⟩; (try first | exact ⟨rfl, _, World.drewN_drewN _ _ _⟩ | exact ⟨rfl, _, Eq.trans (World.drewN_drewN _ _ _) (congrArg (World.drewN _) (Nat.add_assoc _ _ _))⟩); obtain ⟨Ao25, co25, eo25⟩ := Kd.R_slice HO_7.out; subst eo25) | ((with_reducible refine gate_builtin (b := .append) (xs := #[.tmp 54, .tmp 57]) rfl ?_); at_builtin; refine Kd.R_append k46 (w0 := w) w.heap.size rfl (.tmp 54) (.tmp 57) 43 46 (.agg #[(.int .i64 0), (.int .i64 0)]) 16 rfl Try.underlying43 info46 rfl (by decide) (by omega) (.slice Ao25 x7_1.length co25) x7_1 (⟨x8_1, 1⟩ : S46) [.int .i64 x8_1, .int .i64 1] (fun _ => True) (fun _ => False) rfl rfl ?aP (fun _ hk => hk.elim) ?aF ?aO ?aB ?aS ?aL ?_; (case aP => exact k46_mkM _ _ _ (⟨x8_1, 1⟩ : S46)); (case aB => exact (by repeat (first | (with_reducible first | exact HB.out | apply below_alloc | apply pw_below_drewN | apply below_drew1) | exact HB.out))); (case aF => exact (fun _ _ => trivial)); (case aO => exact (by (with_reducible repeat (first | apply Kd.R_alloc | apply Kd.R_drewN | apply Kd.R_drew)); exact HO_7.out)); (case aS => exact (below_size (by repeat (first | (with_reducible first | exact HB.out | apply below_alloc | apply pw_below_drewN | apply below_drew1) | exact HB.out)))); (case aL => have := LMc24.out; omega); intro v752 w26 ho hb hg hat; rw [← Ny751.out] at ho; have n0_ := Aside0.mk (hb); have n1_ := Aside0.mk (ho); clear HB; clear HO_7; have HB := n0_; have HO753 := n1_; clear n0_ n1_; clear ho hb hg hat)); try go_wp2_with (first | (go_at_call 78; (with_reducible refine (spec_l6Bit.calls a0 x8_1 false _ A10.out).mono ?_); rintro e w' ⟨rfl, ⟨nd, rfl⟩⟩; (try first | exact ⟨rfl, _, World.drewN_drewN _ _ _⟩ | exact ⟨rfl, _, Eq.trans (World.drewN_drewN _ _ _) (congrArg (World.drewN _) (Nat.add_assoc _ _ _))⟩); obtain ⟨Ao25, co25, eo25⟩ := Kd.R_slice HO_7.out; subst eo25) | ((with_reducible refine gate_builtin (b := .append) (xs := #[.tmp 54, .tmp 57]) rfl ?_); at_builtin; refine Kd.R_append k46 (w0 := w) w.heap.size rfl (.tmp 54) (.tmp 57) 43 46 (.agg #[(.int .i64 0), (.int .i64 0)]) 16 rfl Try.underlying43 info46 rfl (by decide) (by omega) (.slice Ao25 x7_1.length co25) x7_1 (⟨x8_1, 1⟩ : S46) [.int .i64 x8_1, .int .i64 1] (fun _ => True) (fun _ => False) rfl rfl ?aP (fun _ hk => hk.elim) ?aF ?aO ?aB ?aS ?aL ?_; (case aP => exact k46_mkM _ _ _ (⟨x8_1, 1⟩ : S46)); (case aB => exact (by repeat (first | (with_reducible first | exact HB.out | apply below_alloc | apply pw_below_drewN | apply below_drew1) | exact HB.out))); (case aF => exact (fun _ _ => trivial)); (case aO => exact (by (with_reducible repeat (first | apply Kd.R_alloc | apply Kd.R_drewN | apply Kd.R_drew)); exact HO_7.out)); (case aS => exact (below_size (by repeat (first | (with_reducible first | exact HB.out | apply below_alloc | apply pw_below_drewN | apply below_drew1) | exact HB.out)))); (case aL => have := LMc24.out; omega); intro v752 w26 ho hb hg hat; rw [← Ny751.out] at ho; have n0_ := Aside0.mk (hb); have n1_ := Aside0.mk (ho); clear HB; clear HO_7; have HB := n0_; have HO753 := n1_; clear n0_ n1_; clear ho hb hg hat)))
                go_roundg k1
                case measure => have := HK1.out; omega
                case rel => exact ⟨(y751), (wrap64 (x8_1 + 1)), (by first | rfl | (simp; done) | (simp [*]; done)), H', ⟨by have := HK1.out; omega⟩, ⟨by (with_reducible repeat (first | apply Kd.R_alloc | apply Kd.R_drewN | apply Kd.R_drew)); exact HO753.out⟩, ⟨by repeat (first | (with_reducible first | exact HB.out | apply below_alloc | apply pw_below_drewN | apply below_drew1) | exact HB.out)⟩⟩
              · rw [if_neg c24] at H
                exact absurd H (by simp)
        · rw [if_neg c9] at H
          have c9b0 : decide (x8_1 < a2) = false := decide_eq_false c9
          clear c9
          obtain rfl := Option.some.inj H
          go_wp2
          repeat (go_quiet (fail); try go_wp2)
          go_ret
          exact ⟨_, by first | rfl | (simp [errW_none, errW_some] <;> rfl) | (simp [*, errW_none, errW_some] <;> rfl), by (with_reducible repeat (first | apply Kd.R_alloc | apply Kd.R_drewN | apply Kd.R_drew)); exact HO_7.out, by repeat (first | (with_reducible first | exact HB.out | apply below_alloc | apply pw_below_drewN | apply below_drew1) | exact HB.out)⟩
  · replace c5 := Bool.eq_false_iff.mpr c5
    subst c5
    have H1 : (some y739) = some r := by rw [if_neg (show ¬ (false = true) by decide)] at H; exact H
    clear H
    have H := H1
    clear H1
    obtain rfl := Option.some.inj H
    go_enter Try.func95, Try.ntmps95
    go_wp2_with (first | ((with_reducible refine gate_dst (N := 10) rfl ?_); refine Kd.R_lit k46 _ 46 ?hg (N := 10) ?hd (xs := ([] : List (S46))) (inner := []) (ok := fun _ => True) (okp := fun _ => True) ?hr ?hp (fun _ hk => hk) trivial (Below.refl _ _) (Nat.le_refl _) (by simp) ?_; (case hd => rfl); (case hg => rfl); (case hr => first | (go_simp; done) | (go_simp; rfl)); (case hp => exact (Reps.none _ _)); intro v740 w27 ho28 hb hg_ hnew_; clear hg_ hnew_; (first | rw [← Ny739.out] at ho28 | (simp only [Int.reduceToNat] at ho28; rw [← Ny739.out] at ho28)); have n0_ := Aside0.mk (Kd.R_lower ho28 (below_size (by repeat (first | (with_reducible first | exact HB.out | apply below_alloc | apply pw_below_drewN | apply below_drew1) | exact HB.out)))); have n1_ := Aside0.mk (below_step (by repeat (first | (with_reducible first | exact HB.out | apply below_alloc | apply pw_below_drewN | apply below_drew1) | exact HB.out)) hb); clear HB; have HO741 := n0_; have HB := n1_; clear n0_ n1_; clear hb ho28) | (go_at_call 77; (with_reducible refine (spec_l6Range.calls a0 a1 a2 false _ A4.out).mono ?_); rintro e w29 ⟨rfl, hb⟩; have n0_ := Aside0.mk (Kd.R_below (by (with_reducible repeat (first | apply Kd.R_alloc | apply Kd.R_drewN | apply Kd.R_drew)); exact HO741.out) hb); have n1_ := Aside0.mk (below_step (by repeat (first | (with_reducible first | exact HB.out | apply below_alloc | apply pw_below_drewN | apply below_drew1) | exact HB.out)) hb); clear HO741; clear HB; have HO741 := n0_; have HB := n1_; clear n0_ n1_; (try clear hb); (try clear hb2); (try clear hk); (try clear hi)))
    repeat (go_quiet (first | ((with_reducible refine gate_dst (N := 10) rfl ?_); refine Kd.R_lit k46 _ 46 ?hg (N := 10) ?hd (xs := ([] : List (S46))) (inner := []) (ok := fun _ => True) (okp := fun _ => True) ?hr ?hp (fun _ hk => hk) trivial (Below.refl _ _) (Nat.le_refl _) (by simp) ?_; (case hd => rfl); (case hg => rfl); (case hr => first | (go_simp; done) | (go_simp; rfl)); (case hp => exact (Reps.none _ _)); intro v740 w27 ho28 hb hg_ hnew_; clear hg_ hnew_; (first | rw [← Ny739.out] at ho28 | (simp only [Int.reduceToNat] at ho28; rw [← Ny739.out] at ho28)); have n0_ := Aside0.mk (Kd.R_lower ho28 (below_size (by repeat (first | (with_reducible first | exact HB.out | apply below_alloc | apply pw_below_drewN | apply below_drew1) | exact HB.out)))); have n1_ := Aside0.mk (below_step (by repeat (first | (with_reducible first | exact HB.out | apply below_alloc | apply pw_below_drewN | apply below_drew1) | exact HB.out)) hb); clear HB; have HO741 := n0_; have HB := n1_; clear n0_ n1_; clear hb ho28) | (go_at_call 77; (with_reducible refine (spec_l6Range.calls a0 a1 a2 false _ A4.out).mono ?_); rintro e w29 ⟨rfl, hb⟩; have n0_ := Aside0.mk (Kd.R_below (by (with_reducible repeat (first | apply Kd.R_alloc | apply Kd.R_drewN | apply Kd.R_drew)); exact HO741.out) hb); have n1_ := Aside0.mk (below_step (by repeat (first | (with_reducible first | exact HB.out | apply below_alloc | apply pw_below_drewN | apply below_drew1) | exact HB.out)) hb); clear HO741; clear HB; have HO741 := n0_; have HB := n1_; clear n0_ n1_; (try clear hb); (try clear hb2); (try clear hk); (try clear hi))); try go_wp2_with (first | ((with_reducible refine gate_dst (N := 10) rfl ?_); refine Kd.R_lit k46 _ 46 ?hg (N := 10) ?hd (xs := ([] : List (S46))) (inner := []) (ok := fun _ => True) (okp := fun _ => True) ?hr ?hp (fun _ hk => hk) trivial (Below.refl _ _) (Nat.le_refl _) (by simp) ?_; (case hd => rfl); (case hg => rfl); (case hr => first | (go_simp; done) | (go_simp; rfl)); (case hp => exact (Reps.none _ _)); intro v740 w27 ho28 hb hg_ hnew_; clear hg_ hnew_; (first | rw [← Ny739.out] at ho28 | (simp only [Int.reduceToNat] at ho28; rw [← Ny739.out] at ho28)); have n0_ := Aside0.mk (Kd.R_lower ho28 (below_size (by repeat (first | (with_reducible first | exact HB.out | apply below_alloc | apply pw_below_drewN | apply below_drew1) | exact HB.out)))); have n1_ := Aside0.mk (below_step (by repeat (first | (with_reducible first | exact HB.out | apply below_alloc | apply pw_below_drewN | apply below_drew1) | exact HB.out)) hb); clear HB; have HO741 := n0_; have HB := n1_; clear n0_ n1_; clear hb ho28) | (go_at_call 77; (with_reducible refine (spec_l6Range.calls a0 a1 a2 false _ A4.out).mono ?_); rintro e w29 ⟨rfl, hb⟩; have n0_ := Aside0.mk (Kd.R_below (by (with_reducible repeat (first | apply Kd.R_alloc | apply Kd.R_drewN | apply Kd.R_drew)); exact HO741.out) hb); have n1_ := Aside0.mk (below_step (by repeat (first | (with_reducible first | exact HB.out | apply below_alloc | apply pw_below_drewN | apply below_drew1) | exact HB.out)) hb); clear HO741; clear HB; have HO741 := n0_; have HB := n1_; clear n0_ n1_; (try clear hb); (try clear hb2); (try clear hk); (try clear hi))))
    go_ret
    exact ⟨_, by first | rfl | (simp [errW_none, errW_some] <;> rfl) | (simp [*, errW_none, errW_some] <;> rfl), by (with_reducible repeat (first | apply Kd.R_alloc | apply Kd.R_drewN | apply Kd.R_drew)); exact HO741.out, by repeat (first | (with_reducible first | exact HB.out | apply below_alloc | apply pw_below_drewN | apply below_drew1) | exact HB.out)⟩

end Go.Proofs.Ytnhladaobcnmhaa.X
namespace Go.Proofs.Ytnhladaobcnmhaa.Pure
open Go.RowKit Go.Proofs.Ytnhladaobcnmhaa.X Go.Proofs.YtnhladaobcnmhaaW.PrintWords Go.Proofs.YtnhladaobcnmhaaW.PrintLast Go.Proofs.YtnhladaobcnmhaaW.PrintMore
set_option linter.unusedVariables false
set_option linter.unusedSimpArgs false

theorem repeat_zero (n : Nat) : Lib.repeatL [0] n = List.replicate n 0 := by
  induction n with
  | zero => rfl
  | succ n ih => rw [Lib.repeatL, ih]; rfl
def zerosB (n : Nat) : ByteArray := strOfNums (List.replicate n 0)
theorem zerosB_size (n : Nat) : (zerosB n).size = n := by rw [zerosB, strOfNums_size, List.length_replicate]
theorem bytesOf_zerosB (n : Nat) : bytesOf (zerosB n) = List.replicate n 0 := bytesOf_strOfNums (isBytes_replicate n)
theorem impl_zeros_f (n : Nat) (h : n ≤ 1048576) : impl_zeros.f (n : Int) = some (zerosB n) := by
  unfold impl_zeros.f strings_Repeat.f
  rw [if_pos (by omega), if_pos (by omega), if_pos (by decide)]
  simp only [Option.bind_some, Int.toNat_natCast]
  refine congrArg some ?_
  rw [repeat_zero]
  simp [zerosB, strOfNums]
theorem spec_l1Zeros_f (n : Nat) (h : n ≤ 1048576) : spec_l1Zeros.f (n : Int) = some (zerosB n) := by
  unfold spec_l1Zeros.f
  rw [if_pos (by omega), if_pos (by rw [Int.toNat_natCast]; omega), Int.toNat_natCast]
  rfl
def mapOk (s : ByteArray) : Prop := s.size = 64 ∧ s.extract 16 s.size = zerosB 48
instance (s : ByteArray) : Decidable (mapOk s) := by unfold mapOk; infer_instance
theorem spec_l6Map_f (s : ByteArray) : spec_l6Map.f s = some (decide (mapOk s)) := by
  unfold spec_l6Map.f mapOk
  have z := spec_l1Zeros_f 48 (by omega)
  split
  · rename_i h
    rw [if_pos (by omega), show (48 : Int) = ((48 : Nat) : Int) from rfl, z]
    simp only [Option.bind_some, toList_beq]
    refine congrArg some (decide_eq_decide.2 ⟨fun e => ⟨by omega, e⟩, fun e => e.2⟩)
  · rename_i h
    refine congrArg some (decide_eq_false (fun e => h (by omega))).symm
theorem impl_isMap_f (s : ByteArray) : impl_isMap.f s = some (decide (mapOk s)) := by
  unfold impl_isMap.f mapOk
  have z := impl_zeros_f 48 (by omega)
  split
  · rename_i h
    rw [if_pos (by omega), show (48 : Int) = ((48 : Nat) : Int) from rfl, z]
    simp only [Option.bind_some, toList_beq]
    refine congrArg some (decide_eq_decide.2 ⟨fun e => ⟨by omega, e⟩, fun e => e.2⟩)
  · rename_i h
    refine congrArg some (decide_eq_false (fun e => h (by omega))).symm

/-- Is line n taken. -/
def tk (s : ByteArray) (n : Int) : Bool := bitL (bytesOf s) n.toNat
theorem and_one {x : Int} (h0 : 0 ≤ x) (h1 : x ≤ 255) : Go.bits .and .u8 x 1 = x % 2 := by
  have h := Go.bits_mask .u8 8 (by decide) Go.wraps_u8 1 (by decide) x h0 (by omega)
  simpa using h
theorem shr_u8 (x : Int) (r : Nat) (hr : r < 8) : shr .u8 x (r : Int) = x / 2 ^ r := by
  unfold shr
  rw [Int.toNat_natCast, show min r IntKind.u8.bits = r from Nat.min_eq_left (by show r ≤ 8; omega)]
theorem div_range {x : Int} (h0 : 0 ≤ x) (h1 : x ≤ 255) (r : Nat) : 0 ≤ x / 2 ^ r ∧ x / 2 ^ r ≤ 255 := by
  have hp : (0 : Int) < 2 ^ r := Int.pow_pos (by decide)
  exact ⟨Int.ediv_nonneg h0 (by omega), Int.le_trans (Int.ediv_le_self _ h0) h1⟩
theorem bit_read (s : ByteArray) (n : Nat) : (Go.bits .and .u8 (shr .u8 (bt s ((n / 8 : Nat) : Int)) ((n % 8 : Nat) : Int)) 1 == 1) = tk s (n : Int) := by
  have hb := bt_range s ((n / 8 : Nat) : Int)
  have hd := div_range hb.1 hb.2 (n % 8)
  rw [shr_u8 _ _ (by omega), and_one hd.1 hd.2, bt_bytesOf]
  unfold tk bitL bitv
  rw [Int.toNat_natCast]
theorem spec_l6Bit_f (s : ByteArray) (n : Nat) (h : n / 8 < s.size) (hn : n ≤ 1099511627776) : spec_l6Bit.f s (n : Int) = some (tk s (n : Int)) := by
  unfold spec_l6Bit.f
  rw [Int.tdiv_eq_ediv_of_nonneg (by omega), Int.tmod_eq_emod_of_nonneg (by omega), w64 (by omega) (by omega)]
  rw [show (n : Int) / 8 = ((n / 8 : Nat) : Int) from by omega, show IntKind.u64.wrap ((n : Int) % 8) = ((n % 8 : Nat) : Int) from by simp [IntKind.wrap, IntKind.bits, IntKind.signed]; omega]
  rw [if_pos (by omega), if_pos (by omega), if_pos (by omega), bit_read]
theorem impl_isTaken_f (s : ByteArray) (n : Nat) (h : n / 8 < s.size) (hn : n ≤ 1099511627776) : impl_isTaken.f s (n : Int) = some (tk s (n : Int)) := by
  unfold impl_isTaken.f
  rw [Int.tdiv_eq_ediv_of_nonneg (by omega), Int.tmod_eq_emod_of_nonneg (by omega), w64 (by omega) (by omega)]
  rw [show (n : Int) / 8 = ((n / 8 : Nat) : Int) from by omega, show (n : Int) % 8 = ((n % 8 : Nat) : Int) from by omega]
  rw [if_pos (by omega), if_pos (by omega), if_pos (by omega), bit_read]
theorem spec_bit (s : ByteArray) (n : Int) (hs : mapOk s) (h0 : 0 ≤ n) (h1 : n < 128) : spec_l6Bit.f s n = some (tk s n) := by
  obtain ⟨m, rfl⟩ := Int.eq_ofNat_of_zero_le h0
  exact spec_l6Bit_f s m (by have := hs.1; omega) (by omega)
theorem impl_bit (s : ByteArray) (n : Int) (hs : mapOk s) (h0 : 0 ≤ n) (h1 : n < 128) : impl_isTaken.f s n = some (tk s n) := by
  obtain ⟨m, rfl⟩ := Int.eq_ofNat_of_zero_le h0
  exact impl_isTaken_f s m (by have := hs.1; omega) (by omega)

/-! ### lines -/
/-- The taken ones of the lines i, .., i + d - 1. -/
def linesFrom (t : Int → Bool) (i : Int) : Nat → List Int
  | 0 => []
  | d + 1 => if t i then i :: linesFrom t (i + 1) d else linesFrom t (i + 1) d
theorem linesFrom_length (t : Int → Bool) : ∀ (d : Nat) (i : Int), (linesFrom t i d).length ≤ d
  | 0, i => by simp [linesFrom]
  | d + 1, i => by
    have h := linesFrom_length t d (i + 1)
    simp only [linesFrom]
    split
    · simp; omega
    · omega
def linesOf (s : ByteArray) : List Int := if mapOk s then linesFrom (tk s) 0 128 else []
theorem impl_LinesOf_ev (s : ByteArray) : Ev (fun k => impl_LinesOf.f k s) (linesOf s) := by
  unfold impl_LinesOf.f
  refine Ev.bindo (impl_isMap_f s) (Ev.cases (fun c => ?_) (fun c => Ev.eq ?_))
  · have c : mapOk s := by simpa using c
    have l : ∀ (d i : Nat) (acc : List Int), 128 - i = d → i ≤ 128 → acc.length ≤ i → Ev (fun k => impl_LinesOf.l0 k s acc (i : Int)) (acc ++ linesFrom (tk s) i d) := by
      intro d
      induction d with
      | zero =>
        intro i acc hd hi ha
        refine Ev.step (fun k => by rw [impl_LinesOf.l0]) (Ev.neg (by omega) (Ev.eq (by simp [linesFrom])))
      | succ d ih =>
        intro i acc hd hi ha
        refine Ev.step (fun k => by rw [impl_LinesOf.l0]) (Ev.pos (by omega) (Ev.bindo (impl_bit s i c (by omega) (by omega)) ?_))
        rw [show wrap64 ((i : Int) + 1) = ((i + 1 : Nat) : Int) from by rw [w64 (by omega) (by omega)]; omega]
        refine Ev.cases (fun e => Ev.pos (by omega) ?_) (fun e => ?_)
        · refine Ev.val (ih (i + 1) (acc ++ [(i : Int)]) (by omega) (by omega) (by simp; omega)) ?_
          simp [linesFrom, e]
        · refine Ev.val (ih (i + 1) acc (by omega) (by omega) (by omega)) ?_
          simp [linesFrom, e]
    exact Ev.val (l 128 0 [] rfl (by omega) (by simp)) (by simp [linesOf, c])
  · have c : ¬ mapOk s := by simpa using c
    simp [linesOf, c]
theorem spec_LinesOf_ev (s : ByteArray) : Ev (fun k => spec_LinesOf.f k s) (linesOf s) := by
  unfold spec_LinesOf.f
  by_cases c : mapOk s
  · have l : ∀ (d i : Nat) (acc : List Int), 128 - i = d → i ≤ 128 → acc.length ≤ i → Ev (fun k => spec_LinesOf.l0 k s acc (i : Int)) (acc ++ linesFrom (tk s) i d) := by
      intro d
      induction d with
      | zero =>
        intro i acc hd hi ha
        refine Ev.step (fun k => by rw [spec_LinesOf.l0]) (Ev.neg (by omega) ?_)
        refine Ev.step (fun k => by rw [spec_LinesOf.j1]) (Ev.neg (by simp) (Ev.eq (by simp [linesFrom])))
      | succ d ih =>
        intro i acc hd hi ha
        refine Ev.step (fun k => by rw [spec_LinesOf.l0]) (Ev.pos (by omega) (Ev.bindo (spec_l6Map_f s) ?_))
        refine Ev.step (fun k => by rw [spec_LinesOf.j1]) (Ev.pos (by simp [c]) (Ev.bindo (spec_bit s i c (by omega) (by omega)) ?_))
        rw [show wrap64 ((i : Int) + 1) = ((i + 1 : Nat) : Int) from by rw [w64 (by omega) (by omega)]; omega]
        refine Ev.cases (fun e => Ev.pos (by omega) ?_) (fun e => ?_)
        · refine Ev.val (ih (i + 1) (acc ++ [(i : Int)]) (by omega) (by omega) (by simp; omega)) ?_
          simp [linesFrom, e]
        · refine Ev.val (ih (i + 1) acc (by omega) (by omega) (by omega)) ?_
          simp [linesFrom, e]
    exact Ev.val (l 128 0 [] rfl (by omega) (by simp)) (by simp [linesOf, c])
  · refine Ev.step (fun k => by rw [spec_LinesOf.l0]) (Ev.pos (by omega) (Ev.bindo (spec_l6Map_f s) ?_))
    refine Ev.step (fun k => by rw [spec_LinesOf.j1]) (Ev.neg (by simp [c]) (Ev.eq (by simp [linesOf, c])))

/-! ### areas and gaps -/
def areaOk (s : ByteArray) (a b : Int) : Prop := mapOk s ∧ 0 ≤ a ∧ a ≤ b ∧ b ≤ 128
instance (s : ByteArray) (a b : Int) : Decidable (areaOk s a b) := by unfold areaOk; infer_instance
theorem impl_isArea_f (s : ByteArray) (a b : Int) : impl_isArea.f s a b = some (decide (areaOk s a b)) := by
  unfold impl_isArea.f areaOk
  rw [impl_isMap_f, Option.bind_some]
  by_cases c : mapOk s
  · simp only [c, decide_true, if_true, true_and]
    by_cases h1 : a ≥ 0
    · by_cases h2 : a ≤ b
      · simp [h1, h2]
      · simp [h1, h2]
    · simp [h1]
  · simp [c]
theorem spec_l6Range_f (s : ByteArray) (a b : Int) : spec_l6Range.f s a b = some (decide (areaOk s a b)) := by
  unfold spec_l6Range.f areaOk
  rw [spec_l6Map_f, Option.bind_some]
  by_cases c : mapOk s
  · simp only [c, decide_true, if_true, true_and]
    by_cases h1 : a ≥ 0
    · by_cases h2 : a ≤ b
      · simp [h1, h2]
      · simp [h1, h2]
    · simp [h1]
  · simp [c]
/-- How many of the lines i, .., i + d - 1 are free. -/
def freeFrom (t : Int → Bool) (i : Int) : Nat → Int
  | 0 => 0
  | d + 1 => (if t i then 0 else 1) + freeFrom t (i + 1) d
theorem freeFrom_range (t : Int → Bool) : ∀ (d : Nat) (i : Int), 0 ≤ freeFrom t i d ∧ freeFrom t i d ≤ d
  | 0, i => by simp [freeFrom]
  | d + 1, i => by
    have h := freeFrom_range t d (i + 1)
    simp only [freeFrom]
    split <;> omega
theorem spec_FreeOf_ev (s : ByteArray) (a b : Int) : Ev (fun k => spec_FreeOf.f k s a b) (if areaOk s a b then freeFrom (tk s) a (b - a).toNat else -1) := by
  unfold spec_FreeOf.f
  refine Ev.bindo (spec_l6Range_f s a b) (Ev.cases (fun c => ?_) (fun c => Ev.eq ?_))
  · have c : areaOk s a b := by simpa using c
    obtain ⟨hm, h0, h1, h2⟩ := c
    have l : ∀ (d : Nat) (i acc : Int), (b - i).toNat = d → a ≤ i → i ≤ b → 0 ≤ acc → acc ≤ i → Ev (fun k => spec_FreeOf.l0 k s b acc i) (acc + freeFrom (tk s) i d) := by
      intro d
      induction d with
      | zero =>
        intro i acc hd hi hb ha ha2
        refine Ev.step (fun k => by rw [spec_FreeOf.l0]) (Ev.neg (by omega) (Ev.eq (by simp [freeFrom])))
      | succ d ih =>
        intro i acc hd hi hb ha ha2
        refine Ev.step (fun k => by rw [spec_FreeOf.l0]) (Ev.pos (by omega) (Ev.bindo (spec_bit s i hm (by omega) (by omega)) ?_))
        rw [w64 (x := i + 1) (by omega) (by omega), w64 (x := acc + 1) (by omega) (by omega)]
        refine Ev.cases (fun e => ?_) (fun e => ?_)
        · refine Ev.val (ih (i + 1) acc (by omega) (by omega) (by omega) (by omega) (by omega)) ?_
          simp [freeFrom, e]
        · refine Ev.val (ih (i + 1) (acc + 1) (by omega) (by omega) (by omega) (by omega) (by omega)) ?_
          simp [freeFrom, e]; omega
    refine Ev.val (l _ a 0 rfl (by omega) (by omega) (by omega) (by omega)) ?_
    rw [if_pos ⟨hm, h0, h1, h2⟩]; omega
  · rw [if_neg (by simpa using c)]

theorem rdT_last (g : List S46) (h : 1 ≤ g.length) : rd_T46 g ((g.length : Int) - 1) = g.getD (g.length - 1) z46 := by
  unfold rd_T46
  rw [show ((g.length : Int) - 1).toNat = g.length - 1 from by omega]
/-- A free line is laid to the gaps before it. -/
def addGap (g : List S46) (i : Int) : List S46 :=
  if 1 ≤ g.length ∧ (g.getD (g.length - 1) z46).f0 + (g.getD (g.length - 1) z46).f1 = i
  then g.set (g.length - 1) ⟨(g.getD (g.length - 1) z46).f0, (g.getD (g.length - 1) z46).f1 + 1⟩
  else g ++ [⟨i, 1⟩]
def gapsGo (t : Int → Bool) : Nat → List S46 → Int → List S46
  | 0, g, _ => g
  | d + 1, g, i => if t i then gapsGo t d g (i + 1) else gapsGo t d (addGap g i) (i + 1)
/-- What holds of the gaps of the lines a, .., i - 1. -/
structure Gap (t : Int → Bool) (a i : Int) (g : List S46) : Prop where
  each : ∀ x ∈ g, a ≤ x.f0 ∧ 1 ≤ x.f1 ∧ x.f0 + x.f1 ≤ i
  free : ∀ x ∈ g, ∀ j, x.f0 ≤ j → j < x.f0 + x.f1 → t j = false
  stop : ∀ x ∈ g, x.f0 + x.f1 < i → t (x.f0 + x.f1) = true
  all : ∀ j, a ≤ j → j < i → t j = false → ∃ x ∈ g, x.f0 ≤ j ∧ j < x.f0 + x.f1
  sorted : g.Pairwise (fun x y => x.f0 + x.f1 < y.f0)
theorem snoc_cases {α : Type} (g : List α) : g = [] ∨ ∃ l x, g = l ++ [x] := by
  rcases Nat.eq_zero_or_pos g.length with h | h
  · exact .inl (List.eq_nil_of_length_eq_zero h)
  · have hne : g ≠ [] := by intro e; simp [e] at h
    exact .inr ⟨g.dropLast, g.getLast hne, (List.dropLast_concat_getLast hne).symm⟩
theorem getD_snoc {α : Type} (l : List α) (x d : α) : (l ++ [x]).getD ((l ++ [x]).length - 1) d = x := by
  simp [List.getD_eq_getElem?_getD]
theorem set_snoc {α : Type} (l : List α) (x y : α) : (l ++ [x]).set ((l ++ [x]).length - 1) y = l ++ [y] := by
  simp [List.set_append]
theorem Gap.nil (t : Int → Bool) (a : Int) : Gap t a a [] := ⟨by simp, by simp, by simp, fun j h0 h1 => by omega, List.Pairwise.nil⟩
theorem Gap.taken {t : Int → Bool} {a i : Int} {g : List S46} (h : Gap t a i g) (ht : t i = true) : Gap t a (i + 1) g := by
  refine ⟨fun x hx => by have := h.each x hx; omega, h.free, fun x hx hlt => ?_, fun j h0 h1 hj => ?_, h.sorted⟩
  · by_cases e : x.f0 + x.f1 < i
    · exact h.stop x hx e
    · have := h.each x hx
      rw [show x.f0 + x.f1 = i from by omega]
      exact ht
  · by_cases e : j < i
    · exact h.all j h0 e hj
    · rw [show j = i from by omega, ht] at hj
      cases hj
theorem Gap.add {t : Int → Bool} {a i : Int} {g : List S46} (h : Gap t a i g) (ha : a ≤ i) (ht : t i = false) : Gap t a (i + 1) (addGap g i) := by
  unfold addGap
  rcases snoc_cases g with rfl | ⟨l, x, rfl⟩
  · rw [if_neg (by simp)]
    refine ⟨fun x hx => ?_, fun x hx j h0 h1 => ?_, fun x hx hlt => ?_, fun j h0 h1 hj => ?_, by simp⟩
    · simp at hx; subst hx; simp; omega
    · simp at hx; subst hx; simp at h0 h1; rw [show j = i from by omega]; exact ht
    · simp at hx; subst hx; simp at hlt
    · by_cases e : j < i
      · obtain ⟨x, hx, _⟩ := h.all j h0 e hj
        cases hx
      · exact ⟨⟨i, 1⟩, List.mem_singleton.2 rfl, by show i ≤ j; omega, by show j < i + 1; omega⟩
  · rw [getD_snoc, set_snoc]
    have hx0 := h.each x (by simp)
    have hs := List.pairwise_append.1 h.sorted
    split
    · rename_i c
      have c := c.2
      refine ⟨fun y hy => ?_, fun y hy j h0 h1 => ?_, fun y hy hlt => ?_, fun j h0 h1 hj => ?_, ?_⟩
      · rcases List.mem_append.1 hy with hy | hy
        · have := h.each y (by simp [hy]); omega
        · simp at hy; subst hy; simp; omega
      · rcases List.mem_append.1 hy with hy | hy
        · exact h.free y (by simp [hy]) j h0 h1
        · simp at hy; subst hy; simp at h0 h1
          by_cases e : j < i
          · exact h.free x (by simp) j h0 (by omega)
          · rw [show j = i from by omega]; exact ht
      · rcases List.mem_append.1 hy with hy | hy
        · have := hs.2.2 y hy x (by simp)
          exact h.stop y (by simp [hy]) (by omega)
        · simp at hy; subst hy; simp at hlt; omega
      · by_cases e : j < i
        · obtain ⟨y, hy, h2, h3⟩ := h.all j h0 e hj
          rcases List.mem_append.1 hy with hy | hy
          · exact ⟨y, by simp [hy], h2, h3⟩
          · simp at hy; subst hy
            exact ⟨_, List.mem_append_right _ (List.mem_singleton.2 rfl), h2, by simp; omega⟩
        · exact ⟨_, List.mem_append_right _ (List.mem_singleton.2 rfl), by simp; omega, by simp; omega⟩
      · refine List.pairwise_append.2 ⟨hs.1, by simp, fun y hy z hz => ?_⟩
        simp at hz; subst hz
        exact hs.2.2 y hy x (by simp)
    · rename_i c
      have c : x.f0 + x.f1 ≠ i := fun e => c ⟨by simp, e⟩
      refine ⟨fun y hy => ?_, fun y hy j h0 h1 => ?_, fun y hy hlt => ?_, fun j h0 h1 hj => ?_, ?_⟩
      · rcases List.mem_append.1 hy with hy | hy
        · have := h.each y hy; omega
        · simp at hy; subst hy; simp; omega
      · rcases List.mem_append.1 hy with hy | hy
        · exact h.free y hy j h0 h1
        · simp at hy; subst hy; simp at h0 h1; rw [show j = i from by omega]; exact ht
      · rcases List.mem_append.1 hy with hy | hy
        · rcases List.mem_append.1 hy with hy2 | hy2
          · have := hs.2.2 y hy2 x (by simp)
            exact h.stop y hy (by omega)
          · simp at hy2; subst hy2
            exact h.stop y hy (by omega)
        · simp at hy; subst hy; simp at hlt
      · by_cases e : j < i
        · obtain ⟨y, hy, h2⟩ := h.all j h0 e hj
          exact ⟨y, List.mem_append_left _ hy, h2⟩
        · exact ⟨_, List.mem_append_right _ (List.mem_singleton.2 rfl), by simp; omega, by simp; omega⟩
      · refine List.pairwise_append.2 ⟨h.sorted, by simp, fun y hy z hz => ?_⟩
        simp at hz; subst hz
        simp
        rcases List.mem_append.1 hy with hy2 | hy2
        · have := hs.2.2 y hy2 x (by simp); omega
        · simp at hy2; subst hy2; omega
theorem Gap.go {t : Int → Bool} {a : Int} : ∀ (d : Nat) (i : Int) (g : List S46), Gap t a i g → a ≤ i → Gap t a (i + d) (gapsGo t d g i)
  | 0, i, g, h, _ => by simpa [gapsGo] using h
  | d + 1, i, g, h, ha => by
    simp only [gapsGo]
    rw [show i + ((d + 1 : Nat) : Int) = i + 1 + (d : Nat) from by omega]
    split
    · rename_i e
      exact Gap.go d (i + 1) g (h.taken e) (by omega)
    · rename_i e
      exact Gap.go d (i + 1) _ (h.add ha (by simpa using e)) (by omega)
/-- There are no more gaps than lines. -/
theorem Gap.length {t : Int → Bool} {a i : Int} {g : List S46} (h : Gap t a i g) (ha : a ≤ i) : (g.length : Int) ≤ i - a := by
  have key : ∀ (g : List S46) (a : Int), a ≤ i → (∀ x ∈ g, a ≤ x.f0 ∧ 1 ≤ x.f1 ∧ x.f0 + x.f1 ≤ i) → g.Pairwise (fun x y => x.f0 + x.f1 < y.f0) → (g.length : Int) ≤ i - a := by
    intro g
    induction g with
    | nil => intro a ha _ _; simp; omega
    | cons x g ih =>
      intro a ha he hs
      have hx := he x (by simp)
      have h2 := List.pairwise_cons.1 hs
      have := ih (x.f0 + x.f1) (by omega) (fun y hy => by have := h2.1 y hy; have := he y (by simp [hy]); omega) h2.2
      simp only [List.length_cons]
      omega
  exact key g a ha h.each h.sorted
def gapsOf (s : ByteArray) (a b : Int) : List S46 := gapsGo (tk s) (b - a).toNat [] a
theorem gapsOf_gap (s : ByteArray) (a b : Int) (h : a ≤ b) : Gap (tk s) a b (gapsOf s a b) := by
  have g := Gap.go (t := tk s) (b - a).toNat a [] (Gap.nil _ a) (by omega)
  rwa [show a + ((b - a).toNat : Int) = b from by omega] at g
theorem gapStep (t : Int → Bool) (a b i : Int) (g : List S46) (h : Gap t a i g) (ha : 0 ≤ a) (hai : a ≤ i) (hib : i < b) (hb : b ≤ 128) (ht : t i = false) {A : List S46 → Nat → Option (List S46)} {r : List S46} (hr : Ev (fun k => A (addGap g i) k) r) :
    Ev (fun k => if (wrap64 ((g.length : Int) - 1)) ≥ 0 then (if 0 ≤ (wrap64 ((g.length : Int) - 1)) then (if (wrap64 ((g.length : Int) - 1)) < (g.length : Int) then (if (wrap64 (((rd_T46 g (wrap64 ((g.length : Int) - 1))).f0) + ((rd_T46 g (wrap64 ((g.length : Int) - 1))).f1))) = i then (A (g.set ((wrap64 ((g.length : Int) - 1)) : Int).toNat (⟨(rd_T46 g (wrap64 ((g.length : Int) - 1))).f0, wrap64 (((rd_T46 g (wrap64 ((g.length : Int) - 1))).f1) + 1)⟩ : S46)) k) else (if g.length < 8796093022208 then (A (g ++ [(⟨i, 1⟩ : S46)]) k) else (none))) else (none)) else (none)) else (if g.length < 8796093022208 then (A (g ++ [(⟨i, 1⟩ : S46)]) k) else (none))) r := by
  have hl := h.length hai
  rw [w64 (x := (g.length : Int) - 1) (by omega) (by omega)]
  by_cases h1 : 1 ≤ g.length
  · refine Ev.pos (by omega) (Ev.pos (by omega) (Ev.pos (by omega) ?_))
    rw [rdT_last g h1]
    rcases snoc_cases g with rfl | ⟨l, x, rfl⟩
    · simp at h1
    · have hx := h.each x (by simp)
      unfold addGap at hr
      rw [getD_snoc] at hr ⊢
      rw [w64 (x := x.f0 + x.f1) (by omega) (by omega), w64 (x := x.f1 + 1) (by omega) (by omega), show (((l ++ [x]).length : Int) - 1).toNat = (l ++ [x]).length - 1 from by omega]
      refine Ev.cases (fun e => ?_) (fun e => Ev.pos (by omega) ?_)
      · rwa [if_pos ⟨h1, e⟩] at hr
      · rwa [if_neg (fun q => e q.2)] at hr
  · refine Ev.neg (by omega) (Ev.pos (by omega) ?_)
    unfold addGap at hr
    rwa [if_neg (fun q => h1 q.1)] at hr
theorem impl_gaps_ev (s : ByteArray) (a b : Int) (hm : mapOk s) (h0 : 0 ≤ a) (h1 : a ≤ b) (h2 : b ≤ 128) : Ev (fun k => impl_gaps.f k s a b) (gapsOf s a b) := by
  have l : ∀ (d : Nat) (i : Int) (g : List S46), (b - i).toNat = d → a ≤ i → i ≤ b → Gap (tk s) a i g → Ev (fun k => impl_gaps.l0 k s b g i) (gapsGo (tk s) d g i) := by
    intro d
    induction d with
    | zero =>
      intro i g hd hi hb hg
      refine Ev.step (fun k => by first | (rw [impl_gaps.l0]; done) | (rw [impl_gaps.l0]; rfl)) (Ev.neg (by omega) (Ev.eq rfl))
    | succ d ih =>
      intro i g hd hi hb hg
      refine Ev.step (fun k => by first | (rw [impl_gaps.l0]; done) | (rw [impl_gaps.l0]; rfl)) (Ev.pos (by omega) (Ev.bindo (impl_bit s i hm (by omega) (by omega)) ?_))
      rw [w64 (x := i + 1) (by omega) (by omega)]
      refine Ev.cases (fun e => ?_) (fun e => ?_)
      · refine Ev.val (ih (i + 1) g (by omega) (by omega) (by omega) (hg.taken e)) ?_
        simp [gapsGo, e]
      · have e : tk s i = false := by simpa using e
        refine gapStep (tk s) a b i g hg h0 hi (by omega) h2 e (A := fun g k => impl_gaps.l0 k s b g (i + 1)) ?_
        refine Ev.val (ih (i + 1) _ (by omega) (by omega) (by omega) (hg.add hi e)) ?_
        simp [gapsGo, e]
  unfold impl_gaps.f
  exact l _ a [] rfl (by omega) h1 (Gap.nil _ a)
theorem impl_Gaps_ev (s : ByteArray) (a b : Int) : Ev (fun k => impl_Gaps.f k s a b) (if areaOk s a b then gapsOf s a b else []) := by
  unfold impl_Gaps.f
  refine Ev.bindo (impl_isArea_f s a b) (Ev.cases (fun c => ?_) (fun c => Ev.eq ?_))
  · have c : areaOk s a b := by simpa using c
    rw [if_pos c]
    exact Ev.bind (impl_gaps_ev s a b c.1 c.2.1 c.2.2.1 c.2.2.2) (Ev.eq rfl)
  · rw [if_neg (by simpa using c)]
theorem spec_Gaps_ev (s : ByteArray) (a b : Int) : Ev (fun k => spec_Gaps.f k s a b) (if areaOk s a b then gapsOf s a b else []) := by
  unfold spec_Gaps.f
  refine Ev.bindo rfl (Ev.bindo (spec_l6Range_f s a b) (Ev.cases (fun c => ?_) (fun c => Ev.eq ?_)))
  · have c : areaOk s a b := by simpa using c
    rw [if_pos c]
    obtain ⟨hm, h0, h1, h2⟩ := c
    have l : ∀ (d : Nat) (i : Int) (g : List S46), (b - i).toNat = d → a ≤ i → i ≤ b → Gap (tk s) a i g → Ev (fun k => spec_Gaps.l0 k s b g i) (gapsGo (tk s) d g i) := by
      intro d
      induction d with
      | zero =>
        intro i g hd hi hb hg
        refine Ev.step (fun k => by first | (rw [spec_Gaps.l0]; done) | (rw [spec_Gaps.l0]; rfl)) (Ev.neg (by omega) (Ev.eq rfl))
      | succ d ih =>
        intro i g hd hi hb hg
        refine Ev.step (fun k => by first | (rw [spec_Gaps.l0]; done) | (rw [spec_Gaps.l0]; rfl)) (Ev.pos (by omega) (Ev.bindo (spec_bit s i hm (by omega) (by omega)) ?_))
        rw [w64 (x := i + 1) (by omega) (by omega)]
        refine Ev.cases (fun e => ?_) (fun e => ?_)
        · refine Ev.val (ih (i + 1) g (by omega) (by omega) (by omega) (hg.taken e)) ?_
          simp [gapsGo, e]
        · have e : tk s i = false := by simpa using e
          refine gapStep (tk s) a b i g hg h0 hi (by omega) h2 e (A := fun g k => spec_Gaps.l0 k s b g (i + 1)) ?_
          refine Ev.val (ih (i + 1) _ (by omega) (by omega) (by omega) (hg.add hi e)) ?_
          simp [gapsGo, e]
    exact l _ a [] rfl (by omega) h1 (Gap.nil _ a)
  · rw [if_neg (by simpa using c)]
end Go.Proofs.Ytnhladaobcnmhaa.Pure
namespace Go.Proofs.Ytnhladaobcnmhaa.Pure
open Go.RowKit Go.Proofs.Ytnhladaobcnmhaa.X Go.Proofs.YtnhladaobcnmhaaW.PrintWords Go.Proofs.YtnhladaobcnmhaaW.PrintLast Go.Proofs.YtnhladaobcnmhaaW.PrintMore
set_option linter.unusedVariables false
set_option linter.unusedSimpArgs false

theorem rdT_get (g : List S46) (i : Nat) (h : i < g.length) : rd_T46 g (i : Int) = g[i] := by
  unfold rd_T46
  rw [Int.toNat_natCast, List.getD_eq_getElem?_getD, List.getElem?_eq_getElem h]
  rfl
def sumLen (g : List S46) : Int := (g.map fun x => x.f1).sum
theorem sumLen_append (g h : List S46) : sumLen (g ++ h) = sumLen g + sumLen h := by simp [sumLen]
theorem sumLen_addGap (g : List S46) (i : Int) : sumLen (addGap g i) = sumLen g + 1 := by
  unfold addGap
  rcases snoc_cases g with rfl | ⟨l, x, rfl⟩
  · simp [sumLen]
  · rw [getD_snoc, set_snoc]
    split
    · simp [sumLen]; omega
    · simp [sumLen]; omega
theorem sumLen_go (t : Int → Bool) : ∀ (d : Nat) (g : List S46) (i : Int), sumLen (gapsGo t d g i) = sumLen g + freeFrom t i d
  | 0, g, i => by simp [gapsGo, freeFrom]
  | d + 1, g, i => by
    simp only [gapsGo, freeFrom]
    split
    · rw [sumLen_go t d]; omega
    · rw [sumLen_go t d, sumLen_addGap]; omega
theorem sumLen_take (g : List S46) (b : Int) (hb : b ≤ 128) (a : Int) (ha : 0 ≤ a) (h : ∀ x ∈ g, a ≤ x.f0 ∧ 1 ≤ x.f1 ∧ x.f0 + x.f1 ≤ b) : ∀ i, i ≤ g.length → 0 ≤ sumLen (g.take i) ∧ sumLen (g.take i) ≤ 128 * i := by
  intro i
  induction i with
  | zero => intro _; simp [sumLen]
  | succ i ih =>
    intro hi
    have ih := ih (by omega)
    have hx := h _ (List.getElem_mem (show i < g.length by omega))
    rw [take_snoc2 g i (by omega), sumLen_append]
    simp only [sumLen, List.map_cons, List.map_nil, List.sum_cons, List.sum_nil] at ih ⊢
    omega
theorem impl_FreeOf_ev (s : ByteArray) (a b : Int) : Ev (fun k => impl_FreeOf.f k s a b) (if areaOk s a b then freeFrom (tk s) a (b - a).toNat else -1) := by
  unfold impl_FreeOf.f
  refine Ev.bindo (impl_isArea_f s a b) (Ev.cases (fun c => ?_) (fun c => Ev.eq ?_))
  · have c : areaOk s a b := by simpa using c
    rw [if_pos c]
    obtain ⟨hm, h0, h1, h2⟩ := c
    have hg := gapsOf_gap s a b h1
    have hl := hg.length h1
    refine Ev.bind (impl_gaps_ev s a b hm h0 h1 h2) ?_
    have l : ∀ (d i : Nat), (gapsOf s a b).length - i = d → i ≤ (gapsOf s a b).length → Ev (fun k => impl_FreeOf.l0 k (sumLen ((gapsOf s a b).take i)) (gapsOf s a b) ((gapsOf s a b).length : Int) (i : Int)) (sumLen (gapsOf s a b)) := by
      intro d
      induction d with
      | zero =>
        intro i hd hi
        refine Ev.step (fun k => by first | (rw [impl_FreeOf.l0]; done) | (rw [impl_FreeOf.l0]; rfl)) (Ev.neg (by omega) (Ev.eq ?_))
        rw [List.take_of_length_le (by omega)]
      | succ d ih =>
        intro i hd hi
        have hlt : i < (gapsOf s a b).length := by omega
        refine Ev.step (fun k => by first | (rw [impl_FreeOf.l0]; done) | (rw [impl_FreeOf.l0]; rfl)) (Ev.pos (by omega) (Ev.pos (by omega) (Ev.pos (by omega) ?_)))
        have hs := sumLen_take (gapsOf s a b) b h2 a h0 hg.each i hi
        have hx := hg.each _ (List.getElem_mem hlt)
        have e : sumLen ((gapsOf s a b).take (i + 1)) = sumLen ((gapsOf s a b).take i) + (gapsOf s a b)[i].f1 := by
          rw [take_snoc2 _ i hlt, sumLen_append]
          simp [sumLen]
        rw [rdT_get _ i hlt, w64 (x := (i : Int) + 1) (by omega) (by omega), w64 (by omega) (by omega), ← e]
        exact ih (i + 1) (by omega) (by omega)
    refine Ev.val (l _ 0 rfl (by omega)) ?_
    rw [gapsOf, sumLen_go]
    simp [sumLen]
  · rw [if_neg (by simpa using c)]

/-! ### FindRun -/
def allFree (t : Int → Bool) (i n : Int) : Prop := ∀ j, i ≤ j → j < i + n → t j = false
theorem allFree_dec (t : Int → Bool) (i n : Int) : allFree t i n ∨ ¬ allFree t i n := Classical.em _
/-- The least line of a .. at which n free ones begin that end at b at the latest; -1, if there is none. -/
def IsFirst (t : Int → Bool) (a b n x : Int) : Prop :=
  (x = -1 ∧ ∀ y, a ≤ y → y + n ≤ b → ¬ allFree t y n) ∨ (a ≤ x ∧ x + n ≤ b ∧ allFree t x n ∧ ∀ y, a ≤ y → y < x → ¬ allFree t y n)
theorem IsFirst.unique {t : Int → Bool} {a b n x y : Int} (ha : 0 ≤ a) (h : IsFirst t a b n x) (k : IsFirst t a b n y) : x = y := by
  rcases h with ⟨rfl, h⟩ | ⟨h0, h1, h2, h3⟩ <;> rcases k with ⟨rfl, k⟩ | ⟨k0, k1, k2, k3⟩
  · rfl
  · exact absurd k2 (h y k0 k1)
  · exact absurd h2 (k x h0 h1)
  · by_cases e : x < y
    · exact absurd h2 (k3 x h0 e)
    · by_cases e2 : y < x
      · exact absurd k2 (h3 y k0 e2)
      · omega
def firstGap : List S46 → Int → Int
  | [], _ => -1
  | x :: g, n => if x.f1 ≥ n then x.f0 else firstGap g n
theorem firstGap_isFirst {t : Int → Bool} {a b n : Int} (hn : 1 ≤ n) {g : List S46} (h : Gap t a b g) : IsFirst t a b n (firstGap g n) := by
  -- every run of free lines lies in a gap
  have run : ∀ y, a ≤ y → y + n ≤ b → allFree t y n → ∃ x ∈ g, x.f0 ≤ y ∧ y + n ≤ x.f0 + x.f1 := by
    intro y hy hb hf
    obtain ⟨x, hx, h1, h2⟩ := h.all y hy (by omega) (hf y (by omega) (by omega))
    refine ⟨x, hx, h1, ?_⟩
    by_cases e : y + n ≤ x.f0 + x.f1
    · exact e
    · have := h.stop x hx (by omega)
      rw [hf (x.f0 + x.f1) (by omega) (by omega)] at this
      cases this
  have key : ∀ (l r : List S46), g = l ++ r → (∀ x ∈ l, ¬ x.f1 ≥ n) → IsFirst t a b n (firstGap r n) := by
    intro l r
    induction r generalizing l with
    | nil =>
      intro e hl
      refine .inl ⟨rfl, fun y hy hb hf => ?_⟩
      obtain ⟨x, hx, h1, h2⟩ := run y hy hb hf
      exact hl x (by rw [e] at hx; simpa using hx) (by omega)
    | cons x r ih =>
      intro e hl
      have hxg : x ∈ g := by rw [e]; simp
      have hx := h.each x hxg
      simp only [firstGap]
      split
      · rename_i c
        refine .inr ⟨hx.1, by omega, fun j h0 h1 => h.free x hxg j h0 (by omega), fun y hy hlt hf => ?_⟩
        obtain ⟨z, hz, h1, h2⟩ := run y hy (by omega) hf
        have hs := h.sorted
        rw [e] at hs hz
        have hs := List.pairwise_append.1 hs
        rcases List.mem_append.1 hz with hz | hz
        · exact hl z hz (by omega)
        · rcases List.mem_cons.1 hz with rfl | hz
          · omega
          · have := (List.pairwise_cons.1 hs.2.1).1 z hz
            omega
      · rename_i c
        refine ih (l ++ [x]) (by rw [e]; simp) (fun z hz => ?_)
        rcases List.mem_append.1 hz with hz | hz
        · exact hl z hz
        · simp at hz; subst hz; exact c
  exact key [] g rfl (by simp)
theorem spec_l6Free_ev (s : ByteArray) (i n : Int) (hm : mapOk s) (h0 : 0 ≤ i) (hn : 0 ≤ n) (h2 : i + n ≤ 128) : ∃ b : Bool, Ev (fun k => spec_l6Free.f k s i n) b ∧ (b = true ↔ allFree (tk s) i n) := by
  have l : ∀ (d : Nat) (j : Int), (i + n - j).toNat = d → i ≤ j → j ≤ i + n → (∀ q, i ≤ q → q < j → tk s q = false) → ∃ b : Bool, Ev (fun k => spec_l6Free.l0 k s i n j) b ∧ (b = true ↔ allFree (tk s) i n) := by
    intro d
    induction d with
    | zero =>
      intro j hd hj hj2 hf
      refine ⟨true, Ev.step (fun k => by rw [spec_l6Free.l0]) ?_, by simp; exact fun q h0 h1 => hf q h0 (by omega)⟩
      rw [w64 (x := i + n) (by omega) (by omega)]
      exact Ev.neg (by omega) (Ev.eq rfl)
    | succ d ih =>
      intro j hd hj hj2 hf
      by_cases e : tk s j = true
      · refine ⟨false, Ev.step (fun k => by rw [spec_l6Free.l0]) ?_, by simp; exact fun h => by rw [h j hj (by omega)] at e; cases e⟩
        rw [w64 (x := i + n) (by omega) (by omega)]
        exact Ev.pos (by omega) (Ev.bindo (spec_bit s j hm (by omega) (by omega)) (Ev.pos e (Ev.eq rfl)))
      · obtain ⟨b, hb, hi⟩ := ih (j + 1) (by omega) (by omega) (by omega) (fun q h0 h1 => by
          by_cases e2 : q = j
          · subst e2; simpa using e
          · exact hf q h0 (by omega))
        refine ⟨b, Ev.step (fun k => by rw [spec_l6Free.l0]) ?_, hi⟩
        rw [w64 (x := i + n) (by omega) (by omega), w64 (x := j + 1) (by omega) (by omega)]
        exact Ev.pos (by omega) (Ev.bindo (spec_bit s j hm (by omega) (by omega)) (Ev.neg e hb))
  unfold spec_l6Free.f
  exact l _ i rfl (by omega) (by omega) (fun q h0 h1 => by omega)
def findOk (s : ByteArray) (a b n : Int) : Prop := areaOk s a b ∧ 1 ≤ n ∧ n ≤ 128
def findRun (s : ByteArray) (a b n : Int) : Int := if areaOk s a b then (if 1 ≤ n ∧ n ≤ 128 then firstGap (gapsOf s a b) n else -1) else -1
theorem spec_FindRun_ev (s : ByteArray) (a b n : Int) : Ev (fun k => spec_FindRun.f k s a b n) (findRun s a b n) := by
  unfold spec_FindRun.f findRun
  refine Ev.bindo (spec_l6Range_f s a b) (Ev.cases (fun c => ?_) (fun c => ?_))
  · have c : areaOk s a b := by simpa using c
    rw [if_pos c]
    obtain ⟨hm, h0, h1, h2⟩ := c
    refine Ev.bindo (l1In_f _ _ _) (Ev.step (fun k => by rw [spec_FindRun.j0]) ?_)
    refine Ev.cases (fun e => Ev.eq ?_) (fun e => ?_)
    · rw [if_neg (fun q => by simp [q.1, q.2] at e)]
    · have hn : 1 ≤ n ∧ n ≤ 128 := by simpa using e
      rw [if_pos hn]
      have l : ∀ (d : Nat) (i : Int), (b + 1 - i).toNat = d → a ≤ i → i ≤ b + 1 → (∀ y, a ≤ y → y < i → y + n ≤ b → ¬ allFree (tk s) y n) → ∃ x, Ev (fun k => spec_FindRun.l0 k s b n i) x ∧ IsFirst (tk s) a b n x := by
        intro d
        induction d with
        | zero =>
          intro i hd hi hb hf
          refine ⟨-1, Ev.step (fun k => by rw [spec_FindRun.l0]) ?_, .inl ⟨rfl, fun y hy hyb => hf y hy (by omega) hyb⟩⟩
          rw [w64 (x := i + n) (by omega) (by omega)]
          exact Ev.neg (by omega) (Ev.eq rfl)
        | succ d ih =>
          intro i hd hi hb hf
          by_cases hin : i + n ≤ b
          · obtain ⟨q, hq, hqf⟩ := spec_l6Free_ev s i n hm (by omega) (by omega) (by omega)
            by_cases e : q = true
            · refine ⟨i, Ev.step (fun k => by rw [spec_FindRun.l0]) ?_, .inr ⟨hi, hin, hqf.1 e, fun y hy hlt => hf y hy hlt (by omega)⟩⟩
              rw [w64 (x := i + n) (by omega) (by omega)]
              exact Ev.pos hin (Ev.bind hq (Ev.pos e (Ev.eq rfl)))
            · obtain ⟨x, hx, hfx⟩ := ih (i + 1) (by omega) (by omega) (by omega) (fun y hy hlt hyb => by
                by_cases e2 : y = i
                · subst e2; exact fun h => e (hqf.2 h)
                · exact hf y hy (by omega) hyb)
              refine ⟨x, Ev.step (fun k => by rw [spec_FindRun.l0]) ?_, hfx⟩
              rw [w64 (x := i + n) (by omega) (by omega), w64 (x := i + 1) (by omega) (by omega)]
              exact Ev.pos hin (Ev.bind hq (Ev.neg e hx))
          · refine ⟨-1, Ev.step (fun k => by rw [spec_FindRun.l0]) ?_, .inl ⟨rfl, fun y hy hyb => hf y hy (by omega) hyb⟩⟩
            rw [w64 (x := i + n) (by omega) (by omega)]
            exact Ev.neg (by omega) (Ev.eq rfl)
      obtain ⟨x, hx, hfx⟩ := l _ a rfl (by omega) (by omega) (fun y hy hlt => by omega)
      exact Ev.val hx (hfx.unique h0 (firstGap_isFirst hn.1 (gapsOf_gap s a b h1)))
  · rw [if_neg (by simpa using c)]
    exact Ev.step (fun k => by rw [spec_FindRun.j0]) (Ev.pos rfl (Ev.eq rfl))
theorem impl_FindRun_ev (s : ByteArray) (a b n : Int) : Ev (fun k => impl_FindRun.f k s a b n) (findRun s a b n) := by
  unfold impl_FindRun.f findRun
  refine Ev.bindo (impl_isArea_f s a b) (Ev.cases (fun c => ?_) (fun c => ?_))
  · have c : areaOk s a b := by simpa using c
    rw [if_pos c]
    obtain ⟨hm, h0, h1, h2⟩ := c
    refine Ev.bindo (within_f _ _ _) (Ev.step (fun k => by rw [impl_FindRun.j0]) ?_)
    refine Ev.cases (fun e => Ev.eq ?_) (fun e => ?_)
    · rw [if_neg (fun q => by simp [q.1, q.2] at e)]
    · have hn : 1 ≤ n ∧ n ≤ 128 := by simpa using e
      rw [if_pos hn]
      refine Ev.bind (impl_gaps_ev s a b hm h0 h1 h2) ?_
      have hl := (gapsOf_gap s a b h1).length h1
      have l : ∀ (d i : Nat), (gapsOf s a b).length - i = d → i ≤ (gapsOf s a b).length → Ev (fun k => impl_FindRun.l0 k n (gapsOf s a b) ((gapsOf s a b).length : Int) (i : Int)) (firstGap ((gapsOf s a b).drop i) n) := by
        intro d
        induction d with
        | zero =>
          intro i hd hi
          refine Ev.step (fun k => by first | (rw [impl_FindRun.l0]; done) | (rw [impl_FindRun.l0]; rfl)) (Ev.neg (by omega) (Ev.eq ?_))
          rw [List.drop_eq_nil_of_le (by omega)]; rfl
        | succ d ih =>
          intro i hd hi
          have hlt : i < (gapsOf s a b).length := by omega
          refine Ev.step (fun k => by first | (rw [impl_FindRun.l0]; done) | (rw [impl_FindRun.l0]; rfl)) (Ev.pos (by omega) (Ev.pos (by omega) (Ev.pos (by omega) ?_)))
          rw [rdT_get _ i hlt, List.drop_eq_getElem_cons hlt, firstGap, show wrap64 ((i : Int) + 1) = ((i + 1 : Nat) : Int) from by rw [w64 (by omega) (by omega)]; omega]
          refine Ev.cases (fun e => Ev.eq (by rw [if_pos e])) (fun e => ?_)
          rw [if_neg e]
          exact ih (i + 1) (by omega) (by omega)
      exact Ev.val (l _ 0 rfl (by omega)) (by rw [List.drop_zero])
  · rw [if_neg (by simpa using c)]
    exact Ev.step (fun k => by rw [impl_FindRun.j0]) (Ev.pos rfl (Ev.eq rfl))
end Go.Proofs.Ytnhladaobcnmhaa.Pure
namespace Go.Proofs.Ytnhladaobcnmhaa.X
open Go.RowKit Go.Proofs.YtnhladaobcnmhaaW.PrintWords Go.Proofs.YtnhladaobcnmhaaW.PrintLast Go.Proofs.YtnhladaobcnmhaaW.PrintMore
attribute [local go_sem] max2_int min2_int max_two min_two max_three min_three max_four min_four   -- for this text's walks alone
set_option linter.unusedVariables false
set_option linter.unusedSimpArgs false

/-! ### impl_isRun: function 80 -/
mutual
def impl_isRun.j0 : Nat → ByteArray → Int → Int → Bool → Bool → Option (Bool)
  | 0, _, _, _, _, _ => none
  | k + 1, x0, x1, x2, x3, x24 => if x24 = true then (some false) else (impl_isRun.l0 k x0 x1 x2 x3 x1)
def impl_isRun.l0 : Nat → ByteArray → Int → Int → Bool → Int → Option (Bool)
  | 0, _, _, _, _, _ => none
  | k + 1, x0, x1, x2, x3, x9 => if x9 < (wrap64 (x1 + x2)) then ((impl_isTaken.f x0 x9).bind fun t472 => (if (t472 != x3) = true then (some false) else (impl_isRun.l0 k x0 x1 x2 x3 (wrap64 (x9 + 1))))) else (some true)
end
def impl_isRun.f (k : Nat) (a0 : ByteArray) (a1 : Int) (a2 : Int) (a3 : Bool) : Option (Bool) := (impl_isMap.f a0).bind fun t469 => (if t469 = true then ((impl_within.f a2 1 128).bind fun t470 => (if t470 = true then ((impl_within.f a1 0 (wrap64 (128 - a2))).bind fun t471 => (impl_isRun.j0 k a0 a1 a2 a3 (!t471))) else (impl_isRun.j0 k a0 a1 a2 a3 true))) else (impl_isRun.j0 k a0 a1 a2 a3 true))
theorem impl_isRun.mono_l : ∀ k, (∀ y0 y1 y2 y3 y4, LeO (impl_isRun.j0 k y0 y1 y2 y3 y4) (impl_isRun.j0 (k + 1) y0 y1 y2 y3 y4)) ∧ (∀ y0 y1 y2 y3 y4, LeO (impl_isRun.l0 k y0 y1 y2 y3 y4) (impl_isRun.l0 (k + 1) y0 y1 y2 y3 y4))
  | 0 => ⟨fun _ _ _ _ _ r h => by simp [impl_isRun.j0] at h, fun _ _ _ _ _ r h => by simp [impl_isRun.l0] at h⟩
  | k + 1 => by
    obtain ⟨ih0, ih1⟩ := impl_isRun.mono_l k
    refine ⟨?_, ?_⟩
    · intro y0 y1 y2 y3 y4
      unfold impl_isRun.j0
      repeat' first
      | (with_reducible exact ih0 _ _ _ _ _)
      | (with_reducible exact ih1 _ _ _ _ _)
      | (with_reducible exact LeO.refl _)
      | (with_reducible exact LeO.none _)
      | (with_reducible refine LeO.ite ?_ ?_)
      | (with_reducible refine LeO.bind ?_ (fun _ => ?_))
      | exact ih0 _ _ _ _ _
      | exact ih1 _ _ _ _ _
      | exact LeO.none _
      | refine LeO.ite ?_ ?_
      | refine LeO.bind ?_ (fun _ => ?_)
    · intro y0 y1 y2 y3 y4
      unfold impl_isRun.l0
      repeat' first
      | (with_reducible exact ih0 _ _ _ _ _)
      | (with_reducible exact ih1 _ _ _ _ _)
      | (with_reducible exact LeO.refl _)
      | (with_reducible exact LeO.none _)
      | (with_reducible refine LeO.ite ?_ ?_)
      | (with_reducible refine LeO.bind ?_ (fun _ => ?_))
      | exact ih0 _ _ _ _ _
      | exact ih1 _ _ _ _ _
      | exact LeO.none _
      | refine LeO.ite ?_ ?_
      | refine LeO.bind ?_ (fun _ => ?_)
theorem impl_isRun.mono : ∀ a0 a1 a2 a3 k, LeO (impl_isRun.f k a0 a1 a2 a3) (impl_isRun.f (k + 1) a0 a1 a2 a3) := by
  intro a0 a1 a2 a3 k
  obtain ⟨ih0, ih1⟩ := impl_isRun.mono_l k
  unfold impl_isRun.f
  repeat' first
      | (with_reducible exact ih0 _ _ _ _ _)
      | (with_reducible exact ih1 _ _ _ _ _)
      | (with_reducible exact LeO.refl _)
      | (with_reducible exact LeO.none _)
      | (with_reducible refine LeO.ite ?_ ?_)
      | (with_reducible refine LeO.bind ?_ (fun _ => ?_))
      | exact ih0 _ _ _ _ _
      | exact ih1 _ _ _ _ _
      | exact LeO.none _
      | refine LeO.ite ?_ ?_
      | refine LeO.bind ?_ (fun _ => ?_)
set_option maxHeartbeats 8000000 in
set_option maxRecDepth 100000 in
theorem impl_isRun.calls (k : Nat) (a0 : ByteArray) (a1 : Int) (a2 : Int) (a3 : Bool) (r : Bool) (w : World) (h : impl_isRun.f k a0 a1 a2 a3 = some r) :
    Calls Try.prog 80 #[.string a0, .int .i64 a1, .int .i64 a2, .bool a3] w fun e w' => e = .returned (.bool r) ∧ Below w.heap.size w w' := by
  have HB := Aside0.mk (Below.refl w.heap.size w)
  have H : ((impl_isMap.f a0).bind fun t469 => (if t469 = true then ((impl_within.f a2 1 128).bind fun t470 => (if t470 = true then ((impl_within.f a1 0 (wrap64 (128 - a2))).bind fun t471 => (impl_isRun.j0 k a0 a1 a2 a3 (!t471))) else (impl_isRun.j0 k a0 a1 a2 a3 true))) else (impl_isRun.j0 k a0 a1 a2 a3 true))) = some r := h
  clear h
  have HC5 := Aside0.mk H
  clear H
  go_enter Try.func80, Try.ntmps80
  go_upto_region 1 with (fail)
  go_cut [24] (fun v24 wc => ∃ (kq : Nat) (x24_4 : Bool), v24 = .bool x24_4 ∧ Aside0 (impl_isRun.j0 kq a0 a1 a2 a3 x24_4 = some r) ∧ Aside0 (kq ≤ k) ∧ Aside0 (Below w.heap.size w wc))
  case first =>
    have H := HC5.out
    clear HC5
    replace H := Option.bind_eq_some_iff.mp H
    obtain ⟨t469, A60, H⟩ := H
    replace H : (if t469 = true then ((impl_within.f a2 1 128).bind fun t470 => (if t470 = true then ((impl_within.f a1 0 (wrap64 (128 - a2))).bind fun t471 => (impl_isRun.j0 k a0 a1 a2 a3 (!t471))) else (impl_isRun.j0 k a0 a1 a2 a3 true))) else (impl_isRun.j0 k a0 a1 a2 a3 true)) = some r := H
    have A6 := Aside0.mk A60
    clear A60
    by_cases c7 : t469 = true
    · subst c7
      have H1 : ((impl_within.f a2 1 128).bind fun t470 => (if t470 = true then ((impl_within.f a1 0 (wrap64 (128 - a2))).bind fun t471 => (impl_isRun.j0 k a0 a1 a2 a3 (!t471))) else (impl_isRun.j0 k a0 a1 a2 a3 true))) = some r := by rw [if_pos rfl] at H; exact H
      clear H
      have H := H1
      clear H1
      replace H := Option.bind_eq_some_iff.mp H
      obtain ⟨t470, A80, H⟩ := H
      replace H : (if t470 = true then ((impl_within.f a1 0 (wrap64 (128 - a2))).bind fun t471 => (impl_isRun.j0 k a0 a1 a2 a3 (!t471))) else (impl_isRun.j0 k a0 a1 a2 a3 true)) = some r := H
      have A8 := Aside0.mk A80
      clear A80
      by_cases c9 : t470 = true
      · subst c9
        have H1 : ((impl_within.f a1 0 (wrap64 (128 - a2))).bind fun t471 => (impl_isRun.j0 k a0 a1 a2 a3 (!t471))) = some r := by rw [if_pos rfl] at H; exact H
        clear H
        have H := H1
        clear H1
        replace H := Option.bind_eq_some_iff.mp H
        obtain ⟨t471, A100, H⟩ := H
        replace H : (impl_isRun.j0 k a0 a1 a2 a3 (!t471)) = some r := H
        have A10 := Aside0.mk A100
        clear A100
        have H' := Aside0.mk H
        clear H
        go_wp2_with (first | ((with_reducible refine gate_callee (f := 84) rfl ?_); refine goesL_ (some 11) rfl rfl Try.func84 (by kernel_rfl) rfl #[.string a0] rfl (by (try simp only [List.map_toArray, List.map_cons, List.map_nil]); first | done | rfl | (simp only [List.length_drop, List.length_take]; rfl)) ?_; (with_reducible refine (impl_isMap.calls a0 true _ A6.out).mono ?_); rintro e w11 ⟨rfl, hb⟩; refine ⟨_, rfl, ?_⟩; have n0_ := Aside0.mk (below_step (by repeat (first | (with_reducible first | exact HB.out | apply below_alloc | apply pw_below_drewN | apply below_drew1) | exact HB.out)) hb); clear HB; have HB := n0_; clear n0_; (try clear hb); (try clear hb2); (try clear hk); (try clear hi)) | (go_at_call 55; (with_reducible refine (impl_within.calls a2 1 128 true _ A8.out).mono ?_); rintro e w' ⟨rfl, ⟨nd, rfl⟩⟩) | (go_at_call 55; (with_reducible refine (impl_within.calls a1 0 (wrap64 (128 - a2)) t471 _ A10.out).mono ?_); rintro e w' ⟨rfl, ⟨nd, rfl⟩⟩))
        go_meet
        case rel => exact ⟨_, (!t471), (by first | rfl | (simp; done) | (simp [*]; done)), H', ⟨by first | omega | exact Nat.le_refl _⟩, ⟨by repeat (first | (with_reducible first | exact HB.out | apply below_alloc | apply pw_below_drewN | apply below_drew1) | exact HB.out)⟩⟩
      · replace c9 := Bool.eq_false_iff.mpr c9
        subst c9
        have H1 : (impl_isRun.j0 k a0 a1 a2 a3 true) = some r := by rw [if_neg (show ¬ (false = true) by decide)] at H; exact H
        clear H
        have H := H1
        clear H1
        have H' := Aside0.mk H
        clear H
        go_wp2_with (first | ((with_reducible refine gate_callee (f := 84) rfl ?_); refine goesL_ (some 11) rfl rfl Try.func84 (by kernel_rfl) rfl #[.string a0] rfl (by (try simp only [List.map_toArray, List.map_cons, List.map_nil]); first | done | rfl | (simp only [List.length_drop, List.length_take]; rfl)) ?_; (with_reducible refine (impl_isMap.calls a0 true _ A6.out).mono ?_); rintro e w12 ⟨rfl, hb⟩; refine ⟨_, rfl, ?_⟩; have n0_ := Aside0.mk (below_step (by repeat (first | (with_reducible first | exact HB.out | apply below_alloc | apply pw_below_drewN | apply below_drew1) | exact HB.out)) hb); clear HB; have HB := n0_; clear n0_; (try clear hb); (try clear hb2); (try clear hk); (try clear hi)) | (go_at_call 55; (with_reducible refine (impl_within.calls a2 1 128 false _ A8.out).mono ?_); rintro e w' ⟨rfl, ⟨nd, rfl⟩⟩))
        go_meet
        case rel => exact ⟨_, (true), (by first | rfl | (simp; done) | (simp [*]; done)), H', ⟨by first | omega | exact Nat.le_refl _⟩, ⟨by repeat (first | (with_reducible first | exact HB.out | apply below_alloc | apply pw_below_drewN | apply below_drew1) | exact HB.out)⟩⟩
    · replace c7 := Bool.eq_false_iff.mpr c7
      subst c7
      have H1 : (impl_isRun.j0 k a0 a1 a2 a3 true) = some r := by rw [if_neg (show ¬ (false = true) by decide)] at H; exact H
      clear H
      have H := H1
      clear H1
      have H' := Aside0.mk H
      clear H
      go_wp2_with (first | ((with_reducible refine gate_callee (f := 84) rfl ?_); refine goesL_ (some 11) rfl rfl Try.func84 (by kernel_rfl) rfl #[.string a0] rfl (by (try simp only [List.map_toArray, List.map_cons, List.map_nil]); first | done | rfl | (simp only [List.length_drop, List.length_take]; rfl)) ?_; (with_reducible refine (impl_isMap.calls a0 false _ A6.out).mono ?_); rintro e w13 ⟨rfl, hb⟩; refine ⟨_, rfl, ?_⟩; have n0_ := Aside0.mk (below_step (by repeat (first | (with_reducible first | exact HB.out | apply below_alloc | apply pw_below_drewN | apply below_drew1) | exact HB.out)) hb); clear HB; have HB := n0_; clear n0_; (try clear hb); (try clear hb2); (try clear hk); (try clear hi)))
      go_meet
      case rel => exact ⟨_, (true), (by first | rfl | (simp; done) | (simp [*]; done)), H', ⟨by first | omega | exact Nat.le_refl _⟩, ⟨by repeat (first | (with_reducible first | exact HB.out | apply below_alloc | apply pw_below_drewN | apply below_drew1) | exact HB.out)⟩⟩
  case rest =>
    clear HC5
    try clear p2
    try clear p6
    try clear c7
    try clear c8
    try clear c9
    obtain ⟨kq, x24_4, rfl, HA, HJ4, HB⟩ := hcut
    cases kq with
    | zero => exact absurd HA.out (by simp [impl_isRun.j0])
    | succ kj4 =>
      have H := HA.out
      clear HA
      simp only [impl_isRun.j0] at H
      by_cases c14 : x24_4 = true
      · subst c14
        have H1 : (some false) = some r := by rw [if_pos rfl] at H; exact H
        clear H
        have H := H1
        clear H1
        obtain rfl := Option.some.inj H
        go_wp2
        go_ret
        exact ⟨by first | rfl | (simp [errW_none, errW_some] <;> rfl) | (simp [*, errW_none, errW_some] <;> rfl), by repeat (first | (with_reducible first | exact HB.out | apply below_alloc | apply pw_below_drewN | apply below_drew1) | exact HB.out)⟩
      · replace c14 := Bool.eq_false_iff.mpr c14
        subst c14
        have H1 : (impl_isRun.l0 kj4 a0 a1 a2 a3 a1) = some r := by rw [if_neg (show ¬ (false = true) by decide)] at H; exact H
        clear H
        have H := H1
        clear H1
        have H' := Aside0.mk H
        clear H
        go_wp2
        go_loopg [9] kj4 (fun kq v9 w' => ∃ (x9_2 : Int), v9 = .int .i64 x9_2 ∧ Aside0 (impl_isRun.l0 kq a0 a1 a2 a3 x9_2 = some r) ∧ Aside0 (kq ≤ kj4) ∧ Aside0 (Below w.heap.size w w'))
        case atStart => exact ⟨(a1), (by first | rfl | (simp; done) | (simp [*]; done)), H', ⟨Nat.le_refl _⟩, ⟨by repeat (first | (with_reducible first | exact HB.out | apply below_alloc | apply pw_below_drewN | apply below_drew1) | exact HB.out)⟩⟩
        case round =>
          clear H'
          try clear c1
          try clear p2
          try clear p6
          try clear c7
          try clear c8
          try clear c9
          try clear c14
          try clear p2
          try clear p6
          obtain ⟨x9_2, rfl, HA, HK2, HB⟩ := hrel
          cases gk with
          | zero => exact absurd HA.out (by simp [impl_isRun.l0])
          | succ k2 =>
            have H := HA.out
            clear HA
            simp only [impl_isRun.l0] at H
            by_cases c15 : x9_2 < (wrap64 (a1 + a2))
            · rw [if_pos c15] at H
              have c15b0 : decide (x9_2 < (wrap64 (a1 + a2))) = true := decide_eq_true c15
              clear c15
              replace H := Option.bind_eq_some_iff.mp H
              obtain ⟨t472, A160, H⟩ := H
              replace H : (if (t472 != a3) = true then (some false) else (impl_isRun.l0 k2 a0 a1 a2 a3 (wrap64 (x9_2 + 1)))) = some r := H
              have A16 := Aside0.mk A160
              clear A160
              by_cases c17 : (t472 != a3) = true
              · rw [if_pos c17] at H
                have c17b0 : (t472 != a3) = true := c17
                (try (have c17b1 : decide (t472 = a3) = false := by simpa using c17))
                (try (have c17b2 : (t472 == a3) = false := by simpa using c17))
                (try (have c17b3 : ¬ (t472 = a3) := by simpa using c17))
                clear c17
                obtain rfl := Option.some.inj H
                go_wp2_with (first | ((with_reducible refine gate_callee (f := 85) rfl ?_); refine goesL_ (some 35) rfl rfl Try.func85 (by kernel_rfl) rfl #[.string a0, .int .i64 x9_2] rfl (by (try simp only [List.map_toArray, List.map_cons, List.map_nil]); first | done | rfl | (simp only [List.length_drop, List.length_take]; rfl)) ?_; (with_reducible refine (impl_isTaken.calls a0 x9_2 t472 _ A16.out).mono ?_); rintro e w' ⟨rfl, ⟨nd, rfl⟩⟩; refine ⟨_, rfl, ?_⟩))
                go_ret
                exact ⟨by first | rfl | (simp [errW_none, errW_some] <;> rfl) | (simp [*, errW_none, errW_some] <;> rfl), by repeat (first | (with_reducible first | exact HB.out | apply below_alloc | apply pw_below_drewN | apply below_drew1) | exact HB.out)⟩
              · rw [if_neg c17] at H
                have c17b0 : (t472 != a3) = false := by simpa using c17
                (try (have c17b1 : decide (t472 = a3) = true := by simpa using c17))
                (try (have c17b2 : (t472 == a3) = true := by simpa using c17))
                clear c17
                have H' := Aside0.mk H
                clear H
                go_wp2_with (first | ((with_reducible refine gate_callee (f := 85) rfl ?_); refine goesL_ (some 35) rfl rfl Try.func85 (by kernel_rfl) rfl #[.string a0, .int .i64 x9_2] rfl (by (try simp only [List.map_toArray, List.map_cons, List.map_nil]); first | done | rfl | (simp only [List.length_drop, List.length_take]; rfl)) ?_; (with_reducible refine (impl_isTaken.calls a0 x9_2 t472 _ A16.out).mono ?_); rintro e w' ⟨rfl, ⟨nd, rfl⟩⟩; refine ⟨_, rfl, ?_⟩))
                go_roundg k2
                case measure => have := HJ4.out; have := HK2.out; omega
                case rel => exact ⟨(wrap64 (x9_2 + 1)), (by first | rfl | (simp; done) | (simp [*]; done)), H', ⟨by have := HJ4.out; have := HK2.out; omega⟩, ⟨by repeat (first | (with_reducible first | exact HB.out | apply below_alloc | apply pw_below_drewN | apply below_drew1) | exact HB.out)⟩⟩
            · rw [if_neg c15] at H
              have c15b0 : decide (x9_2 < (wrap64 (a1 + a2))) = false := decide_eq_false c15
              clear c15
              obtain rfl := Option.some.inj H
              go_wp2
              go_ret
              exact ⟨by first | rfl | (simp [errW_none, errW_some] <;> rfl) | (simp [*, errW_none, errW_some] <;> rfl), by repeat (first | (with_reducible first | exact HB.out | apply below_alloc | apply pw_below_drewN | apply below_drew1) | exact HB.out)⟩

end Go.Proofs.Ytnhladaobcnmhaa.X
namespace Go.Proofs.Ytnhladaobcnmhaa.X
open Go.RowKit Go.Proofs.YtnhladaobcnmhaaW.PrintWords Go.Proofs.YtnhladaobcnmhaaW.PrintLast
set_option linter.unusedVariables false
set_option linter.unusedSimpArgs false

/-- Block B of W holds the bytes xs, then spare cells, with the conversion's mark behind all. -/
structure BRow (W : World) (B : Nat) (xs : List Int) : Prop where mk ::
  out : ∃ (extra : List Value) (e : TypeId), W.heap[B]? = some (.cells (nums .u8 xs ++ extra).toArray e (xs.length + extra.length, xs.length + extra.length + 1))
theorem BRow.of_bytes (W : World) (e : TypeId) (s : ByteArray) : BRow (Lib.bytesWorld W e s) W.heap.size (bytesOf s) := by
  refine ⟨Array.toList (Array.replicate (grownCap W s.size 0 e - s.size) (.int .u8 0)), e, ?_⟩
  rw [Lib.bytesWorld_at_new]
  have h : Lib.bytesCells W e s = (nums .u8 (bytesOf s) ++ (Array.replicate (grownCap W s.size 0 e - s.size) (Value.int .u8 0)).toList).toArray := by
    unfold Lib.bytesCells
    apply Array.ext'
    simp [nums, bytesOf]
  rw [h]
  simp [nums_length, bytesOf_length]
theorem BRow.cell {W : World} {B : Nat} {xs : List Int} (h : BRow W B xs) {i : Nat} (hi : i < xs.length) : W.cell? ⟨B, i, none⟩ = some (.int .u8 (xs.getD i 0)) := by
  obtain ⟨extra, e, h⟩ := h
  simp only [World.cell?, h]
  simp [nums, hi, List.getElem?_append, List.getD_eq_getElem?_getD]
theorem BRow.frozen {W : World} {B : Nat} {xs : List Int} (h : BRow W B xs) {i : Nat} (hi : i < xs.length) : W.frozen? ⟨B, i, none⟩ = false := by
  obtain ⟨extra, e, h⟩ := h
  simp only [World.frozen?, h]
  simp
  omega
theorem BRow.set {W : World} {B : Nat} {xs : List Int} (h : BRow W B xs) {i : Nat} (hi : i < xs.length) (v : Int) : BRow (W.setCell ⟨B, i, none⟩ (.int .u8 v)) B (xs.set i v) := by
  obtain ⟨extra, e, h⟩ := h
  refine ⟨extra, e, ?_⟩
  have hlt : B < W.heap.size := (Array.getElem?_eq_some_iff.1 h).1
  have hv : W.heap[B] = _ := (Array.getElem?_eq_some_iff.1 h).2
  simp only [World.setCell]
  rw [Array.getElem?_eq_getElem (by simpa using hlt), Array.getElem_modify]
  simp [hv, nums, List.map_set, List.set_append, hi]
theorem BRow.lt {W : World} {B : Nat} {xs : List Int} (h : BRow W B xs) : B < W.heap.size := by
  obtain ⟨extra, e, h⟩ := h
  exact (Array.getElem?_eq_some_iff.1 h).1
theorem BRow.same {W W1 : World} {B : Nat} {xs : List Int} (h : BRow W B xs) (he : W1.heap[B]? = W.heap[B]?) : BRow W1 B xs := by
  obtain ⟨extra, e, h⟩ := h
  exact ⟨extra, e, he.trans h⟩
theorem BRow.drew {W : World} {B : Nat} {xs : List Int} (h : BRow W B xs) : BRow W.drew B xs := h.same rfl
theorem BRow.drewN {W : World} {B : Nat} {xs : List Int} (h : BRow W B xs) (n : Nat) : BRow (W.drewN n) B xs := h.same rfl
theorem BRow.below {W W1 : World} {B : Nat} {xs : List Int} (h : BRow W B xs) (hb : Below W.heap.size W W1) : BRow W1 B xs := h.same (hb.block B h.lt)
theorem BRow.C {W : World} {B : Nat} {xs : List Int} (h : BRow W B xs) (hl : xs.length ≤ 9223372036854775807) : Kd.C (Kd.int .u8) W (some ⟨B, 0, none⟩) xs.length xs := by
  refine Kd.C_of_reads (d := (0 : Int)) (h1 := fun _ => rfl) ⟨rfl, hl, fun _ => ⟨_, rfl, fun j hj => ?_⟩⟩
  rw [add_plain]
  exact h.cell hj
/-- string(b). -/
theorem BRow.string {P : Program} {W : World} {B c : Nat} {xs : List Int} {src dst e : TypeId} (h : BRow W B xs) (hl : xs.length ≤ 9223372036854775807) (hs : P.underlying src = some (.slice e)) (he : P.underlying e = some (.int .u8)) (hd : P.underlying dst = some .string) :
    (convert src dst (.slice (some ⟨B, 0, none⟩) xs.length c)).run P W = .ok (.string (strOfNums xs)) W := Kd.C_string hs he hd (h.C hl)
end Go.Proofs.Ytnhladaobcnmhaa.X
namespace Go.Proofs.Ytnhladaobcnmhaa.X
open Go.RowKit Go.Proofs.YtnhladaobcnmhaaW.PrintWords Go.Proofs.YtnhladaobcnmhaaW.PrintLast Go.Proofs.YtnhladaobcnmhaaW.PrintMore
attribute [local go_sem] max2_int min2_int max_two min_two max_three min_three max_four min_four   -- for this text's walks alone
set_option linter.unusedVariables false
set_option linter.unusedSimpArgs false

/-! ### impl_changedMap: function 81 -/

def change1 (xs : List Int) (i : Nat) (t : Bool) : List Int :=
  if t = true then (xs.set (i / 8) (Go.bits .andNot .u8 (xs.getD (i / 8) 0) (2 ^ (i % 8) % 256))).set (i / 8) (Go.bits .or .u8 (Go.bits .andNot .u8 (xs.getD (i / 8) 0) (2 ^ (i % 8) % 256)) (2 ^ (i % 8) % 256))
  else xs.set (i / 8) (Go.bits .andNot .u8 (xs.getD (i / 8) 0) (2 ^ (i % 8) % 256))
def changeL (xs : List Int) (a : Nat) (t : Bool) : Nat → List Int
  | 0 => xs
  | n + 1 => change1 (changeL xs a t n) (a + n) t
theorem changeL_length (xs : List Int) (a : Nat) (t : Bool) : ∀ n, (changeL xs a t n).length = xs.length
  | 0 => rfl
  | n + 1 => by
    have ih := changeL_length xs a t n
    simp only [changeL, change1]
    split <;> simp [ih]
theorem changeL_next (xs : List Int) (a : Nat) (t : Bool) (i : Nat) (h : a ≤ i) : changeL xs a t (i + 1 - a) = change1 (changeL xs a t (i - a)) i t := by
  rw [show i + 1 - a = (i - a) + 1 from by omega, changeL, show a + (i - a) = i from by omega]
set_option maxHeartbeats 2000000 in
set_option maxRecDepth 100000 in
theorem impl_changedMap.walk (s : ByteArray) (a n : Nat) (t : Bool) (w : World) (h : a + n ≤ 8 * s.size) (hs : s.size ≤ 1048576) : Calls Try.prog 81 #[.string s, .int .i64 a, .int .i64 n, .bool t] w fun e w' => e = .returned (.string (strOfNums (changeL (bytesOf s) a t n))) ∧ Below w.heap.size w w' := by
  have kb := fun W => print_bytes (P := Try.prog) 9 29 5 Try.underlying9 Try.underlying29 Try.underlying5 s W
  go_enter Try.func81, Try.ntmps81
  go_wp2
  go_loopw [10] (fun v wr => ∃ i : Nat, a ≤ i ∧ i ≤ a + n ∧ v = .int .i64 i ∧ BRow wr w.heap.size (changeL (bytesOf s) a t (i - a)) ∧ Below w.heap.size w wr) (fun v _ => a + n - (intOf v).toNat)
  case atStart => exact ⟨a, by omega, by omega, rfl, by rw [Nat.sub_self]; exact BRow.of_bytes w 5 s, bytes_below (Below.refl _ _) (Nat.le_refl _) 5 s⟩
  case round =>
    obtain ⟨i, h0, h1, rfl, hr, hb⟩ := hrel
    clear kb
    have hlen : (changeL (bytesOf s) a t (i - a)).length = s.size := by rw [changeL_length, bytesOf_length]
    by_cases hlt : i < a + n
    · have hc := hr.cell (i := i / 8) (by omega)
      have hf := hr.frozen (i := i / 8) (by omega)
      have hset1 := hr.set (i := i / 8) (by omega) (Go.bits .andNot .u8 ((changeL (bytesOf s) a t (i - a)).getD (i / 8) 0) (2 ^ (i % 8) % 256))
      have hc2 := hset1.cell (i := i / 8) (by rw [List.length_set]; omega)
      have hf2 := hset1.frozen (i := i / 8) (by rw [List.length_set]; omega)
      have hset2 := Lib.hid (hset1.set (i := i / 8) (by rw [List.length_set]; omega) (Go.bits .or .u8 (Go.bits .andNot .u8 ((changeL (bytesOf s) a t (i - a)).getD (i / 8) 0) (2 ^ (i % 8) % 256)) (2 ^ (i % 8) % 256)))
      have hset0 := Lib.hid hset1
      clear hset1
      have hset1 := hset0
      clear hset0
      have hnext := Lib.hid (changeL_next (bytesOf s) a t i h0)
      unfold change1 at hnext
      rw [show ((changeL (bytesOf s) a t (i - a)).set (i / 8) (Go.bits .andNot .u8 ((changeL (bytesOf s) a t (i - a)).getD (i / 8) 0) (2 ^ (i % 8) % 256))).getD (i / 8) 0 = Go.bits .andNot .u8 ((changeL (bytesOf s) a t (i - a)).getD (i / 8) 0) (2 ^ (i % 8) % 256) from by
        rw [List.getD_eq_getElem?_getD, List.getElem?_set_self (by omega)]; rfl] at hc2
      generalize (changeL (bytesOf s) a t (i - a)).getD (i / 8) 0 = c at *
      clear hlen
      cases t
      · go_wp2
        go_region
        go_wp2
        go_roundw
        case rel => exact ⟨i + 1, by omega, by omega, by go_num, by rw [hnext.out]; exact hset1.out.drew, (hb.setCell (Nat.le_refl _) _).drew⟩
        case measure => simp [intOf]; omega
      · go_wp2
        go_region
        go_wp2
        go_region
        go_wp2
        go_roundw
        case rel => exact ⟨i + 1, by omega, by omega, by go_num, by rw [hnext.out]; exact hset2.out.same rfl, (((hb.setCell (Nat.le_refl _) _).setCell (Nat.le_refl _) _).drew).drew⟩
        case measure => simp [intOf]; omega
    · have hi : i - a = n := by omega
      rw [hi] at hr hlen
      have hcv := hr.string (P := Try.prog) (c := grownCap w s.size 0 5) (src := 29) (dst := 9) (e := 5) (by omega) Try.underlying29 Try.underlying5 Try.underlying9
      rw [hlen] at hcv
      clear hlen hi
      go_wp2
      go_ret
      exact ⟨rfl, hb⟩
def impl_changedMap.f (a0 : ByteArray) (a1 a2 : Int) (a3 : Bool) : Option ByteArray :=
  if 0 ≤ a1 then (if 0 ≤ a2 then (if a1 + a2 ≤ 8 * (a0.size : Int) then (if a0.size ≤ 1048576 then some (strOfNums (changeL (bytesOf a0) a1.toNat a3 a2.toNat)) else none) else none) else none) else none
theorem impl_changedMap.calls (a0 : ByteArray) (a1 : Int) (a2 : Int) (a3 : Bool) (r : ByteArray) (w : World) (h : impl_changedMap.f a0 a1 a2 a3 = some r) :
    Calls Try.prog 81 #[.string a0, .int .i64 a1, .int .i64 a2, .bool a3] w fun e w' => e = .returned (.string r) ∧ Below w.heap.size w w' := by
  unfold impl_changedMap.f at h
  split at h
  · rename_i h0
    split at h
    · rename_i h1
      split at h
      · rename_i h2
        split at h
        · rename_i h3
          obtain rfl := Option.some.inj h
          obtain ⟨x, rfl⟩ := Int.eq_ofNat_of_zero_le h0
          obtain ⟨y, rfl⟩ := Int.eq_ofNat_of_zero_le h1
          rw [Int.toNat_natCast, Int.toNat_natCast]
          exact impl_changedMap.walk a0 x y a3 w (by omega) h3
        · cases h
      · cases h
    · cases h
  · cases h


end Go.Proofs.Ytnhladaobcnmhaa.X
namespace Go.Proofs.Ytnhladaobcnmhaa.X
open Go.RowKit Go.Proofs.YtnhladaobcnmhaaW.PrintWords Go.Proofs.YtnhladaobcnmhaaW.PrintLast Go.Proofs.YtnhladaobcnmhaaW.PrintMore
attribute [local go_sem] max2_int min2_int max_two min_two max_three min_three max_four min_four   -- for this text's walks alone
set_option linter.unusedVariables false
set_option linter.unusedSimpArgs false

/-! ### impl_TakeRun: function 33 -/
def impl_TakeRun.f (k : Nat) (a0 : ByteArray) (a1 : Int) (a2 : Int) : Option (ByteArray × Bool) := (impl_isRun.f k a0 a1 a2 false).bind fun t473 => (if t473 = true then ((impl_changedMap.f a0 a1 a2 true).bind fun t474 => (some (t474, true))) else (some ((⟨#[]⟩ : ByteArray), false)))
theorem impl_TakeRun.mono : ∀ a0 a1 a2 k, LeO (impl_TakeRun.f k a0 a1 a2) (impl_TakeRun.f (k + 1) a0 a1 a2) := by
  intro a0 a1 a2 k
  unfold impl_TakeRun.f
  repeat' first
      | (with_reducible exact impl_isRun.mono _ _ _ _ _)
      | (with_reducible exact LeO.refl _)
      | (with_reducible exact LeO.none _)
      | (with_reducible refine LeO.ite ?_ ?_)
      | (with_reducible refine LeO.bind ?_ (fun _ => ?_))
      | exact impl_isRun.mono _ _ _ _ _
      | exact LeO.none _
      | refine LeO.ite ?_ ?_
      | refine LeO.bind ?_ (fun _ => ?_)
set_option maxHeartbeats 8000000 in
set_option maxRecDepth 100000 in
theorem impl_TakeRun.calls (k : Nat) (a0 : ByteArray) (a1 : Int) (a2 : Int) (r1 : ByteArray) (r2 : Bool) (w : World) (h : impl_TakeRun.f k a0 a1 a2 = some (r1, r2)) :
    Calls Try.prog 33 #[.string a0, .int .i64 a1, .int .i64 a2] w fun e w' => e = .returned (.tuple #[.string r1, .bool r2]) ∧ Below w.heap.size w w' := by
  have HB := Aside0.mk (Below.refl w.heap.size w)
  have H : ((impl_isRun.f k a0 a1 a2 false).bind fun t473 => (if t473 = true then ((impl_changedMap.f a0 a1 a2 true).bind fun t474 => (some (t474, true))) else (some ((⟨#[]⟩ : ByteArray), false)))) = some (r1, r2) := h
  clear h
  replace H := Option.bind_eq_some_iff.mp H
  obtain ⟨t473, A40, H⟩ := H
  replace H : (if t473 = true then ((impl_changedMap.f a0 a1 a2 true).bind fun t474 => (some (t474, true))) else (some ((⟨#[]⟩ : ByteArray), false))) = some (r1, r2) := H
  have A4 := Aside0.mk A40
  clear A40
  by_cases c5 : t473 = true
  · subst c5
    have H1 : ((impl_changedMap.f a0 a1 a2 true).bind fun t474 => (some (t474, true))) = some (r1, r2) := by rw [if_pos rfl] at H; exact H
    clear H
    have H := H1
    clear H1
    replace H := Option.bind_eq_some_iff.mp H
    obtain ⟨t474, A60, H⟩ := H
    replace H : (some (t474, true)) = some (r1, r2) := H
    have A6 := Aside0.mk A60
    clear A60
    simp only [Option.some.injEq, Prod.mk.injEq] at H
    obtain ⟨rfl, rfl⟩ := H
    go_enter Try.func33, Try.ntmps33
    go_wp2_with (first | ((with_reducible refine gate_callee (f := 80) rfl ?_); refine goesL_ (some 11) rfl rfl Try.func80 (by kernel_rfl) rfl #[.string a0, .int .i64 a1, .int .i64 a2, .bool false] rfl (by (try simp only [List.map_toArray, List.map_cons, List.map_nil]); first | done | rfl | (simp only [List.length_drop, List.length_take]; rfl)) ?_; (with_reducible refine (impl_isRun.calls k a0 a1 a2 false true _ A4.out).mono ?_); rintro e w7 ⟨rfl, hb⟩; refine ⟨_, rfl, ?_⟩; have n0_ := Aside0.mk (below_step (by repeat (first | (with_reducible first | exact HB.out | apply below_alloc | apply pw_below_drewN | apply below_drew1) | exact HB.out)) hb); clear HB; have HB := n0_; clear n0_; (try clear hb); (try clear hb2); (try clear hk); (try clear hi)) | ((with_reducible refine gate_callee (f := 81) rfl ?_); refine goesL_ (some 16) rfl rfl Try.func81 (by kernel_rfl) rfl #[.string a0, .int .i64 a1, .int .i64 a2, .bool true] rfl (by (try simp only [List.map_toArray, List.map_cons, List.map_nil]); first | done | rfl | (simp only [List.length_drop, List.length_take]; rfl)) ?_; (with_reducible refine (impl_changedMap.calls a0 a1 a2 true t474 _ A6.out).mono ?_); rintro e w8 ⟨rfl, hb⟩; refine ⟨_, rfl, ?_⟩; have n0_ := Aside0.mk (below_step (by repeat (first | (with_reducible first | exact HB.out | apply below_alloc | apply pw_below_drewN | apply below_drew1) | exact HB.out)) hb); clear HB; have HB := n0_; clear n0_; (try clear hb); (try clear hb2); (try clear hk); (try clear hi)))
    go_ret2
    exact ⟨by first | rfl | (simp [errW_none, errW_some] <;> rfl) | (simp [*, errW_none, errW_some] <;> rfl), by repeat (first | (with_reducible first | exact HB.out | apply below_alloc | apply pw_below_drewN | apply below_drew1) | exact HB.out)⟩
  · replace c5 := Bool.eq_false_iff.mpr c5
    subst c5
    have H1 : (some ((⟨#[]⟩ : ByteArray), false)) = some (r1, r2) := by rw [if_neg (show ¬ (false = true) by decide)] at H; exact H
    clear H
    have H := H1
    clear H1
    simp only [Option.some.injEq, Prod.mk.injEq] at H
    obtain ⟨rfl, rfl⟩ := H
    go_enter Try.func33, Try.ntmps33
    go_wp2_with (first | ((with_reducible refine gate_callee (f := 80) rfl ?_); refine goesL_ (some 11) rfl rfl Try.func80 (by kernel_rfl) rfl #[.string a0, .int .i64 a1, .int .i64 a2, .bool false] rfl (by (try simp only [List.map_toArray, List.map_cons, List.map_nil]); first | done | rfl | (simp only [List.length_drop, List.length_take]; rfl)) ?_; (with_reducible refine (impl_isRun.calls k a0 a1 a2 false false _ A4.out).mono ?_); rintro e w9 ⟨rfl, hb⟩; refine ⟨_, rfl, ?_⟩; have n0_ := Aside0.mk (below_step (by repeat (first | (with_reducible first | exact HB.out | apply below_alloc | apply pw_below_drewN | apply below_drew1) | exact HB.out)) hb); clear HB; have HB := n0_; clear n0_; (try clear hb); (try clear hb2); (try clear hk); (try clear hi)))
    go_ret2
    exact ⟨by first | rfl | (simp [errW_none, errW_some] <;> rfl) | (simp [*, errW_none, errW_some] <;> rfl), by repeat (first | (with_reducible first | exact HB.out | apply below_alloc | apply pw_below_drewN | apply below_drew1) | exact HB.out)⟩

end Go.Proofs.Ytnhladaobcnmhaa.X
namespace Go.Proofs.Ytnhladaobcnmhaa.X
open Go.RowKit Go.Proofs.YtnhladaobcnmhaaW.PrintWords Go.Proofs.YtnhladaobcnmhaaW.PrintLast Go.Proofs.YtnhladaobcnmhaaW.PrintMore
attribute [local go_sem] max2_int min2_int max_two min_two max_three min_three max_four min_four   -- for this text's walks alone
set_option linter.unusedVariables false
set_option linter.unusedSimpArgs false

/-! ### impl_GiveRun: function 51 -/
def impl_GiveRun.f (k : Nat) (a0 : ByteArray) (a1 : Int) (a2 : Int) : Option (ByteArray × Bool) := (impl_isRun.f k a0 a1 a2 true).bind fun t780 => (if t780 = true then ((impl_changedMap.f a0 a1 a2 false).bind fun t781 => (some (t781, true))) else (some ((⟨#[]⟩ : ByteArray), false)))
theorem impl_GiveRun.mono : ∀ a0 a1 a2 k, LeO (impl_GiveRun.f k a0 a1 a2) (impl_GiveRun.f (k + 1) a0 a1 a2) := by
  intro a0 a1 a2 k
  unfold impl_GiveRun.f
  repeat' first
      | (with_reducible exact impl_isRun.mono _ _ _ _ _)
      | (with_reducible exact LeO.refl _)
      | (with_reducible exact LeO.none _)
      | (with_reducible refine LeO.ite ?_ ?_)
      | (with_reducible refine LeO.bind ?_ (fun _ => ?_))
      | exact impl_isRun.mono _ _ _ _ _
      | exact LeO.none _
      | refine LeO.ite ?_ ?_
      | refine LeO.bind ?_ (fun _ => ?_)
set_option maxHeartbeats 8000000 in
set_option maxRecDepth 100000 in
theorem impl_GiveRun.calls (k : Nat) (a0 : ByteArray) (a1 : Int) (a2 : Int) (r1 : ByteArray) (r2 : Bool) (w : World) (h : impl_GiveRun.f k a0 a1 a2 = some (r1, r2)) :
    Calls Try.prog 51 #[.string a0, .int .i64 a1, .int .i64 a2] w fun e w' => e = .returned (.tuple #[.string r1, .bool r2]) ∧ Below w.heap.size w w' := by
  have HB := Aside0.mk (Below.refl w.heap.size w)
  have H : ((impl_isRun.f k a0 a1 a2 true).bind fun t780 => (if t780 = true then ((impl_changedMap.f a0 a1 a2 false).bind fun t781 => (some (t781, true))) else (some ((⟨#[]⟩ : ByteArray), false)))) = some (r1, r2) := h
  clear h
  replace H := Option.bind_eq_some_iff.mp H
  obtain ⟨t780, A40, H⟩ := H
  replace H : (if t780 = true then ((impl_changedMap.f a0 a1 a2 false).bind fun t781 => (some (t781, true))) else (some ((⟨#[]⟩ : ByteArray), false))) = some (r1, r2) := H
  have A4 := Aside0.mk A40
  clear A40
  by_cases c5 : t780 = true
  · subst c5
    have H1 : ((impl_changedMap.f a0 a1 a2 false).bind fun t781 => (some (t781, true))) = some (r1, r2) := by rw [if_pos rfl] at H; exact H
    clear H
    have H := H1
    clear H1
    replace H := Option.bind_eq_some_iff.mp H
    obtain ⟨t781, A60, H⟩ := H
    replace H : (some (t781, true)) = some (r1, r2) := H
    have A6 := Aside0.mk A60
    clear A60
    simp only [Option.some.injEq, Prod.mk.injEq] at H
    obtain ⟨rfl, rfl⟩ := H
    go_enter Try.func51, Try.ntmps51
    go_wp2_with (first | ((with_reducible refine gate_callee (f := 80) rfl ?_); refine goesL_ (some 11) rfl rfl Try.func80 (by kernel_rfl) rfl #[.string a0, .int .i64 a1, .int .i64 a2, .bool true] rfl (by (try simp only [List.map_toArray, List.map_cons, List.map_nil]); first | done | rfl | (simp only [List.length_drop, List.length_take]; rfl)) ?_; (with_reducible refine (impl_isRun.calls k a0 a1 a2 true true _ A4.out).mono ?_); rintro e w7 ⟨rfl, hb⟩; refine ⟨_, rfl, ?_⟩; have n0_ := Aside0.mk (below_step (by repeat (first | (with_reducible first | exact HB.out | apply below_alloc | apply pw_below_drewN | apply below_drew1) | exact HB.out)) hb); clear HB; have HB := n0_; clear n0_; (try clear hb); (try clear hb2); (try clear hk); (try clear hi)) | ((with_reducible refine gate_callee (f := 81) rfl ?_); refine goesL_ (some 16) rfl rfl Try.func81 (by kernel_rfl) rfl #[.string a0, .int .i64 a1, .int .i64 a2, .bool false] rfl (by (try simp only [List.map_toArray, List.map_cons, List.map_nil]); first | done | rfl | (simp only [List.length_drop, List.length_take]; rfl)) ?_; (with_reducible refine (impl_changedMap.calls a0 a1 a2 false t781 _ A6.out).mono ?_); rintro e w8 ⟨rfl, hb⟩; refine ⟨_, rfl, ?_⟩; have n0_ := Aside0.mk (below_step (by repeat (first | (with_reducible first | exact HB.out | apply below_alloc | apply pw_below_drewN | apply below_drew1) | exact HB.out)) hb); clear HB; have HB := n0_; clear n0_; (try clear hb); (try clear hb2); (try clear hk); (try clear hi)))
    go_ret2
    exact ⟨by first | rfl | (simp [errW_none, errW_some] <;> rfl) | (simp [*, errW_none, errW_some] <;> rfl), by repeat (first | (with_reducible first | exact HB.out | apply below_alloc | apply pw_below_drewN | apply below_drew1) | exact HB.out)⟩
  · replace c5 := Bool.eq_false_iff.mpr c5
    subst c5
    have H1 : (some ((⟨#[]⟩ : ByteArray), false)) = some (r1, r2) := by rw [if_neg (show ¬ (false = true) by decide)] at H; exact H
    clear H
    have H := H1
    clear H1
    simp only [Option.some.injEq, Prod.mk.injEq] at H
    obtain ⟨rfl, rfl⟩ := H
    go_enter Try.func51, Try.ntmps51
    go_wp2_with (first | ((with_reducible refine gate_callee (f := 80) rfl ?_); refine goesL_ (some 11) rfl rfl Try.func80 (by kernel_rfl) rfl #[.string a0, .int .i64 a1, .int .i64 a2, .bool true] rfl (by (try simp only [List.map_toArray, List.map_cons, List.map_nil]); first | done | rfl | (simp only [List.length_drop, List.length_take]; rfl)) ?_; (with_reducible refine (impl_isRun.calls k a0 a1 a2 true false _ A4.out).mono ?_); rintro e w9 ⟨rfl, hb⟩; refine ⟨_, rfl, ?_⟩; have n0_ := Aside0.mk (below_step (by repeat (first | (with_reducible first | exact HB.out | apply below_alloc | apply pw_below_drewN | apply below_drew1) | exact HB.out)) hb); clear HB; have HB := n0_; clear n0_; (try clear hb); (try clear hb2); (try clear hk); (try clear hi)))
    go_ret2
    exact ⟨by first | rfl | (simp [errW_none, errW_some] <;> rfl) | (simp [*, errW_none, errW_some] <;> rfl), by repeat (first | (with_reducible first | exact HB.out | apply below_alloc | apply pw_below_drewN | apply below_drew1) | exact HB.out)⟩

end Go.Proofs.Ytnhladaobcnmhaa.X
namespace Go.Proofs.Ytnhladaobcnmhaa.X
open Go.RowKit Go.Proofs.YtnhladaobcnmhaaW.PrintWords Go.Proofs.YtnhladaobcnmhaaW.PrintLast Go.Proofs.YtnhladaobcnmhaaW.PrintMore
attribute [local go_sem] max2_int min2_int max_two min_two max_three min_three max_four min_four   -- for this text's walks alone
set_option linter.unusedVariables false
set_option linter.unusedSimpArgs false

/-! ### spec_l6Run: function 96 -/
def spec_l6Run.f (a0 : ByteArray) (a1 : Int) (a2 : Int) : Option (Bool) := (spec_l6Map.f a0).bind fun t774 => (if t774 = true then ((spec_l1In.f a2 1 128).bind fun t775 => (if t775 = true then ((spec_l1In.f a1 0 (wrap64 (128 - a2))).bind fun t776 => (some t776)) else (some false))) else (some false))
set_option maxHeartbeats 8000000 in
set_option maxRecDepth 100000 in
theorem spec_l6Run.calls (a0 : ByteArray) (a1 : Int) (a2 : Int) (r : Bool) (w : World) (h : spec_l6Run.f a0 a1 a2 = some r) :
    Calls Try.prog 96 #[.string a0, .int .i64 a1, .int .i64 a2] w fun e w' => e = .returned (.bool r) ∧ Below w.heap.size w w' := by
  have HB := Aside0.mk (Below.refl w.heap.size w)
  have H : ((spec_l6Map.f a0).bind fun t774 => (if t774 = true then ((spec_l1In.f a2 1 128).bind fun t775 => (if t775 = true then ((spec_l1In.f a1 0 (wrap64 (128 - a2))).bind fun t776 => (some t776)) else (some false))) else (some false))) = some r := h
  clear h
  replace H := Option.bind_eq_some_iff.mp H
  obtain ⟨t774, A40, H⟩ := H
  replace H : (if t774 = true then ((spec_l1In.f a2 1 128).bind fun t775 => (if t775 = true then ((spec_l1In.f a1 0 (wrap64 (128 - a2))).bind fun t776 => (some t776)) else (some false))) else (some false)) = some r := H
  have A4 := Aside0.mk A40
  clear A40
  by_cases c5 : t774 = true
  · subst c5
    have H1 : ((spec_l1In.f a2 1 128).bind fun t775 => (if t775 = true then ((spec_l1In.f a1 0 (wrap64 (128 - a2))).bind fun t776 => (some t776)) else (some false))) = some r := by rw [if_pos rfl] at H; exact H
    clear H
    have H := H1
    clear H1
    replace H := Option.bind_eq_some_iff.mp H
    obtain ⟨t775, A60, H⟩ := H
    replace H : (if t775 = true then ((spec_l1In.f a1 0 (wrap64 (128 - a2))).bind fun t776 => (some t776)) else (some false)) = some r := H
    have A6 := Aside0.mk A60
    clear A60
    by_cases c7 : t775 = true
    · subst c7
      have H1 : ((spec_l1In.f a1 0 (wrap64 (128 - a2))).bind fun t776 => (some t776)) = some r := by rw [if_pos rfl] at H; exact H
      clear H
      have H := H1
      clear H1
      replace H := Option.bind_eq_some_iff.mp H
      obtain ⟨t776, A80, H⟩ := H
      replace H : (some t776) = some r := H
      have A8 := Aside0.mk A80
      clear A80
      obtain rfl := Option.some.inj H
      go_enter Try.func96, Try.ntmps96
      go_wp2_with (first | ((with_reducible refine gate_callee (f := 87) rfl ?_); refine goesL_ (some 8) rfl rfl Try.func87 (by kernel_rfl) rfl #[.string a0] rfl (by (try simp only [List.map_toArray, List.map_cons, List.map_nil]); first | done | rfl | (simp only [List.length_drop, List.length_take]; rfl)) ?_; (with_reducible refine (spec_l6Map.calls a0 true _ A4.out).mono ?_); rintro e w9 ⟨rfl, hb⟩; refine ⟨_, rfl, ?_⟩; have n0_ := Aside0.mk (below_step (by repeat (first | (with_reducible first | exact HB.out | apply below_alloc | apply pw_below_drewN | apply below_drew1) | exact HB.out)) hb); clear HB; have HB := n0_; clear n0_; (try clear hb); (try clear hb2); (try clear hk); (try clear hi)) | (go_at_call 52; (with_reducible refine (spec_l1In.calls a2 1 128 true _ A6.out).mono ?_); rintro e w' ⟨rfl, ⟨nd, rfl⟩⟩) | (go_at_call 52; (with_reducible refine (spec_l1In.calls a1 0 (wrap64 (128 - a2)) t776 _ A8.out).mono ?_); rintro e w' ⟨rfl, ⟨nd, rfl⟩⟩))
      go_ret
      exact ⟨by first | rfl | (simp [errW_none, errW_some] <;> rfl) | (simp [*, errW_none, errW_some] <;> rfl), by repeat (first | (with_reducible first | exact HB.out | apply below_alloc | apply pw_below_drewN | apply below_drew1) | exact HB.out)⟩
    · replace c7 := Bool.eq_false_iff.mpr c7
      subst c7
      have H1 : (some false) = some r := by rw [if_neg (show ¬ (false = true) by decide)] at H; exact H
      clear H
      have H := H1
      clear H1
      obtain rfl := Option.some.inj H
      go_enter Try.func96, Try.ntmps96
      go_wp2_with (first | ((with_reducible refine gate_callee (f := 87) rfl ?_); refine goesL_ (some 8) rfl rfl Try.func87 (by kernel_rfl) rfl #[.string a0] rfl (by (try simp only [List.map_toArray, List.map_cons, List.map_nil]); first | done | rfl | (simp only [List.length_drop, List.length_take]; rfl)) ?_; (with_reducible refine (spec_l6Map.calls a0 true _ A4.out).mono ?_); rintro e w10 ⟨rfl, hb⟩; refine ⟨_, rfl, ?_⟩; have n0_ := Aside0.mk (below_step (by repeat (first | (with_reducible first | exact HB.out | apply below_alloc | apply pw_below_drewN | apply below_drew1) | exact HB.out)) hb); clear HB; have HB := n0_; clear n0_; (try clear hb); (try clear hb2); (try clear hk); (try clear hi)) | (go_at_call 52; (with_reducible refine (spec_l1In.calls a2 1 128 false _ A6.out).mono ?_); rintro e w' ⟨rfl, ⟨nd, rfl⟩⟩))
      go_ret
      exact ⟨by first | rfl | (simp [errW_none, errW_some] <;> rfl) | (simp [*, errW_none, errW_some] <;> rfl), by repeat (first | (with_reducible first | exact HB.out | apply below_alloc | apply pw_below_drewN | apply below_drew1) | exact HB.out)⟩
  · replace c5 := Bool.eq_false_iff.mpr c5
    subst c5
    have H1 : (some false) = some r := by rw [if_neg (show ¬ (false = true) by decide)] at H; exact H
    clear H
    have H := H1
    clear H1
    obtain rfl := Option.some.inj H
    go_enter Try.func96, Try.ntmps96
    go_wp2_with (first | ((with_reducible refine gate_callee (f := 87) rfl ?_); refine goesL_ (some 8) rfl rfl Try.func87 (by kernel_rfl) rfl #[.string a0] rfl (by (try simp only [List.map_toArray, List.map_cons, List.map_nil]); first | done | rfl | (simp only [List.length_drop, List.length_take]; rfl)) ?_; (with_reducible refine (spec_l6Map.calls a0 false _ A4.out).mono ?_); rintro e w11 ⟨rfl, hb⟩; refine ⟨_, rfl, ?_⟩; have n0_ := Aside0.mk (below_step (by repeat (first | (with_reducible first | exact HB.out | apply below_alloc | apply pw_below_drewN | apply below_drew1) | exact HB.out)) hb); clear HB; have HB := n0_; clear n0_; (try clear hb); (try clear hb2); (try clear hk); (try clear hi)))
    go_ret
    exact ⟨by first | rfl | (simp [errW_none, errW_some] <;> rfl) | (simp [*, errW_none, errW_some] <;> rfl), by repeat (first | (with_reducible first | exact HB.out | apply below_alloc | apply pw_below_drewN | apply below_drew1) | exact HB.out)⟩

end Go.Proofs.Ytnhladaobcnmhaa.X
namespace Go.Proofs.Ytnhladaobcnmhaa.X
open Go.RowKit Go.Proofs.YtnhladaobcnmhaaW.PrintWords Go.Proofs.YtnhladaobcnmhaaW.PrintLast Go.Proofs.YtnhladaobcnmhaaW.PrintMore
attribute [local go_sem] max2_int min2_int max_two min_two max_three min_three max_four min_four   -- for this text's walks alone
set_option linter.unusedVariables false
set_option linter.unusedSimpArgs false

/-! ### spec_l6Turn: function 97 -/

def turn1 (xs : List Int) (i : Nat) : List Int := xs.set (i / 8) (Go.bits .xor .u8 (xs.getD (i / 8) 0) (2 ^ (i % 8) % 256))
def turnL (xs : List Int) (a : Nat) : Nat → List Int
  | 0 => xs
  | n + 1 => turn1 (turnL xs a n) (a + n)
theorem turnL_length (xs : List Int) (a : Nat) : ∀ n, (turnL xs a n).length = xs.length
  | 0 => rfl
  | n + 1 => by simp [turnL, turn1, turnL_length xs a n]
theorem turnL_next (xs : List Int) (a i : Nat) (h : a ≤ i) : turnL xs a (i + 1 - a) = turn1 (turnL xs a (i - a)) i := by
  rw [show i + 1 - a = (i - a) + 1 from by omega, turnL, show a + (i - a) = i from by omega]
set_option maxHeartbeats 1000000 in
set_option maxRecDepth 100000 in
theorem spec_l6Turn.walk (s : ByteArray) (a n : Nat) (w : World) (h : a + n ≤ 8 * s.size) (hs : s.size ≤ 1048576) : Calls Try.prog 97 #[.string s, .int .i64 a, .int .i64 n] w fun e w' => e = .returned (.string (strOfNums (turnL (bytesOf s) a n))) ∧ Below w.heap.size w w' := by
  have kb := fun W => print_bytes (P := Try.prog) 9 29 5 Try.underlying9 Try.underlying29 Try.underlying5 s W
  go_enter Try.func97, Try.ntmps97
  go_wp2
  go_loopw [8] (fun v wr => ∃ i : Nat, a ≤ i ∧ i ≤ a + n ∧ v = .int .i64 i ∧ BRow wr w.heap.size (turnL (bytesOf s) a (i - a)) ∧ Below w.heap.size w wr) (fun v _ => a + n - (intOf v).toNat)
  case atStart => exact ⟨a, by omega, by omega, rfl, by rw [Nat.sub_self]; exact BRow.of_bytes w 5 s, bytes_below (Below.refl _ _) (Nat.le_refl _) 5 s⟩
  case round =>
    obtain ⟨i, h0, h1, rfl, hr, hb⟩ := hrel
    clear kb
    have hlen : (turnL (bytesOf s) a (i - a)).length = s.size := by rw [turnL_length, bytesOf_length]
    by_cases hlt : i < a + n
    · have hc := hr.cell (i := i / 8) (by omega)
      have hf := hr.frozen (i := i / 8) (by omega)
      have hset := Lib.hid (hr.set (i := i / 8) (by omega) (Go.bits .xor .u8 ((turnL (bytesOf s) a (i - a)).getD (i / 8) 0) (2 ^ (i % 8) % 256)))
      have hnext := Lib.hid (turnL_next (bytesOf s) a i h0)
      unfold turn1 at hnext
      generalize (turnL (bytesOf s) a (i - a)).getD (i / 8) 0 = c at *
      clear hlen
      go_wp2
      go_roundw
      case rel => exact ⟨i + 1, by omega, by omega, by go_num, by rw [hnext.out]; exact hset.out, hb.setCell (Nat.le_refl _) _⟩
      case measure => simp [intOf]; omega
    · have hi : i - a = n := by omega
      rw [hi] at hr hlen
      have hcv := hr.string (P := Try.prog) (c := grownCap w s.size 0 5) (src := 29) (dst := 9) (e := 5) (by omega) Try.underlying29 Try.underlying5 Try.underlying9
      rw [hlen] at hcv
      clear hlen hi
      go_wp2
      go_ret
      exact ⟨rfl, hb⟩
def spec_l6Turn.f (a0 : ByteArray) (a1 a2 : Int) : Option ByteArray :=
  if 0 ≤ a1 then (if 0 ≤ a2 then (if a1 + a2 ≤ 8 * (a0.size : Int) then (if a0.size ≤ 1048576 then some (strOfNums (turnL (bytesOf a0) a1.toNat a2.toNat)) else none) else none) else none) else none
theorem spec_l6Turn.calls (a0 : ByteArray) (a1 : Int) (a2 : Int) (r : ByteArray) (w : World) (h : spec_l6Turn.f a0 a1 a2 = some r) :
    Calls Try.prog 97 #[.string a0, .int .i64 a1, .int .i64 a2] w fun e w' => e = .returned (.string r) ∧ Below w.heap.size w w' := by
  unfold spec_l6Turn.f at h
  split at h
  · rename_i h0
    split at h
    · rename_i h1
      split at h
      · rename_i h2
        split at h
        · rename_i h3
          obtain rfl := Option.some.inj h
          obtain ⟨x, rfl⟩ := Int.eq_ofNat_of_zero_le h0
          obtain ⟨y, rfl⟩ := Int.eq_ofNat_of_zero_le h1
          rw [Int.toNat_natCast, Int.toNat_natCast]
          exact spec_l6Turn.walk a0 x y w (by omega) h3
        · cases h
      · cases h
    · cases h
  · cases h


end Go.Proofs.Ytnhladaobcnmhaa.X
namespace Go.Proofs.Ytnhladaobcnmhaa.X
open Go.RowKit Go.Proofs.YtnhladaobcnmhaaW.PrintWords Go.Proofs.YtnhladaobcnmhaaW.PrintLast Go.Proofs.YtnhladaobcnmhaaW.PrintMore
attribute [local go_sem] max2_int min2_int max_two min_two max_three min_three max_four min_four   -- for this text's walks alone
set_option linter.unusedVariables false
set_option linter.unusedSimpArgs false

/-! ### spec_TakeRun: function 50 -/
def spec_TakeRun.f (k : Nat) (a0 : ByteArray) (a1 : Int) (a2 : Int) : Option (ByteArray × Bool) := (spec_l6Run.f a0 a1 a2).bind fun t777 => (if t777 = true then ((spec_l6Free.f k a0 a1 a2).bind fun t778 => (if t778 = true then ((spec_l6Turn.f a0 a1 a2).bind fun t779 => (some (t779, true))) else (some ((⟨#[]⟩ : ByteArray), false)))) else (some ((⟨#[]⟩ : ByteArray), false)))
theorem spec_TakeRun.mono : ∀ a0 a1 a2 k, LeO (spec_TakeRun.f k a0 a1 a2) (spec_TakeRun.f (k + 1) a0 a1 a2) := by
  intro a0 a1 a2 k
  unfold spec_TakeRun.f
  repeat' first
      | (with_reducible exact spec_l6Free.mono _ _ _ _)
      | (with_reducible exact LeO.refl _)
      | (with_reducible exact LeO.none _)
      | (with_reducible refine LeO.ite ?_ ?_)
      | (with_reducible refine LeO.bind ?_ (fun _ => ?_))
      | exact spec_l6Free.mono _ _ _ _
      | exact LeO.none _
      | refine LeO.ite ?_ ?_
      | refine LeO.bind ?_ (fun _ => ?_)
set_option maxHeartbeats 8000000 in
set_option maxRecDepth 100000 in
theorem spec_TakeRun.calls (k : Nat) (a0 : ByteArray) (a1 : Int) (a2 : Int) (r1 : ByteArray) (r2 : Bool) (w : World) (h : spec_TakeRun.f k a0 a1 a2 = some (r1, r2)) :
    Calls Try.prog 50 #[.string a0, .int .i64 a1, .int .i64 a2] w fun e w' => e = .returned (.tuple #[.string r1, .bool r2]) ∧ Below w.heap.size w w' := by
  have HB := Aside0.mk (Below.refl w.heap.size w)
  have H : ((spec_l6Run.f a0 a1 a2).bind fun t777 => (if t777 = true then ((spec_l6Free.f k a0 a1 a2).bind fun t778 => (if t778 = true then ((spec_l6Turn.f a0 a1 a2).bind fun t779 => (some (t779, true))) else (some ((⟨#[]⟩ : ByteArray), false)))) else (some ((⟨#[]⟩ : ByteArray), false)))) = some (r1, r2) := h
  clear h
  replace H := Option.bind_eq_some_iff.mp H
  obtain ⟨t777, A40, H⟩ := H
  replace H : (if t777 = true then ((spec_l6Free.f k a0 a1 a2).bind fun t778 => (if t778 = true then ((spec_l6Turn.f a0 a1 a2).bind fun t779 => (some (t779, true))) else (some ((⟨#[]⟩ : ByteArray), false)))) else (some ((⟨#[]⟩ : ByteArray), false))) = some (r1, r2) := H
  have A4 := Aside0.mk A40
  clear A40
  by_cases c5 : t777 = true
  · subst c5
    have H1 : ((spec_l6Free.f k a0 a1 a2).bind fun t778 => (if t778 = true then ((spec_l6Turn.f a0 a1 a2).bind fun t779 => (some (t779, true))) else (some ((⟨#[]⟩ : ByteArray), false)))) = some (r1, r2) := by rw [if_pos rfl] at H; exact H
    clear H
    have H := H1
    clear H1
    replace H := Option.bind_eq_some_iff.mp H
    obtain ⟨t778, A60, H⟩ := H
    replace H : (if t778 = true then ((spec_l6Turn.f a0 a1 a2).bind fun t779 => (some (t779, true))) else (some ((⟨#[]⟩ : ByteArray), false))) = some (r1, r2) := H
    have A6 := Aside0.mk A60
    clear A60
    by_cases c7 : t778 = true
    · subst c7
      have H1 : ((spec_l6Turn.f a0 a1 a2).bind fun t779 => (some (t779, true))) = some (r1, r2) := by rw [if_pos rfl] at H; exact H
      clear H
      have H := H1
      clear H1
      replace H := Option.bind_eq_some_iff.mp H
      obtain ⟨t779, A80, H⟩ := H
      replace H : (some (t779, true)) = some (r1, r2) := H
      have A8 := Aside0.mk A80
      clear A80
      simp only [Option.some.injEq, Prod.mk.injEq] at H
      obtain ⟨rfl, rfl⟩ := H
      go_enter Try.func50, Try.ntmps50
      go_wp2_with (first | ((with_reducible refine gate_callee (f := 96) rfl ?_); refine goesL_ (some 11) rfl rfl Try.func96 (by kernel_rfl) rfl #[.string a0, .int .i64 a1, .int .i64 a2] rfl (by (try simp only [List.map_toArray, List.map_cons, List.map_nil]); first | done | rfl | (simp only [List.length_drop, List.length_take]; rfl)) ?_; (with_reducible refine (spec_l6Run.calls a0 a1 a2 true _ A4.out).mono ?_); rintro e w9 ⟨rfl, hb⟩; refine ⟨_, rfl, ?_⟩; have n0_ := Aside0.mk (below_step (by repeat (first | (with_reducible first | exact HB.out | apply below_alloc | apply pw_below_drewN | apply below_drew1) | exact HB.out)) hb); clear HB; have HB := n0_; clear n0_; (try clear hb); (try clear hb2); (try clear hk); (try clear hi)) | (go_at_call 79; (with_reducible refine (spec_l6Free.calls k a0 a1 a2 true _ A6.out).mono ?_); rintro e w' ⟨rfl, ⟨nd, rfl⟩⟩) | ((with_reducible refine gate_callee (f := 97) rfl ?_); refine goesL_ (some 23) rfl rfl Try.func97 (by kernel_rfl) rfl #[.string a0, .int .i64 a1, .int .i64 a2] rfl (by (try simp only [List.map_toArray, List.map_cons, List.map_nil]); first | done | rfl | (simp only [List.length_drop, List.length_take]; rfl)) ?_; (with_reducible refine (spec_l6Turn.calls a0 a1 a2 t779 _ A8.out).mono ?_); rintro e w10 ⟨rfl, hb⟩; refine ⟨_, rfl, ?_⟩; have n0_ := Aside0.mk (below_step (by repeat (first | (with_reducible first | exact HB.out | apply below_alloc | apply pw_below_drewN | apply below_drew1) | exact HB.out)) hb); clear HB; have HB := n0_; clear n0_; (try clear hb); (try clear hb2); (try clear hk); (try clear hi)))
      go_ret2
      exact ⟨by first | rfl | (simp [errW_none, errW_some] <;> rfl) | (simp [*, errW_none, errW_some] <;> rfl), by repeat (first | (with_reducible first | exact HB.out | apply below_alloc | apply pw_below_drewN | apply below_drew1) | exact HB.out)⟩
    · replace c7 := Bool.eq_false_iff.mpr c7
      subst c7
      have H1 : (some ((⟨#[]⟩ : ByteArray), false)) = some (r1, r2) := by rw [if_neg (show ¬ (false = true) by decide)] at H; exact H
      clear H
      have H := H1
      clear H1
      simp only [Option.some.injEq, Prod.mk.injEq] at H
      obtain ⟨rfl, rfl⟩ := H
      go_enter Try.func50, Try.ntmps50
      go_wp2_with (first | ((with_reducible refine gate_callee (f := 96) rfl ?_); refine goesL_ (some 11) rfl rfl Try.func96 (by kernel_rfl) rfl #[.string a0, .int .i64 a1, .int .i64 a2] rfl (by (try simp only [List.map_toArray, List.map_cons, List.map_nil]); first | done | rfl | (simp only [List.length_drop, List.length_take]; rfl)) ?_; (with_reducible refine (spec_l6Run.calls a0 a1 a2 true _ A4.out).mono ?_); rintro e w11 ⟨rfl, hb⟩; refine ⟨_, rfl, ?_⟩; have n0_ := Aside0.mk (below_step (by repeat (first | (with_reducible first | exact HB.out | apply below_alloc | apply pw_below_drewN | apply below_drew1) | exact HB.out)) hb); clear HB; have HB := n0_; clear n0_; (try clear hb); (try clear hb2); (try clear hk); (try clear hi)) | (go_at_call 79; (with_reducible refine (spec_l6Free.calls k a0 a1 a2 false _ A6.out).mono ?_); rintro e w' ⟨rfl, ⟨nd, rfl⟩⟩))
      go_ret2
      exact ⟨by first | rfl | (simp [errW_none, errW_some] <;> rfl) | (simp [*, errW_none, errW_some] <;> rfl), by repeat (first | (with_reducible first | exact HB.out | apply below_alloc | apply pw_below_drewN | apply below_drew1) | exact HB.out)⟩
  · replace c5 := Bool.eq_false_iff.mpr c5
    subst c5
    have H1 : (some ((⟨#[]⟩ : ByteArray), false)) = some (r1, r2) := by rw [if_neg (show ¬ (false = true) by decide)] at H; exact H
    clear H
    have H := H1
    clear H1
    simp only [Option.some.injEq, Prod.mk.injEq] at H
    obtain ⟨rfl, rfl⟩ := H
    go_enter Try.func50, Try.ntmps50
    go_wp2_with (first | ((with_reducible refine gate_callee (f := 96) rfl ?_); refine goesL_ (some 11) rfl rfl Try.func96 (by kernel_rfl) rfl #[.string a0, .int .i64 a1, .int .i64 a2] rfl (by (try simp only [List.map_toArray, List.map_cons, List.map_nil]); first | done | rfl | (simp only [List.length_drop, List.length_take]; rfl)) ?_; (with_reducible refine (spec_l6Run.calls a0 a1 a2 false _ A4.out).mono ?_); rintro e w12 ⟨rfl, hb⟩; refine ⟨_, rfl, ?_⟩; have n0_ := Aside0.mk (below_step (by repeat (first | (with_reducible first | exact HB.out | apply below_alloc | apply pw_below_drewN | apply below_drew1) | exact HB.out)) hb); clear HB; have HB := n0_; clear n0_; (try clear hb); (try clear hb2); (try clear hk); (try clear hi)))
    go_ret2
    exact ⟨by first | rfl | (simp [errW_none, errW_some] <;> rfl) | (simp [*, errW_none, errW_some] <;> rfl), by repeat (first | (with_reducible first | exact HB.out | apply below_alloc | apply pw_below_drewN | apply below_drew1) | exact HB.out)⟩

end Go.Proofs.Ytnhladaobcnmhaa.X
namespace Go.Proofs.Ytnhladaobcnmhaa.Pure
open Go.RowKit Go.Proofs.Ytnhladaobcnmhaa.X Go.Proofs.YtnhladaobcnmhaaW.PrintWords Go.Proofs.YtnhladaobcnmhaaW.PrintLast Go.Proofs.YtnhladaobcnmhaaW.PrintMore
set_option linter.unusedVariables false
set_option linter.unusedSimpArgs false

/-- What turning a bit changes. -/
theorem turn1_bit {xs : List Int} (hx : isBytes xs) {i : Nat} (hi : i / 8 < xs.length) (j : Nat) : bitL (turn1 xs i) j = (bitL xs j != decide (j = i)) := by
  unfold turn1
  have hb := isBytes_getD hx (i / 8)
  have h := (byte_xor hb.1 hb.2 (show i % 8 < 8 by omega)).2 (j % 8) (by omega)
  rw [bitL_set hi]
  split
  · rename_i e
    rw [h]
    unfold bitL
    rw [e]
    congr 1
    exact decide_eq_decide.2 (by omega)
  · rename_i e
    rw [show decide (j = i) = false from decide_eq_false (fun q => e (by rw [q]))]
    simp
theorem turn1_isBytes {xs : List Int} (hx : isBytes xs) (i : Nat) : isBytes (turn1 xs i) := by
  have hb := isBytes_getD hx (i / 8)
  have h := (byte_xor hb.1 hb.2 (show i % 8 < 8 by omega)).1
  exact isBytes_set hx _ h.1 h.2
theorem turn1_length (xs : List Int) (i : Nat) : (turn1 xs i).length = xs.length := by simp [turn1]
theorem clear1_bit {xs : List Int} (hx : isBytes xs) {i : Nat} (hi : i / 8 < xs.length) (j : Nat) : bitL (change1 xs i false) j = (bitL xs j && !decide (j = i)) := by
  unfold change1
  rw [if_neg (by simp)]
  have hb := isBytes_getD hx (i / 8)
  have h := (byte_clear hb.1 hb.2 (show i % 8 < 8 by omega)).2 (j % 8) (by omega)
  rw [bitL_set hi]
  split
  · rename_i e
    rw [h]
    unfold bitL
    rw [e]
    congr 2
    exact decide_eq_decide.2 (by omega)
  · rename_i e
    rw [show decide (j = i) = false from decide_eq_false (fun q => e (by rw [q]))]
    simp
theorem set1_bit {xs : List Int} (hx : isBytes xs) {i : Nat} (hi : i / 8 < xs.length) (j : Nat) : bitL (change1 xs i true) j = (bitL xs j || decide (j = i)) := by
  unfold change1
  rw [if_pos rfl]
  have hb := isBytes_getD hx (i / 8)
  have hc := byte_clear hb.1 hb.2 (show i % 8 < 8 by omega)
  have hs := byte_set hc.1.1 hc.1.2 (show i % 8 < 8 by omega)
  rw [bitL_set (by simpa using hi)]
  split
  · rename_i e
    rw [hs.2 _ (by omega), hc.2 _ (by omega)]
    unfold bitL
    rw [e]
    have : decide (j % 8 = i % 8) = decide (j = i) := decide_eq_decide.2 (by omega)
    rw [this]
    cases bitv (xs.getD (i / 8) 0) (j % 8) <;> cases decide (j = i) <;> rfl
  · rename_i e
    rw [bitL_set hi, if_neg e, show decide (j = i) = false from decide_eq_false (fun q => e (by rw [q]))]
    simp
theorem change1_isBytes {xs : List Int} (hx : isBytes xs) (i : Nat) (t : Bool) : isBytes (change1 xs i t) := by
  have hb := isBytes_getD hx (i / 8)
  have hc := byte_clear hb.1 hb.2 (show i % 8 < 8 by omega)
  have hs := byte_set hc.1.1 hc.1.2 (show i % 8 < 8 by omega)
  unfold change1
  split
  · exact isBytes_set (isBytes_set hx _ hc.1.1 hc.1.2) _ hs.1.1 hs.1.2
  · exact isBytes_set hx _ hc.1.1 hc.1.2
theorem change1_length (xs : List Int) (i : Nat) (t : Bool) : (change1 xs i t).length = xs.length := by
  unfold change1
  split <;> simp
theorem turnL_isBytes {xs : List Int} (hx : isBytes xs) (a : Nat) : ∀ n, isBytes (turnL xs a n)
  | 0 => hx
  | n + 1 => turn1_isBytes (turnL_isBytes hx a n) _
theorem changeL_isBytes {xs : List Int} (hx : isBytes xs) (a : Nat) (t : Bool) : ∀ n, isBytes (changeL xs a t n)
  | 0 => hx
  | n + 1 => change1_isBytes (changeL_isBytes hx a t n) _ _
/-- The bits behind a change. -/
theorem changeL_bit {xs : List Int} (hx : isBytes xs) (a : Nat) (t : Bool) : ∀ (n : Nat), a + n ≤ 8 * xs.length → ∀ j, bitL (changeL xs a t n) j = if a ≤ j ∧ j < a + n then t else bitL xs j
  | 0, h, j => by rw [if_neg (by omega)]; rfl
  | n + 1, h, j => by
    have ih := changeL_bit hx a t n (by omega) j
    have hi : (a + n) / 8 < (changeL xs a t n).length := by rw [changeL_length]; omega
    simp only [changeL]
    cases t
    · rw [clear1_bit (changeL_isBytes hx a false n) hi, ih]
      by_cases e : j = a + n
      · subst e; simp
      · rw [show decide (j = a + n) = false from decide_eq_false e]
        by_cases e2 : a ≤ j ∧ j < a + n
        · rw [if_pos e2, if_pos (by omega)]; rfl
        · rw [if_neg e2, if_neg (by omega)]; simp
    · rw [set1_bit (changeL_isBytes hx a true n) hi, ih]
      by_cases e : j = a + n
      · subst e; simp
      · rw [show decide (j = a + n) = false from decide_eq_false e]
        by_cases e2 : a ≤ j ∧ j < a + n
        · rw [if_pos e2, if_pos (by omega)]; rfl
        · rw [if_neg e2, if_neg (by omega)]; simp
theorem turnL_bit {xs : List Int} (hx : isBytes xs) (a : Nat) : ∀ (n : Nat), a + n ≤ 8 * xs.length → ∀ j, bitL (turnL xs a n) j = if a ≤ j ∧ j < a + n then !bitL xs j else bitL xs j
  | 0, h, j => by rw [if_neg (by omega)]; rfl
  | n + 1, h, j => by
    have ih := turnL_bit hx a n (by omega) j
    have hi : (a + n) / 8 < (turnL xs a n).length := by rw [turnL_length]; omega
    simp only [turnL]
    rw [turn1_bit (turnL_isBytes hx a n) hi, ih]
    by_cases e : j = a + n
    · subst e; simp
    · rw [show decide (j = a + n) = false from decide_eq_false e]
      by_cases e2 : a ≤ j ∧ j < a + n
      · rw [if_pos e2, if_pos (by omega)]; simp
      · rw [if_neg e2, if_neg (by omega)]; simp
/-- Where the bits were the other way, turning them is setting (or clearing) them. -/
theorem turn_change {xs : List Int} (hx : isBytes xs) (a n : Nat) (t : Bool) (h : a + n ≤ 8 * xs.length) (hb : ∀ j, a ≤ j → j < a + n → bitL xs j = !t) : turnL xs a n = changeL xs a t n := by
  refine bytes_ext (turnL_isBytes hx a n) (changeL_isBytes hx a t n) (by rw [turnL_length, changeL_length]) (fun j hj => ?_)
  rw [turnL_bit hx a n h, changeL_bit hx a t n h]
  split
  · rename_i c
    rw [hb j c.1 c.2]; simp
  · rfl
/-- All of n lines from a on are taken (t), or all are free. -/
def allAre (s : ByteArray) (t : Bool) (a n : Int) : Prop := ∀ j, a ≤ j → j < a + n → tk s j = t
theorem allAre_iff (s : ByteArray) (t : Bool) (a n : Nat) : allAre s t a n ↔ ∀ j : Nat, a ≤ j → j < a + n → bitL (bytesOf s) j = t :=
  ⟨fun h j h0 h1 => by have := h (j : Int) (by omega) (by omega); simpa [tk] using this, fun h j h0 h1 => by
    have := h j.toNat (by omega) (by omega)
    exact this⟩
instance allAre_dec (s : ByteArray) (t : Bool) (a n : Nat) : Decidable (∀ j : Nat, a ≤ j → j < a + n → bitL (bytesOf s) j = t) :=
  decidable_of_iff (∀ i, i < n → bitL (bytesOf s) (a + i) = t) ⟨fun h j h0 h1 => by have := h (j - a) (by omega); rwa [show a + (j - a) = j from by omega] at this, fun h i hi => h (a + i) (by omega) (by omega)⟩
def runOk (s : ByteArray) (a n : Int) : Prop := mapOk s ∧ (1 ≤ n ∧ n ≤ 128) ∧ 0 ≤ a ∧ a ≤ 128 - n
instance (s : ByteArray) (a n : Int) : Decidable (runOk s a n) := by unfold runOk; infer_instance
/-- TakeRun (t = true), GiveRun (t = false). -/
def changed (s : ByteArray) (t : Bool) (a n : Nat) : ByteArray := strOfNums (changeL (bytesOf s) a t n)
def runResult (s : ByteArray) (t : Bool) (a n : Int) : ByteArray × Bool :=
  if runOk s a n then (if ∀ j : Nat, a.toNat ≤ j → j < a.toNat + n.toNat → bitL (bytesOf s) j = !t then (changed s t a.toNat n.toNat, true) else (⟨#[]⟩, false)) else (⟨#[]⟩, false)
theorem changedMap_f (s : ByteArray) (a n : Nat) (t : Bool) (h : a + n ≤ 8 * s.size) (hs : s.size ≤ 1048576) : impl_changedMap.f s (a : Int) (n : Int) t = some (changed s t a n) := by
  unfold impl_changedMap.f
  rw [if_pos (by omega), if_pos (by omega), if_pos (by omega), if_pos hs]
  rfl
theorem l6Turn_f (s : ByteArray) (a n : Nat) (h : a + n ≤ 8 * s.size) (hs : s.size ≤ 1048576) : spec_l6Turn.f s (a : Int) (n : Int) = some (strOfNums (turnL (bytesOf s) a n)) := by
  unfold spec_l6Turn.f
  rw [if_pos (by omega), if_pos (by omega), if_pos (by omega), if_pos hs]
  rfl
theorem spec_l6Run_f (s : ByteArray) (a n : Int) : spec_l6Run.f s a n = some (decide (runOk s a n)) := by
  unfold spec_l6Run.f runOk
  rw [spec_l6Map_f, Option.bind_some]
  by_cases c : mapOk s
  · simp only [c, decide_true, if_true, true_and, l1In_f, Option.bind_some]
    by_cases h1 : 1 ≤ n ∧ n ≤ 128
    · rw [if_pos (by simp [h1.1, h1.2]), w64 (by omega) (by omega)]
      simp [h1]
    · rw [if_neg (by simpa using h1)]
      simp [h1]
  · simp [c]
theorem free_ev (s : ByteArray) (x y : Nat) (hm : mapOk s) (hn : 1 ≤ y) (h2 : x + y ≤ 128) : ∃ b : Bool, Ev (fun k => spec_l6Free.f k s (x : Int) (y : Int)) b ∧ (b = true ↔ ∀ j : Nat, x ≤ j → j < x + y → bitL (bytesOf s) j = !true) := by
  obtain ⟨b, hb, hi⟩ := spec_l6Free_ev s x y hm (by omega) (by omega) (by omega)
  exact ⟨b, hb, hi.trans (allAre_iff s false x y)⟩
theorem spec_TakeRun_ev (s : ByteArray) (a n : Int) : Ev (fun k => spec_TakeRun.f k s a n) (runResult s true a n) := by
  unfold spec_TakeRun.f runResult
  refine Ev.bindo (spec_l6Run_f s a n) (Ev.cases (fun c => ?_) (fun c => Ev.eq ?_))
  · have c : runOk s a n := by simpa using c
    rw [if_pos c]
    obtain ⟨hm, ⟨h1, h2⟩, h3, h4⟩ := c
    obtain ⟨x, rfl⟩ := Int.eq_ofNat_of_zero_le h3
    obtain ⟨y, rfl⟩ := Int.eq_ofNat_of_zero_le (show 0 ≤ n by omega)
    have h8 : x + y ≤ 8 * s.size := by have := hm.1; omega
    obtain ⟨q, hq, hqf⟩ := free_ev s x y hm (by omega) (by omega)
    refine Ev.bind hq (Ev.cases (fun e => ?_) (fun e => Ev.eq ?_))
    · have hb := hqf.1 e
      rw [Int.toNat_natCast, Int.toNat_natCast, if_pos hb]
      refine Ev.bindo (l6Turn_f s x y h8 (by have := hm.1; omega)) (Ev.eq ?_)
      rw [turn_change (bytesOf_isBytes s) x y true (by rw [bytesOf_length]; exact h8) hb]
      rfl
    · rw [Int.toNat_natCast, Int.toNat_natCast, if_neg (fun h => e (hqf.2 h))]
  · rw [if_neg (by simpa using c)]
theorem impl_isRun_ev (s : ByteArray) (a n : Int) (t : Bool) : Ev (fun k => impl_isRun.f k s a n t) (decide (runOk s a n ∧ ∀ j : Nat, a.toNat ≤ j → j < a.toNat + n.toNat → bitL (bytesOf s) j = t)) := by
  have jf : ∀ b : Bool, (b = true → ¬ runOk s a n) → (b = false → runOk s a n) → Ev (fun k => impl_isRun.j0 k s a n t b) (decide (runOk s a n ∧ ∀ j : Nat, a.toNat ≤ j → j < a.toNat + n.toNat → bitL (bytesOf s) j = t)) := by
    intro b hb1 hb2
    refine Ev.step (fun k => by rw [impl_isRun.j0]) (Ev.cases (fun e => Ev.eq ?_) (fun e => ?_))
    · exact (decide_eq_false (fun h => hb1 e h.1)).symm
    · have c := hb2 (by simpa using e)
      have c0 := c
      obtain ⟨hm, ⟨h1, h2⟩, h3, h4⟩ := c
      obtain ⟨x, rfl⟩ := Int.eq_ofNat_of_zero_le h3
      obtain ⟨y, rfl⟩ := Int.eq_ofNat_of_zero_le (show 0 ≤ n by omega)
      simp only [Int.toNat_natCast]
      have l : ∀ (d j : Nat), x + y - j = d → x ≤ j → j ≤ x + y → (∀ q, x ≤ q → q < j → bitL (bytesOf s) q = t) →
          Ev (fun k => impl_isRun.l0 k s (x : Int) (y : Int) t (j : Int)) (decide (runOk s (x : Int) (y : Int) ∧ ∀ j : Nat, x ≤ j → j < x + y → bitL (bytesOf s) j = t)) := by
        intro d
        induction d with
        | zero =>
          intro j hd hj hj2 hf
          refine Ev.step (fun k => by rw [impl_isRun.l0]) ?_
          rw [w64 (x := (x : Int) + y) (by omega) (by omega)]
          exact Ev.neg (by omega) (Ev.eq (decide_eq_true ⟨c0, fun q h0 h1 => hf q h0 (by omega)⟩).symm)
        | succ d ih =>
          intro j hd hj hj2 hf
          refine Ev.step (fun k => by rw [impl_isRun.l0]) ?_
          rw [w64 (x := (x : Int) + y) (by omega) (by omega)]
          refine Ev.pos (by omega) (Ev.bindo (impl_bit s j hm (by omega) (by omega)) ?_)
          rw [show wrap64 ((j : Int) + 1) = ((j + 1 : Nat) : Int) from by rw [w64 (by omega) (by omega)]; omega]
          have ht : tk s (j : Int) = bitL (bytesOf s) j := by simp [tk]
          refine Ev.cases (fun e => Ev.eq ?_) (fun e => ?_)
          · refine (decide_eq_false (fun h => ?_)).symm
            rw [ht, h.2 j hj (by omega)] at e
            simp at e
          · exact ih (j + 1) (by omega) (by omega) (by omega) (fun q h0 h1 => by
              by_cases e2 : q = j
              · subst e2; rw [← ht]; simpa using e
              · exact hf q h0 (by omega))
      exact l _ x rfl (by omega) (by omega) (fun q h0 h1 => by omega)
  unfold impl_isRun.f
  refine Ev.bindo (impl_isMap_f s) (Ev.cases (fun c => ?_) (fun c => ?_))
  · have c : mapOk s := by simpa using c
    refine Ev.bindo (within_f _ _ _) (Ev.cases (fun c2 => ?_) (fun c2 => ?_))
    · have c2 : 1 ≤ n ∧ n ≤ 128 := by simpa using c2
      rw [w64 (x := 128 - n) (by omega) (by omega)]
      refine Ev.bindo (within_f _ _ _) (jf _ (fun h q => ?_) (fun h => ⟨c, c2, ?_⟩))
      · have := q.2.2
        simp [this.1, this.2] at h
      · simpa using h
    · exact jf true (fun _ q => c2 (by simp [q.2.1.1, q.2.1.2])) (fun h => by cases h)
  · exact jf true (fun _ q => c (by simp [q.1])) (fun h => by cases h)
theorem impl_TakeRun_ev (s : ByteArray) (a n : Int) : Ev (fun k => impl_TakeRun.f k s a n) (runResult s true a n) := by
  unfold impl_TakeRun.f runResult
  simp only [Bool.not_true]
  refine Ev.bind (impl_isRun_ev s a n false) (Ev.cases (fun c => ?_) (fun c => Ev.eq ?_))
  · obtain ⟨c, hb⟩ := of_decide_eq_true c
    rw [if_pos c, if_pos hb]
    obtain ⟨hm, ⟨h1, h2⟩, h3, h4⟩ := c
    obtain ⟨x, rfl⟩ := Int.eq_ofNat_of_zero_le h3
    obtain ⟨y, rfl⟩ := Int.eq_ofNat_of_zero_le (show 0 ≤ n by omega)
    refine Ev.bindo (changedMap_f s x y true (by have := hm.1; omega) (by have := hm.1; omega)) (Ev.eq rfl)
  · have c : ¬ (runOk s a n ∧ ∀ j : Nat, a.toNat ≤ j → j < a.toNat + n.toNat → bitL (bytesOf s) j = false) := fun h => c (decide_eq_true h)
    by_cases e : runOk s a n
    · rw [if_pos e, if_neg (fun h => c ⟨e, h⟩)]
    · rw [if_neg e]
theorem impl_GiveRun_ev (s : ByteArray) (a n : Int) : Ev (fun k => impl_GiveRun.f k s a n) (runResult s false a n) := by
  unfold impl_GiveRun.f runResult
  simp only [Bool.not_false]
  refine Ev.bind (impl_isRun_ev s a n true) (Ev.cases (fun c => ?_) (fun c => Ev.eq ?_))
  · obtain ⟨c, hb⟩ := of_decide_eq_true c
    rw [if_pos c, if_pos hb]
    obtain ⟨hm, ⟨h1, h2⟩, h3, h4⟩ := c
    obtain ⟨x, rfl⟩ := Int.eq_ofNat_of_zero_le h3
    obtain ⟨y, rfl⟩ := Int.eq_ofNat_of_zero_le (show 0 ≤ n by omega)
    refine Ev.bindo (changedMap_f s x y false (by have := hm.1; omega) (by have := hm.1; omega)) (Ev.eq rfl)
  · have c : ¬ (runOk s a n ∧ ∀ j : Nat, a.toNat ≤ j → j < a.toNat + n.toNat → bitL (bytesOf s) j = true) := fun h => c (decide_eq_true h)
    by_cases e : runOk s a n
    · rw [if_pos e, if_neg (fun h => c ⟨e, h⟩)]
    · rw [if_neg e]
end Go.Proofs.Ytnhladaobcnmhaa.Pure
namespace Go.Proofs.Ytnhladaobcnmhaa.X
open Go.RowKit Go.Proofs.YtnhladaobcnmhaaW.PrintWords Go.Proofs.YtnhladaobcnmhaaW.PrintLast Go.Proofs.YtnhladaobcnmhaaW.PrintMore
attribute [local go_sem] max2_int min2_int max_two min_two max_three min_three max_four min_four   -- for this text's walks alone
set_option linter.unusedVariables false
set_option linter.unusedSimpArgs false

/-! ### spec_MapOf: function 38 -/
def spec_MapOf.l0 : Nat → List Int → Int → Option (ByteArray)
  | 0, _, _ => none
  | k + 1, x0, x3 => if x3 < (x0.length : Int) then (if 0 ≤ x3 then ((spec_l1In.f (rd x0 x3) 0 127).bind fun t521 => (if t521 = true then (if x3 > 0 then (if 0 ≤ (wrap64 (x3 - 1)) then (if (wrap64 (x3 - 1)) < (x0.length : Int) then (if (rd x0 x3) ≤ (rd x0 (wrap64 (x3 - 1))) then (some (⟨#[]⟩ : ByteArray)) else (spec_MapOf.l0 k x0 (wrap64 (x3 + 1)))) else (none)) else (none)) else (spec_MapOf.l0 k x0 (wrap64 (x3 + 1)))) else (some (⟨#[]⟩ : ByteArray)))) else (none)) else ((spec_l6MapOf.f k x0).bind fun t524 => (some t524))
def spec_MapOf.f (k : Nat) (l0 : List Int) : Option (ByteArray) := spec_MapOf.l0 k l0 0
theorem spec_MapOf.mono_l : ∀ k, (∀ y0 y1, LeO (spec_MapOf.l0 k y0 y1) (spec_MapOf.l0 (k + 1) y0 y1))
  | 0 => fun _ _ r h => by simp [spec_MapOf.l0] at h
  | k + 1 => by
    have ih0 := spec_MapOf.mono_l k
    · intro y0 y1
      unfold spec_MapOf.l0
      repeat' first
      | (with_reducible exact ih0 _ _)
      | (with_reducible exact spec_l6MapOf.mono _ _)
      | (with_reducible exact LeO.refl _)
      | (with_reducible exact LeO.none _)
      | (with_reducible refine LeO.ite ?_ ?_)
      | (with_reducible refine LeO.bind ?_ (fun _ => ?_))
      | exact ih0 _ _
      | exact spec_l6MapOf.mono _ _
      | exact LeO.none _
      | refine LeO.ite ?_ ?_
      | refine LeO.bind ?_ (fun _ => ?_)
theorem spec_MapOf.mono : ∀ a0 k, LeO (spec_MapOf.f k a0) (spec_MapOf.f (k + 1) a0) := by
  intro a0 k
  have ih0 := spec_MapOf.mono_l k
  unfold spec_MapOf.f
  repeat' first
      | (with_reducible exact ih0 _ _)
      | (with_reducible exact spec_l6MapOf.mono _ _)
      | (with_reducible exact LeO.refl _)
      | (with_reducible exact LeO.none _)
      | (with_reducible refine LeO.ite ?_ ?_)
      | (with_reducible refine LeO.bind ?_ (fun _ => ?_))
      | exact ih0 _ _
      | exact spec_l6MapOf.mono _ _
      | exact LeO.none _
      | refine LeO.ite ?_ ?_
      | refine LeO.bind ?_ (fun _ => ?_)
set_option maxHeartbeats 8000000 in
set_option maxRecDepth 100000 in
theorem spec_MapOf.calls (k : Nat) (A0 : Option Addr) (c0 : Nat) (l0 : List Int) (r : ByteArray) (w : World) (hr0 : Kd.C (Kd.int .i64) w A0 l0.length l0) (hc0 : l0.length ≤ c0) (h : spec_MapOf.f k l0 = some r) :
    Calls Try.prog 38 #[.slice A0 l0.length c0] w fun e w' => e = .returned (.string r) ∧ Below w.heap.size w w' := by
  have HR0 := Aside0.mk hr0
  have HC0 := Aside0.mk hc0
  clear hr0 hc0
  have HB := Aside0.mk (Below.refl w.heap.size w)
  have H : (spec_MapOf.l0 k l0 0) = some r := h
  clear h
  have H' := Aside0.mk H
  clear H
  go_enter Try.func38, Try.ntmps38
  go_wp2
  repeat (go_quiet (fail); try go_wp2)
  go_loopg [3] k (fun kq v3 w' => ∃ (x3_1 : Int), v3 = .int .i64 x3_1 ∧ Aside0 (spec_MapOf.l0 kq l0 x3_1 = some r) ∧ Aside0 (kq ≤ k) ∧ Aside0 (Below w.heap.size w w'))
  case atStart => exact ⟨(0), (by first | rfl | (simp; done) | (simp [*]; done)), H', ⟨Nat.le_refl _⟩, ⟨by repeat (first | (with_reducible first | exact HB.out | apply below_alloc | apply pw_below_drewN | apply below_drew1) | exact HB.out)⟩⟩
  case round =>
    clear H'
    obtain ⟨x3_1, rfl, HA, HK1, HB⟩ := hrel
    cases gk with
    | zero => exact absurd HA.out (by simp [spec_MapOf.l0])
    | succ k1 =>
      have H := HA.out
      clear HA
      simp only [spec_MapOf.l0] at H
      by_cases c2 : x3_1 < (l0.length : Int)
      · rw [if_pos c2] at H
        have c2b0 : decide (x3_1 < (l0.length : Int)) = true := decide_eq_true c2
        clear c2
        by_cases c3 : 0 ≤ x3_1
        · rw [if_pos c3] at H
          have c3b0 : decide (0 ≤ x3_1) = true := decide_eq_true c3
          clear c3
          replace H := Option.bind_eq_some_iff.mp H
          obtain ⟨t521, A40, H⟩ := H
          replace H : (if t521 = true then (if x3_1 > 0 then (if 0 ≤ (wrap64 (x3_1 - 1)) then (if (wrap64 (x3_1 - 1)) < (l0.length : Int) then (if (rd l0 x3_1) ≤ (rd l0 (wrap64 (x3_1 - 1))) then (some (⟨#[]⟩ : ByteArray)) else (spec_MapOf.l0 k1 l0 (wrap64 (x3_1 + 1)))) else (none)) else (none)) else (spec_MapOf.l0 k1 l0 (wrap64 (x3_1 + 1)))) else (some (⟨#[]⟩ : ByteArray))) = some r := H
          have A4 := Aside0.mk A40
          clear A40
          by_cases c5 : t521 = true
          · subst c5
            have H1 : (if x3_1 > 0 then (if 0 ≤ (wrap64 (x3_1 - 1)) then (if (wrap64 (x3_1 - 1)) < (l0.length : Int) then (if (rd l0 x3_1) ≤ (rd l0 (wrap64 (x3_1 - 1))) then (some (⟨#[]⟩ : ByteArray)) else (spec_MapOf.l0 k1 l0 (wrap64 (x3_1 + 1)))) else (none)) else (none)) else (spec_MapOf.l0 k1 l0 (wrap64 (x3_1 + 1)))) = some r := by rw [if_pos rfl] at H; exact H
            clear H
            have H := H1
            clear H1
            by_cases c6 : x3_1 > 0
            · rw [if_pos c6] at H
              have c6b0 : decide (0 < x3_1) = true := decide_eq_true c6
              clear c6
              obtain ⟨ji7, hji7⟩ : ∃ j_ : Int, (wrap64 (x3_1 - 1)) = j_ := ⟨_, rfl⟩
              replace H : (if 0 ≤ (ji7) then (if (ji7) < (l0.length : Int) then (if (rd l0 x3_1) ≤ (rd l0 (ji7)) then (some (⟨#[]⟩ : ByteArray)) else (spec_MapOf.l0 k1 l0 (wrap64 (x3_1 + 1)))) else (none)) else (none)) = some r := by first | (rw [hji7] at H; exact H) | (simp only [hji7] at H ⊢; exact H)
              (try rw [hji7] at A4)
              have hji7w : (IntKind.i64.wrap (x3_1 - 1)) = ji7 := (i64_w _).trans hji7
              by_cases c8 : 0 ≤ (ji7)
              · rw [if_pos c8] at H
                have c8b0 : decide (0 ≤ (ji7)) = true := decide_eq_true c8
                clear c8
                by_cases c9 : (ji7) < (l0.length : Int)
                · rw [if_pos c9] at H
                  have c9b0 : decide ((ji7) < (l0.length : Int)) = true := decide_eq_true c9
                  clear c9
                  by_cases c10 : (rd l0 x3_1) ≤ (rd l0 (ji7))
                  · rw [if_pos c10] at H
                    have c10b0 : decide ((rd l0 x3_1) ≤ (rd l0 (ji7))) = true := decide_eq_true c10
                    clear c10
                    obtain rfl := Option.some.inj H
                    have p520 : 0 ≤ (x3_1 : Int) := of_decide_eq_true (by first | (with_reducible assumption) | assumption)
                    have q520 : x3_1 < (l0.length : Int) := of_decide_eq_true (by first | (with_reducible assumption) | assumption)
                    obtain ⟨ad520, e520, hx520_0⟩ := Kd.at_int HR0.out x3_1 p520 q520
                    cases e520
                    replace hx520_0 := (HB.out.cell (World.block_lt_of_cell? w _ hx520_0)).trans hx520_0
                    replace p520 := eq_true p520
                    replace q520 := eq_true q520
                    go_wp2_with (first | (go_at_call 52; (with_reducible refine (spec_l1In.calls (rd l0 x3_1) 0 127 true _ A4.out).mono ?_); rintro e w' ⟨rfl, ⟨nd, rfl⟩⟩; (try first | exact ⟨rfl, _, World.drewN_drewN _ _ _⟩ | exact ⟨rfl, _, Eq.trans (World.drewN_drewN _ _ _) (congrArg (World.drewN _) (Nat.add_assoc _ _ _))⟩); have p522 : 0 ≤ (x3_1 : Int) := of_decide_eq_true (by first | (with_reducible assumption) | assumption); have q522 : x3_1 < (l0.length : Int) := of_decide_eq_true (by first | (with_reducible assumption) | assumption); obtain ⟨ad522, e522, hx522_0⟩ := Kd.at_int HR0.out x3_1 p522 q522; obtain rfl : ad520 = ad522 := (by injection e522); replace hx522_0 := (HB.out.cell (World.block_lt_of_cell? w _ hx522_0)).trans hx522_0; replace p522 := eq_true p522; replace q522 := eq_true q522; have p523 : 0 ≤ ((ji7) : Int) := of_decide_eq_true (by first | (with_reducible assumption) | assumption); have q523 : (ji7) < (l0.length : Int) := of_decide_eq_true (by first | (with_reducible assumption) | assumption); obtain ⟨ad523, e523, hx523_0⟩ := Kd.at_int HR0.out (ji7) p523 q523; obtain rfl : ad520 = ad523 := (by injection e523); replace hx523_0 := (HB.out.cell (World.block_lt_of_cell? w _ hx523_0)).trans hx523_0; replace p523 := eq_true p523; replace q523 := eq_true q523))
                    repeat (go_quiet (first | (go_at_call 52; (with_reducible refine (spec_l1In.calls (rd l0 x3_1) 0 127 true _ A4.out).mono ?_); rintro e w' ⟨rfl, ⟨nd, rfl⟩⟩; (try first | exact ⟨rfl, _, World.drewN_drewN _ _ _⟩ | exact ⟨rfl, _, Eq.trans (World.drewN_drewN _ _ _) (congrArg (World.drewN _) (Nat.add_assoc _ _ _))⟩); have p522 : 0 ≤ (x3_1 : Int) := of_decide_eq_true (by first | (with_reducible assumption) | assumption); have q522 : x3_1 < (l0.length : Int) := of_decide_eq_true (by first | (with_reducible assumption) | assumption); obtain ⟨ad522, e522, hx522_0⟩ := Kd.at_int HR0.out x3_1 p522 q522; obtain rfl : ad520 = ad522 := (by injection e522); replace hx522_0 := (HB.out.cell (World.block_lt_of_cell? w _ hx522_0)).trans hx522_0; replace p522 := eq_true p522; replace q522 := eq_true q522; have p523 : 0 ≤ ((ji7) : Int) := of_decide_eq_true (by first | (with_reducible assumption) | assumption); have q523 : (ji7) < (l0.length : Int) := of_decide_eq_true (by first | (with_reducible assumption) | assumption); obtain ⟨ad523, e523, hx523_0⟩ := Kd.at_int HR0.out (ji7) p523 q523; obtain rfl : ad520 = ad523 := (by injection e523); replace hx523_0 := (HB.out.cell (World.block_lt_of_cell? w _ hx523_0)).trans hx523_0; replace p523 := eq_true p523; replace q523 := eq_true q523)); try go_wp2_with (first | (go_at_call 52; (with_reducible refine (spec_l1In.calls (rd l0 x3_1) 0 127 true _ A4.out).mono ?_); rintro e w' ⟨rfl, ⟨nd, rfl⟩⟩; (try first | exact ⟨rfl, _, World.drewN_drewN _ _ _⟩ | exact ⟨rfl, _, Eq.trans (World.drewN_drewN _ _ _) (congrArg (World.drewN _) (Nat.add_assoc _ _ _))⟩); have p522 : 0 ≤ (x3_1 : Int) := of_decide_eq_true (by first | (with_reducible assumption) | assumption); have q522 : x3_1 < (l0.length : Int) := of_decide_eq_true (by first | (with_reducible assumption) | assumption); obtain ⟨ad522, e522, hx522_0⟩ := Kd.at_int HR0.out x3_1 p522 q522; obtain rfl : ad520 = ad522 := (by injection e522); replace hx522_0 := (HB.out.cell (World.block_lt_of_cell? w _ hx522_0)).trans hx522_0; replace p522 := eq_true p522; replace q522 := eq_true q522; have p523 : 0 ≤ ((ji7) : Int) := of_decide_eq_true (by first | (with_reducible assumption) | assumption); have q523 : (ji7) < (l0.length : Int) := of_decide_eq_true (by first | (with_reducible assumption) | assumption); obtain ⟨ad523, e523, hx523_0⟩ := Kd.at_int HR0.out (ji7) p523 q523; obtain rfl : ad520 = ad523 := (by injection e523); replace hx523_0 := (HB.out.cell (World.block_lt_of_cell? w _ hx523_0)).trans hx523_0; replace p523 := eq_true p523; replace q523 := eq_true q523)))
                    go_ret
                    exact ⟨by first | rfl | (simp [errW_none, errW_some] <;> rfl) | (simp only [← hji7]; first | rfl | (simp [errW_none, errW_some] <;> rfl)) | (simp [*, errW_none, errW_some] <;> rfl), by repeat (first | (with_reducible first | exact HB.out | apply below_alloc | apply pw_below_drewN | apply below_drew1) | exact HB.out)⟩
                  · rw [if_neg c10] at H
                    have c10b0 : decide ((rd l0 x3_1) ≤ (rd l0 (ji7))) = false := decide_eq_false c10
                    clear c10
                    have H' := Aside0.mk H
                    clear H
                    have p520 : 0 ≤ (x3_1 : Int) := of_decide_eq_true (by first | (with_reducible assumption) | assumption)
                    have q520 : x3_1 < (l0.length : Int) := of_decide_eq_true (by first | (with_reducible assumption) | assumption)
                    obtain ⟨ad520, e520, hx520_0⟩ := Kd.at_int HR0.out x3_1 p520 q520
                    cases e520
                    replace hx520_0 := (HB.out.cell (World.block_lt_of_cell? w _ hx520_0)).trans hx520_0
                    replace p520 := eq_true p520
                    replace q520 := eq_true q520
                    go_wp2_with (first | (go_at_call 52; (with_reducible refine (spec_l1In.calls (rd l0 x3_1) 0 127 true _ A4.out).mono ?_); rintro e w' ⟨rfl, ⟨nd, rfl⟩⟩; (try first | exact ⟨rfl, _, World.drewN_drewN _ _ _⟩ | exact ⟨rfl, _, Eq.trans (World.drewN_drewN _ _ _) (congrArg (World.drewN _) (Nat.add_assoc _ _ _))⟩); have p522 : 0 ≤ (x3_1 : Int) := of_decide_eq_true (by first | (with_reducible assumption) | assumption); have q522 : x3_1 < (l0.length : Int) := of_decide_eq_true (by first | (with_reducible assumption) | assumption); obtain ⟨ad522, e522, hx522_0⟩ := Kd.at_int HR0.out x3_1 p522 q522; obtain rfl : ad520 = ad522 := (by injection e522); replace hx522_0 := (HB.out.cell (World.block_lt_of_cell? w _ hx522_0)).trans hx522_0; replace p522 := eq_true p522; replace q522 := eq_true q522; have p523 : 0 ≤ ((ji7) : Int) := of_decide_eq_true (by first | (with_reducible assumption) | assumption); have q523 : (ji7) < (l0.length : Int) := of_decide_eq_true (by first | (with_reducible assumption) | assumption); obtain ⟨ad523, e523, hx523_0⟩ := Kd.at_int HR0.out (ji7) p523 q523; obtain rfl : ad520 = ad523 := (by injection e523); replace hx523_0 := (HB.out.cell (World.block_lt_of_cell? w _ hx523_0)).trans hx523_0; replace p523 := eq_true p523; replace q523 := eq_true q523))
                    repeat (go_quiet (first | (go_at_call 52; (with_reducible refine (spec_l1In.calls (rd l0 x3_1) 0 127 true _ A4.out).mono ?_); rintro e w' ⟨rfl, ⟨nd, rfl⟩⟩; (try first | exact ⟨rfl, _, World.drewN_drewN _ _ _⟩ | exact ⟨rfl, _, Eq.trans (World.drewN_drewN _ _ _) (congrArg (World.drewN _) (Nat.add_assoc _ _ _))⟩); have p522 : 0 ≤ (x3_1 : Int) := of_decide_eq_true (by first | (with_reducible assumption) | assumption); have q522 : x3_1 < (l0.length : Int) := of_decide_eq_true (by first | (with_reducible assumption) | assumption); obtain ⟨ad522, e522, hx522_0⟩ := Kd.at_int HR0.out x3_1 p522 q522; obtain rfl : ad520 = ad522 := (by injection e522); replace hx522_0 := (HB.out.cell (World.block_lt_of_cell? w _ hx522_0)).trans hx522_0; replace p522 := eq_true p522; replace q522 := eq_true q522; have p523 : 0 ≤ ((ji7) : Int) := of_decide_eq_true (by first | (with_reducible assumption) | assumption); have q523 : (ji7) < (l0.length : Int) := of_decide_eq_true (by first | (with_reducible assumption) | assumption); obtain ⟨ad523, e523, hx523_0⟩ := Kd.at_int HR0.out (ji7) p523 q523; obtain rfl : ad520 = ad523 := (by injection e523); replace hx523_0 := (HB.out.cell (World.block_lt_of_cell? w _ hx523_0)).trans hx523_0; replace p523 := eq_true p523; replace q523 := eq_true q523)); try go_wp2_with (first | (go_at_call 52; (with_reducible refine (spec_l1In.calls (rd l0 x3_1) 0 127 true _ A4.out).mono ?_); rintro e w' ⟨rfl, ⟨nd, rfl⟩⟩; (try first | exact ⟨rfl, _, World.drewN_drewN _ _ _⟩ | exact ⟨rfl, _, Eq.trans (World.drewN_drewN _ _ _) (congrArg (World.drewN _) (Nat.add_assoc _ _ _))⟩); have p522 : 0 ≤ (x3_1 : Int) := of_decide_eq_true (by first | (with_reducible assumption) | assumption); have q522 : x3_1 < (l0.length : Int) := of_decide_eq_true (by first | (with_reducible assumption) | assumption); obtain ⟨ad522, e522, hx522_0⟩ := Kd.at_int HR0.out x3_1 p522 q522; obtain rfl : ad520 = ad522 := (by injection e522); replace hx522_0 := (HB.out.cell (World.block_lt_of_cell? w _ hx522_0)).trans hx522_0; replace p522 := eq_true p522; replace q522 := eq_true q522; have p523 : 0 ≤ ((ji7) : Int) := of_decide_eq_true (by first | (with_reducible assumption) | assumption); have q523 : (ji7) < (l0.length : Int) := of_decide_eq_true (by first | (with_reducible assumption) | assumption); obtain ⟨ad523, e523, hx523_0⟩ := Kd.at_int HR0.out (ji7) p523 q523; obtain rfl : ad520 = ad523 := (by injection e523); replace hx523_0 := (HB.out.cell (World.block_lt_of_cell? w _ hx523_0)).trans hx523_0; replace p523 := eq_true p523; replace q523 := eq_true q523)))
                    go_roundg k1
                    case measure => have := HK1.out; omega
                    case rel => exact ⟨(wrap64 (x3_1 + 1)), (by first | rfl | (simp; done) | (simp [*]; done)), H', ⟨by have := HK1.out; omega⟩, ⟨by repeat (first | (with_reducible first | exact HB.out | apply below_alloc | apply pw_below_drewN | apply below_drew1) | exact HB.out)⟩⟩
                · rw [if_neg c9] at H
                  exact absurd H (by simp)
              · rw [if_neg c8] at H
                exact absurd H (by simp)
            · rw [if_neg c6] at H
              have c6b0 : decide (0 < x3_1) = false := decide_eq_false c6
              clear c6
              have H' := Aside0.mk H
              clear H
              have p520 : 0 ≤ (x3_1 : Int) := of_decide_eq_true (by first | (with_reducible assumption) | assumption)
              have q520 : x3_1 < (l0.length : Int) := of_decide_eq_true (by first | (with_reducible assumption) | assumption)
              obtain ⟨ad520, e520, hx520_0⟩ := Kd.at_int HR0.out x3_1 p520 q520
              cases e520
              replace hx520_0 := (HB.out.cell (World.block_lt_of_cell? w _ hx520_0)).trans hx520_0
              replace p520 := eq_true p520
              replace q520 := eq_true q520
              go_wp2_with (first | (go_at_call 52; (with_reducible refine (spec_l1In.calls (rd l0 x3_1) 0 127 true _ A4.out).mono ?_); rintro e w' ⟨rfl, ⟨nd, rfl⟩⟩; (try first | exact ⟨rfl, _, World.drewN_drewN _ _ _⟩ | exact ⟨rfl, _, Eq.trans (World.drewN_drewN _ _ _) (congrArg (World.drewN _) (Nat.add_assoc _ _ _))⟩)))
              repeat (go_quiet (first | (go_at_call 52; (with_reducible refine (spec_l1In.calls (rd l0 x3_1) 0 127 true _ A4.out).mono ?_); rintro e w' ⟨rfl, ⟨nd, rfl⟩⟩; (try first | exact ⟨rfl, _, World.drewN_drewN _ _ _⟩ | exact ⟨rfl, _, Eq.trans (World.drewN_drewN _ _ _) (congrArg (World.drewN _) (Nat.add_assoc _ _ _))⟩))); try go_wp2_with (first | (go_at_call 52; (with_reducible refine (spec_l1In.calls (rd l0 x3_1) 0 127 true _ A4.out).mono ?_); rintro e w' ⟨rfl, ⟨nd, rfl⟩⟩; (try first | exact ⟨rfl, _, World.drewN_drewN _ _ _⟩ | exact ⟨rfl, _, Eq.trans (World.drewN_drewN _ _ _) (congrArg (World.drewN _) (Nat.add_assoc _ _ _))⟩))))
              go_roundg k1
              case measure => have := HK1.out; omega
              case rel => exact ⟨(wrap64 (x3_1 + 1)), (by first | rfl | (simp; done) | (simp [*]; done)), H', ⟨by have := HK1.out; omega⟩, ⟨by repeat (first | (with_reducible first | exact HB.out | apply below_alloc | apply pw_below_drewN | apply below_drew1) | exact HB.out)⟩⟩
          · replace c5 := Bool.eq_false_iff.mpr c5
            subst c5
            have H1 : (some (⟨#[]⟩ : ByteArray)) = some r := by rw [if_neg (show ¬ (false = true) by decide)] at H; exact H
            clear H
            have H := H1
            clear H1
            obtain rfl := Option.some.inj H
            have p520 : 0 ≤ (x3_1 : Int) := of_decide_eq_true (by first | (with_reducible assumption) | assumption)
            have q520 : x3_1 < (l0.length : Int) := of_decide_eq_true (by first | (with_reducible assumption) | assumption)
            obtain ⟨ad520, e520, hx520_0⟩ := Kd.at_int HR0.out x3_1 p520 q520
            cases e520
            replace hx520_0 := (HB.out.cell (World.block_lt_of_cell? w _ hx520_0)).trans hx520_0
            replace p520 := eq_true p520
            replace q520 := eq_true q520
            go_wp2_with (first | (go_at_call 52; (with_reducible refine (spec_l1In.calls (rd l0 x3_1) 0 127 false _ A4.out).mono ?_); rintro e w' ⟨rfl, ⟨nd, rfl⟩⟩; (try first | exact ⟨rfl, _, World.drewN_drewN _ _ _⟩ | exact ⟨rfl, _, Eq.trans (World.drewN_drewN _ _ _) (congrArg (World.drewN _) (Nat.add_assoc _ _ _))⟩)))
            repeat (go_quiet (first | (go_at_call 52; (with_reducible refine (spec_l1In.calls (rd l0 x3_1) 0 127 false _ A4.out).mono ?_); rintro e w' ⟨rfl, ⟨nd, rfl⟩⟩; (try first | exact ⟨rfl, _, World.drewN_drewN _ _ _⟩ | exact ⟨rfl, _, Eq.trans (World.drewN_drewN _ _ _) (congrArg (World.drewN _) (Nat.add_assoc _ _ _))⟩))); try go_wp2_with (first | (go_at_call 52; (with_reducible refine (spec_l1In.calls (rd l0 x3_1) 0 127 false _ A4.out).mono ?_); rintro e w' ⟨rfl, ⟨nd, rfl⟩⟩; (try first | exact ⟨rfl, _, World.drewN_drewN _ _ _⟩ | exact ⟨rfl, _, Eq.trans (World.drewN_drewN _ _ _) (congrArg (World.drewN _) (Nat.add_assoc _ _ _))⟩))))
            go_ret
            exact ⟨by first | rfl | (simp [errW_none, errW_some] <;> rfl) | (simp [*, errW_none, errW_some] <;> rfl), by repeat (first | (with_reducible first | exact HB.out | apply below_alloc | apply pw_below_drewN | apply below_drew1) | exact HB.out)⟩
        · rw [if_neg c3] at H
          exact absurd H (by simp)
      · rw [if_neg c2] at H
        have c2b0 : decide (x3_1 < (l0.length : Int)) = false := decide_eq_false c2
        clear c2
        replace H := Option.bind_eq_some_iff.mp H
        obtain ⟨t524, A110, H⟩ := H
        replace H : (some t524) = some r := H
        have A11 := Aside0.mk A110
        clear A110
        obtain rfl := Option.some.inj H
        go_wp2_with (first | (go_at_call 86; (with_reducible refine (spec_l6MapOf.calls k1 _ _ l0 t524 _ ?side1 ?side2 A11.out).mono ?_); (case side1 => repeat (first | exact (Kd.C_below HR0.out HB.out) | (with_reducible refine Kd.C_alloc ?_ _) | (with_reducible refine Kd.C_drewN ?_ _) | (with_reducible refine Kd.C_drew ?_))); (case side2 => exact HC0.out); rintro e w12 ⟨rfl, hb⟩; have n0_ := Aside0.mk (below_step (by repeat (first | (with_reducible first | exact HB.out | apply below_alloc | apply pw_below_drewN | apply below_drew1) | exact HB.out)) hb); clear HB; have HB := n0_; clear n0_; (try clear hb); (try clear hb2); (try clear hk); (try clear hi)))
        repeat (go_quiet (first | (go_at_call 86; (with_reducible refine (spec_l6MapOf.calls k1 _ _ l0 t524 _ ?side1 ?side2 A11.out).mono ?_); (case side1 => repeat (first | exact (Kd.C_below HR0.out HB.out) | (with_reducible refine Kd.C_alloc ?_ _) | (with_reducible refine Kd.C_drewN ?_ _) | (with_reducible refine Kd.C_drew ?_))); (case side2 => exact HC0.out); rintro e w12 ⟨rfl, hb⟩; have n0_ := Aside0.mk (below_step (by repeat (first | (with_reducible first | exact HB.out | apply below_alloc | apply pw_below_drewN | apply below_drew1) | exact HB.out)) hb); clear HB; have HB := n0_; clear n0_; (try clear hb); (try clear hb2); (try clear hk); (try clear hi))); try go_wp2_with (first | (go_at_call 86; (with_reducible refine (spec_l6MapOf.calls k1 _ _ l0 t524 _ ?side1 ?side2 A11.out).mono ?_); (case side1 => repeat (first | exact (Kd.C_below HR0.out HB.out) | (with_reducible refine Kd.C_alloc ?_ _) | (with_reducible refine Kd.C_drewN ?_ _) | (with_reducible refine Kd.C_drew ?_))); (case side2 => exact HC0.out); rintro e w12 ⟨rfl, hb⟩; have n0_ := Aside0.mk (below_step (by repeat (first | (with_reducible first | exact HB.out | apply below_alloc | apply pw_below_drewN | apply below_drew1) | exact HB.out)) hb); clear HB; have HB := n0_; clear n0_; (try clear hb); (try clear hb2); (try clear hk); (try clear hi))))
        go_ret
        exact ⟨by first | rfl | (simp [errW_none, errW_some] <;> rfl) | (simp [*, errW_none, errW_some] <;> rfl), by repeat (first | (with_reducible first | exact HB.out | apply below_alloc | apply pw_below_drewN | apply below_drew1) | exact HB.out)⟩

end Go.Proofs.Ytnhladaobcnmhaa.X
