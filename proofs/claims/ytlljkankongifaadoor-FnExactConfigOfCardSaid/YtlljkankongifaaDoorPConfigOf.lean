/- ConfigOf: both come to the same. For texts of at most 2^47 bytes. -/
import Derived.Test.YtlljkankongifaaDoorPReadSuperI
import Derived.Test.YtlljkankongifaaDoorPImage
namespace Go.Proofs.YtlljkankongifaaDoor.Abs.Pu
open Go Go.RowKit
set_option linter.unusedVariables false
set_option linter.unusedSectionVars false
set_option linter.unusedSimpArgs false
def cfgR (s : ByteArray) : Option Cfg := if 64 ≤ s.size then (match specR (s.extract 0 64) with | some c => if (s.size : Int) = 64 * c.1 then some c else none | none => none) else none
theorem specR_ok {s : ByteArray} {c : Cfg} (h : specR s = some c) (hz : s.size = 64) : configOk c = true := by
  unfold specR at h
  split at h
  · rename_i k
    injection h with h
    rw [← h]
    exact superR_ok k hz
  · cases h
theorem cfgR_no1 {s : ByteArray} (h : ¬ 64 ≤ s.size) : cfgR s = none := by
  unfold cfgR
  rw [if_neg h]
theorem cfgR_no2 {s : ByteArray} (h : 64 ≤ s.size) (hc : specR (s.extract 0 64) = none) : cfgR s = none := by
  unfold cfgR
  rw [if_pos h, hc]
theorem cfgR_no3 {s : ByteArray} {c : Cfg} (h : 64 ≤ s.size) (hc : specR (s.extract 0 64) = some c) (k : ¬ (s.size : Int) = 64 * c.1) : cfgR s = none := by
  unfold cfgR
  rw [if_pos h, hc]
  exact if_neg k
theorem cfgR_yes {s : ByteArray} {c : Cfg} (h : 64 ≤ s.size) (hc : specR (s.extract 0 64) = some c) (k : (s.size : Int) = 64 * c.1) : cfgR s = some c := by
  unfold cfgR
  rw [if_pos h, hc]
  exact if_pos k
theorem spec_ConfigOf_ev (s : ByteArray) (hs : s.size ≤ 140737488355328) : Ev (fun k => spec_ConfigOf.f k s) (out5 (cfgR s)) := by
  unfold spec_ConfigOf.f
  by_cases h : 64 ≤ s.size
  rotate_left
  · rw [cfgR_no1 h]
    exact Ev.pos (by omega) (Ev.eq rfl)
  have hz : (s.extract 0 64).size = 64 := by rw [ByteArray.size_extract]; omega
  refine Ev.neg (by omega) (Ev.pos (by omega) (Ev.bind (spec_ReadSuper_ev _ hz) ?_))
  cases hc : specR (s.extract 0 64) with
  | none =>
    rw [cfgR_no2 h hc]
    exact Ev.neg (by simp [out5]) (Ev.eq rfl)
  | some c =>
    have hf := configOk_facts (specR_ok hc hz)
    have hw : wrap64 (64 * c.1) = 64 * c.1 := w64 (by omega) (by omega)
    refine Ev.pos rfl ?_
    by_cases k : (s.size : Int) = 64 * c.1
    · rw [cfgR_yes h hc k]
      exact Ev.pos (k.trans hw.symm) (Ev.eq rfl)
    · rw [cfgR_no3 h hc k]
      exact Ev.neg (fun e => k (Eq.trans e hw)) (Ev.eq rfl)
theorem impl_ConfigOf_ev (s : ByteArray) (hs : s.size ≤ 140737488355328) : Ev (fun k => impl_ConfigOf.f k s) (out5 (cfgR s)) := by
  unfold impl_ConfigOf.f
  by_cases h : 64 ≤ s.size
  rotate_left
  · rw [cfgR_no1 h]
    exact Ev.pos (by omega) (Ev.eq rfl)
  have hz : (s.extract 0 64).size = 64 := by rw [ByteArray.size_extract]; omega
  have hR := impl_ReadSuper_ev _ hz
  rw [read_same hz] at hR
  refine Ev.neg (by omega) (Ev.pos (by omega) (Ev.bind hR ?_))
  cases hc : specR (s.extract 0 64) with
  | none =>
    rw [cfgR_no2 h hc]
    exact Ev.neg (by simp [out5]) (Ev.eq rfl)
  | some c =>
    have hok := specR_ok hc hz
    have hf := configOk_facts hok
    have hsm := types_small hf.2.2.2.2.2.2.2
    have hI := impl_isImage_ev c s (fun x hx => by have := hsm x hx; omega)
    have hB : isImageB c s = decide ((s.size : Int) = 64 * c.1) := by unfold isImageB; rw [hok, Bool.true_and]
    rw [hB] at hI
    refine Ev.pos rfl (Ev.bind hI ?_)
    by_cases k : (s.size : Int) = 64 * c.1
    · rw [cfgR_yes h hc k]
      exact Ev.pos (decide_eq_true k) (Ev.eq rfl)
    · rw [cfgR_no3 h hc k]
      exact Ev.neg (fun e => k (of_decide_eq_true e)) (Ev.eq rfl)
theorem cfgR_small {s : ByteArray} {c : Cfg} (h : cfgR s = some c) : c.2.2.2.length ≤ 12 := by
  unfold cfgR at h
  split at h
  · rename_i k
    have hz : (s.extract 0 64).size = 64 := by rw [ByteArray.size_extract]; omega
    cases hc : specR (s.extract 0 64) with
    | none => rw [hc] at h; cases h
    | some c' =>
      rw [hc] at h
      simp only [] at h
      split at h
      · injection h with h
        subst h
        exact (types_len (configOk_facts (specR_ok hc hz)).2.2.2.2.2.2.2).2
      · cases h
  · cases h
end Go.Proofs.YtlljkankongifaaDoor.Abs.Pu
