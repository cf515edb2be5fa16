/- A word of a text: the reference and the program read the same. For texts of at most 2^47 bytes. -/
import Derived.Test.YtlljkankongifaaDoorPLoop
import Derived.Test.YtlljkankongifaaDoorPWord
import Derived.Test.YtlljkankongifaaDoorF3
namespace Go.Proofs.YtlljkankongifaaDoor.Abs.Pu
open Go Go.RowKit
set_option linter.unusedVariables false
set_option linter.unusedSectionVars false
set_option linter.unusedSimpArgs false
theorem bt_byte (s : ByteArray) : ∀ p i : Nat, 0 ≤ bt s ((p + i : Nat) : Int) ∧ bt s ((p + i : Nat) : Int) ≤ 255 := fun p i => bt_range s _
theorem spec_ReadWord_ev (s : ByteArray) (h : s.size = 8) : Ev (fun k => spec_ReadWord.f k s) (wordv s 0, true) := by
  have key : ∀ i, i ≤ 8 → Ev (fun k => spec_ReadWord.p16 k s (be (fun i => bt s ((0 + i : Nat) : Int)) i) (i : Int)) (wordv s 0, true) := by
    refine down ?_ ?_
    · refine Ev.step (fun k => by rw [spec_ReadWord.p16]) ?_
      exact Ev.neg (by omega) (Ev.eq rfl)
    · intro i hi ih
      refine Ev.step (fun k => by rw [spec_ReadWord.p16]) ?_
      refine Ev.pos (by omega) (Ev.pos (by omega) (Ev.pos (by omega) ?_))
      have e := be_step_u64 (fun i => bt s ((0 + i : Nat) : Int)) (fun i => bt_byte s 0 i) i (by omega)
      simp only [Nat.zero_add] at e ih ⊢
      rw [byteAt_eq, orA_eq, shl8_u64, e, w64s (i := i) (by omega)]
      exact ih
  unfold spec_ReadWord.f
  exact Ev.pos (by omega) (key 0 (by omega))
theorem impl_wordAt_ev (s : ByteArray) (p : Nat) (h : p + 8 ≤ s.size) (hs : s.size ≤ 140737488355328) : Ev (fun k => impl_wordAt.f k s (p : Int)) (wordv s p) := by
  have key : ∀ i, i ≤ 8 → Ev (fun k => impl_wordAt.p8 k s (p : Int) (wrap64 (be (fun i => bt s ((p + i : Nat) : Int)) i)) (i : Int)) (wordv s p) := by
    refine down ?_ ?_
    · refine Ev.step (fun k => by rw [impl_wordAt.p8]) ?_
      exact Ev.neg (by omega) (Ev.eq rfl)
    · intro i hi ih
      refine Ev.step (fun k => by rw [impl_wordAt.p8]) ?_
      rw [show wrap64 ((p : Int) + (i : Int)) = ((p + i : Nat) : Int) from by rw [w64 (by omega) (by omega)]; omega]
      refine Ev.pos (by omega) (Ev.pos (by omega) (Ev.pos (by omega) ?_))
      have e := be_step_i64 (fun i => bt s ((p + i : Nat) : Int)) (fun i => bt_byte s p i) i
      rw [byteAt_eq, orA_eq, shl8_i64, e, w64s (i := i) (by omega)]
      exact ih
  unfold impl_wordAt.f
  have h := key 0 (by omega)
  rwa [show wrap64 (be (fun i => bt s ((p + i : Nat) : Int)) 0) = 0 from by simp only [be]; exact w64 (by omega) (by omega)] at h
theorem wordv_extract (s : ByteArray) (p : Nat) (h : p + 8 ≤ s.size) : wordv (s.extract p (p + 8)) 0 = wordv s p := by
  unfold wordv
  refine congrArg wrap64 (be_congr 8 (fun i hi => ?_))
  rw [Nat.zero_add]
  exact bt_extract s p (p + 8) i (by omega) h
end Go.Proofs.YtlljkankongifaaDoor.Abs.Pu
