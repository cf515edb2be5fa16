/- Texts with other bytes from a place on: the reference and the program. For texts of at most 2^47 bytes. -/
import Derived.Test.YtmciidoohbmipaaPBytes8
import Derived.Test.YtmciidoohbmipaaF3
namespace Go.Proofs.Ytmciidoohbmipaa.Abs.Pu
open Go Go.RowKit
set_option linter.unusedVariables false
set_option linter.unusedSectionVars false
set_option linter.unusedSimpArgs false
theorem spec_l2With_f (s t : ByteArray) (p : Nat) (h : p + t.size ≤ s.size) (hs : s.size ≤ 140737488355328) : spec_l2With.f s (p : Int) t = some (replB s p t) := by
  have h1 : wrap64 ((p : Int) + (t.size : Int)) = ((p + t.size : Nat) : Int) := by rw [w64 (by omega) (by omega)]; omega
  unfold spec_l2With.f replB
  rw [h1]
  simp only [Int.toNat_natCast, ByteArray.size_append, ByteArray.size_extract]
  rw [if_pos (by omega), if_pos (by omega), if_pos (by omega), if_pos (by omega), if_pos (by omega), if_pos (by omega)]
theorem impl_replaced_f (s t : ByteArray) (p : Nat) (h : p + t.size ≤ s.size) (hs : s.size ≤ 140737488355328) : impl_replaced.f s (p : Int) t = some (replB s p t) := by
  have h1 : wrap64 ((p : Int) + (t.size : Int)) = ((p + t.size : Nat) : Int) := by rw [w64 (by omega) (by omega)]; omega
  unfold impl_replaced.f replB
  rw [h1]
  simp only [Int.toNat_natCast, ByteArray.size_append, ByteArray.size_extract]
  rw [if_pos (by omega), if_pos (by omega), if_pos (by omega), if_pos (by omega), if_pos (by omega), if_pos (by omega)]
end Go.Proofs.Ytmciidoohbmipaa.Abs.Pu
