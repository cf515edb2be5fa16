/- A hurt text: every draw answers; at most one byte more. For codes of at most 2^40 bytes, texts of at most 60000. -/
import Derived.Test.YtommgpkeicpokaaGreatDoorPDraws
namespace Go.Proofs.YtommgpkeicpokaaGreatDoor.Abs.Pu
open Go Go.RowKit
set_option linter.unusedVariables false
set_option linter.unusedSectionVars false
set_option linter.unusedSimpArgs false
theorem one4 (a b c d : UInt8) {v : Int} (h0 : 0 ≤ v) (h1 : v < 4) : (rdOf ByteArray.empty [(⟨#[a]⟩ : ByteArray), (⟨#[b]⟩ : ByteArray), (⟨#[c]⟩ : ByteArray), (⟨#[d]⟩ : ByteArray)] v).size = 1 := by
  obtain rfl | rfl | rfl | rfl : v = 0 ∨ v = 1 ∨ v = 2 ∨ v = 3 := by omega
  all_goals rfl
theorem hurt_f {l : List Int} {p : Int} (h : Rd l p) (s : ByteArray) (hs : s.size ≤ 60000) : ∃ s' q, spec_l1Rd_hurt.f l p s = some (l, q, s') ∧ s'.size ≤ s.size + 1 ∧ Rd l q := by
  obtain ⟨a, q, ea, ha0, ha1, hq⟩ := below_f h 6 (by omega) (by omega)
  unfold spec_l1Rd_hurt.f
  rw [ea, Option.bind_some]
  simp only []
  by_cases c1 : a = 1
  · obtain ⟨b, q2, eb, hb0, hb1, hq2⟩ := below_f hq ((s.size : Int) + 1) (by omega) (by omega)
    rw [if_pos c1, w64 (x := (s.size : Int) + 1) (by omega) (by omega), eb, Option.bind_some]
    simp only []
    rw [if_pos hb0, if_pos (by omega)]
    exact ⟨_, _, rfl, by rw [ByteArray.size_extract]; omega, hq2⟩
  rw [if_neg c1]
  by_cases c2 : a = 2
  · rw [if_pos c2]
    by_cases c3 : (s.size : Int) > 0
    · obtain ⟨b, q2, eb, hb0, hb1, hq2⟩ := below_f hq (s.size : Int) (by omega) (by omega)
      obtain ⟨d, q3, ed, hd0, hd1, hq3⟩ := below_f hq2 4 (by omega) (by omega)
      have ho := one4 0 55 255 32 hd0 hd1
      rw [if_pos c3, eb, Option.bind_some]
      simp only []
      rw [if_pos hb0, if_pos (by omega), ed, Option.bind_some]
      simp only []
      rw [if_pos hd0, if_pos hd1, w64 (x := b + 1) (by omega) (by omega), if_pos (by rw [ByteArray.size_extract, ho]; omega), if_pos (by omega), if_pos (by omega), if_pos (by rw [ByteArray.size_append, ByteArray.size_extract, ByteArray.size_extract, ho]; omega)]
      exact ⟨_, _, rfl, by rw [ByteArray.size_append, ByteArray.size_append, ByteArray.size_extract, ByteArray.size_extract, ho]; omega, hq3⟩
    · rw [if_neg c3]
      exact ⟨_, _, rfl, by omega, hq⟩
  rw [if_neg c2]
  by_cases c3 : a = 3
  · obtain ⟨d, q3, ed, hd0, hd1, hq3⟩ := below_f hq 4 (by omega) (by omega)
    have ho := one4 0 49 10 32 hd0 hd1
    rw [if_pos c3, ed, Option.bind_some]
    simp only []
    rw [if_pos hd0, if_pos hd1, if_pos (by rw [ho]; omega)]
    exact ⟨_, _, rfl, by rw [ByteArray.size_append, ho]; omega, hq3⟩
  · rw [if_neg c3]
    exact ⟨_, _, rfl, by omega, hq⟩
end Go.Proofs.YtommgpkeicpokaaGreatDoor.Abs.Pu
