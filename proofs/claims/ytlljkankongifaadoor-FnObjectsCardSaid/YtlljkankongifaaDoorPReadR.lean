/- What reading an object from bytes comes to, and that it gives back what was written. No condition. -/
import Derived.Test.YtlljkankongifaaDoorPObjBytes
import Derived.Test.YtlljkankongifaaDoorPRefs
namespace Go.Proofs.YtlljkankongifaaDoor.Abs.Pu
open Go Go.RowKit
set_option linter.unusedVariables false
set_option linter.unusedSectionVars false
set_option linter.unusedSimpArgs false
def okRf (x : Int) : Bool := decide (refk x ≥ 0)
def objOk8 (types : List ByteArray) (o : Int × List Int) : Bool := typesOk types && objW okRf types o
def bytesR (types : List ByteArray) (o : Int × List Int) : ByteArray := if objOk8 types o = true then objB8 types o else ByteArray.empty
def readO (types : List ByteArray) (s : ByteArray) : Int × List Int := (wordv s 0 - 1, valsOf s (rdOf ByteArray.empty types (wordv s 0 - 1)).size)
def readR (types : List ByteArray) (s : ByteArray) : (Int × List Int) × Bool :=
  if typesOk types = true ∧ 64 ≤ s.size ∧ (1 ≤ wordv s 0 ∧ wordv s 0 ≤ types.length) ∧ s.size = 64 * runL types (wordv s 0 - 1) ∧ bytesR types (readO types s) = s then (readO types s, true) else ((0, []), false)
theorem objOk8_facts {types : List ByteArray} {o : Int × List Int} (h : objOk8 types o = true) : typesOk types = true ∧ 0 ≤ o.1 ∧ o.1 < types.length ∧ types.length ≤ 12 ∧ o.2.length = (rdOf ByteArray.empty types o.1).size ∧ o.2.length ≤ 23 ∧ refsB okRf (rdOf ByteArray.empty types o.1) 0 o.2 = true := by
  unfold objOk8 objW at h
  simp only [Bool.and_eq_true, decide_eq_true_eq] at h
  have := type_size h.1 o.1
  have := types_len h.1
  exact ⟨h.1, h.2.1.1, by omega, by omega, h.2.2.1, by omega, h.2.2.2⟩
theorem readR_yes {types : List ByteArray} {s : ByteArray} (h : (readR types s).2 = true) : (readR types s).1 = readO types s ∧ bytesR types (readO types s) = s ∧ objOk8 types (readO types s) = true ∧ s.size = 64 * runL types (wordv s 0 - 1) ∧ 64 ≤ s.size := by
  unfold readR at h ⊢
  split at h
  · rename_i c
    rw [if_pos c]
    refine ⟨rfl, c.2.2.2.2, ?_, c.2.2.2.1, c.2.1⟩
    by_cases e : objOk8 types (readO types s) = true
    · exact e
    · have h2 := c.2.2.2.2
      unfold bytesR at h2
      rw [if_neg e] at h2
      have h3 := c.2.1
      rw [← h2] at h3
      exact absurd h3 (by decide)
  · cases h
theorem readO_bytes {types : List ByteArray} {o : Int × List Int} (h : objOk8 types o = true) (hi : ∀ x ∈ o.2, -9223372036854775808 ≤ x ∧ x ≤ 9223372036854775807) : readO types (objB8 types o) = o ∧ wordv (objB8 types o) 0 = o.1 + 1 := by
  obtain ⟨ht, h0, h1, h2, h3, h4, h5⟩ := objOk8_facts h
  have hh := objB8_head (types := types) h0 (by omega)
  refine ⟨?_, hh⟩
  unfold readO
  rw [hh, show o.1 + 1 - 1 = o.1 from by omega, ← h3, valsOf_objB8 hi]
/-- What was written is read. -/
theorem readR_bytes {types : List ByteArray} {o : Int × List Int} (h : objOk8 types o = true) (hi : ∀ x ∈ o.2, -9223372036854775808 ≤ x ∧ x ≤ 9223372036854775807) : readR types (bytesR types o) = (o, true) := by
  obtain ⟨ht, h0, h1, h2, h3, h4, h5⟩ := objOk8_facts h
  obtain ⟨e1, e2⟩ := readO_bytes h hi
  have hz := objB8_size ht h3
  have hr := runL_bound ht o.1
  have hb : bytesR types o = objB8 types o := by unfold bytesR; rw [if_pos h]
  rw [hb]
  unfold readR
  rw [if_pos ⟨ht, by omega, by omega, by rw [e2, show o.1 + 1 - 1 = o.1 from by omega]; exact hz, by rw [e1]; exact hb⟩, e1]
theorem readR_none (types : List ByteArray) : readR types ByteArray.empty = ((0, []), false) := by
  unfold readR
  rw [if_neg (fun h => absurd h.2.1 (by decide))]
theorem readR_length (types : List ByteArray) (s : ByteArray) : (readR types s).1.2.length ≤ 23 := by
  by_cases h : (readR types s).2 = true
  · have h2 := readR_yes h
    rw [h2.1]
    exact (objOk8_facts h2.2.2.1).2.2.2.2.2.1
  · unfold readR at h ⊢
    split
    · rename_i c
      rw [if_pos c] at h
      exact absurd rfl h
    · exact Nat.zero_le _
end Go.Proofs.YtlljkankongifaaDoor.Abs.Pu
