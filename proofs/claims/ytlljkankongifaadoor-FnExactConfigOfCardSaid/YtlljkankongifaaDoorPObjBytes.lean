/- The bytes of objects, and objects of bytes: no program in sight. No condition. -/
import Derived.Test.YtlljkankongifaaDoorPBytes8
import Derived.Test.YtlljkankongifaaDoorPObjW
namespace Go.Proofs.YtlljkankongifaaDoor.Abs.Pu
open Go Go.RowKit
set_option linter.unusedVariables false
set_option linter.unusedSectionVars false
set_option linter.unusedSimpArgs false
/-- The bytes of words. -/
def WL : List Int → List Int
  | [] => []
  | n :: l => wordL (IntKind.u64.wrap n) ++ WL l
theorem wordL_length (u : Int) : (wordL u).length = 8 := rfl
theorem WL_length : ∀ l : List Int, (WL l).length = 8 * l.length
  | [] => rfl
  | n :: l => by rw [WL, List.length_append, wordL_length, WL_length l, List.length_cons]; omega
theorem WL_append : ∀ a b : List Int, WL (a ++ b) = WL a ++ WL b
  | [], _ => rfl
  | n :: a, b => by rw [List.cons_append, WL, WL, WL_append a b, List.append_assoc]
theorem WL_isBytes : ∀ l : List Int, isBytes (WL l)
  | [], x, hx => by cases hx
  | n :: l, x, hx => by
    rw [WL, List.mem_append] at hx
    rcases hx with hx | hx
    · exact wordL_isBytes _ x hx
    · exact WL_isBytes l x hx
theorem strOfNums_append (a b : List Int) : strOfNums (a ++ b) = strOfNums a ++ strOfNums b := by
  unfold strOfNums
  rw [List.map_append]
  apply ByteArray.ext
  rw [ByteArray.data_append]
  simp
theorem isBytes_append {a b : List Int} (ha : isBytes a) (hb : isBytes b) : isBytes (a ++ b) := fun x hx => by
  rcases List.mem_append.1 hx with hx | hx
  · exact ha x hx
  · exact hb x hx
/-- A word among words. -/
theorem wordv_WL (pre post z : List Int) (n : Int) (hz : isBytes z) (h0 : -9223372036854775808 ≤ n) (h1 : n ≤ 9223372036854775807) : wordv (strOfNums (WL (pre ++ n :: post) ++ z)) (8 * pre.length) = n := by
  have e := wordv_wordB n h0 h1
  unfold wordv at e ⊢
  refine Eq.trans (congrArg wrap64 (be_congr 8 (fun i hi => ?_))) e
  rw [bt_bytesOf, bt_bytesOf, bytesOf_strOfNums (isBytes_append (WL_isBytes _) hz), wordB, bytesOf_strOfNums (wordL_isBytes _), WL_append, WL, Nat.zero_add]
  simp only [List.getD_eq_getElem?_getD]
  rw [List.append_assoc, List.getElem?_append_right (by rw [WL_length]; omega), WL_length, show 8 * pre.length + i - 8 * pre.length = i from by omega, List.append_assoc, List.getElem?_append_left (by rw [wordL_length]; exact hi)]
/-- The lines of an object of a type. -/
def runL (types : List ByteArray) (t : Int) : Nat := ((rdOf ByteArray.empty types t).size + 8) / 8
def objB8 (types : List ByteArray) (o : Int × List Int) : ByteArray := strOfNums (WL ((o.1 + 1) :: o.2) ++ List.replicate (64 * runL types o.1 - 8 * (o.2.length + 1)) 0)
def okRef8 (x : Int) : Bool := true
theorem runL_bound {types : List ByteArray} (ht : typesOk types = true) (t : Int) : 1 ≤ runL types t ∧ runL types t ≤ 3 ∧ (rdOf ByteArray.empty types t).size + 1 ≤ 8 * runL types t := by
  have := type_size ht t
  unfold runL
  omega
theorem objB8_size {types : List ByteArray} {o : Int × List Int} (ht : typesOk types = true) (h : o.2.length = (rdOf ByteArray.empty types o.1).size) : (objB8 types o).size = 64 * runL types o.1 := by
  have := runL_bound ht o.1
  rw [objB8, strOfNums_size, List.length_append, WL_length, List.length_cons, List.length_replicate]
  omega
theorem objB8_head {types : List ByteArray} {o : Int × List Int} (h0 : 0 ≤ o.1) (h1 : o.1 ≤ 100) : wordv (objB8 types o) 0 = o.1 + 1 :=
  wordv_WL [] o.2 _ (o.1 + 1) (isBytes_replicate _) (by omega) (by omega)
theorem objB8_val {types : List ByteArray} {o : Int × List Int} (i : Nat) (h : i < o.2.length) (hi : ∀ x ∈ o.2, -9223372036854775808 ≤ x ∧ x ≤ 9223372036854775807) : wordv (objB8 types o) (8 + 8 * i) = o.2[i] := by
  have hx := hi _ (List.getElem_mem h)
  have hs : o.2 = o.2.take i ++ o.2[i] :: o.2.drop (i + 1) := by
    rw [← List.drop_eq_getElem_cons h, List.take_append_drop]
  have := wordv_WL ((o.1 + 1) :: o.2.take i) (o.2.drop (i + 1)) (List.replicate (64 * runL types o.1 - 8 * (o.2.length + 1)) 0) o.2[i] (isBytes_replicate _) hx.1 hx.2
  rw [List.cons_append, ← hs, List.length_cons, List.length_take, show 8 * (min i o.2.length + 1) = 8 + 8 * i from by omega] at this
  exact this
/-- The values that stand in bytes. -/
def valsOf (s : ByteArray) (n : Nat) : List Int := (List.range n).map fun i => wordv s (8 + 8 * i)
theorem valsOf_objB8 {types : List ByteArray} {o : Int × List Int} (hi : ∀ x ∈ o.2, -9223372036854775808 ≤ x ∧ x ≤ 9223372036854775807) : valsOf (objB8 types o) o.2.length = o.2 := by
  refine List.ext_getElem (by simp [valsOf]) (fun i h1 h2 => ?_)
  simp only [valsOf, List.getElem_map, List.getElem_range]
  exact objB8_val i h2 hi
end Go.Proofs.YtlljkankongifaaDoor.Abs.Pu
