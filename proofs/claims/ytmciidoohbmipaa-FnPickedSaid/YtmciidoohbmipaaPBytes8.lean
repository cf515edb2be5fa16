/- A number's eight bytes, and an image one of whose words is replaced. No condition. -/
import Derived.Test.YtmciidoohbmipaaPWord
import Derived.Test.YtmciidoohbmipaaPBits
namespace Go.Proofs.Ytmciidoohbmipaa.Abs.Pu
open Go Go.RowKit
set_option linter.unusedVariables false
set_option linter.unusedSectionVars false
set_option linter.unusedSimpArgs false
def byte8 (u : Int) (i : Nat) : Int := u / 2 ^ (56 - 8 * i) % 256
def wordL (u : Int) : List Int := [byte8 u 0, byte8 u 1, byte8 u 2, byte8 u 3, byte8 u 4, byte8 u 5, byte8 u 6, byte8 u 7]
def wordB (n : Int) : ByteArray := strOfNums (wordL (IntKind.u64.wrap n))
theorem wordB_size (n : Int) : (wordB n).size = 8 := by rw [wordB, strOfNums_size]; rfl
theorem wordL_isBytes (u : Int) : isBytes (wordL u) := by
  intro x hx
  simp only [wordL, List.mem_cons, List.not_mem_nil, or_false, byte8] at hx
  omega
theorem wrap_u64 (x : Int) : IntKind.u64.wrap x = x % 18446744073709551616 := by
  simp [IntKind.wrap, IntKind.bits, IntKind.signed]
theorem wordv_wordB (n : Int) (h0 : -9223372036854775808 ≤ n) (h1 : n ≤ 9223372036854775807) : wordv (wordB n) 0 = n := by
  have hb : ∀ i, bt (wordB n) ((0 + i : Nat) : Int) = (wordL (IntKind.u64.wrap n)).getD i 0 := by
    intro i
    rw [bt_bytesOf, wordB, bytesOf_strOfNums (wordL_isBytes _), Nat.zero_add]
  unfold wordv
  simp only [hb]
  rw [wrap_u64]
  generalize hu : n % 18446744073709551616 = u
  have hu0 : 0 ≤ u ∧ u < 18446744073709551616 := by omega
  have e : be (fun i => (wordL u).getD i 0) 8 = u := by
    simp only [be, wordL, List.getD_cons_zero, List.getD_cons_succ, byte8]
    simp only [Nat.mul_zero, Nat.sub_zero, Nat.reduceMul, Nat.reduceSub, Int.reducePow, Int.pow_zero, Int.ediv_one]
    omega
  rw [e]
  unfold wrap64
  omega
/-- An image with other bytes from a place on. -/
def replB (s : ByteArray) (p : Nat) (t : ByteArray) : ByteArray := (s.extract 0 p ++ t) ++ s.extract (p + t.size) s.size
theorem repl_size {s t : ByteArray} {p : Nat} (h : p + t.size ≤ s.size) : (replB s p t).size = s.size := by
  simp only [replB, ByteArray.size_append, ByteArray.size_extract]
  omega
theorem bytesOf_append (s t : ByteArray) : bytesOf (s ++ t) = bytesOf s ++ bytesOf t := by
  unfold bytesOf
  rw [ByteArray.data_append, Array.toList_append, List.map_append]
theorem bytesOf_cut (s : ByteArray) (a b : Nat) : bytesOf (s.extract a b) = ((bytesOf s).drop a).take (b - a) := by
  unfold bytesOf
  rw [ByteArray.data_extract, Array.toList_extract, List.extract_eq_take_drop, List.map_take, List.map_drop]
theorem bytesOf_repl {s t : ByteArray} {p : Nat} (h : p + t.size ≤ s.size) : bytesOf (replB s p t) = (bytesOf s).take p ++ (bytesOf t ++ (bytesOf s).drop (p + t.size)) := by
  unfold replB
  rw [bytesOf_append, bytesOf_append, bytesOf_cut, bytesOf_cut, List.drop_zero, Nat.sub_zero, List.append_assoc]
  rw [List.take_of_length_le (l := (bytesOf s).drop (p + t.size)) (by rw [List.length_drop, bytesOf_length]; omega)]
theorem bt_repl {s t : ByteArray} {p : Nat} (h : p + t.size ≤ s.size) (i : Nat) : bt (replB s p t) (i : Int) = if p ≤ i ∧ i < p + t.size then bt t ((i - p : Nat) : Int) else bt s (i : Int) := by
  rw [bt_bytesOf, bt_bytesOf, bt_bytesOf, bytesOf_repl h]
  have hl := bytesOf_length s
  have ht := bytesOf_length t
  have htk : ((bytesOf s).take p).length = p := by rw [List.length_take]; omega
  simp only [List.getD_eq_getElem?_getD]
  by_cases c0 : i < p
  · rw [if_neg (by omega), List.getElem?_append_left (by omega), List.getElem?_take_of_lt c0]
  · rw [List.getElem?_append_right (by omega), htk]
    by_cases c1 : i < p + t.size
    · rw [if_pos (by omega), List.getElem?_append_left (by omega)]
    · rw [if_neg (by omega), List.getElem?_append_right (by omega), List.getElem?_drop, show p + t.size + (i - p - (bytesOf t).length) = i from by omega]
theorem wordv_repl_same {s : ByteArray} {p : Nat} (n : Int) (h : p + 8 ≤ s.size) (h0 : -9223372036854775808 ≤ n) (h1 : n ≤ 9223372036854775807) : wordv (replB s p (wordB n)) p = n := by
  have e := wordv_wordB n h0 h1
  have hz := wordB_size n
  unfold wordv at e ⊢
  refine Eq.trans (congrArg wrap64 (be_congr 8 (fun i hi => ?_))) e
  rw [bt_repl (by omega), if_pos (by omega), show p + i - p = 0 + i from by omega]
theorem wordv_repl_other {s t : ByteArray} {p q : Nat} (h : p + t.size ≤ s.size) (hd : q + 8 ≤ p ∨ p + t.size ≤ q) : wordv (replB s p t) q = wordv s q := by
  unfold wordv
  refine congrArg wrap64 (be_congr 8 (fun i hi => ?_))
  rw [bt_repl h, if_neg (by omega)]
theorem extract_ext {s t : ByteArray} {a b : Nat} (hs : b ≤ s.size) (ht : b ≤ t.size) (h : ∀ i : Nat, a ≤ i → i < b → bt s (i : Int) = bt t (i : Int)) : s.extract a b = t.extract a b := by
  refine bytesOf_inj ?_
  rw [bytesOf_cut, bytesOf_cut]
  refine List.ext_getElem (by simp only [List.length_take, List.length_drop, bytesOf_length]; omega) fun i h1 h2 => ?_
  simp only [List.length_take, List.length_drop, bytesOf_length] at h1 h2
  have hi := h (a + i) (by omega) (by omega)
  rw [bt_bytesOf, bt_bytesOf, List.getD_eq_getElem?_getD, List.getD_eq_getElem?_getD, List.getElem?_eq_getElem (by rw [bytesOf_length]; omega), List.getElem?_eq_getElem (by rw [bytesOf_length]; omega)] at hi
  simpa using hi
theorem wordv_range (s : ByteArray) (p : Nat) : -9223372036854775808 ≤ wordv s p ∧ wordv s p ≤ 9223372036854775807 := wrap64_range _
end Go.Proofs.Ytmciidoohbmipaa.Abs.Pu
