/- Lines of images: plain facts. No condition but that the lines lie in the text. -/
import Derived.Test.YtmciidoohbmipaaPBytes8
namespace Go.Proofs.Ytmciidoohbmipaa.Abs.Pu
open Go Go.RowKit
set_option linter.unusedVariables false
set_option linter.unusedSectionVars false
set_option linter.unusedSimpArgs false
def lineB (s : ByteArray) (n : Nat) : ByteArray := s.extract (64 * n) (64 * n + 64)
theorem lineB_size {s : ByteArray} {n : Nat} (h : 64 * n + 64 ≤ s.size) : (lineB s n).size = 64 := by
  unfold lineB
  rw [ByteArray.size_extract]
  omega
theorem bt_line {s : ByteArray} {n : Nat} (h : 64 * n + 64 ≤ s.size) (i : Nat) (hi : i < 64) : bt (lineB s n) (i : Int) = bt s ((64 * n + i : Nat) : Int) := bt_extract _ _ _ _ (by omega) h
theorem bytes_same {s t : ByteArray} (hs : s.size = t.size) (h : ∀ i : Nat, i < s.size → bt s (i : Int) = bt t (i : Int)) : s = t := by
  have e := extract_ext (s := s) (t := t) (a := 0) (b := s.size) (Nat.le_refl _) (by omega) (fun i _ hi => h i hi)
  have h1 : ∀ u : ByteArray, u.extract 0 u.size = u := fun u => by
    refine bytesOf_inj ?_
    rw [bytesOf_cut, List.drop_zero, Nat.sub_zero, ← bytesOf_length u, List.take_length]
  rw [← h1 s, e, hs, h1 t]
theorem lines_same {s t : ByteArray} (n : Nat) (hs : s.size = 64 * n) (ht : t.size = 64 * n) (h : ∀ L, L < n → lineB s L = lineB t L) : s = t := by
  refine bytes_same (by omega) fun i hi => ?_
  have hL : i / 64 < n := by omega
  have e := h (i / 64) hL
  have h1 := bt_line (s := s) (n := i / 64) (by omega) (i % 64) (by omega)
  have h2 := bt_line (s := t) (n := i / 64) (by omega) (i % 64) (by omega)
  rw [show 64 * (i / 64) + i % 64 = i from by omega] at h1 h2
  rw [← h1, ← h2, e]
theorem lineB_repl {s t : ByteArray} {a L : Nat} (ht : t.size = 64) (h : 64 * a + 64 ≤ s.size) (hL : 64 * L + 64 ≤ s.size) : lineB (replB s (64 * a) t) L = if L = a then t else lineB s L := by
  have hr := repl_size (s := s) (t := t) (p := 64 * a) (by omega)
  have hz : (if L = a then t else lineB s L).size = 64 := by
    split
    · exact ht
    · exact lineB_size hL
  refine bytes_same (by rw [lineB_size (by omega), hz]) fun i hi => ?_
  rw [lineB_size (by omega)] at hi
  rw [bt_line (by omega) i hi, bt_repl (by omega)]
  by_cases c : L = a
  · rw [if_pos c, if_pos (by omega), show 64 * L + i - 64 * a = i from by omega]
  · rw [if_neg c, if_neg (by omega), bt_line hL i hi]
theorem repl_none {s : ByteArray} {p : Nat} (h : p ≤ s.size) : replB s p (⟨#[]⟩ : ByteArray) = s := by
  have h0 : (⟨#[]⟩ : ByteArray).size = 0 := rfl
  refine bytes_same (repl_size (by omega)) fun i hi => ?_
  rw [bt_repl (by omega), if_neg (by omega)]
/-- What copying bytes over others leaves. -/
theorem cpy_repl {s t : ByteArray} {p : Nat} (h : p + t.size ≤ s.size) : cpy (bytesOf s) p t = bytesOf (replB s p t) := by
  have hl := bytesOf_length s
  have ht := bytesOf_length t
  rw [bytesOf_repl h]
  unfold cpy
  rw [numsOf_eq, hl, Nat.min_eq_left (by omega), List.take_of_length_le (l := bytesOf t) (by omega)]
theorem bytesOf_line (s : ByteArray) (n : Nat) (h : 64 * n + 64 ≤ s.size) : (bytesOf s).take (64 * n) ++ bytesOf (lineB s n) = (bytesOf s).take (64 * (n + 1)) := by
  unfold lineB
  rw [bytesOf_cut, show 64 * n + 64 - 64 * n = 64 from by omega, show 64 * (n + 1) = 64 * n + 64 from by omega, List.take_add]
end Go.Proofs.Ytmciidoohbmipaa.Abs.Pu
