/- The closure of roots: it holds the roots' young references, and with each object what that refers to. No condition. -/
import Derived.Test.YtgfeafcgpeclcaaDoorPYoungClos
namespace Go.Proofs.YtgfeafcgpeclcaaDoor.Abs.Pu
open Go Go.RowKit
set_option linter.unusedVariables false
set_option linter.unusedSectionVars false
set_option linter.unusedSimpArgs false
theorem seeP_pre (out : List Int) (x : Int) : ∃ c, seeP out x = out ++ c := by
  unfold seeP
  split
  · exact ⟨_, rfl⟩
  · exact ⟨[], by simp⟩
theorem seeP_mem {out : List Int} {x : Int} (h : refk x = 2) : x ∈ seeP out x := by
  unfold seeP
  by_cases c : x ∈ out
  · rw [if_neg (fun h => h.2 c)]; exact c
  · rw [if_pos ⟨h, c⟩]; simp
theorem foldl_pre : ∀ (l out : List Int), ∃ c, l.foldl seeP out = out ++ c
  | [], out => ⟨[], by simp⟩
  | x :: l, out => by
    obtain ⟨c1, h1⟩ := seeP_pre out x
    obtain ⟨c2, h2⟩ := foldl_pre l (seeP out x)
    exact ⟨c1 ++ c2, by rw [List.foldl_cons, h2, h1, List.append_assoc]⟩
theorem foldl_mem : ∀ (l out : List Int) (x : Int), x ∈ l → refk x = 2 → x ∈ l.foldl seeP out
  | y :: l, out, x, hx, h => by
    rw [List.foldl_cons]
    rcases List.mem_cons.1 hx with rfl | hx
    · obtain ⟨c, hc⟩ := foldl_pre l (seeP out x)
      rw [hc]
      exact List.mem_append_left _ (seeP_mem h)
    · exact foldl_mem l _ x hx h
theorem valsP_pre (t : ByteArray) : ∀ (l : List Int) (i : Nat) (out : List Int), ∃ c, valsP t i l out = out ++ c
  | [], i, out => ⟨[], by simp [valsP]⟩
  | x :: l, i, out => by
    rw [valsP]
    split
    · obtain ⟨c1, h1⟩ := seeP_pre out x
      obtain ⟨c2, h2⟩ := valsP_pre t l (i + 1) (seeP out x)
      exact ⟨c1 ++ c2, by rw [h2, h1, List.append_assoc]⟩
    · exact valsP_pre t l (i + 1) out
theorem valsP_mem (t : ByteArray) : ∀ (l : List Int) (i : Nat) (out : List Int) (j : Nat) (h : j < l.length), bt t ((i + j : Nat) : Int) = 114 → refk l[j] = 2 → l[j] ∈ valsP t i l out
  | x :: l, i, out, 0, h, hb, hr => by
    rw [valsP, if_pos (by simpa using hb)]
    obtain ⟨c, hc⟩ := valsP_pre t l (i + 1) (seeP out x)
    rw [hc]
    exact List.mem_append_left _ (seeP_mem hr)
  | x :: l, i, out, j + 1, h, hb, hr => by
    have ih := fun out => valsP_mem t l (i + 1) out j (by simpa using h) (by rw [show i + 1 + j = i + (j + 1) from by omega]; exact hb) hr
    rw [valsP]
    split
    · exact ih _
    · exact ih _
theorem closeP_pre (types : List ByteArray) (words : List Int) : ∀ (d i : Nat) (out : List Int), ∃ c, closeP types words d i out = out ++ c
  | 0, i, out => ⟨[], by simp [closeP]⟩
  | d + 1, i, out => by
    rw [closeP]
    split
    · obtain ⟨c1, h1⟩ := valsP_pre (kindsAt types (rd words (rd out (i : Int) / 2))) (valsAt types words (rd out (i : Int) / 2).toNat) 0 out
      obtain ⟨c2, h2⟩ := closeP_pre types words d (i + 1) (valsP (kindsAt types (rd words (rd out (i : Int) / 2))) 0 (valsAt types words (rd out (i : Int) / 2).toNat) out)
      exact ⟨c1 ++ c2, by rw [h2, h1, List.append_assoc]⟩
    · exact ⟨[], by simp⟩
theorem rd_pre {a c : List Int} {i : Nat} (h : i < a.length) : rd (a ++ c) (i : Int) = rd a (i : Int) := by
  rw [rd_get (by rw [List.length_append]; omega), rd_get h, List.getElem_append_left h]
theorem closeP_closed {st : List Int} {types : List ByteArray} {words : List Int} (hsl : st.length ≤ 400) (hfit : ∀ x ∈ st, Fits types words x) (hn : nurB types words st st = true) :
    ∀ (n i : Nat) (out : List Int), Inv st out → 401 ≤ i + n → ∀ j, i ≤ j → j < (closeP types words n i out).length →
      ∀ q (hq : q < (valsAt types words (rd (closeP types words n i out) (j : Int) / 2).toNat).length), bt (kindsAt types (rd words (rd (closeP types words n i out) (j : Int) / 2))) (q : Int) = 114 → refk (valsAt types words (rd (closeP types words n i out) (j : Int) / 2).toNat)[q] = 2 → (valsAt types words (rd (closeP types words n i out) (j : Int) / 2).toNat)[q] ∈ closeP types words n i out
  | 0, i, out, h, hi, j, hij, hj, q, hq, _, _ => by
    have hlen := h.len
    rw [closeP] at hj
    omega
  | n + 1, i, out, h, hi, j, hij, hj, q, hq, hb, hr => by
    by_cases c : i < out.length
    · obtain ⟨m, e, hm, hf, _, _⟩ := out_at h hfit c
      have hob := nurB_mem hn _ hm
      rw [Int.toNat_natCast] at hob
      have hv := valsP_inv (st := st) (t := kindsAt types (rd words (m : Int))) (valsAt types words m) 0 out h hob
      have hR : closeP types words (n + 1) i out = closeP types words n (i + 1) (valsP (kindsAt types (rd words (m : Int))) 0 (valsAt types words m) out) := by
        rw [closeP, if_pos c, e, Int.toNat_natCast]
      revert hj q
      rw [hR]
      intro hj q hq hb hr
      by_cases c2 : j = i
      · subst c2
        obtain ⟨c1, h1⟩ := valsP_pre (kindsAt types (rd words (m : Int))) (valsAt types words m) 0 out
        obtain ⟨c3, h3⟩ := closeP_pre types words n (j + 1) (valsP (kindsAt types (rd words (m : Int))) 0 (valsAt types words m) out)
        have hrd : rd (closeP types words n (j + 1) (valsP (kindsAt types (rd words (m : Int))) 0 (valsAt types words m) out)) (j : Int) = rd out (j : Int) := by
          rw [h3, h1, List.append_assoc, rd_pre c]
        revert q
        rw [hrd, e, Int.toNat_natCast]
        intro q hq hb hr
        have hmem := valsP_mem (kindsAt types (rd words (m : Int))) (valsAt types words m) 0 out q hq (by simpa using hb) hr
        rw [h3]
        exact List.mem_append_left _ hmem
      · exact closeP_closed hsl hfit hn n (i + 1) _ hv.1 (by omega) j (by omega) hj q hq hb hr
    · have hR : closeP types words (n + 1) i out = out := by rw [closeP, if_neg c]
      rw [hR] at hj
      omega
end Go.Proofs.YtgfeafcgpeclcaaDoor.Abs.Pu
