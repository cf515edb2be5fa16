/- Loops: plain lemmas for the proofs about rounds. -/
import Derived.Test.YtommgpkeicpokaaGreatDoorPBase
namespace Go.Proofs.YtommgpkeicpokaaGreatDoor.Abs
open Go Go.RowKit
set_option linter.unusedVariables false
set_option linter.unusedSectionVars false
set_option linter.unusedSimpArgs false

/-- From the end down. -/
theorem down {P : Nat → Prop} {n : Nat} (h0 : P n) (hs : ∀ i, i < n → P (i + 1) → P i) : ∀ i, i ≤ n → P i := by
  have key : ∀ d i, n - i = d → i ≤ n → P i := by
    intro d
    induction d with
    | zero => intro i hd hi; obtain rfl : i = n := by omega
              exact h0
    | succ d ih => intro i hd hi; exact hs i (by omega) (ih (i + 1) (by omega) (by omega))
  exact fun i hi => key _ i rfl hi
theorem w64s {i : Nat} (h : i ≤ 4611686018427387904) : wrap64 ((i : Int) + 1) = ((i + 1 : Nat) : Int) := by
  rw [w64 (by omega) (by omega)]; omega
theorem rdg {α : Type} {d : α} {l : List α} {i : Nat} (h : i < l.length) : rdOf d l (i : Int) = l[i] := by
  simp [rdOf, List.getD_eq_getElem?_getD, List.getElem?_eq_getElem h]

/-- A list filled place by place. -/
theorem fill_ev {α : Type} {l : List α} {g : Nat → List α → Int → Option (List α)} (z : α)
    (hs : ∀ i (h : i < l.length) (out : List α), out.length = l.length → ∀ r, Ev (fun k => g k (out.set i l[i]) ((i + 1 : Nat) : Int)) r → Ev (fun k => g k out (i : Int)) r)
    (hf : ∀ out : List α, out.length = l.length → Ev (fun k => g k out (l.length : Int)) out) : Ev (fun k => g k (List.replicate l.length z) 0) l := by
  have key : ∀ i, i ≤ l.length → ∀ out : List α, out.length = l.length → (∀ j : Nat, j < i → out[j]? = l[j]?) → Ev (fun k => g k out (i : Int)) l := by
    refine down ?_ ?_
    · intro out ho ht
      have : out = l := List.ext_getElem? fun j => by
        by_cases h : j < l.length
        · exact ht j h
        · rw [List.getElem?_eq_none (by omega), List.getElem?_eq_none (by omega)]
      subst this
      exact hf out ho
    · intro i hi ih out ho ht
      refine hs i hi out ho l (ih _ (by rw [List.length_set]; exact ho) fun j hj => ?_)
      by_cases e : j = i
      · subst e; rw [List.getElem?_set_self (by omega), List.getElem?_eq_getElem hi]
      · rw [List.getElem?_set_ne (fun h => e h.symm)]; exact ht j (by omega)
  exact key 0 (Nat.zero_le _) _ (by simp) (fun j hj => by omega)

/-- A sum of non-negative parts, for the sizes of arguments. -/
theorem sz_loop {α : Type} {l : List α} {ok : α → Prop} {g : Nat → Int → Int → Option Int} (hl : l.length ≤ 4611686018427387904)
    (hs : ∀ i (h : i < l.length) (left : Int), 0 ≤ left → left ≤ 1048576 → (∃ r, r < 0 ∧ Ev (fun k => g k left (i : Int)) r) ∨ ∃ left', 0 ≤ left' ∧ left' ≤ left ∧ ok l[i] ∧ ∀ r, Ev (fun k => g k left' ((i + 1 : Nat) : Int)) r → Ev (fun k => g k left (i : Int)) r)
    (hf : ∀ left : Int, Ev (fun k => g k left (l.length : Int)) left) : ∀ left : Int, 0 ≤ left → left ≤ 1048576 → ∃ r, Ev (fun k => g k left 0) r ∧ (0 ≤ r → r ≤ left ∧ ∀ x ∈ l, ok x) := by
  have key : ∀ i, i ≤ l.length → ∀ left : Int, 0 ≤ left → left ≤ 1048576 → ∃ r, Ev (fun k => g k left (i : Int)) r ∧ (0 ≤ r → r ≤ left ∧ ∀ x ∈ l.drop i, ok x) := by
    refine down ?_ ?_
    · intro left h0 h1
      exact ⟨left, hf left, fun _ => ⟨Int.le_refl _, by simp⟩⟩
    · intro i hi ih left h0 h1
      rcases hs i hi left h0 h1 with ⟨r, hr, he⟩ | ⟨left', a0, a1, ho, hst⟩
      · exact ⟨r, he, fun h => by omega⟩
      · obtain ⟨r, he, hr⟩ := ih left' a0 (by omega)
        refine ⟨r, hst r he, fun h => ⟨by have := (hr h).1; omega, ?_⟩⟩
        rw [List.drop_eq_getElem_cons hi]
        intro x hx
        rcases List.mem_cons.1 hx with rfl | hx
        · exact ho
        · exact (hr h).2 x hx
  intro left h0 h1
  obtain ⟨r, he, hr⟩ := key 0 (Nat.zero_le _) left h0 h1
  exact ⟨r, he, by simpa using hr⟩

/-- The references among an object's values, from one on. -/
def refsB (p : Int → Bool) (t : ByteArray) : Nat → List Int → Bool
  | _, [] => true
  | i, v :: l => if bt t (i : Int) = 114 then p v && refsB p t (i + 1) l else refsB p t (i + 1) l
/-- isObject's loop, at any condition. -/
theorem refs_ev {types : List ByteArray} {vals : List Int} {tp : Int} {p : Int → Bool} {t : Nat → Int → Option Bool} {g : Nat → Int → Option Bool} (h0 : 0 ≤ tp) (h1 : tp < types.length) (hv : vals.length = (rdOf ByteArray.empty types tp).size) (hvl : vals.length ≤ 1099511627776)
    (hg : ∀ k (i : Int), g (k + 1) i = (if i < (vals.length : Int) then (if 0 ≤ i then (if i < (vals.length : Int) then (if 0 ≤ tp then (if tp < (types.length : Int) then (if 0 ≤ i then (if i < ((rdOf ByteArray.empty types tp).size : Int) then (if (byteAt (rdOf ByteArray.empty types tp) i) = 114 then ((t k (rd vals i)).bind fun t3 => (if t3 = true then (g k (wrap64 (i + 1))) else (some false))) else (g k (wrap64 (i + 1)))) else none) else none) else none) else none) else none) else none) else (some true)))
    (ht : ∀ x ∈ vals, Ev (fun k => t k x) (p x)) : Ev (fun k => g k 0) (refsB p (rdOf ByteArray.empty types tp) 0 vals) := by
  have key : ∀ i, i ≤ vals.length → Ev (fun k => g k (i : Int)) (refsB p (rdOf ByteArray.empty types tp) i (vals.drop i)) := by
    refine down ?_ ?_
    · rw [List.drop_eq_nil_of_le (Nat.le_refl _)]
      refine Ev.step (fun k => hg k _) ?_
      exact Ev.neg (by omega) (Ev.eq rfl)
    · intro i hi ih
      refine Ev.step (fun k => hg k _) ?_
      rw [rd_get hi, w64s (by omega), List.drop_eq_getElem_cons hi, refsB]
      refine Ev.pos (by omega) (Ev.pos (by omega) (Ev.pos (by omega) (Ev.pos h0 (Ev.pos h1 (Ev.pos (by omega) (Ev.pos (by omega) ?_))))))
      by_cases c : bt (rdOf ByteArray.empty types tp) (i : Int) = 114
      · rw [if_pos c]
        refine Ev.pos c (Ev.bind (ht _ (List.getElem_mem hi)) (Ev.cases (fun c2 => ?_) (fun c2 => ?_)))
        · rw [c2, Bool.true_and]; exact ih
        · rw [Bool.eq_false_iff.2 c2, Bool.false_and]; exact Ev.eq rfl
      · rw [if_neg c]
        exact Ev.neg c ih
  have h := key 0 (Nat.zero_le _)
  rw [List.drop_zero] at h
  exact h
/-- The same answer from every place on. -/
theorem each_ev {β : Type} {n : Nat} {g : Nat → Int → Option β} {r : β} (hs : ∀ i, i < n → Ev (fun k => g k ((i + 1 : Nat) : Int)) r → Ev (fun k => g k (i : Int)) r) (hf : Ev (fun k => g k (n : Int)) r) : Ev (fun k => g k 0) r :=
  down (P := fun i => Ev (fun k => g k (i : Int)) r) hf hs 0 (Nat.zero_le _)
/-- A condition asked of all elements in order. -/
theorem all_ev {α : Type} {l : List α} {p : α → Bool} {g : Nat → Int → Option Bool}
    (hs : ∀ i (h : i < l.length), (p l[i] = true → ∀ r, Ev (fun k => g k ((i + 1 : Nat) : Int)) r → Ev (fun k => g k (i : Int)) r) ∧ (p l[i] = false → Ev (fun k => g k (i : Int)) false))
    (b : Bool) (hf : Ev (fun k => g k (l.length : Int)) b) : Ev (fun k => g k 0) (l.all p && b) := by
  have key : ∀ i, i ≤ l.length → Ev (fun k => g k (i : Int)) ((l.drop i).all p && b) := by
    refine down ?_ ?_
    · rw [List.drop_eq_nil_of_le (Nat.le_refl _)]
      simpa using hf
    · intro i hi ih
      rw [List.drop_eq_getElem_cons hi, List.all_cons]
      cases c : p l[i] with
      | true => rw [Bool.true_and]; exact (hs i hi).1 c _ ih
      | false => rw [Bool.false_and, Bool.false_and]; exact (hs i hi).2 c
  have h := key 0 (Nat.zero_le _)
  rw [List.drop_zero] at h
  exact h
end Go.Proofs.YtommgpkeicpokaaGreatDoor.Abs
