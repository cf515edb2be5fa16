/- Where references go: the reference. For at most 400 references. -/
import Derived.Test.YtgfeafcgpeclcaaDoorPLoop
import Derived.Test.YtgfeafcgpeclcaaDoorF3
namespace Go.Proofs.YtgfeafcgpeclcaaDoor.Abs.Pu
open Go Go.RowKit
set_option linter.unusedVariables false
set_option linter.unusedSectionVars false
set_option linter.unusedSimpArgs false
/-- Where x goes. -/
def fwd1 (x : Int) : List Int → List Int → Int
  | a :: f, b :: t => if a = x then b else fwd1 x f t
  | _, _ => x
theorem fwd1_mem (x : Int) : ∀ f t : List Int, fwd1 x f t = x ∨ (x ∈ f ∧ fwd1 x f t ∈ t)
  | [], _ => Or.inl rfl
  | _ :: _, [] => Or.inl rfl
  | a :: f, b :: t => by
    unfold fwd1
    by_cases c : a = x
    · rw [if_pos c]; exact Or.inr ⟨by simp [c], by simp⟩
    · rw [if_neg c]
      rcases fwd1_mem x f t with h | ⟨h1, h2⟩
      · exact Or.inl h
      · exact Or.inr ⟨List.mem_cons_of_mem _ h1, List.mem_cons_of_mem _ h2⟩
def fwdV (t : ByteArray) (f to : List Int) : Nat → List Int → List Int
  | _, [] => []
  | i, v :: l => (if bt t (i : Int) = 114 then fwd1 v f to else v) :: fwdV t f to (i + 1) l
theorem fwdV_length (t : ByteArray) (f to : List Int) : ∀ (l : List Int) (i : Nat), (fwdV t f to i l).length = l.length
  | [], _ => rfl
  | v :: l, i => by rw [fwdV, List.length_cons, fwdV_length t f to l (i + 1), List.length_cons]
theorem fwdV_get (t : ByteArray) (f to : List Int) : ∀ (l : List Int) (i j : Nat) (h : j < l.length) (h' : j < (fwdV t f to i l).length), (fwdV t f to i l)[j] = if bt t ((i + j : Nat) : Int) = 114 then fwd1 l[j] f to else l[j]
  | [], _, _, h, _ => absurd h (Nat.not_lt_zero _)
  | v :: l, i, 0, _, _ => rfl
  | v :: l, i, j + 1, h, h' => by
    have := fwdV_get t f to l (i + 1) j (by simpa using h) (by rw [fwdV_length]; simpa using h)
    rw [show i + (j + 1) = i + 1 + j from by omega]
    exact this
theorem fwdV_nil (t : ByteArray) : ∀ (l : List Int) (i : Nat), fwdV t [] [] i l = l
  | [], _ => rfl
  | v :: l, i => by
    rw [fwdV, fwdV_nil t l (i + 1)]
    split <;> rfl
theorem fwd1_not {x : Int} : ∀ {f to : List Int}, x ∉ f → fwd1 x f to = x
  | [], _, _ => rfl
  | _ :: _, [], _ => rfl
  | a :: f, b :: t, h => by
    unfold fwd1
    rw [if_neg (fun e => h (by simp [e]))]
    exact fwd1_not (fun hm => h (List.mem_cons_of_mem _ hm))
theorem l4To_ev (x : Int) (f to : List Int) (h : f.length = to.length) (hl : to.length ≤ 400) : Ev (fun k => spec_l4To.f k x f to) (fwd1 x f to) := by
  have key : ∀ i, i ≤ f.length → Ev (fun k => spec_l4To.p6 k x f to (i : Int)) (fwd1 x (f.drop i) (to.drop i)) := by
    refine down ?_ ?_
    · refine Ev.step (fun k => by rw [spec_l4To.p6]) ?_
      rw [List.drop_eq_nil_of_le (Nat.le_refl _)]
      exact Ev.neg (by omega) (Ev.eq (by unfold fwd1; rfl))
    · intro i hi ih
      have hi2 : i < to.length := by omega
      refine Ev.step (fun k => by rw [spec_l4To.p6]) ?_
      rw [rd_get hi, rd_get hi2, w64s (i := i) (by omega), List.drop_eq_getElem_cons hi, List.drop_eq_getElem_cons hi2, fwd1]
      refine Ev.pos (by omega) (Ev.pos (by omega) (Ev.pos (by omega) ?_))
      by_cases c : f[i] = x
      · rw [if_pos c]
        exact Ev.pos c (Ev.pos (by omega) (Ev.pos (by omega) (Ev.eq rfl)))
      · rw [if_neg c]
        exact Ev.neg c ih
  unfold spec_l4To.f
  exact key 0 (Nat.zero_le _)
theorem l4Forward_ev (types : List ByteArray) (o : Int × List Int) (f to : List Int) (h0 : 0 ≤ o.1) (h1 : o.1 < types.length) (h2 : o.2.length = (rdOf ByteArray.empty types o.1).size) (h4 : o.2.length ≤ 1000) (h : f.length = to.length) (hl : to.length ≤ 400) : Ev (fun k => spec_l4Forward.f k types o.1 o.2 f to) (o.1, fwdV (rdOf ByteArray.empty types o.1) f to 0 o.2) := by
  obtain ⟨tp, vals⟩ := o
  simp only [] at *
  have hlen := fwdV_length (rdOf ByteArray.empty types tp) f to vals 0
  have hget := fwdV_get (rdOf ByteArray.empty types tp) f to vals 0
  generalize fwdV (rdOf ByteArray.empty types tp) f to 0 vals = R at *
  have key : ∀ i, i ≤ vals.length → Ev (fun k => spec_l4Forward.p8 k types f to tp vals 0 tp (R.take i) (i : Int)) (tp, R) := by
    refine down ?_ ?_
    · refine Ev.step (fun k => by rw [spec_l4Forward.p8]) ?_
      rw [List.take_of_length_le (by omega)]
      exact Ev.neg (by omega) (Ev.eq rfl)
    · intro i hi ih
      have hi2 : i < R.length := by omega
      refine Ev.step (fun k => by rw [spec_l4Forward.p8]) ?_
      rw [rd_get hi, w64s (i := i) (by omega)]
      rw [take_snoc2 R i hi2, hget i hi hi2, Nat.zero_add] at ih
      have htk : (R.take i).length + 1 ≤ 17592186044416 := by rw [List.length_take]; omega
      refine Ev.pos (by omega) (Ev.pos (by omega) (Ev.pos (by omega) (Ev.pos h0 (Ev.pos h1 (Ev.pos (by omega) (Ev.pos (by omega) ?_))))))
      by_cases c : bt (rdOf ByteArray.empty types tp) (i : Int) = 114
      · rw [if_pos c] at ih
        exact Ev.pos c (Ev.bind (l4To_ev _ f to h hl) (Ev.pos htk ih))
      · rw [if_neg c] at ih
        exact Ev.neg c (Ev.pos htk ih)
  unfold spec_l4Forward.f
  exact key 0 (Nat.zero_le _)
end Go.Proofs.YtgfeafcgpeclcaaDoor.Abs.Pu
