/- Search in a list: the reference's place, the library's binary search in a sorted list. For lists of at most 2^40 numbers. -/
import Derived.Test.YtgfeafcgpeclcaaDoorPBase
import Derived.Test.YtgfeafcgpeclcaaDoorF3
namespace Go.Proofs.YtgfeafcgpeclcaaDoor.Abs
open Go Go.RowKit
set_option linter.unusedVariables false
set_option linter.unusedSectionVars false
set_option linter.unusedSimpArgs false
theorem sorted_ext : ∀ {l m : List Int}, l.Pairwise (· < ·) → m.Pairwise (· < ·) → (∀ x, x ∈ l ↔ x ∈ m) → l = m
  | [], [], _, _, _ => rfl
  | [], y :: m, _, _, h => absurd ((h y).2 (List.mem_cons_self ..)) (by simp)
  | x :: l, [], _, _, h => absurd ((h x).1 (List.mem_cons_self ..)) (by simp)
  | x :: l, y :: m, hl, hm, h => by
    rw [List.pairwise_cons] at hl hm
    have e : x = y := by
      rcases List.mem_cons.1 ((h x).1 (List.mem_cons_self ..)) with e | hx
      · exact e
      · rcases List.mem_cons.1 ((h y).2 (List.mem_cons_self ..)) with e | hy
        · exact e.symm
        · have h1 := hl.1 y hy
          have h2 := hm.1 x hx
          omega
    subst e
    rw [sorted_ext hl.2 hm.2 (fun z => ?_)]
    have hz := h z
    simp only [List.mem_cons] at hz
    constructor
    · intro h1
      have h2 := hl.1 z h1
      rcases hz.1 (.inr h1) with e | h3
      · omega
      · exact h3
    · intro h1
      have h2 := hm.1 z h1
      rcases hz.2 (.inr h1) with e | h3
      · omega
      · exact h3
theorem placeIn_ev (l : List Int) (x : Int) (hl : l.length ≤ 1099511627776) : ∃ r, Ev (fun k => spec_l7Place.f k l x) r ∧ ((0 ≤ r ∧ x ∈ l) ∨ (r = -1 ∧ x ∉ l)) := by
  have lp : ∀ (d i : Nat), l.length - i = d → i ≤ l.length → x ∉ l.take i → ∃ r, Ev (fun k => spec_l7Place.p6 k l x (i : Int)) r ∧ ((0 ≤ r ∧ x ∈ l) ∨ (r = -1 ∧ x ∉ l)) := by
    intro d
    induction d with
    | zero =>
      intro i hd hi hx
      refine ⟨-1, Ev.step (fun k => by rw [spec_l7Place.p6]) (Ev.neg (by omega) (Ev.eq rfl)), .inr ⟨rfl, ?_⟩⟩
      rwa [List.take_of_length_le (by omega)] at hx
    | succ d ih =>
      intro i hd hi hx
      have hlt : i < l.length := by omega
      by_cases e : l[i] = x
      · refine ⟨i, Ev.step (fun k => by rw [spec_l7Place.p6]) ?_, .inl ⟨by omega, e ▸ List.getElem_mem hlt⟩⟩
        rw [rd_get hlt]
        exact Ev.pos (by omega) (Ev.pos (by omega) (Ev.pos (by omega) (Ev.pos e (Ev.eq rfl))))
      · obtain ⟨r, hr, hp⟩ := ih (i + 1) (by omega) (by omega) (by
          rw [take_snoc2 l i hlt, List.mem_append]
          simp only [List.mem_singleton]
          rintro (h | h)
          · exact hx h
          · exact e h.symm)
        refine ⟨r, Ev.step (fun k => by rw [spec_l7Place.p6]) ?_, hp⟩
        rw [rd_get hlt, show wrap64 ((i : Int) + 1) = ((i + 1 : Nat) : Int) from by rw [w64 (by omega) (by omega)]; omega]
        exact Ev.pos (by omega) (Ev.pos (by omega) (Ev.pos (by omega) (Ev.neg e hr)))
  unfold spec_l7Place.f
  exact lp _ 0 rfl (by omega) (by simp)
theorem less_f (a b : Int) : cmp_Less_int64.f a b = some (decide (a < b)) := by
  unfold cmp_Less_int64.f cmp_isNaN_int64.f
  simp
theorem nan_f (a : Int) : slices_isNaN_int64.f a = some false := by
  unfold slices_isNaN_int64.f
  simp
theorem bsearch_ev (l : List Int) (x : Int) (hs : l.Pairwise (· < ·)) (hl : l.length ≤ 1099511627776) : ∃ (i : Nat) (f : Bool), Ev (fun k => slices_BinarySearch_int64.f k l x) ((i : Int), f) ∧ i ≤ l.length ∧ (∀ j (h : j < l.length), j < i → l[j] < x) ∧ (∀ j (h : j < l.length), i < j → x < l[j]) ∧ (f = true → ∃ h : i < l.length, l[i] = x) ∧ (f = false → ∀ h : i < l.length, x < l[i]) := by
  rw [List.pairwise_iff_getElem] at hs
  have u64 : ∀ y : Int, 0 ≤ y → y < 18446744073709551616 → IntKind.u64.wrap y = y := by
    intro y h0 h1
    simp only [IntKind.wrap, IntKind.bits, IntKind.signed]
    simp
    omega
  have lp : ∀ (d lo hi : Nat), hi - lo ≤ d → lo ≤ hi → hi ≤ l.length → (∀ j (h : j < l.length), j < lo → l[j] < x) → (∀ j (h : j < l.length), hi ≤ j → x ≤ l[j]) →
      ∃ (i : Nat) (f : Bool), Ev (fun k => slices_BinarySearch_int64.p8 k l x (l.length : Int) (lo : Int) (hi : Int)) ((i : Int), f) ∧ i ≤ l.length ∧ (∀ j (h : j < l.length), j < i → l[j] < x) ∧ (∀ j (h : j < l.length), i < j → x < l[j]) ∧ (f = true → ∃ h : i < l.length, l[i] = x) ∧ (f = false → ∀ h : i < l.length, x < l[i]) := by
    intro d
    induction d with
    | zero =>
      intro lo hi hd hle hhi h1 h2
      obtain rfl : lo = hi := by omega
      by_cases hlt : lo < l.length
      · have hge := h2 lo hlt (Nat.le_refl _)
        have hup : ∀ j (h : j < l.length), lo < j → x < l[j] := fun j h hj => by
          have := hs lo j hlt h hj
          omega
        by_cases e : l[lo] = x
        · refine ⟨lo, true, ?_, by omega, h1, hup, fun _ => ⟨hlt, e⟩, by simp⟩
          refine Ev.step (fun k => by rw [slices_BinarySearch_int64.p8]) ?_
          rw [rd_get hlt]
          exact Ev.neg (by omega) (Ev.pos (by omega) (Ev.pos (by omega) (Ev.pos (by omega) (Ev.pos e (Ev.eq rfl)))))
        · refine ⟨lo, false, ?_, by omega, h1, hup, by simp, fun _ _ => by omega⟩
          refine Ev.step (fun k => by rw [slices_BinarySearch_int64.p8]) ?_
          rw [rd_get hlt]
          refine Ev.neg (by omega) (Ev.pos (by omega) (Ev.pos (by omega) (Ev.pos (by omega) (Ev.neg e (Ev.pos (by omega) (Ev.pos (by omega) ?_))))))
          exact Ev.bindo (nan_f _) (Ev.neg (by simp) (Ev.eq rfl))
      · refine ⟨lo, false, ?_, by omega, h1, fun j h hj => by omega, by simp, fun _ h => by omega⟩
        refine Ev.step (fun k => by rw [slices_BinarySearch_int64.p8]) ?_
        exact Ev.neg (by omega) (Ev.neg (by omega) (Ev.eq rfl))
    | succ d ih =>
      intro lo hi hd hle hhi h1 h2
      by_cases c : lo < hi
      · have hm : (lo + hi) / 2 < l.length := by omega
        have e1 : wrap64 (IntKind.u64.wrap (wrap64 ((lo : Int) + (hi : Int))) / 2) = (((lo + hi) / 2 : Nat) : Int) := by
          rw [w64 (x := (lo : Int) + (hi : Int)) (by omega) (by omega), u64 _ (by omega) (by omega), w64 (by omega) (by omega)]
          omega
        by_cases c2 : l[(lo + hi) / 2] < x
        · obtain ⟨i, f, hev, hr⟩ := ih ((lo + hi) / 2 + 1) hi (by omega) (by omega) hhi (fun j h hj => by
            by_cases e : j = (lo + hi) / 2
            · subst e; exact c2
            · have := hs j ((lo + hi) / 2) h hm (by omega)
              omega) h2
          refine ⟨i, f, ?_, hr⟩
          refine Ev.step (fun k => by rw [slices_BinarySearch_int64.p8]) ?_
          rw [shr1_u64, e1, rd_get hm, show wrap64 ((((lo + hi) / 2 : Nat) : Int) + 1) = (((lo + hi) / 2 + 1 : Nat) : Int) from by rw [w64 (by omega) (by omega)]; omega]
          refine Ev.pos (by omega) (Ev.pos (by omega) (Ev.pos (by omega) (Ev.bindo (less_f _ _) ?_)))
          exact Ev.pos (by simpa using c2) hev
        · obtain ⟨i, f, hev, hr⟩ := ih lo ((lo + hi) / 2) (by omega) (by omega) (by omega) h1 (fun j h hj => by
            by_cases e : j = (lo + hi) / 2
            · subst e; omega
            · have := hs ((lo + hi) / 2) j hm h (by omega)
              omega)
          refine ⟨i, f, ?_, hr⟩
          refine Ev.step (fun k => by rw [slices_BinarySearch_int64.p8]) ?_
          rw [shr1_u64, e1, rd_get hm]
          refine Ev.pos (by omega) (Ev.pos (by omega) (Ev.pos (by omega) (Ev.bindo (less_f _ _) ?_)))
          exact Ev.neg (by simpa using c2) hev
      · exact ih lo hi (by omega) hle hhi h1 h2
  unfold slices_BinarySearch_int64.f
  exact lp l.length 0 l.length (by omega) (by omega) (Nat.le_refl _) (fun j h hj => by omega) (fun j h hj => by omega)
end Go.Proofs.YtgfeafcgpeclcaaDoor.Abs
