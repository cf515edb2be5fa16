/- Devices: when they are right: the reference and the program ask the same. For devices of at most 2^20 lines and 2^40 bytes. -/
import Derived.Test.YtmciidoohbmipaaPLines
import Derived.Test.YtmciidoohbmipaaPLoop
import Derived.Test.YtmciidoohbmipaaPIn
namespace Go.Proofs.Ytmciidoohbmipaa.Abs.Pu
open Go Go.RowKit
set_option linter.unusedVariables false
set_option linter.unusedSectionVars false
set_option linter.unusedSimpArgs false
abbrev Line := Int × ByteArray × ByteArray
abbrev Dev := ByteArray × List Line
abbrev ln0 : Line := (0, (ByteArray.empty, ByteArray.empty))
def allF (p : Nat → Bool) : Nat → Nat → Bool
  | 0, _ => true
  | d + 1, i => p i && allF p d (i + 1)
theorem allF_succ (p : Nat → Bool) (d i : Nat) : allF p (d + 1) i = (p i && allF p d (i + 1)) := rfl
theorem allF_iff (p : Nat → Bool) : ∀ (d i : Nat), allF p d i = true ↔ ∀ j, i ≤ j → j < i + d → p j = true
  | 0, i => ⟨fun _ j h1 h2 => by omega, fun _ => rfl⟩
  | d + 1, i => by
    unfold allF
    rw [Bool.and_eq_true, allF_iff p d (i + 1)]
    constructor
    · rintro ⟨h1, h2⟩ j h3 h4
      by_cases e : j = i
      · rw [e]; exact h1
      · exact h2 j (by omega) (by omega)
    · exact fun h => ⟨h i (Nat.le_refl _) (by omega), fun j h1 h2 => h j (by omega) (by omega)⟩
def atL (l : List Line) (i : Nat) : Line := rdOf ln0 l (i : Int)
/-- Is the line at place i right? -/
def lnB (n : Int) (l : List Line) (i : Nat) : Bool :=
  (decide (0 ≤ (atL l i).1) && decide ((atL l i).1 ≤ n - 1)) && ((decide (i = 0) || decide ((atL l (i - 1)).1 < (atL l i).1)) && (decide (((atL l i).2.1.size : Int) = 64) && (decide (((atL l i).2.2.size : Int) = 64) || decide ((atL l i).2.2 = (⟨#[]⟩ : ByteArray)))))
def devB (d : Dev) : Bool := decide (d.1.size % 64 = 0) && ((decide (1 ≤ ((d.1.size / 64 : Nat) : Int)) && decide (((d.1.size / 64 : Nat) : Int) ≤ 128)) && allF (lnB ((d.1.size / 64 : Nat) : Int) d.2) d.2.length 0)
structure LnP (n : Nat) (x : Line) : Prop where
  lo : 0 ≤ x.1
  hi : x.1 < n
  data : x.2.1.size = 64
  sent : x.2.2.size = 64 ∨ x.2.2 = (⟨#[]⟩ : ByteArray)
structure DevP (n : Nat) (d : Dev) : Prop where
  size : d.1.size = 64 * n
  lo : 1 ≤ n
  hi : n ≤ 128
  lines : ∀ x ∈ d.2, LnP n x
  sorted : d.2.Pairwise fun x y => x.1 < y.1
theorem sorted_steps {l : List Line} (h : ∀ i (hi : i < l.length), 0 < i → (l[i - 1]'(by omega)).1 < l[i].1) : l.Pairwise fun x y => x.1 < y.1 := by
  rw [List.pairwise_iff_getElem]
  intro i j hi hj hij
  have key : ∀ d (hd : i + 1 + d < l.length), l[i].1 < l[i + 1 + d].1 := by
    intro d
    induction d with
    | zero => intro hd; exact h (i + 1) hd (by omega)
    | succ d ih => intro hd; exact Int.lt_trans (ih (by omega)) (h (i + 1 + (d + 1)) hd (by omega))
  have := key (j - i - 1) (by omega)
  have e : i + 1 + (j - i - 1) = j := by omega
  simp only [e] at this
  exact this
theorem devB_iff (d : Dev) : devB d = true ↔ ∃ n, DevP n d := by
  unfold devB
  simp only [Bool.and_eq_true, decide_eq_true_eq, allF_iff]
  constructor
  · rintro ⟨h1, ⟨h2, h3⟩, h4⟩
    have hln : ∀ i (hi : i < d.2.length), lnB ((d.1.size / 64 : Nat) : Int) d.2 i = true := fun i hi => h4 i (Nat.zero_le _) (by omega)
    have hg : ∀ i (hi : i < d.2.length), atL d.2 i = d.2[i] := fun i hi => rdg hi
    refine ⟨d.1.size / 64, by omega, by omega, by omega, fun x hx => ?_, sorted_steps fun i hi h0 => ?_⟩
    · obtain ⟨i, hi, rfl⟩ := List.getElem_of_mem hx
      have := hln i hi
      unfold lnB at this
      rw [hg i hi] at this
      simp only [Bool.and_eq_true, Bool.or_eq_true, decide_eq_true_eq] at this
      exact ⟨this.1.1, by omega, by omega, this.2.2.2.imp (fun h => by omega) id⟩
    · have := hln i hi
      unfold lnB at this
      rw [hg i hi, hg (i - 1) (by omega)] at this
      simp only [Bool.and_eq_true, Bool.or_eq_true, decide_eq_true_eq] at this
      exact this.2.1.resolve_left (by omega)
  · rintro ⟨n, h1, h2, h3, h4, h5⟩
    have hn : d.1.size / 64 = n := by omega
    rw [hn]
    refine ⟨by omega, ⟨by omega, by omega⟩, fun i _ hi => ?_⟩
    have hi : i < d.2.length := by omega
    have hg : ∀ i (hi : i < d.2.length), atL d.2 i = d.2[i] := fun i hi => rdg hi
    obtain ⟨a1, a2, a3, a4⟩ := h4 _ (List.getElem_mem hi)
    unfold lnB
    rw [hg i hi]
    simp only [Bool.and_eq_true, Bool.or_eq_true, decide_eq_true_eq]
    refine ⟨⟨a1, by omega⟩, ?_, by omega, a4.imp (fun h => by omega) id⟩
    by_cases h0 : i = 0
    · exact .inl h0
    · right
      rw [hg (i - 1) (by omega)]
      exact List.pairwise_iff_getElem.1 h5 (i - 1) i (by omega) hi (by omega)
theorem count_i (d : Dev) (h : d.1.size ≤ 1099511627776) : wrap64 (Int.tdiv (d.1.size : Int) 64) = ((d.1.size / 64 : Nat) : Int) := by
  rw [Int.tdiv_eq_ediv_of_nonneg (by omega), w64 (by omega) (by omega)]
  omega
theorem empty_eq (t : ByteArray) : (t.toList = (⟨#[]⟩ : ByteArray).toList) = (t = (⟨#[]⟩ : ByteArray)) := propext toList_inj
theorem spec_DeviceOk_ev (d : Dev) (h : d.1.size ≤ 1099511627776) (hl : d.2.length ≤ 1048576) : Ev (fun k => spec_DeviceOk.f k d.1 d.2) (devB d) := by
  have hc := count_i d h
  unfold spec_DeviceOk.f spec_l2Count.f devB
  have hm : Int.tmod (d.1.size : Int) 64 = ((d.1.size % 64 : Nat) : Int) := by rw [Int.tmod_eq_emod_of_nonneg (by omega)]; omega
  rw [hm]
  by_cases h0 : d.1.size % 64 = 0
  rotate_left
  · rw [decide_eq_false h0, Bool.false_and]
    exact Ev.neg (by omega) (Ev.eq rfl)
  rw [decide_eq_true h0, Bool.true_and]
  refine Ev.pos (by omega) (Ev.bindo rfl (Ev.bindo (l1In_f _ _ _) ?_))
  rw [hc]
  refine Ev.cases (fun h1 => ?_) (fun h1 => by rw [Bool.eq_false_iff.2 h1, Bool.false_and]; exact Ev.eq rfl)
  rw [h1, Bool.true_and]
  simp only [Bool.and_eq_true, decide_eq_true_eq] at h1
  generalize hn : d.1.size / 64 = n at *
  have key : ∀ i, i ≤ d.2.length → Ev (fun k => spec_DeviceOk.p14 k d.1 d.2 (i : Int)) (allF (lnB (n : Int) d.2) (d.2.length - i) i) := by
    refine down ?_ ?_
    · refine Ev.step (fun k => by rw [spec_DeviceOk.p14]) ?_
      rw [Nat.sub_self]
      exact Ev.neg (by omega) (Ev.eq rfl)
    · intro i hi ih
      have hs : d.2.length - i = (d.2.length - (i + 1)) + 1 := by omega
      rw [hs, allF_succ]
      generalize allF (lnB (n : Int) d.2) (d.2.length - (i + 1)) (i + 1) = rest at *
      unfold lnB
      refine Ev.step (fun k => by rw [spec_DeviceOk.p14]) ?_
      unfold spec_l2Count.f
      show Ev (fun k => if (i : Int) < (d.2.length : Int) then _ else _) _
      refine Ev.pos (by omega) (Ev.pos (by omega) (Ev.pos (by omega) (Ev.bindo rfl ?_)))
      rw [hc, w64s (i := i) (by omega), w64 (x := (n : Int) - 1) (by omega) (by omega)]
      refine Ev.bindo (l1In_f _ _ _) ?_
      show Ev (fun k => if (decide (0 ≤ (atL d.2 i).1) && decide ((atL d.2 i).1 ≤ (n : Int) - 1)) = true then _ else _) _
      refine Ev.cases (fun h2 => ?_) (fun h2 => by rw [Bool.eq_false_iff.2 h2, Bool.false_and, Bool.false_and]; exact Ev.eq rfl)
      rw [h2, Bool.true_and]
      have tail : Ev (fun k => if ((atL d.2 i).2.1.size : Int) = 64 then (if ((atL d.2 i).2.2.size : Int) = 64 then (spec_DeviceOk.p14 k d.1 d.2 ((i + 1 : Nat) : Int)) else (if (atL d.2 i).2.2.toList = (⟨#[]⟩ : ByteArray).toList then (spec_DeviceOk.p14 k d.1 d.2 ((i + 1 : Nat) : Int)) else (some false))) else (some false)) ((decide (((atL d.2 i).2.1.size : Int) = 64) && (decide (((atL d.2 i).2.2.size : Int) = 64) || decide ((atL d.2 i).2.2 = (⟨#[]⟩ : ByteArray)))) && rest) := by
        refine Ev.cases (fun h3 => ?_) (fun h3 => by rw [decide_eq_false h3, Bool.false_and, Bool.false_and]; exact Ev.eq rfl)
        rw [decide_eq_true h3, Bool.true_and]
        refine Ev.cases (fun h4 => by rw [decide_eq_true h4, Bool.true_or, Bool.true_and]; exact ih) (fun h4 => ?_)
        rw [decide_eq_false h4, Bool.false_or]
        refine Ev.cases (fun h5 => ?_) (fun h5 => ?_)
        · rw [decide_eq_true (toList_inj.1 h5), Bool.true_and]; exact ih
        · rw [decide_eq_false (fun e => h5 (toList_inj.2 e)), Bool.false_and]; exact Ev.eq rfl
      by_cases hi0 : i = 0
      · rw [decide_eq_true hi0, Bool.true_or, Bool.true_and]
        exact Ev.neg (by omega) tail
      rw [decide_eq_false hi0, Bool.false_or]
      rw [show wrap64 ((i : Int) - 1) = ((i - 1 : Nat) : Int) from by rw [w64 (by omega) (by omega)]; omega]
      refine Ev.pos (by omega) (Ev.pos (by omega) (Ev.pos (by omega) ?_))
      show Ev (fun k => if (atL d.2 i).1 ≤ (atL d.2 (i - 1)).1 then _ else _) _
      by_cases h3 : (atL d.2 i).1 ≤ (atL d.2 (i - 1)).1
      · rw [decide_eq_false (show ¬ (atL d.2 (i - 1)).1 < (atL d.2 i).1 by omega), Bool.false_and, Bool.false_and]
        exact Ev.pos h3 (Ev.eq rfl)
      · rw [decide_eq_true (show (atL d.2 (i - 1)).1 < (atL d.2 i).1 by omega), Bool.true_and]
        exact Ev.neg h3 tail
  have h2 := key 0 (Nat.zero_le _)
  rw [Nat.sub_zero] at h2
  exact h2
theorem impl_has_f (d : Dev) (h : d.1.size ≤ 1099511627776) (L : Int) : _impl_Device_has.f d.1 d.2 L = some (decide (0 ≤ L) && decide (L ≤ ((d.1.size / 64 : Nat) : Int) - 1)) := by
  unfold _impl_Device_has.f
  rw [count_i d h, w64 (by omega) (by omega), within_f, Option.bind_some]
theorem impl_DeviceOk_ev (d : Dev) (h : d.1.size ≤ 1099511627776) (hl : d.2.length ≤ 1048576) : Ev (fun k => impl_DeviceOk.f k d.1 d.2) (devB d) := by
  have hc := count_i d h
  unfold impl_DeviceOk.f devB
  have hm : Int.tmod (d.1.size : Int) 64 = ((d.1.size % 64 : Nat) : Int) := by rw [Int.tmod_eq_emod_of_nonneg (by omega)]; omega
  rw [hm]
  by_cases h0 : d.1.size % 64 = 0
  rotate_left
  · rw [decide_eq_false h0, Bool.false_and]
    exact Ev.neg (by omega) (Ev.eq rfl)
  rw [decide_eq_true h0, Bool.true_and]
  refine Ev.pos (by omega) (Ev.bindo (within_f _ _ _) ?_)
  rw [hc]
  refine Ev.cases (fun h1 => ?_) (fun h1 => by rw [Bool.eq_false_iff.2 h1, Bool.false_and]; exact Ev.eq rfl)
  rw [h1, Bool.true_and]
  simp only [Bool.and_eq_true, decide_eq_true_eq] at h1
  generalize hn : d.1.size / 64 = n at *
  have key : ∀ i, i ≤ d.2.length → Ev (fun k => impl_DeviceOk.p14 k d.1 d.2 d.2 (d.2.length : Int) (i : Int)) (allF (lnB (n : Int) d.2) (d.2.length - i) i) := by
    refine down ?_ ?_
    · refine Ev.step (fun k => by rw [impl_DeviceOk.p14]) ?_
      rw [Nat.sub_self]
      exact Ev.neg (by omega) (Ev.eq rfl)
    · intro i hi ih
      have hs : d.2.length - i = (d.2.length - (i + 1)) + 1 := by omega
      rw [hs, allF_succ]
      generalize allF (lnB (n : Int) d.2) (d.2.length - (i + 1)) (i + 1) = rest at *
      unfold lnB
      refine Ev.step (fun k => by rw [impl_DeviceOk.p14]) ?_
      refine Ev.pos (by omega) (Ev.pos (by omega) (Ev.pos (by omega) (Ev.bindo (impl_has_f d h _) ?_)))
      rw [hn, w64s (i := i) (by omega)]
      show Ev (fun k => if (decide (0 ≤ (atL d.2 i).1) && decide ((atL d.2 i).1 ≤ (n : Int) - 1)) = true then _ else _) _
      refine Ev.cases (fun h2 => ?_) (fun h2 => by rw [Bool.eq_false_iff.2 h2, Bool.false_and, Bool.false_and]; exact Ev.eq rfl)
      rw [h2, Bool.true_and]
      have tail : Ev (fun k => if ((atL d.2 i).2.1.size : Int) = 64 then (if ((atL d.2 i).2.2.size : Int) = 64 then (impl_DeviceOk.p14 k d.1 d.2 d.2 (d.2.length : Int) ((i + 1 : Nat) : Int)) else (if (atL d.2 i).2.2.toList = (⟨#[]⟩ : ByteArray).toList then (impl_DeviceOk.p14 k d.1 d.2 d.2 (d.2.length : Int) ((i + 1 : Nat) : Int)) else (some false))) else (some false)) ((decide (((atL d.2 i).2.1.size : Int) = 64) && (decide (((atL d.2 i).2.2.size : Int) = 64) || decide ((atL d.2 i).2.2 = (⟨#[]⟩ : ByteArray)))) && rest) := by
        refine Ev.cases (fun h3 => ?_) (fun h3 => by rw [decide_eq_false h3, Bool.false_and, Bool.false_and]; exact Ev.eq rfl)
        rw [decide_eq_true h3, Bool.true_and]
        refine Ev.cases (fun h4 => by rw [decide_eq_true h4, Bool.true_or, Bool.true_and]; exact ih) (fun h4 => ?_)
        rw [decide_eq_false h4, Bool.false_or]
        refine Ev.cases (fun h5 => ?_) (fun h5 => ?_)
        · rw [decide_eq_true (toList_inj.1 h5), Bool.true_and]; exact ih
        · rw [decide_eq_false (fun e => h5 (toList_inj.2 e)), Bool.false_and]; exact Ev.eq rfl
      by_cases hi0 : i = 0
      · rw [decide_eq_true hi0, Bool.true_or, Bool.true_and]
        exact Ev.neg (by omega) tail
      rw [decide_eq_false hi0, Bool.false_or]
      rw [show wrap64 ((i : Int) - 1) = ((i - 1 : Nat) : Int) from by rw [w64 (by omega) (by omega)]; omega]
      refine Ev.pos (by omega) (Ev.pos (by omega) (Ev.pos (by omega) ?_))
      show Ev (fun k => if (atL d.2 i).1 ≤ (atL d.2 (i - 1)).1 then _ else _) _
      by_cases h3 : (atL d.2 i).1 ≤ (atL d.2 (i - 1)).1
      · rw [decide_eq_false (show ¬ (atL d.2 (i - 1)).1 < (atL d.2 i).1 by omega), Bool.false_and, Bool.false_and]
        exact Ev.pos h3 (Ev.eq rfl)
      · rw [decide_eq_true (show (atL d.2 (i - 1)).1 < (atL d.2 i).1 by omega), Bool.true_and]
        exact Ev.neg h3 tail
  have h2 := key 0 (Nat.zero_le _)
  rw [Nat.sub_zero] at h2
  exact h2
end Go.Proofs.Ytmciidoohbmipaa.Abs.Pu
