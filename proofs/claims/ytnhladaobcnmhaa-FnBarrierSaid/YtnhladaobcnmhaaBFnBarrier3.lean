/- FnBarrier: of every drawn set, word and reference the program and the reference tell the same set: the word is in it exactly if the reference is young, all others stay. No condition. (Merged out of this claim's own texts.) -/
import Derived.Test.YtnhladaobcnmhaaBFnBarrier2
import Derived.Laws.BitsLemmas
import Derived.Test.YtnhladaobcnmhaaRows
import Derived.WalkKit
import Derived.ProofKit
import Derived.OpenShut
import Derived.ShutString
import Derived.ChangeOld
import Derived.Below
import Derived.SizedLaws
import Derived.Test.YtnhladaobcnmhaaWSized
namespace Go.Proofs.Ytnhladaobcnmhaa.Pure
open Go.RowKit Go.Proofs.Ytnhladaobcnmhaa.X Go.Proofs.YtnhladaobcnmhaaW.PrintWords Go.Proofs.YtnhladaobcnmhaaW.PrintLast
set_option linter.unusedVariables false
set_option linter.unusedSimpArgs false
theorem sorted_ext : ∀ {l m : List Int}, l.Pairwise (· < ·) → m.Pairwise (· < ·) → (∀ x, x ∈ l ↔ x ∈ m) → l = m
  | [], [], _, _, _ => rfl
  | [], y :: m, _, _, h => absurd ((h y).2 (List.mem_cons_self ..)) (by simp)
  | x :: l, [], _, _, h => absurd ((h x).1 (List.mem_cons_self ..)) (by simp)
  | x :: l, y :: m, hl, hm, h => by
    rw [List.pairwise_cons] at hl hm
    have e : x = y := by
      rcases List.mem_cons.1 ((h x).1 (List.mem_cons_self ..)) with e | hx
      · exact e
      · rcases List.mem_cons.1 ((h y).2 (List.mem_cons_self ..)) with e | hy
        · exact e.symm
        · have h1 := hl.1 y hy
          have h2 := hm.1 x hx
          omega
    subst e
    rw [sorted_ext hl.2 hm.2 (fun z => ?_)]
    have hz := h z
    simp only [List.mem_cons] at hz
    constructor
    · intro h1
      have h2 := hl.1 z h1
      rcases hz.1 (.inr h1) with e | h3
      · omega
      · exact h3
    · intro h1
      have h2 := hm.1 z h1
      rcases hz.2 (.inr h1) with e | h3
      · omega
      · exact h3
theorem set_range {l : List Int} (h : setFrom l 0) : ∀ x ∈ l, 0 ≤ x ∧ x ≤ 1023 := by
  intro x hx
  obtain ⟨j, hj, rfl⟩ := List.getElem_of_mem hx
  exact ⟨(h j hj (by omega)).1, (h j hj (by omega)).2.1⟩
theorem set_sorted {l : List Int} (h : setFrom l 0) : l.Pairwise (· < ·) := by
  rw [List.pairwise_iff_getElem]
  intro i j hi
  induction j with
  | zero => intro _ h; omega
  | succ j ih =>
    intro hj hij
    have h1 := (h (j + 1) hj (by omega)).2.2 (by omega)
    simp only [Nat.add_sub_cancel] at h1
    by_cases e : i = j
    · subst e; exact h1
    · have := ih (by omega) (by omega)
      omega
theorem sorted_ge {l : List Int} (h : setFrom l 0) : ∀ j (hj : j < l.length), (j : Int) ≤ l[j]
  | 0, hj => (h 0 hj (by omega)).1
  | j + 1, hj => by
    have h1 := (h (j + 1) hj (by omega)).2.2 (by omega)
    simp only [Nat.add_sub_cancel] at h1
    have h2 := sorted_ge h j (by omega)
    omega
theorem set_length {l : List Int} (h : setFrom l 0) : l.length ≤ 1024 := by
  by_cases c : l.length = 0
  · omega
  · have h1 := sorted_ge h (l.length - 1) (by omega)
    have h2 := (h (l.length - 1) (by omega) (by omega)).2.1
    omega
/-! ### what the reference comes to -/
def keepL (set : List Int) (word : Int) (b : Bool) : Nat → Nat → List Int
  | 0, _ => []
  | d + 1, i => if ((i : Int) = word ∧ b = true) ∨ ((i : Int) ≠ word ∧ (i : Int) ∈ set) then (i : Int) :: keepL set word b d (i + 1) else keepL set word b d (i + 1)
theorem keepL_mem (set : List Int) (word : Int) (b : Bool) (x : Int) : ∀ (d i : Nat), x ∈ keepL set word b d i ↔ ((i : Int) ≤ x ∧ x < ((i + d : Nat) : Int) ∧ ((x = word ∧ b = true) ∨ (x ≠ word ∧ x ∈ set)))
  | 0, i => by
    simp only [keepL, List.not_mem_nil, false_iff]
    omega
  | d + 1, i => by
    have ih := keepL_mem set word b x d (i + 1)
    rw [keepL]
    split
    · rename_i c
      rw [List.mem_cons, ih]
      constructor
      · rintro (rfl | ⟨h1, h2, h3⟩)
        · exact ⟨by omega, by omega, c⟩
        · exact ⟨by omega, by omega, h3⟩
      · rintro ⟨h1, h2, h3⟩
        by_cases e : x = i
        · exact .inl e
        · exact .inr ⟨by omega, by omega, h3⟩
    · rename_i c
      rw [ih]
      constructor
      · rintro ⟨h1, h2, h3⟩
        exact ⟨by omega, by omega, h3⟩
      · rintro ⟨h1, h2, h3⟩
        by_cases e : x = i
        · subst e; exact absurd h3 c
        · exact ⟨by omega, by omega, h3⟩
theorem keepL_sorted (set : List Int) (word : Int) (b : Bool) : ∀ (d i : Nat), (keepL set word b d i).Pairwise (· < ·)
  | 0, i => List.Pairwise.nil
  | d + 1, i => by
    have ih := keepL_sorted set word b d (i + 1)
    rw [keepL]
    split
    · refine List.Pairwise.cons (fun y hy => ?_) ih
      have := (keepL_mem set word b y d (i + 1)).1 hy
      omega
    · exact ih
theorem keepL_length (set : List Int) (word : Int) (b : Bool) : ∀ (d i : Nat), (keepL set word b d i).length ≤ d
  | 0, i => by simp [keepL]
  | d + 1, i => by
    have ih := keepL_length set word b d (i + 1)
    rw [keepL]
    split
    · simp only [List.length_cons]; omega
    · omega
theorem placeIn_ev (l : List Int) (x : Int) (hl : l.length ≤ 1099511627776) : ∃ r, Ev (fun k => spec_l7Place.f k l x) r ∧ ((0 ≤ r ∧ x ∈ l) ∨ (r = -1 ∧ x ∉ l)) := by
  have lp : ∀ (d i : Nat), l.length - i = d → i ≤ l.length → x ∉ l.take i → ∃ r, Ev (fun k => spec_l7Place.l0 k l x (i : Int)) r ∧ ((0 ≤ r ∧ x ∈ l) ∨ (r = -1 ∧ x ∉ l)) := by
    intro d
    induction d with
    | zero =>
      intro i hd hi hx
      refine ⟨-1, Ev.step (fun k => by rw [spec_l7Place.l0]) (Ev.neg (by omega) (Ev.eq rfl)), .inr ⟨rfl, ?_⟩⟩
      rwa [List.take_of_length_le (by omega)] at hx
    | succ d ih =>
      intro i hd hi hx
      have hlt : i < l.length := by omega
      by_cases e : l[i] = x
      · refine ⟨i, Ev.step (fun k => by rw [spec_l7Place.l0]) ?_, .inl ⟨by omega, e ▸ List.getElem_mem hlt⟩⟩
        rw [rd_get hlt]
        exact Ev.pos (by omega) (Ev.pos (by omega) (Ev.pos e (Ev.eq rfl)))
      · obtain ⟨r, hr, hp⟩ := ih (i + 1) (by omega) (by omega) (by
          rw [take_snoc2 l i hlt, List.mem_append]
          simp only [List.mem_singleton]
          rintro (h | h)
          · exact hx h
          · exact e h.symm)
        refine ⟨r, Ev.step (fun k => by rw [spec_l7Place.l0]) ?_, hp⟩
        rw [rd_get hlt, show wrap64 ((i : Int) + 1) = ((i + 1 : Nat) : Int) from by rw [w64 (by omega) (by omega)]; omega]
        exact Ev.pos (by omega) (Ev.pos (by omega) (Ev.neg e hr))
  unfold spec_l7Place.f
  exact lp _ 0 rfl (by omega) (by simp)
theorem spec_l9With_ev (set : List Int) (word : Int) (b : Bool) (hl : set.length ≤ 1099511627776) : Ev (fun k => spec_l9With.f k set word b) (keepL set word b 1024 0) := by
  have lp : ∀ (d i : Nat) (acc : List Int), 1024 - i = d → i ≤ 1024 → acc.length ≤ i → Ev (fun k => spec_l9With.l0 k set word b acc (i : Int)) (acc ++ keepL set word b d i) := by
    intro d
    induction d with
    | zero =>
      intro i acc hd hi ha
      refine Ev.step (fun k => by rw [spec_l9With.l0]) ?_
      exact Ev.neg (by omega) (Ev.eq (by simp [keepL]))
    | succ d ih =>
      intro i acc hd hi ha
      have ih1 := ih (i + 1) acc (by omega) (by omega) (by omega)
      have ih2 := ih (i + 1) (acc ++ [(i : Int)]) (by omega) (by omega) (by simp; omega)
      obtain ⟨r, hr, hp⟩ := placeIn_ev set (i : Int) hl
      refine Ev.step (fun k => by rw [spec_l9With.l0]) ?_
      rw [show wrap64 ((i : Int) + 1) = ((i + 1 : Nat) : Int) from by rw [w64 (by omega) (by omega)]; omega, keepL]
      refine Ev.pos (by omega) ?_
      refine Ev.cases (fun c => ?_) (fun c => ?_)
      · refine Ev.cases (fun c2 => ?_) (fun c2 => ?_)
        · refine Ev.pos (by omega) ?_
          rw [if_pos (.inl ⟨c, c2⟩)]
          rw [List.append_assoc] at ih2
          exact ih2
        · rw [if_neg (by rintro (⟨_, h⟩ | ⟨h, _⟩); exact c2 h; exact h c)]
          exact ih1
      · refine Ev.bind hr ?_
        rcases hp with ⟨h0, hm⟩ | ⟨h0, hm⟩
        · refine Ev.pos (by omega) ?_
          refine Ev.pos (by omega) ?_
          rw [if_pos (.inr ⟨c, hm⟩)]
          rw [List.append_assoc] at ih2
          exact ih2
        · refine Ev.neg (by omega) ?_
          rw [if_neg (by rintro (⟨h, _⟩ | ⟨_, h⟩); exact c h; exact hm h)]
          exact ih1
  unfold spec_l9With.f
  exact lp 1024 0 [] rfl (by omega) (by simp)
/-! ### the search -/
theorem less_f (a b : Int) : cmp_Less_int64.f a b = some (decide (a < b)) := by
  unfold cmp_Less_int64.f cmp_isNaN_int64.f
  simp
theorem nan_f (a : Int) : slices_isNaN_int64.f a = some false := by
  unfold slices_isNaN_int64.f
  simp
theorem bsearch_ev (l : List Int) (x : Int) (hs : l.Pairwise (· < ·)) (hl : l.length ≤ 1099511627776) : ∃ (i : Nat) (f : Bool), Ev (fun k => slices_BinarySearch_int64_int64.f k l x) ((i : Int), f) ∧ i ≤ l.length ∧ (∀ j (h : j < l.length), j < i → l[j] < x) ∧ (∀ j (h : j < l.length), i < j → x < l[j]) ∧ (f = true → ∃ h : i < l.length, l[i] = x) ∧ (f = false → ∀ h : i < l.length, x < l[i]) := by
  rw [List.pairwise_iff_getElem] at hs
  have u64 : ∀ y : Int, 0 ≤ y → y < 18446744073709551616 → IntKind.u64.wrap y = y := by
    intro y h0 h1
    simp only [IntKind.wrap, IntKind.bits, IntKind.signed]
    simp
    omega
  have lp : ∀ (d lo hi : Nat), hi - lo ≤ d → lo ≤ hi → hi ≤ l.length → (∀ j (h : j < l.length), j < lo → l[j] < x) → (∀ j (h : j < l.length), hi ≤ j → x ≤ l[j]) →
      ∃ (i : Nat) (f : Bool), Ev (fun k => slices_BinarySearch_int64_int64.l0 k l x (l.length : Int) (lo : Int) (hi : Int)) ((i : Int), f) ∧ i ≤ l.length ∧ (∀ j (h : j < l.length), j < i → l[j] < x) ∧ (∀ j (h : j < l.length), i < j → x < l[j]) ∧ (f = true → ∃ h : i < l.length, l[i] = x) ∧ (f = false → ∀ h : i < l.length, x < l[i]) := by
    intro d
    induction d with
    | zero =>
      intro lo hi hd hle hhi h1 h2
      obtain rfl : lo = hi := by omega
      by_cases hlt : lo < l.length
      · have hge := h2 lo hlt (Nat.le_refl _)
        have hup : ∀ j (h : j < l.length), lo < j → x < l[j] := fun j h hj => by
          have := hs lo j hlt h hj
          omega
        by_cases e : l[lo] = x
        · refine ⟨lo, true, ?_, by omega, h1, hup, fun _ => ⟨hlt, e⟩, by simp⟩
          refine Ev.step (fun k => by rw [slices_BinarySearch_int64_int64.l0]) ?_
          rw [rd_get hlt]
          exact Ev.neg (by omega) (Ev.pos (by omega) (Ev.pos (by omega) (Ev.pos (by omega) (Ev.pos e (Ev.eq rfl)))))
        · refine ⟨lo, false, ?_, by omega, h1, hup, by simp, fun _ _ => by omega⟩
          refine Ev.step (fun k => by rw [slices_BinarySearch_int64_int64.l0]) ?_
          rw [rd_get hlt]
          refine Ev.neg (by omega) (Ev.pos (by omega) (Ev.pos (by omega) (Ev.pos (by omega) (Ev.neg e ?_))))
          exact Ev.bindo (nan_f _) (Ev.neg (by simp) (Ev.eq rfl))
      · refine ⟨lo, false, ?_, by omega, h1, fun j h hj => by omega, by simp, fun _ h => by omega⟩
        refine Ev.step (fun k => by rw [slices_BinarySearch_int64_int64.l0]) ?_
        exact Ev.neg (by omega) (Ev.neg (by omega) (Ev.eq rfl))
    | succ d ih =>
      intro lo hi hd hle hhi h1 h2
      by_cases c : lo < hi
      · have hm : (lo + hi) / 2 < l.length := by omega
        have e1 : wrap64 (IntKind.u64.wrap (wrap64 ((lo : Int) + (hi : Int))) / 2) = (((lo + hi) / 2 : Nat) : Int) := by
          rw [w64 (x := (lo : Int) + (hi : Int)) (by omega) (by omega), u64 _ (by omega) (by omega), w64 (by omega) (by omega)]
          omega
        by_cases c2 : l[(lo + hi) / 2] < x
        · obtain ⟨i, f, hev, hr⟩ := ih ((lo + hi) / 2 + 1) hi (by omega) (by omega) hhi (fun j h hj => by
            by_cases e : j = (lo + hi) / 2
            · subst e; exact c2
            · have := hs j ((lo + hi) / 2) h hm (by omega)
              omega) h2
          refine ⟨i, f, ?_, hr⟩
          refine Ev.step (fun k => by rw [slices_BinarySearch_int64_int64.l0]) ?_
          rw [e1, rd_get hm, show wrap64 ((((lo + hi) / 2 : Nat) : Int) + 1) = (((lo + hi) / 2 + 1 : Nat) : Int) from by rw [w64 (by omega) (by omega)]; omega]
          refine Ev.pos (by omega) (Ev.pos (by omega) (Ev.pos (by omega) (Ev.bindo (less_f _ _) ?_)))
          exact Ev.pos (by simpa using c2) hev
        · obtain ⟨i, f, hev, hr⟩ := ih lo ((lo + hi) / 2) (by omega) (by omega) (by omega) h1 (fun j h hj => by
            by_cases e : j = (lo + hi) / 2
            · subst e; omega
            · have := hs ((lo + hi) / 2) j hm h (by omega)
              omega)
          refine ⟨i, f, ?_, hr⟩
          refine Ev.step (fun k => by rw [slices_BinarySearch_int64_int64.l0]) ?_
          rw [e1, rd_get hm]
          refine Ev.pos (by omega) (Ev.pos (by omega) (Ev.pos (by omega) (Ev.bindo (less_f _ _) ?_)))
          exact Ev.neg (by simpa using c2) hev
      · exact ih lo hi (by omega) hle hhi h1 h2
  unfold slices_BinarySearch_int64_int64.f
  exact lp l.length 0 l.length (by omega) (by omega) (Nat.le_refl _) (fun j h hj => by omega) (fun j h hj => by omega)
/-! ### what the program comes to -/
theorem impl_barrier_ev (set : List Int) (word ref : Int) (h : setFrom set 0) (h0 : 0 ≤ word) (h1 : word ≤ 1023) : Ev (fun k => impl_barrier.f k set word ref) (keepL set word (decide (refk ref = 2)) 1024 0) := by
  have hlen := set_length h
  have hsrt := set_sorted h
  have hrng := set_range h
  obtain ⟨i, f, hev, hi, hlo, hup, ht, hf⟩ := bsearch_ev set word hsrt (by omega)
  have hclone : slices_Clone_int64_int64.f set = some set := by
    unfold slices_Clone_int64_int64.f
    rw [if_pos (by omega)]
  have hg := List.pairwise_iff_getElem.1 hsrt
  have kmem := fun (b : Bool) (x : Int) => keepL_mem set word b x 1024 0
  have same : ∀ (l : List Int) (b : Bool), l.Pairwise (· < ·) → (∀ x, x ∈ l ↔ ((x = word ∧ b = true) ∨ (x ≠ word ∧ x ∈ set))) → l = keepL set word b 1024 0 := by
    intro l b hl hm
    refine sorted_ext hl (keepL_sorted set word b 1024 0) (fun x => ?_)
    rw [hm, kmem]
    constructor
    · rintro (⟨rfl, hb⟩ | ⟨hx, hxm⟩)
      · exact ⟨by omega, by omega, .inl ⟨rfl, hb⟩⟩
      · have := hrng x hxm
        exact ⟨by omega, by omega, .inr ⟨hx, hxm⟩⟩
    · rintro ⟨_, _, hx⟩
      exact hx
  have hfound : f = true ↔ word ∈ set := by
    constructor
    · intro hft
      obtain ⟨hlt, e⟩ := ht hft
      exact e ▸ List.getElem_mem hlt
    · intro hm
      obtain ⟨j, hj, e⟩ := List.getElem_of_mem hm
      cases hfc : f with
      | true => rfl
      | false =>
        rcases Nat.lt_trichotomy j i with c | c | c
        · have := hlo j hj c; omega
        · subst c
          have := hf hfc hj
          omega
        · have := hup j hj c; omega
  have htk : ∀ x, x ∈ set.take i → x < word ∧ x ∈ set := by
    intro x hx
    obtain ⟨j, hj, rfl⟩ := List.getElem_of_mem hx
    rw [List.length_take] at hj
    rw [List.getElem_take]
    exact ⟨hlo j (by omega) (by omega), List.getElem_mem _⟩
  have hdr : ∀ n, i ≤ n → (n = i → f = false) → ∀ x, x ∈ set.drop n → word < x ∧ x ∈ set := by
    intro n hn hni x hx
    obtain ⟨j, hj, rfl⟩ := List.getElem_of_mem hx
    rw [List.length_drop] at hj
    rw [List.getElem_drop]
    refine ⟨?_, List.getElem_mem _⟩
    by_cases c : n + j = i
    · have e : n = i := by omega
      have := hf (hni e) (by omega)
      simp only [c]
      exact this
    · exact hup _ (by omega) (by omega)
  unfold impl_barrier.f
  refine Ev.bindo hclone ?_
  refine Ev.bind hev ?_
  refine Ev.bind (impl_isYoung_ev ref) ?_
  simp only []
  by_cases hy : refk ref = 2
  · rw [show decide (refk ref = 2) = true from decide_eq_true hy]
    refine Ev.pos rfl ?_
    refine Ev.step (fun k => by rw [impl_barrier.j0]) ?_
    cases hfc : f with
    | false =>
      refine Ev.pos rfl ?_
      refine Ev.bindo (a := set.take i ++ ([word] ++ set.drop i)) ?_ ?_
      · unfold slices_Insert_int64_int64.f
        rw [if_pos (by omega), if_pos (by omega), if_pos (by simp), if_pos (by simp; omega), Int.toNat_natCast]
      · refine Ev.eq (same _ true ?_ ?_)
        · rw [List.pairwise_append, List.pairwise_append]
          refine ⟨hsrt.sublist (List.take_sublist _ _), ⟨List.pairwise_singleton _ _, hsrt.sublist (List.drop_sublist _ _), ?_⟩, ?_⟩
          · intro a ha b hb
            rw [List.mem_singleton] at ha
            subst ha
            exact (hdr i (Nat.le_refl _) (fun _ => hfc) b hb).1
          · intro a ha b hb
            have h1 := (htk a ha).1
            rw [List.mem_append, List.mem_singleton] at hb
            rcases hb with rfl | hb
            · exact h1
            · have := (hdr i (Nat.le_refl _) (fun _ => hfc) b hb).1
              omega
        · intro x
          have hnm : word ∉ set := fun hm => by have := hfound.2 hm; rw [hfc] at this; cases this
          have hsplit : x ∈ set ↔ x ∈ set.take i ∨ x ∈ set.drop i := by rw [← List.mem_append, List.take_append_drop]
          rw [List.mem_append, List.mem_append, List.mem_singleton]
          constructor
          · rintro (hx | rfl | hx)
            · exact .inr ⟨fun e => hnm (e ▸ (htk x hx).2), (htk x hx).2⟩
            · exact .inl ⟨rfl, rfl⟩
            · exact .inr ⟨fun e => hnm (e ▸ List.mem_of_mem_drop hx), List.mem_of_mem_drop hx⟩
          · rintro (⟨rfl, _⟩ | ⟨_, hx⟩)
            · exact .inr (.inl rfl)
            · rcases hsplit.1 hx with hx | hx
              · exact .inl hx
              · exact .inr (.inr hx)
    | true =>
      refine Ev.neg (by simp) ?_
      refine Ev.bind (impl_isYoung_ev ref) ?_
      refine Ev.pos (decide_eq_true hy) ?_
      refine Ev.eq (same _ true hsrt (fun x => ?_))
      have hm := hfound.1 hfc
      constructor
      · intro hx
        by_cases e : x = word
        · exact .inl ⟨e, rfl⟩
        · exact .inr ⟨e, hx⟩
      · rintro (⟨rfl, _⟩ | ⟨_, hx⟩)
        · exact hm
        · exact hx
  · rw [show decide (refk ref = 2) = false from decide_eq_false hy]
    refine Ev.neg (by simp) ?_
    refine Ev.step (fun k => by rw [impl_barrier.j0]) ?_
    refine Ev.neg (by simp) ?_
    refine Ev.bind (impl_isYoung_ev ref) ?_
    refine Ev.neg (by simpa using hy) ?_
    cases hfc : f with
    | false =>
      refine Ev.neg (by simp) ?_
      refine Ev.eq (same _ false hsrt (fun x => ?_))
      have hnm : word ∉ set := fun hm => by have := hfound.2 hm; rw [hfc] at this; cases this
      constructor
      · intro hx
        exact .inr ⟨fun e => hnm (e ▸ hx), hx⟩
      · rintro (⟨_, h⟩ | ⟨_, hx⟩)
        · cases h
        · exact hx
    | true =>
      obtain ⟨hlt, he⟩ := ht hfc
      refine Ev.pos rfl ?_
      refine Ev.bindo (a := set.take i ++ set.drop (i + 1)) ?_ ?_
      · unfold slices_Delete_int64_int64.f
        rw [show wrap64 ((i : Int) + 1) = ((i + 1 : Nat) : Int) from by rw [w64 (by omega) (by omega)]; omega]
        rw [if_pos (by omega), if_pos (by omega), if_pos (by omega), if_pos (by omega), Int.toNat_natCast, Int.toNat_natCast]
      · refine Ev.eq (same _ false ?_ ?_)
        · rw [List.pairwise_append]
          refine ⟨hsrt.sublist (List.take_sublist _ _), hsrt.sublist (List.drop_sublist _ _), ?_⟩
          intro a ha b hb
          have h1 := (htk a ha).1
          have h2 := (hdr (i + 1) (by omega) (fun e => by omega) b hb).1
          omega
        · intro x
          have hsplit : x ∈ set ↔ x ∈ set.take i ∨ x = word ∨ x ∈ set.drop (i + 1) := by
            conv => lhs; rw [← List.take_append_drop i set, List.drop_eq_getElem_cons hlt, he]
            rw [List.mem_append, List.mem_cons]
          rw [List.mem_append]
          constructor
          · rintro (hx | hx)
            · have := (htk x hx).1
              exact .inr ⟨by omega, (htk x hx).2⟩
            · have := (hdr (i + 1) (by omega) (fun e => by omega) x hx).1
              exact .inr ⟨by omega, List.mem_of_mem_drop hx⟩
          · rintro (⟨_, h⟩ | ⟨hne, hx⟩)
            · cases h
            · rcases hsplit.1 hx with hx | hx | hx
              · exact .inl hx
              · exact absurd hx hne
              · exact .inr hx
def barrierR (set : List Int) (word ref : Int) : List Int × Bool :=
  if setFrom set 0 ∧ (0 ≤ word ∧ word ≤ 1023) ∧ ¬ refk ref < 0 then (keepL set word (decide (refk ref = 2)) 1024 0, true) else ([], false)
theorem barrierR_length (set : List Int) (word ref : Int) : (barrierR set word ref).1.length ≤ 1024 := by
  unfold barrierR
  split
  · exact keepL_length _ _ _ _ _
  · simp
theorem impl_Barrier_ev (set : List Int) (word ref : Int) (hl : set.length ≤ 1099511627776) : Ev (fun k => impl_Barrier.f k set word ref) (barrierR set word ref) := by
  unfold impl_Barrier.f barrierR
  refine Ev.bind (impl_SetOk_ev set hl) ?_
  refine Ev.cases (fun c => ?_) (fun c => ?_)
  · have c := of_decide_eq_true c
    refine Ev.bindo (within_f _ _ _) ?_
    refine Ev.cases (fun c1 => ?_) (fun c1 => ?_)
    · have c1 : 0 ≤ word ∧ word ≤ 1023 := by simpa using c1
      refine Ev.bind (impl_RefKind_ev ref) ?_
      refine Ev.cases (fun c2 => ?_) (fun c2 => ?_)
      · rw [if_neg (fun h => h.2.2 c2)]
        exact Ev.eq rfl
      · rw [if_pos ⟨c, c1, c2⟩]
        exact Ev.bind (impl_barrier_ev set word ref c c1.1 c1.2) (Ev.eq rfl)
    · rw [if_neg (fun h => c1 (by simpa using h.2.1))]
      exact Ev.eq rfl
  · rw [if_neg (fun h => c (decide_eq_true h.1))]
    exact Ev.eq rfl
theorem spec_Barrier_ev (set : List Int) (word ref : Int) (hl : set.length ≤ 1099511627776) : Ev (fun k => spec_Barrier.f k set word ref) (barrierR set word ref) := by
  unfold spec_Barrier.f barrierR
  refine Ev.bind (spec_SetOk_ev set hl) ?_
  refine Ev.cases (fun c => ?_) (fun c => ?_)
  · have c := of_decide_eq_true c
    refine Ev.bindo (l1In_f _ _ _) ?_
    refine Ev.cases (fun c1 => ?_) (fun c1 => ?_)
    · have c1 : 0 ≤ word ∧ word ≤ 1023 := by simpa using c1
      refine Ev.bind (spec_RefKind_ev ref) ?_
      refine Ev.step (fun k => by rw [spec_Barrier.j0]) ?_
      refine Ev.cases (fun c2 => ?_) (fun c2 => ?_)
      · rw [if_neg (fun h => h.2.2 (of_decide_eq_true c2))]
        exact Ev.eq rfl
      · rw [if_pos ⟨c, c1, fun h => c2 (decide_eq_true h)⟩]
        refine Ev.bind (spec_RefKind_ev ref) ?_
        refine Ev.bind (spec_l9With_ev set word _ hl) (Ev.eq ?_)
        rfl
    · rw [if_neg (fun h => c1 (by simpa using h.2.1))]
      refine Ev.step (fun k => by rw [spec_Barrier.j0]) ?_
      exact Ev.pos rfl (Ev.eq rfl)
  · rw [if_neg (fun h => c (decide_eq_true h.1))]
    refine Ev.step (fun k => by rw [spec_Barrier.j0]) ?_
    exact Ev.pos rfl (Ev.eq rfl)
end Go.Proofs.Ytnhladaobcnmhaa.Pure
namespace Go.Proofs.Ytnhladaobcnmhaa.Pure
open Go.RowKit Go.Proofs.YtnhladaobcnmhaaW.PrintWords Go.Proofs.YtnhladaobcnmhaaW.PrintLast
set_option linter.unusedVariables false
set_option linter.unusedSimpArgs false

theorem or_low (a b : Nat) (ha : a % 256 = 0) (hb : b < 256) : a ||| b = a + b := by
  have hq : a = 2 ^ 8 * (a / 2 ^ 8) := by
    have := Nat.div_add_mod a (2 ^ 8)
    omega
  rw [hq, ← Nat.two_pow_add_eq_or_of_lt (by simpa using hb) (a / 2 ^ 8)]
theorem or8_u64 (x y : Int) (h0 : 0 ≤ x) (h1 : x < 18446744073709551616) (hx : x % 256 = 0) (hy : 0 ≤ y) (hy1 : y < 256) : Go.bits .or .u64 x y = x + y := by
  unfold Go.bits
  simp only [BitVec.toNat_or, BitVec.toNat_ofInt]
  rw [show IntKind.u64.bits = 64 from rfl, or_low _ _ (by omega) (by omega)]
  simp only [IntKind.wrap, IntKind.bits, IntKind.signed]
  simp
  omega
theorem or8_i64 (x y : Int) (h0 : -9223372036854775808 ≤ x) (h1 : x ≤ 9223372036854775807) (hx : x % 256 = 0) (hy : 0 ≤ y) (hy1 : y < 256) : Go.bits .or .i64 x y = x + y := by
  unfold Go.bits
  simp only [BitVec.toNat_or, BitVec.toNat_ofInt]
  rw [show IntKind.i64.bits = 64 from rfl, or_low _ _ (by omega) (by omega)]
  rw [IntKind.wrap_i64]
  omega

/-- The value of the first n bytes, the highest one first. -/
def be (f : Nat → Int) : Nat → Int
  | 0 => 0
  | n + 1 => be f n * 256 + f n
theorem be_range (f : Nat → Int) (hf : ∀ i, 0 ≤ f i ∧ f i ≤ 255) : ∀ n, 0 ≤ be f n ∧ be f n < 256 ^ n
  | 0 => by simp [be]
  | n + 1 => by
    have h := be_range f hf n
    have h2 := hf n
    simp only [be, Int.pow_succ]
    omega
theorem be_congr {f g : Nat → Int} (n : Nat) (h : ∀ i, i < n → f i = g i) : be f n = be g n := by
  induction n with
  | zero => rfl
  | succ n ih => simp only [be]; rw [ih (fun i hi => h i (by omega)), h n (by omega)]
theorem wrap64_mod (x y : Int) (h : x % 18446744073709551616 = y % 18446744073709551616) : wrap64 x = wrap64 y := by
  unfold wrap64
  omega
theorem wrap64_range (x : Int) : -9223372036854775808 ≤ wrap64 x ∧ wrap64 x ≤ 9223372036854775807 := by
  unfold wrap64
  omega
/-- The int64 in the eight bytes from place p on. -/
def wordv (s : ByteArray) (p : Nat) : Int := wrap64 (be (fun i => bt s ((p + i : Nat) : Int)) 8)
theorem bt_extract (s : ByteArray) (a b i : Nat) (h : a + i < b) (hb : b ≤ s.size) : bt (s.extract a b) (i : Int) = bt s ((a + i : Nat) : Int) := by
  have h1 : i < (s.extract a b).size := by rw [ByteArray.size_extract]; omega
  have h2 : a + i < s.size := by omega
  rw [← bt_at _ _ (by rw [Int.toNat_natCast]; exact h1), ← bt_at _ _ (by rw [Int.toNat_natCast]; exact h2)]
  simp only [Int.toNat_natCast]
  rw [ByteArray.getElem_extract]
/-- A step of reading: shifted by a byte, the next one laid in. -/
theorem be_step_u64 (f : Nat → Int) (hf : ∀ i, 0 ≤ f i ∧ f i ≤ 255) (n : Nat) (hn : n < 8) : Go.bits .or .u64 (IntKind.u64.wrap (be f n * 256)) (IntKind.u64.wrap (f n)) = be f (n + 1) := by
  have hr := be_range f hf n
  have h2 := hf n
  have h3 : (256 : Int) ^ n ≤ 256 ^ 7 := by
    obtain rfl | rfl | rfl | rfl | rfl | rfl | rfl | rfl : n = 0 ∨ n = 1 ∨ n = 2 ∨ n = 3 ∨ n = 4 ∨ n = 5 ∨ n = 6 ∨ n = 7 := by omega
    all_goals decide
  have h4 : be f n < 72057594037927936 := by have : (256 : Int) ^ 7 = 72057594037927936 := by decide
                                             omega
  have hw : ∀ x : Int, 0 ≤ x → x < 18446744073709551616 → IntKind.u64.wrap x = x := by
    intro x hx0 hx1
    simp [IntKind.wrap, IntKind.bits, IntKind.signed]
    omega
  rw [hw _ (by omega) (by omega), hw _ (by omega) (by omega), or8_u64 _ _ (by omega) (by omega) (by omega) h2.1 (by omega)]
  rfl
theorem be_step_i64 (f : Nat → Int) (hf : ∀ i, 0 ≤ f i ∧ f i ≤ 255) (n : Nat) : Go.bits .or .i64 (wrap64 (wrap64 (be f n) * 256)) (wrap64 (f n)) = wrap64 (be f (n + 1)) := by
  have h2 := hf n
  have hr := wrap64_range (wrap64 (be f n) * 256)
  have e : wrap64 (wrap64 (be f n) * 256) = wrap64 (be f n * 256) := wrap64_mod _ _ (by unfold wrap64; omega)
  have hd : wrap64 (be f n * 256) % 256 = 0 := by unfold wrap64; omega
  rw [e] at hr ⊢
  rw [w64 (x := f n) (by omega) (by omega), or8_i64 _ _ hr.1 hr.2 hd h2.1 (by omega)]
  simp only [be]
  unfold wrap64
  omega
end Go.Proofs.Ytnhladaobcnmhaa.Pure
namespace Go.Proofs.Ytnhladaobcnmhaa.Pure
open Go.RowKit Go.Proofs.YtnhladaobcnmhaaW.PrintWords Go.Proofs.YtnhladaobcnmhaaW.PrintLast Go.Proofs.YtnhladaobcnmhaaW.PrintMore
set_option linter.unusedVariables false
set_option linter.unusedSimpArgs false

/-! ### texts and lists of bytes -/
def isBytes (xs : List Int) : Prop := ∀ x ∈ xs, 0 ≤ x ∧ x ≤ 255
theorem bytesOf_isBytes (s : ByteArray) : isBytes (bytesOf s) := by
  intro x hx
  obtain ⟨b, _, rfl⟩ := List.mem_map.1 hx
  have := b.toNat_lt
  omega
theorem isBytes_of {xs : List Int} (h : ∀ x ∈ xs, (Go.Lit.int .u8 x).wf = true) : isBytes xs := by
  intro x hx
  have := h x hx
  simp [Go.Lit.wf, Go.IntKind.min, Go.IntKind.max, Go.IntKind.signed, Go.IntKind.bits] at this
  omega
theorem isBytes_set {xs : List Int} (h : isBytes xs) (i : Nat) {v : Int} (h0 : 0 ≤ v) (h1 : v ≤ 255) : isBytes (xs.set i v) := by
  intro x hx
  rcases List.mem_or_eq_of_mem_set hx with h2 | rfl
  · exact h x h2
  · exact ⟨h0, h1⟩
theorem isBytes_getD {xs : List Int} (h : isBytes xs) (i : Nat) : 0 ≤ xs.getD i 0 ∧ xs.getD i 0 ≤ 255 := by
  rcases Nat.lt_or_ge i xs.length with hi | hi
  · rw [List.getD_eq_getElem?_getD, List.getElem?_eq_getElem hi]
    exact h _ (List.getElem_mem hi)
  · rw [List.getD_eq_getElem?_getD, List.getElem?_eq_none hi]
    simp
theorem isBytes_replicate (n : Nat) : isBytes (List.replicate n 0) := by
  intro x hx
  rw [List.eq_of_mem_replicate hx]
  omega
theorem strOfNums_size (xs : List Int) : (strOfNums xs).size = xs.length := by
  show (List.toArray _).size = _
  simp
theorem bytesOf_strOfNums {xs : List Int} (h : isBytes xs) : bytesOf (strOfNums xs) = xs := by
  unfold bytesOf strOfNums
  simp only [List.map_map]
  conv => rhs; rw [← List.map_id xs]
  refine List.map_congr_left (fun x hx => ?_)
  have := h x hx
  simp
  omega
theorem strOfNums_bytesOf (s : ByteArray) : strOfNums (bytesOf s) = s := by
  unfold bytesOf strOfNums
  simp [Function.comp_def]
theorem bytesOf_inj {s t : ByteArray} (h : bytesOf s = bytesOf t) : s = t := by rw [← strOfNums_bytesOf s, h, strOfNums_bytesOf]
theorem toList_bytesOf (s : ByteArray) : s.toList.map (fun b => (b.toNat : Int)) = bytesOf s := by
  unfold bytesOf
  rw [ByteArray.toList_eq]
theorem toList_inj {s t : ByteArray} : s.toList = t.toList ↔ s = t :=
  ⟨fun h => bytesOf_inj (by rw [← toList_bytesOf, ← toList_bytesOf, h]), fun h => by rw [h]⟩
theorem toList_beq (s t : ByteArray) : (s.toList == t.toList) = decide (s = t) := by
  rw [Bool.eq_iff_iff]
  simp [toList_inj]
theorem bt_bytesOf (s : ByteArray) (i : Nat) : bt s (i : Int) = (bytesOf s).getD i 0 := by
  rw [← rd_bytesOf, rd_eq]

/-! ### a byte's bits -/
def bitv (x : Int) (r : Nat) : Bool := x / 2 ^ r % 2 == 1
theorem bitv_nat (n r : Nat) : bitv (n : Int) r = n.testBit r := by
  unfold bitv
  rw [Nat.testBit_eq_decide_div_mod_eq]
  have e : (n : Int) / 2 ^ r % 2 = ((n / 2 ^ r % 2 : Nat) : Int) := by simp
  rw [e, Bool.eq_iff_iff, beq_iff_eq, decide_eq_true_eq]
  omega
theorem wrap_u8_nat {n : Nat} (h : n < 256) : IntKind.u8.wrap (n : Int) = n := by
  rw [IntKind.wrap_u8]
  omega
theorem cast_mod {m : Nat} (h : m < 256) : (m : Int) % 256 = (m : Int) := by omega
theorem two_pow_lt {r : Nat} (hr : r < 8) : (2 ^ r : Nat) < 256 := by
  have : (2 ^ r : Nat) ≤ 2 ^ 7 := Nat.pow_le_pow_right (by decide) (by omega)
  omega
section
variable {x : Int} (h0 : 0 ≤ x) (h1 : x ≤ 255) {r : Nat} (hr : r < 8)
include h0 h1 hr
theorem byte_xor : (0 ≤ Go.bits .xor .u8 x (2 ^ r % 256) ∧ Go.bits .xor .u8 x (2 ^ r % 256) ≤ 255) ∧ ∀ q, q < 8 → bitv (Go.bits .xor .u8 x (2 ^ r % 256)) q = (bitv x q != decide (q = r)) := by
  obtain ⟨n, rfl⟩ := Int.eq_ofNat_of_zero_le h0
  have hp := two_pow_lt hr
  have e : (2 : Int) ^ r % 256 = ((2 ^ r : Nat) : Int) := by rw [show (2 : Int) ^ r = ((2 ^ r : Nat) : Int) from (Int.natCast_pow 2 r).symm]; exact cast_mod hp
  have hlt := ((BitVec.ofNat 8 n) ^^^ (BitVec.ofNat 8 (2 ^ r))).isLt
  have g : Go.bits .xor .u8 (n : Int) (2 ^ r % 256) = ((((BitVec.ofNat 8 n) ^^^ (BitVec.ofNat 8 (2 ^ r))).toNat : Nat) : Int) := by
    rw [e]
    unfold Go.bits
    simp only [BitVec.ofInt_natCast]
    exact wrap_u8_nat (Nat.lt_of_lt_of_eq hlt (by decide))
  rw [g]
  refine ⟨⟨by omega, by simp only [Nat.reducePow] at hlt; omega⟩, fun q hq => ?_⟩
  rw [bitv_nat, bitv_nat, BitVec.testBit_toNat, BitVec.getLsbD_xor, BitVec.getLsbD_ofNat, BitVec.getLsbD_ofNat, Nat.testBit_two_pow]
  simp [hq, eq_comm]
theorem byte_clear : (0 ≤ Go.bits .andNot .u8 x (2 ^ r % 256) ∧ Go.bits .andNot .u8 x (2 ^ r % 256) ≤ 255) ∧ ∀ q, q < 8 → bitv (Go.bits .andNot .u8 x (2 ^ r % 256)) q = (bitv x q && !decide (q = r)) := by
  obtain ⟨n, rfl⟩ := Int.eq_ofNat_of_zero_le h0
  have hp := two_pow_lt hr
  have e : (2 : Int) ^ r % 256 = ((2 ^ r : Nat) : Int) := by rw [show (2 : Int) ^ r = ((2 ^ r : Nat) : Int) from (Int.natCast_pow 2 r).symm]; exact cast_mod hp
  have hlt := ((BitVec.ofNat 8 n) &&& ~~~(BitVec.ofNat 8 (2 ^ r))).isLt
  have g : Go.bits .andNot .u8 (n : Int) (2 ^ r % 256) = ((((BitVec.ofNat 8 n) &&& ~~~(BitVec.ofNat 8 (2 ^ r))).toNat : Nat) : Int) := by
    rw [e]
    unfold Go.bits
    simp only [BitVec.ofInt_natCast]
    exact wrap_u8_nat (Nat.lt_of_lt_of_eq hlt (by decide))
  rw [g]
  refine ⟨⟨by omega, by simp only [Nat.reducePow] at hlt; omega⟩, fun q hq => ?_⟩
  rw [bitv_nat, bitv_nat, BitVec.testBit_toNat, BitVec.getLsbD_and, BitVec.getLsbD_not, BitVec.getLsbD_ofNat, BitVec.getLsbD_ofNat, Nat.testBit_two_pow]
  simp [hq, eq_comm]
theorem byte_set : (0 ≤ Go.bits .or .u8 x (2 ^ r % 256) ∧ Go.bits .or .u8 x (2 ^ r % 256) ≤ 255) ∧ ∀ q, q < 8 → bitv (Go.bits .or .u8 x (2 ^ r % 256)) q = (bitv x q || decide (q = r)) := by
  obtain ⟨n, rfl⟩ := Int.eq_ofNat_of_zero_le h0
  have hp := two_pow_lt hr
  have e : (2 : Int) ^ r % 256 = ((2 ^ r : Nat) : Int) := by rw [show (2 : Int) ^ r = ((2 ^ r : Nat) : Int) from (Int.natCast_pow 2 r).symm]; exact cast_mod hp
  have hlt := ((BitVec.ofNat 8 n) ||| (BitVec.ofNat 8 (2 ^ r))).isLt
  have g : Go.bits .or .u8 (n : Int) (2 ^ r % 256) = ((((BitVec.ofNat 8 n) ||| (BitVec.ofNat 8 (2 ^ r))).toNat : Nat) : Int) := by
    rw [e]
    unfold Go.bits
    simp only [BitVec.ofInt_natCast]
    exact wrap_u8_nat (Nat.lt_of_lt_of_eq hlt (by decide))
  rw [g]
  refine ⟨⟨by omega, by simp only [Nat.reducePow] at hlt; omega⟩, fun q hq => ?_⟩
  rw [bitv_nat, bitv_nat, BitVec.testBit_toNat, BitVec.getLsbD_or, BitVec.getLsbD_ofNat, BitVec.getLsbD_ofNat, Nat.testBit_two_pow]
  simp [hq, eq_comm]
end
theorem byte_ext {x y : Int} (h0 : 0 ≤ x) (h1 : x ≤ 255) (h2 : 0 ≤ y) (h3 : y ≤ 255) (h : ∀ q, q < 8 → bitv x q = bitv y q) : x = y := by
  obtain ⟨n, rfl⟩ := Int.eq_ofNat_of_zero_le h0
  obtain ⟨m, rfl⟩ := Int.eq_ofNat_of_zero_le h2
  refine congrArg _ (Nat.eq_of_testBit_eq (fun i => ?_))
  rcases Nat.lt_or_ge i 8 with hi | hi
  · simpa [bitv_nat] using h i hi
  · have hp : (2 : Nat) ^ 8 ≤ 2 ^ i := Nat.pow_le_pow_right (by decide) hi
    rw [Nat.testBit_lt_two_pow (by omega), Nat.testBit_lt_two_pow (by omega)]
/-- Bit i of a list of bytes. -/
def bitL (xs : List Int) (i : Nat) : Bool := bitv (xs.getD (i / 8) 0) (i % 8)
theorem bytes_ext {xs ys : List Int} (hx : isBytes xs) (hy : isBytes ys) (hl : xs.length = ys.length) (h : ∀ i, i < 8 * xs.length → bitL xs i = bitL ys i) : xs = ys := by
  refine List.ext_getElem hl (fun m h1 h2 => ?_)
  have gx := hx _ (List.getElem_mem h1)
  have gy := hy _ (List.getElem_mem h2)
  refine byte_ext gx.1 gx.2 gy.1 gy.2 (fun q hq => ?_)
  have e := h (8 * m + q) (by omega)
  unfold bitL at e
  rw [show (8 * m + q) / 8 = m from by omega, show (8 * m + q) % 8 = q from by omega] at e
  simpa [List.getD_eq_getElem?_getD, h1, h2] using e
/-- A byte changed: which bits change. -/
theorem bitL_set {xs : List Int} {i : Nat} (hi : i < xs.length) (v : Int) (j : Nat) : bitL (xs.set i v) j = if j / 8 = i then bitv v (j % 8) else bitL xs j := by
  unfold bitL
  split
  · rename_i h
    rw [h, List.getD_eq_getElem?_getD, List.getElem?_set_self hi]
    rfl
  · rename_i h
    rw [List.getD_eq_getElem?_getD, List.getElem?_set_ne (fun e => h e.symm), ← List.getD_eq_getElem?_getD]
end Go.Proofs.Ytnhladaobcnmhaa.Pure
namespace Go.Proofs.Ytnhladaobcnmhaa.Pure
open Go.RowKit Go.Proofs.Ytnhladaobcnmhaa.X Go.Proofs.YtnhladaobcnmhaaW.PrintWords Go.Proofs.YtnhladaobcnmhaaW.PrintLast
set_option linter.unusedVariables false
set_option linter.unusedSimpArgs false

/-- A code and a place in it. -/
structure Rd (l : List Int) (p : Int) : Prop where
  bytes : isBytes l
  len : l.length ≤ 1099511627776
  lo : 0 ≤ p
  hi : p ≤ l.length
theorem Rd.start {l : List Int} (hb : isBytes l) (hl : l.length ≤ 1099511627776) : Rd l 0 := ⟨hb, hl, by omega, by omega⟩
theorem next_f {l : List Int} {p : Int} (h : Rd l p) : ∃ b q, spec_l1Rd_next.f l p = some (b, q) ∧ 0 ≤ b ∧ b ≤ 255 ∧ Rd l q := by
  obtain ⟨hb, hl, h0, h1⟩ := h
  unfold spec_l1Rd_next.f
  by_cases c : p ≥ (l.length : Int)
  · exact ⟨0, p, by rw [if_pos c], by omega, by omega, hb, hl, h0, h1⟩
  · have hg := isBytes_getD hb p.toNat
    have e : rd l p = l.getD p.toNat 0 := rfl
    rw [if_neg c, w64 (x := p + 1) (by omega) (by omega), w64 (x := p + 1 - 1) (by omega) (by omega), show p + 1 - 1 = p from by omega, if_pos h0, if_pos (by omega), w64 (x := rd l p) (by omega) (by omega)]
    exact ⟨_, _, rfl, by omega, by omega, hb, hl, by omega, by omega⟩
theorem tmod_range {x n : Int} (hx : 0 ≤ x) (hn : 0 < n) : 0 ≤ Int.tmod x n ∧ Int.tmod x n < n := by
  rw [Int.tmod_eq_emod_of_nonneg hx]
  exact ⟨Int.emod_nonneg _ (by omega), Int.emod_lt_of_pos _ hn⟩
/-- below n: one of 0 .. n - 1. -/
theorem below_f {l : List Int} {p : Int} (h : Rd l p) (n : Int) (hn : 1 ≤ n) (hn2 : n ≤ 65536) : ∃ v q, spec_l1Rd_below.f l p n = some (v, q) ∧ 0 ≤ v ∧ v < n ∧ Rd l q := by
  unfold spec_l1Rd_below.f
  by_cases c : n ≤ 1
  · exact ⟨0, p, by rw [if_pos c], by omega, by omega, h⟩
  · rw [if_neg c]
    by_cases c2 : n ≤ 256
    · obtain ⟨b, q, e, h0, h1, hq⟩ := next_f h
      have hm := tmod_range h0 (show 0 < n by omega)
      rw [if_pos c2, e, Option.bind_some, if_neg (by omega)]
      exact ⟨_, _, rfl, hm.1, hm.2, hq⟩
    · obtain ⟨b, q, e, h0, h1, hq⟩ := next_f h
      obtain ⟨b2, q2, e2, h2, h3, hq2⟩ := next_f hq
      have hm := tmod_range (show 0 ≤ b * 256 + b2 by omega) (show 0 < n by omega)
      rw [if_neg c2, e, Option.bind_some]
      simp only []
      rw [e2, Option.bind_some, if_neg (by omega)]
      simp only []
      rw [w64 (x := b * 256) (by omega) (by omega), w64 (x := b * 256 + b2) (by omega) (by omega)]
      exact ⟨_, _, rfl, hm.1, hm.2, hq2⟩
theorem once_f {l : List Int} {p : Int} (h : Rd l p) (n : Int) (hn : 1 ≤ n) (hn2 : n ≤ 65536) : ∃ v q, spec_l1Rd_once.f l p n = some (v, q) ∧ Rd l q := by
  obtain ⟨v, q, e, _, _, hq⟩ := below_f h n hn hn2
  unfold spec_l1Rd_once.f
  rw [e, Option.bind_some]
  exact ⟨_, _, rfl, hq⟩
/-- word: a number of 64 bits. -/
theorem word_ev {l : List Int} {p : Int} (h : Rd l p) : ∃ v q, Ev (fun k => spec_l1Rd_word.f k l p) (v, q) ∧ 0 ≤ v ∧ v < 18446744073709551616 ∧ Rd l q := by
  have lp : ∀ (d i : Nat) (f : Nat → Int) (p : Int), 8 - i = d → i ≤ 8 → (∀ j, 0 ≤ f j ∧ f j ≤ 255) → Rd l p → ∃ v q, Ev (fun k => spec_l1Rd_word.l0 k (be f i) (i : Int) l p) (v, q) ∧ 0 ≤ v ∧ v < 18446744073709551616 ∧ Rd l q := by
    intro d
    induction d with
    | zero =>
      intro i f p hd hi hf hp
      obtain rfl : i = 8 := by omega
      have hr := be_range f hf 8
      have e8 : (256 : Int) ^ 8 = 18446744073709551616 := by decide
      exact ⟨_, _, Ev.step (fun k => by rw [spec_l1Rd_word.l0]) (Ev.neg (by omega) (Ev.eq rfl)), hr.1, by omega, hp⟩
    | succ d ih =>
      intro i f p hd hi hf hp
      obtain ⟨b, q, e, h0, h1, hq⟩ := next_f hp
      obtain ⟨v, q2, he, hv⟩ := ih (i + 1) (fun j => if j = i then b else f j) q (by omega) (by omega) (fun j => by
        by_cases c : j = i
        · simp only [if_pos c]; exact ⟨h0, h1⟩
        · simp only [if_neg c]; exact hf j) hq
      refine ⟨v, q2, Ev.step (fun k => by rw [spec_l1Rd_word.l0]) (Ev.pos (by omega) (Ev.bindo e ?_)), hv⟩
      have hb := be_step_u64 (fun j => if j = i then b else f j) (fun j => by
        by_cases c : j = i
        · simp only [if_pos c]; exact ⟨h0, h1⟩
        · simp only [if_neg c]; exact hf j) i (by omega)
      rw [be_congr (f := fun j => if j = i then b else f j) (g := f) i (fun j hj => if_neg (by omega))] at hb
      simp only [if_true] at hb
      simp only []
      rw [hb, show wrap64 ((i : Int) + 1) = ((i + 1 : Nat) : Int) from by rw [w64 (by omega) (by omega)]; omega]
      exact he
  unfold spec_l1Rd_word.f
  exact lp 8 0 (fun _ => 0) p rfl (by omega) (fun _ => by omega) h
theorem u64_id {x : Int} (h0 : 0 ≤ x) (h1 : x < 18446744073709551616) : IntKind.u64.wrap x = x := by
  simp [IntKind.wrap, IntKind.bits, IntKind.signed]
  omega
/-- near lo hi: one of lo .. hi, or an end of it. -/
theorem near_ev {l : List Int} {p : Int} (h : Rd l p) (lo hi : Int) (h0 : -2305843009213693952 ≤ lo) (h1 : lo ≤ 2305843009213693952) (h2 : -2305843009213693952 ≤ hi) (h3 : hi ≤ 2305843009213693952) :
    ∃ v q, Ev (fun k => spec_l1Rd_near.f k l p lo hi) (v, q) ∧ (lo ≤ hi → lo ≤ v ∧ v ≤ hi) ∧ (v = hi ∨ lo ≤ v) ∧ -2305843009213693952 ≤ v ∧ v ≤ 2305843009213693952 ∧ Rd l q := by
  obtain ⟨v, q, e, hv0, hv1, hq⟩ := below_f h 8 (by omega) (by omega)
  unfold spec_l1Rd_near.f
  by_cases c0 : v = 0
  · exact ⟨_, _, Ev.bindo e (Ev.pos c0 (Ev.eq rfl)), fun _ => by omega, by omega, by omega, by omega, hq⟩
  · by_cases c1 : v = 1
    · exact ⟨_, _, Ev.bindo e (Ev.neg c0 (Ev.pos c1 (Ev.eq rfl))), fun _ => by omega, by omega, by omega, by omega, hq⟩
    · by_cases c2 : hi < lo
      · exact ⟨_, _, Ev.bindo e (Ev.neg c0 (Ev.neg c1 (Ev.pos c2 (Ev.eq rfl)))), fun _ => by omega, by omega, by omega, by omega, hq⟩
      · obtain ⟨w, q2, ew, hw0, hw1, hq2⟩ := word_ev hq
        have hm := tmod_range (show 0 ≤ w / 2 by omega) (show 0 < hi - lo + 1 by omega)
        refine ⟨lo + Int.tmod (w / 2) (hi - lo + 1), q2, Ev.bindo e (Ev.neg c0 (Ev.neg c1 (Ev.neg c2 (Ev.bind ew ?_)))), fun _ => by omega, by omega, by omega, by omega, hq2⟩
        rw [w64 (x := hi - lo) (by omega) (by omega), w64 (x := hi - lo + 1) (by omega) (by omega), u64_id (x := hi - lo + 1) (by omega) (by omega)]
        refine Ev.neg (by omega) ?_
        simp only []
        rw [w64 (x := Int.tmod (w / 2) (hi - lo + 1)) (by omega) (by omega), w64 (x := lo + Int.tmod (w / 2) (hi - lo + 1)) (by omega) (by omega)]
        exact Ev.eq rfl
/-- off lo hi: as near, now and then just outside, or an end of int64. -/
theorem off_ev {l : List Int} {p : Int} (h : Rd l p) (lo hi : Int) (h0 : -1099511627776 ≤ lo) (h1 : lo ≤ 1099511627776) (h2 : -1099511627776 ≤ hi) (h3 : hi ≤ 1099511627776) :
    ∃ v q, Ev (fun k => spec_l1Rd_off.f k l p lo hi) (v, q) ∧ -9223372036854775808 ≤ v ∧ v ≤ 9223372036854775807 ∧ Rd l q := by
  obtain ⟨o, q, e, hq⟩ := once_f h 24 (by omega) (by omega)
  unfold spec_l1Rd_off.f
  by_cases c : o = true
  · obtain ⟨v, q2, e2, hv0, hv1, hq2⟩ := below_f hq 4 (by omega) (by omega)
    refine ⟨rd [wrap64 (lo - 1), wrap64 (hi + 1), (-9223372036854775808), 9223372036854775807] v, q2, Ev.bindo e (Ev.pos c (Ev.bindo rfl (Ev.bindo e2 (Ev.pos (by simp only []; omega) (Ev.pos (by simp only [List.length_cons, List.length_nil]; omega) (Ev.eq rfl)))))), ?_, ?_, hq2⟩
    all_goals
      obtain rfl | rfl | rfl | rfl : v = 0 ∨ v = 1 ∨ v = 2 ∨ v = 3 := by omega
      · have := wrap64_range (lo - 1); simp [rd]; omega
      · have := wrap64_range (hi + 1); simp [rd]; omega
      · simp [rd]
      · simp [rd]
  · obtain ⟨v, q2, e2, _, _, hv0, hv1, hq2⟩ := near_ev hq lo hi (by omega) (by omega) (by omega) (by omega)
    exact ⟨v, q2, Ev.bindo e (Ev.neg c (Ev.bind e2 (Ev.eq rfl))), by omega, by omega, hq2⟩
end Go.Proofs.Ytnhladaobcnmhaa.Pure
namespace Go.Proofs.Ytnhladaobcnmhaa.Pure
open Go.RowKit Go.Proofs.Ytnhladaobcnmhaa.X Go.Proofs.YtnhladaobcnmhaaW.PrintWords Go.Proofs.YtnhladaobcnmhaaW.PrintLast
set_option linter.unusedVariables false
set_option linter.unusedSimpArgs false

theorem set_ev {l : List Int} {p : Int} (h : Rd l p) : ∃ v q, Ev (fun k => spec_l1Rd_set.f k l p) (v, q) ∧ v.length ≤ 9 ∧ Rd l q := by
  have lp : ∀ (d : Nat) (i at_ : Int) (acc : List Int) (p : Int), i.toNat = d → 0 ≤ i → i + acc.length ≤ 7 → 0 ≤ at_ → at_ ≤ 30 * (7 - i) → Rd l p →
      ∃ v q, Ev (fun k => spec_l1Rd_set.l0 k acc at_ i l p) (v, q) ∧ v.length ≤ 9 ∧ Rd l q := by
    intro d
    induction d with
    | zero =>
      intro i at_ acc p hd h0 ha h1 h2 hp
      obtain ⟨v, q, e, hv0, hv1, hq⟩ := below_f hp 20 (by omega) (by omega)
      by_cases c0 : v = 0
      · obtain ⟨x, q2, e2, _, _, hq2⟩ := off_ev hq 0 1023 (by omega) (by omega) (by omega) (by omega)
        refine ⟨acc ++ [x], q2, Ev.step (fun k => by rw [spec_l1Rd_set.l0]) (Ev.neg (by omega) (Ev.bindo e (Ev.pos c0 (Ev.bind e2 ?_)))), ?_, hq2⟩
        · exact Ev.pos (by omega) (Ev.eq rfl)
        · rw [List.length_append, List.length_singleton]; omega
      · by_cases c1 : v = 1
        · refine ⟨acc ++ [1022, 1023], q, Ev.step (fun k => by rw [spec_l1Rd_set.l0]) (Ev.neg (by omega) (Ev.bindo e (Ev.neg c0 (Ev.pos c1 ?_)))), ?_, hq⟩
          · refine Ev.bindo rfl ?_
            refine Ev.pos ?_ (Ev.eq rfl)
            simp only [List.length_cons, List.length_nil]; omega
          · simp only [List.length_append, List.length_cons, List.length_nil]; omega
        · exact ⟨_, _, Ev.step (fun k => by rw [spec_l1Rd_set.l0]) (Ev.neg (by omega) (Ev.bindo e (Ev.neg c0 (Ev.neg c1 (Ev.eq rfl))))), by omega, hq⟩
    | succ d ih =>
      intro i at_ acc p hd h0 ha h1 h2 hp
      obtain ⟨v, q, e, hv0, hv1, hq⟩ := below_f hp 30 (by omega) (by omega)
      have hl2 : (acc ++ [at_ + (1 + v)]).length = acc.length + 1 := by rw [List.length_append, List.length_singleton]
      obtain ⟨r, q2, hr, hl, hq2⟩ := ih (i - 1) (at_ + (1 + v)) (acc ++ [at_ + (1 + v)]) q (by omega) (by omega) (by omega) (by omega) (by omega) hq
      refine ⟨r, q2, Ev.step (fun k => by rw [spec_l1Rd_set.l0]) (Ev.pos (by omega) (Ev.bindo e ?_)), hl, hq2⟩
      refine Ev.pos (by omega) ?_
      simp only []
      rw [w64 (x := 1 + v) (by omega) (by omega), w64 (x := at_ + (1 + v)) (by omega) (by omega), w64 (x := i - 1) (by omega) (by omega)]
      exact hr
  obtain ⟨v, q, e, hv0, hv1, hq⟩ := below_f h 8 (by omega) (by omega)
  obtain ⟨r, q2, hr, hl⟩ := lp v.toNat v 0 [] q rfl hv0 (by simp only [List.length_nil]; omega) (by omega) (by omega) hq
  refine ⟨r, q2, ?_, hl⟩
  unfold spec_l1Rd_set.f
  exact Ev.bindo e hr
end Go.Proofs.Ytnhladaobcnmhaa.Pure
namespace Go.Proofs.Ytnhladaobcnmhaa.Pure
open Go.RowKit Go.Proofs.Ytnhladaobcnmhaa.X Go.Proofs.YtnhladaobcnmhaaW.PrintWords Go.Proofs.YtnhladaobcnmhaaW.PrintLast
set_option linter.unusedVariables false
set_option linter.unusedSimpArgs false
theorem ref_ev {l : List Int} {p : Int} (h : Rd l p) : ∃ v q, Ev (fun k => spec_l1Rd_ref.f k l p) (v, q) ∧ -9223372036854775808 ≤ v ∧ v ≤ 9223372036854775807 ∧ Rd l q := by
  obtain ⟨x, q, e, hx0, hx1, hq⟩ := below_f h 12 (by omega) (by omega)
  have hj1 : ∀ b : Bool, ∃ v q2, Ev (fun k => spec_l1Rd_ref.j1 k b l q) (v, q2) ∧ -9223372036854775808 ≤ v ∧ v ≤ 9223372036854775807 ∧ Rd l q2 := by
    intro b
    obtain ⟨y, q2, e2, hy0, hy1, hq2⟩ := below_f hq 20 (by omega) (by omega)
    cases b with
    | true =>
      refine ⟨2 * (1 + y), q2, Ev.step (fun k => by rw [spec_l1Rd_ref.j1]) (Ev.pos rfl (Ev.bindo e2 ?_)), by omega, by omega, hq2⟩
      simp only []
      rw [w64 (x := 1 + y) (by omega) (by omega), w64 (by omega) (by omega)]
      exact Ev.eq rfl
    | false =>
      refine ⟨2 * y + 1, q2, Ev.step (fun k => by rw [spec_l1Rd_ref.j1]) (Ev.neg (by simp) (Ev.bindo e2 ?_)), by omega, by omega, hq2⟩
      simp only []
      rw [w64 (x := 2 * y) (by omega) (by omega), w64 (by omega) (by omega)]
      exact Ev.eq rfl
  have hj0 : ∀ b : Bool, ∃ v q2, Ev (fun k => spec_l1Rd_ref.j0 k x b l q) (v, q2) ∧ -9223372036854775808 ≤ v ∧ v ≤ 9223372036854775807 ∧ Rd l q2 := by
    intro b
    cases b with
    | true => exact ⟨0, q, Ev.step (fun k => by rw [spec_l1Rd_ref.j0]) (Ev.pos rfl (Ev.eq rfl)), by omega, by omega, hq⟩
    | false =>
      by_cases c4 : x = 4
      · obtain ⟨v, q2, hv, hr⟩ := hj1 (x == 4)
        exact ⟨v, q2, Ev.step (fun k => by rw [spec_l1Rd_ref.j0]) (Ev.neg (by simp) (Ev.pos c4 hv)), hr⟩
      · by_cases c5 : x = 5
        · obtain ⟨v, q2, hv, hr⟩ := hj1 (x == 5)
          exact ⟨v, q2, Ev.step (fun k => by rw [spec_l1Rd_ref.j0]) (Ev.neg (by simp) (Ev.neg c4 (Ev.pos c5 hv))), hr⟩
        · obtain ⟨v, q2, hv, hr⟩ := hj1 (x == 6)
          exact ⟨v, q2, Ev.step (fun k => by rw [spec_l1Rd_ref.j0]) (Ev.neg (by simp) (Ev.neg c4 (Ev.neg c5 hv))), hr⟩
  unfold spec_l1Rd_ref.f
  by_cases c0 : x = 0
  · obtain ⟨v, q2, e2, h0, h1, hq2⟩ := off_ev hq 0 254 (by omega) (by omega) (by omega) (by omega)
    exact ⟨v, q2, Ev.bindo e (Ev.pos c0 (Ev.bind e2 (Ev.eq rfl))), h0, h1, hq2⟩
  · by_cases c1 : x = 1
    · obtain ⟨v, q2, e2, h0, h1, hq2⟩ := off_ev hq 0 799 (by omega) (by omega) (by omega) (by omega)
      exact ⟨v, q2, Ev.bindo e (Ev.neg c0 (Ev.pos c1 (Ev.bind e2 (Ev.eq rfl)))), h0, h1, hq2⟩
    · by_cases c2 : x = 2
      · obtain ⟨v, q2, hv, hr⟩ := hj0 (x == 2)
        exact ⟨v, q2, Ev.bindo e (Ev.neg c0 (Ev.neg c1 (Ev.pos c2 hv))), hr⟩
      · obtain ⟨v, q2, hv, hr⟩ := hj0 (x == 3)
        exact ⟨v, q2, Ev.bindo e (Ev.neg c0 (Ev.neg c1 (Ev.neg c2 hv))), hr⟩
end Go.Proofs.Ytnhladaobcnmhaa.Pure
namespace Go.Proofs.Ytnhladaobcnmhaa.Pure
open Go.RowKit Go.Proofs.Ytnhladaobcnmhaa.X Go.Proofs.YtnhladaobcnmhaaW.PrintWords Go.Proofs.YtnhladaobcnmhaaW.PrintLast
set_option linter.unusedVariables false
set_option linter.unusedSimpArgs false
theorem sameInts_ev (l : List Int) (hl : l.length ≤ 1099511627776) : Ev (fun k => laws_sameInts.f k l l) true := by
  have lp : ∀ (d i : Nat), l.length - i = d → i ≤ l.length → Ev (fun k => laws_sameInts.l0 k l l (i : Int)) true := by
    intro d
    induction d with
    | zero =>
      intro i hd hi
      exact Ev.step (fun k => by rw [laws_sameInts.l0]) (Ev.neg (by omega) (Ev.eq rfl))
    | succ d ih =>
      intro i hd hi
      refine Ev.step (fun k => by rw [laws_sameInts.l0]) ?_
      rw [show wrap64 ((i : Int) + 1) = ((i + 1 : Nat) : Int) from by rw [w64 (by omega) (by omega)]; omega]
      exact Ev.pos (by omega) (Ev.pos (by omega) (Ev.pos (by omega) (Ev.pos rfl (ih (i + 1) (by omega) (by omega)))))
  unfold laws_sameInts.f
  exact Ev.pos rfl (lp _ 0 rfl (by omega))
end Go.Proofs.Ytnhladaobcnmhaa.Pure
namespace Go.Proofs.Ytnhladaobcnmhaa.Pure
open Go.RowKit Go.Proofs.Ytnhladaobcnmhaa.X Go.Proofs.YtnhladaobcnmhaaW.PrintWords Go.Proofs.YtnhladaobcnmhaaW.PrintLast
set_option linter.unusedVariables false
set_option linter.unusedSimpArgs false
theorem has_ev (l : List Int) (x : Int) (hl : l.length ≤ 1099511627776) : Ev (fun k => laws_has.f k l x) (decide (x ∈ l)) := by
  have lp : ∀ (d i : Nat), l.length - i = d → i ≤ l.length → x ∉ l.take i → Ev (fun k => laws_has.l0 k l x (i : Int)) (decide (x ∈ l)) := by
    intro d
    induction d with
    | zero =>
      intro i hd hi hn
      rw [List.take_of_length_le (by omega)] at hn
      refine Ev.step (fun k => by rw [laws_has.l0]) (Ev.neg (by omega) (Ev.eq ?_))
      simp [hn]
    | succ d ih =>
      intro i hd hi hn
      have hlt : i < l.length := by omega
      refine Ev.step (fun k => by rw [laws_has.l0]) ?_
      rw [rd_get hlt, show wrap64 ((i : Int) + 1) = ((i + 1 : Nat) : Int) from by rw [w64 (by omega) (by omega)]; omega]
      refine Ev.pos (by omega) (Ev.pos (by omega) (Ev.cases (fun e => Ev.eq ?_) (fun e => ?_)))
      · simp [← e]
      · exact ih (i + 1) (by omega) (by omega) (by
          rw [take_snoc2 l i hlt, List.mem_append, List.mem_singleton]
          exact fun h => h.elim hn (fun h => e h.symm))
  unfold laws_has.f
  exact lp _ 0 rfl (by omega) (by simp)
end Go.Proofs.Ytnhladaobcnmhaa.Pure
namespace Go.Proofs.Ytnhladaobcnmhaa.Pure
open Go.RowKit Go.Proofs.Ytnhladaobcnmhaa.X Go.Proofs.YtnhladaobcnmhaaW.PrintWords Go.Proofs.YtnhladaobcnmhaaW.PrintLast
set_option linter.unusedVariables false
set_option linter.unusedSimpArgs false
theorem drawBarrier_ev {l : List Int} (hb : isBytes l) (hl : l.length ≤ 1099511627776) : ∃ s w r, Ev (fun k => spec_DrawBarrier.f k l) (s, w, r) ∧ s.length ≤ 9 := by
  have h0 := Rd.start hb hl
  obtain ⟨s, q, es, hsl, hq⟩ := set_ev h0
  have hj : ∀ (b : Bool) (q : Int), Rd l q → (b = true → 0 < s.length) → ∃ w r, Ev (fun k => spec_DrawBarrier.j0 k s b l q) (s, w, r) := by
    intro b q hq hpos
    cases b with
    | true =>
      have hp := hpos rfl
      obtain ⟨v, q2, e2, hv0, hv1, hq2⟩ := below_f hq (s.length : Int) (by omega) (by omega)
      obtain ⟨r, q3, e3, _, _, hq3⟩ := ref_ev hq2
      refine ⟨rd s v, r, Ev.step (fun k => by rw [spec_DrawBarrier.j0]) (Ev.pos rfl (Ev.bindo e2 ?_))⟩
      simp only []
      exact Ev.pos hv0 (Ev.pos hv1 (Ev.bind e3 (Ev.eq rfl)))
    | false =>
      obtain ⟨v, q2, e2, _, _, hq2⟩ := off_ev hq 0 1023 (by omega) (by omega) (by omega) (by omega)
      obtain ⟨r, q3, e3, _, _, hq3⟩ := ref_ev hq2
      refine ⟨v, r, Ev.step (fun k => by rw [spec_DrawBarrier.j0]) (Ev.neg (by simp) (Ev.bind e2 ?_))⟩
      simp only []
      exact Ev.bind e3 (Ev.eq rfl)
  unfold spec_DrawBarrier.f
  by_cases c : 0 < s.length
  · obtain ⟨b, q1, e1, hq1⟩ := once_f hq 2 (by omega) (by omega)
    obtain ⟨w, r, e2⟩ := hj b q1 hq1 (fun _ => c)
    exact ⟨s, w, r, Ev.bindo rfl (Ev.bind es (Ev.pos (by simp only []; omega) (Ev.bindo e1 e2))), hsl⟩
  · obtain ⟨w, r, e2⟩ := hj false q hq (fun h => by cases h)
    exact ⟨s, w, r, Ev.bindo rfl (Ev.bind es (Ev.neg (by simp only []; omega) e2)), hsl⟩
theorem keepL_set (set : List Int) (word : Int) (b : Bool) : setFrom (keepL set word b 1024 0) 0 := by
  intro j hj _
  have hm := (keepL_mem set word b _ 1024 0).1 (List.getElem_mem hj)
  refine ⟨by omega, by omega, fun h0 => ?_⟩
  exact List.pairwise_iff_getElem.1 (keepL_sorted set word b 1024 0) (j - 1) j (by omega) hj (by omega)
theorem keepL_again (set : List Int) (word : Int) (b : Bool) : keepL (keepL set word b 1024 0) word b 1024 0 = keepL set word b 1024 0 := by
  refine sorted_ext (keepL_sorted _ _ _ _ _) (keepL_sorted _ _ _ _ _) (fun x => ?_)
  have h := keepL_mem set word b x 1024 0
  rw [keepL_mem, h]
  constructor
  · rintro ⟨h0, h1, h2 | ⟨_, h3⟩⟩
    · exact ⟨h0, h1, .inl h2⟩
    · exact h3
  · rintro ⟨h0, h1, h2 | h2⟩
    · exact ⟨h0, h1, .inl h2⟩
    · exact ⟨h0, h1, .inr ⟨h2.1, h0, h1, .inr h2⟩⟩
theorem FnBarrier : laws_FnBarrier.Pure := by
  intro l _ hl8 hb
  refine Ev.rounds ?_
  unfold laws_FnBarrier.f
  refine Ev.bindo rfl ?_
  refine Ev.cases (fun _ => Ev.eq rfl) (fun c => ?_)
  have hlen : l.length ≤ 1099511627776 := by
    have : ¬ (l.length : Int) > 1048576 := by simpa using c
    omega
  obtain ⟨s, w, r, hd, hsl⟩ := drawBarrier_ev (isBytes_of hb) hlen
  have h1 := impl_Barrier_ev s w r (by omega)
  have h2 := spec_Barrier_ev s w r (by omega)
  have hrl := barrierR_length s w r
  refine Ev.bind hd (Ev.bind h1 (Ev.bind h2 ?_))
  refine Ev.neg (by simp) ?_
  refine Ev.bind (sameInts_ev _ (by omega)) ?_
  refine Ev.pos rfl ?_
  refine Ev.bind (impl_SetOk_ev s (by omega)) ?_
  refine Ev.bind (spec_SetOk_ev s (by omega)) ?_
  refine Ev.neg (by simp) ?_
  refine Ev.step (fun k => by rw [laws_FnBarrier.j0]) ?_
  by_cases hc : setFrom s 0 ∧ (0 ≤ w ∧ w ≤ 1023) ∧ ¬ refk r < 0
  · have e : barrierR s w r = (keepL s w (decide (refk r = 2)) 1024 0, true) := by rw [barrierR, if_pos hc]
    rw [e]
    refine Ev.neg (by simp) ?_
    simp only []
    have hrng := set_range hc.1
    have hkl := keepL_length s w (decide (refk r = 2)) 1024 0
    have hkm := fun x => keepL_mem s w (decide (refk r = 2)) x 1024 0
    have hks := keepL_set s w (decide (refk r = 2))
    have hka := keepL_again s w (decide (refk r = 2))
    generalize hK : keepL s w (decide (refk r = 2)) 1024 0 = K at *
    have h3 := impl_Barrier_ev K w r (by omega)
    rw [barrierR, if_pos ⟨hks, hc.2.1, hc.2.2⟩, hka] at h3
    have fin : Ev (fun k => (impl_Barrier.f k K w r).bind fun bt637 => ((laws_has.f k K w).bind fun t641 => ((impl_RefKind.f k r).bind fun t642 => (if (t641 == (t642 == 2)) = true then ((impl_SetOk.f k K).bind fun t643 => (if t643 = true then (if bt637.2 = true then ((laws_sameInts.f k bt637.1 K).bind fun t644 => (some t644)) else (some false)) else (some false))) else (some false))))) true := by
      refine Ev.bind h3 (Ev.bind (has_ev K w (by omega)) (Ev.bind (impl_RefKind_ev r) ?_))
      refine Ev.pos ?_ ?_
      · have := hkm w
        by_cases c2 : refk r = 2
        · have hm : w ∈ K := this.2 ⟨by omega, by omega, .inl ⟨rfl, decide_eq_true c2⟩⟩
          simp [hm, c2]
        · have hm : w ∉ K := fun hm => by
            rcases (this.1 hm).2.2 with h | h
            · exact c2 (of_decide_eq_true h.2)
            · exact h.1 rfl
          simp [hm, c2]
      · refine Ev.bind (impl_SetOk_ev K (by omega)) ?_
        refine Ev.pos (decide_eq_true hks) ?_
        refine Ev.pos rfl ?_
        exact Ev.bind (sameInts_ev K (by omega)) (Ev.eq rfl)
    have lp1 : ∀ (d i : Nat), K.length - i = d → i ≤ K.length → Ev (fun k => laws_FnBarrier.l1 k s w r K (i : Int)) true := by
      intro d
      induction d with
      | zero =>
        intro i hd hi
        refine Ev.step (fun k => by rw [laws_FnBarrier.l1]) ?_
        exact Ev.neg (by omega) fin
      | succ d ih =>
        intro i hd hi
        have hlt : i < K.length := by omega
        have ih := ih (i + 1) (by omega) (by omega)
        refine Ev.step (fun k => by rw [laws_FnBarrier.l1]) ?_
        rw [rd_get hlt, show wrap64 ((i : Int) + 1) = ((i + 1 : Nat) : Int) from by rw [w64 (by omega) (by omega)]; omega]
        refine Ev.pos (by omega) (Ev.pos (by omega) ?_)
        refine Ev.cases (fun _ => ih) (fun c2 => ?_)
        refine Ev.bind (has_ev s _ (by omega)) ?_
        refine Ev.pos (decide_eq_true ?_) ih
        rcases ((hkm K[i]).1 (List.getElem_mem hlt)).2.2 with h | h
        · exact absurd h.1 c2
        · exact h.2
    have lp0 : ∀ (d i : Nat), s.length - i = d → i ≤ s.length → Ev (fun k => laws_FnBarrier.l0 k s w r K (i : Int)) true := by
      intro d
      induction d with
      | zero =>
        intro i hd hi
        refine Ev.step (fun k => by rw [laws_FnBarrier.l0]) ?_
        exact Ev.neg (by omega) (lp1 _ 0 rfl (by omega))
      | succ d ih =>
        intro i hd hi
        have hlt : i < s.length := by omega
        have ih := ih (i + 1) (by omega) (by omega)
        refine Ev.step (fun k => by rw [laws_FnBarrier.l0]) ?_
        rw [rd_get hlt, show wrap64 ((i : Int) + 1) = ((i + 1 : Nat) : Int) from by rw [w64 (by omega) (by omega)]; omega]
        refine Ev.pos (by omega) (Ev.pos (by omega) ?_)
        refine Ev.cases (fun _ => ih) (fun c2 => ?_)
        refine Ev.bind (has_ev K _ (by omega)) ?_
        refine Ev.pos (decide_eq_true ?_) ih
        have hr := hrng s[i] (List.getElem_mem hlt)
        exact (hkm s[i]).2 ⟨by omega, by omega, .inr ⟨c2, List.getElem_mem hlt⟩⟩
    exact lp0 _ 0 rfl (by omega)
  · have e : barrierR s w r = ([], false) := by rw [barrierR, if_neg hc]
    rw [e]
    refine Ev.pos rfl ?_
    refine Ev.pos rfl ?_
    refine Ev.bind (sameInts_ev _ (by simp)) ?_
    refine Ev.pos rfl ?_
    refine Ev.bind (impl_SetOk_ev s (by omega)) ?_
    refine Ev.bind (spec_SetOk_ev s (by omega)) (Ev.eq ?_)
    simp
end Go.Proofs.Ytnhladaobcnmhaa.Pure
namespace Go.Proofs.Ytnhladaobcnmhaa.fnBarrier
open Go.ChangeShapes Go.WideShapes Go.ChangeAt Go.RowKit
open Go.ChangeMaps (open_string shut_string)
set_option linter.unusedVariables false
theorem own : ownKnob Try.prog.godebug = none := by kernel_rfl
theorem laidOut : laidOutB Try.prog = true := by kernel_rfl
def IsRow (k : IntKind) (w : World) (a : Option Addr) (len cap : Nat) (zs : List Int) : Prop :=
  (a = none ∧ len = 0 ∧ cap = 0 ∧ zs = []) ∨
  ∃ x, a = some x ∧ len ≤ cap ∧ cap ≤ maxLen ∧ zs.length = cap ∧ (∀ i, i < zs.length → w.cell? (x.add i) = some (.int k (zs.getD i 0))) ∧ ∀ n ∈ zs, (Lit.int k n).wf = true
set_option maxRecDepth 100000 in
theorem lifted (os : Os) (started : os.Started) (H : Type) (enc : TypeId × Value → H) :
    ReturnsInHanded {} Try.checked os 8 .any (Rows.fnBarrierSpec.pre6 enc Try.prog Try.f8 Rows.fnBarrierRow.domain false) (Rows.fnBarrierSpec.post enc Try.prog Try.f8 false true false false) := by
  refine returnsInHanded_of_change_sized (C := Try.checked) own started (by kernel_rfl) Try.func8
    (ChangeSpec.witness6 (enc := enc) (C := Try.checked) false ⟨#[], #[.slice none 0 0], []⟩ 8 (by kernel_rfl) (by kernel_rfl) (by kernel_rfl) (by kernel_rfl)) ?_
  intro W base args ds gs before hval0 hW hcnd hsz0 _
  have hsz : (DataW.weightsEach Try.prog (Try.f8.params.toList ++ Rows.fnBarrierSpec.plain.varTypes Try.prog) (ds ++ gs)).all (· ≤ reachBytes) = true := hsz0
  have hval : ∀ (j : Nat) t v, Try.f8.params[j]? = some t → args[j]? = some v → Value.okWide Try.prog W .any base t v := hval0
  have hW' := hW
  obtain ⟨p, q, hA0, hV, rfl, hfz, hnd⟩ := hW
  have hA : DataW.TrodAll enc Try.prog W 0 (fun _ => true) true Try.f8.params.toList args.toList ds p := hA0
  rw [Try.params8] at hA hval hsz
  obtain ⟨v0, vs0, d0, ds0, p0, q0, hargs, rfl, rfl, h0, r0⟩ := trodAll_cons hA
  obtain ⟨rfl, rfl, rfl⟩ := trodAll_nil r0
  obtain rfl : args = #[v0] := by cases args; simp_all
  obtain ⟨rfl, rfl⟩ := trodVars_none hV
  obtain ⟨a0, len0, cap0, rfl⟩ := okWide_slice Try.underlying29 (hval 0 29 v0 rfl rfl)
  have k0 := h0
  have lt0 : ∀ x ∈ p0, x.block < W.heap.size := by obtain ⟨m, hm⟩ := k0; exact DataW.trod_lt m _ _ _ hm
  obtain ⟨z0, w0⟩ : ∃ zs, IsRow .u8 W a0 len0 cap0 zs := by
    obtain ⟨fuel, hf⟩ := h0
    rcases open_ints Try.underlying29 Try.underlying5 (by kernel_rfl) hf with ⟨hcs, _⟩ | ⟨x, l, c, zs, hcs, _, hl, hm, hz, _, hcell, hwz⟩
    · simp [Value.cells] at hcs
      obtain ⟨rfl, rfl, rfl⟩ := hcs
      exact ⟨[], .inl ⟨rfl, rfl, rfl, rfl⟩⟩
    · simp [Value.cells] at hcs
      obtain ⟨rfl, rfl, rfl⟩ := hcs
      exact ⟨zs, .inr ⟨_, rfl, hl, hm, by simpa using hz, hcell, hwz⟩⟩
  have y0 : len0 * 1 ≤ 140737488351232 := Go.Proofs.YtnhladaobcnmhaaW.PrintWords.sized_ints hsz (j := 0) (t := 29) rfl rfl Try.underlying29 Try.underlying5 (by kernel_rfl) (by kernel_rfl) h0
  clear hA0 hval0 hsz0 hsz
  refine (X.laws_FnBarrier.walk Pure.FnBarrier a0 len0 cap0 z0 W w0 y0).mono fun e W' ⟨he, bel⟩ => ?_
  subst he
  exact ⟨_, rfl, _, _, _, [], _, [], hW', trodAll_mk1 (shut_bool Try.underlying4 _), (trodAll_cons_mk (Below.trod laidOut (by kernel_rfl) (of_decide_eq_true (by kernel_rfl)) k0 bel lt0) trodAll_mk0), rfl, bel.frame _, fun h => by cases h⟩
theorem over : Rows.fnBarrierRow.holds Try.pinned (OpenSpec.ofChange Rows.fnBarrierSpec) :=
  OpenClaim.holds_of_wide 8 Try.f8 rfl rfl rfl rfl rfl rfl rfl ⟨rfl, rfl, rfl, rfl, rfl⟩ rfl rfl rfl rfl rfl (by kernel_rfl) Try.func8 (by kernel_rfl)
    (of_decide_eq_true (by kernel_rfl)) (by unfold Func.isWrapper; first | (rw [if_pos (by decide +kernel)]; kernel_rfl) | (rw [if_neg (by decide +kernel)]; exact ⟨rfl, rfl⟩))
    (fun os started H enc _ => lifted os started H enc)
theorem proved : Rows.FnBarrierSaid := over
#print axioms proved
end Go.Proofs.Ytnhladaobcnmhaa.fnBarrier
namespace Go.Proofs.Ytnhladaobcnmhaa
/-- The row, under a short name, for the claim. -/
theorem fnBarrier_holds : Rows.FnBarrierSaid := fnBarrier.proved
end Go.Proofs.Ytnhladaobcnmhaa
