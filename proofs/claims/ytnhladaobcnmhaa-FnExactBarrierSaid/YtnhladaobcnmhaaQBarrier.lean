/- Barrier: what the reference and the program come to: the sorted list of the words that stay. For lists of at most 2^40 numbers. -/
import Derived.Test.YtnhladaobcnmhaaQSets
import Derived.Test.YtnhladaobcnmhaaQRefs
import Derived.Test.YtnhladaobcnmhaaXImplBarrier
import Derived.Test.YtnhladaobcnmhaaXSpecBarrier
namespace Go.Proofs.Ytnhladaobcnmhaa.Pure
open Go.RowKit Go.Proofs.Ytnhladaobcnmhaa.X Go.Proofs.YtnhladaobcnmhaaW.PrintWords Go.Proofs.YtnhladaobcnmhaaW.PrintLast
set_option linter.unusedVariables false
set_option linter.unusedSimpArgs false
theorem sorted_ext : ∀ {l m : List Int}, l.Pairwise (· < ·) → m.Pairwise (· < ·) → (∀ x, x ∈ l ↔ x ∈ m) → l = m
  | [], [], _, _, _ => rfl
  | [], y :: m, _, _, h => absurd ((h y).2 (List.mem_cons_self ..)) (by simp)
  | x :: l, [], _, _, h => absurd ((h x).1 (List.mem_cons_self ..)) (by simp)
  | x :: l, y :: m, hl, hm, h => by
    rw [List.pairwise_cons] at hl hm
    have e : x = y := by
      rcases List.mem_cons.1 ((h x).1 (List.mem_cons_self ..)) with e | hx
      · exact e
      · rcases List.mem_cons.1 ((h y).2 (List.mem_cons_self ..)) with e | hy
        · exact e.symm
        · have h1 := hl.1 y hy
          have h2 := hm.1 x hx
          omega
    subst e
    rw [sorted_ext hl.2 hm.2 (fun z => ?_)]
    have hz := h z
    simp only [List.mem_cons] at hz
    constructor
    · intro h1
      have h2 := hl.1 z h1
      rcases hz.1 (.inr h1) with e | h3
      · omega
      · exact h3
    · intro h1
      have h2 := hm.1 z h1
      rcases hz.2 (.inr h1) with e | h3
      · omega
      · exact h3
theorem set_range {l : List Int} (h : setFrom l 0) : ∀ x ∈ l, 0 ≤ x ∧ x ≤ 1023 := by
  intro x hx
  obtain ⟨j, hj, rfl⟩ := List.getElem_of_mem hx
  exact ⟨(h j hj (by omega)).1, (h j hj (by omega)).2.1⟩
theorem set_sorted {l : List Int} (h : setFrom l 0) : l.Pairwise (· < ·) := by
  rw [List.pairwise_iff_getElem]
  intro i j hi
  induction j with
  | zero => intro _ h; omega
  | succ j ih =>
    intro hj hij
    have h1 := (h (j + 1) hj (by omega)).2.2 (by omega)
    simp only [Nat.add_sub_cancel] at h1
    by_cases e : i = j
    · subst e; exact h1
    · have := ih (by omega) (by omega)
      omega
theorem sorted_ge {l : List Int} (h : setFrom l 0) : ∀ j (hj : j < l.length), (j : Int) ≤ l[j]
  | 0, hj => (h 0 hj (by omega)).1
  | j + 1, hj => by
    have h1 := (h (j + 1) hj (by omega)).2.2 (by omega)
    simp only [Nat.add_sub_cancel] at h1
    have h2 := sorted_ge h j (by omega)
    omega
theorem set_length {l : List Int} (h : setFrom l 0) : l.length ≤ 1024 := by
  by_cases c : l.length = 0
  · omega
  · have h1 := sorted_ge h (l.length - 1) (by omega)
    have h2 := (h (l.length - 1) (by omega) (by omega)).2.1
    omega
/-! ### what the reference comes to -/
def keepL (set : List Int) (word : Int) (b : Bool) : Nat → Nat → List Int
  | 0, _ => []
  | d + 1, i => if ((i : Int) = word ∧ b = true) ∨ ((i : Int) ≠ word ∧ (i : Int) ∈ set) then (i : Int) :: keepL set word b d (i + 1) else keepL set word b d (i + 1)
theorem keepL_mem (set : List Int) (word : Int) (b : Bool) (x : Int) : ∀ (d i : Nat), x ∈ keepL set word b d i ↔ ((i : Int) ≤ x ∧ x < ((i + d : Nat) : Int) ∧ ((x = word ∧ b = true) ∨ (x ≠ word ∧ x ∈ set)))
  | 0, i => by
    simp only [keepL, List.not_mem_nil, false_iff]
    omega
  | d + 1, i => by
    have ih := keepL_mem set word b x d (i + 1)
    rw [keepL]
    split
    · rename_i c
      rw [List.mem_cons, ih]
      constructor
      · rintro (rfl | ⟨h1, h2, h3⟩)
        · exact ⟨by omega, by omega, c⟩
        · exact ⟨by omega, by omega, h3⟩
      · rintro ⟨h1, h2, h3⟩
        by_cases e : x = i
        · exact .inl e
        · exact .inr ⟨by omega, by omega, h3⟩
    · rename_i c
      rw [ih]
      constructor
      · rintro ⟨h1, h2, h3⟩
        exact ⟨by omega, by omega, h3⟩
      · rintro ⟨h1, h2, h3⟩
        by_cases e : x = i
        · subst e; exact absurd h3 c
        · exact ⟨by omega, by omega, h3⟩
theorem keepL_sorted (set : List Int) (word : Int) (b : Bool) : ∀ (d i : Nat), (keepL set word b d i).Pairwise (· < ·)
  | 0, i => List.Pairwise.nil
  | d + 1, i => by
    have ih := keepL_sorted set word b d (i + 1)
    rw [keepL]
    split
    · refine List.Pairwise.cons (fun y hy => ?_) ih
      have := (keepL_mem set word b y d (i + 1)).1 hy
      omega
    · exact ih
theorem keepL_length (set : List Int) (word : Int) (b : Bool) : ∀ (d i : Nat), (keepL set word b d i).length ≤ d
  | 0, i => by simp [keepL]
  | d + 1, i => by
    have ih := keepL_length set word b d (i + 1)
    rw [keepL]
    split
    · simp only [List.length_cons]; omega
    · omega
theorem placeIn_ev (l : List Int) (x : Int) (hl : l.length ≤ 1099511627776) : ∃ r, Ev (fun k => spec_l7Place.f k l x) r ∧ ((0 ≤ r ∧ x ∈ l) ∨ (r = -1 ∧ x ∉ l)) := by
  have lp : ∀ (d i : Nat), l.length - i = d → i ≤ l.length → x ∉ l.take i → ∃ r, Ev (fun k => spec_l7Place.l0 k l x (i : Int)) r ∧ ((0 ≤ r ∧ x ∈ l) ∨ (r = -1 ∧ x ∉ l)) := by
    intro d
    induction d with
    | zero =>
      intro i hd hi hx
      refine ⟨-1, Ev.step (fun k => by rw [spec_l7Place.l0]) (Ev.neg (by omega) (Ev.eq rfl)), .inr ⟨rfl, ?_⟩⟩
      rwa [List.take_of_length_le (by omega)] at hx
    | succ d ih =>
      intro i hd hi hx
      have hlt : i < l.length := by omega
      by_cases e : l[i] = x
      · refine ⟨i, Ev.step (fun k => by rw [spec_l7Place.l0]) ?_, .inl ⟨by omega, e ▸ List.getElem_mem hlt⟩⟩
        rw [rd_get hlt]
        exact Ev.pos (by omega) (Ev.pos (by omega) (Ev.pos e (Ev.eq rfl)))
      · obtain ⟨r, hr, hp⟩ := ih (i + 1) (by omega) (by omega) (by
          rw [take_snoc2 l i hlt, List.mem_append]
          simp only [List.mem_singleton]
          rintro (h | h)
          · exact hx h
          · exact e h.symm)
        refine ⟨r, Ev.step (fun k => by rw [spec_l7Place.l0]) ?_, hp⟩
        rw [rd_get hlt, show wrap64 ((i : Int) + 1) = ((i + 1 : Nat) : Int) from by rw [w64 (by omega) (by omega)]; omega]
        exact Ev.pos (by omega) (Ev.pos (by omega) (Ev.neg e hr))
  unfold spec_l7Place.f
  exact lp _ 0 rfl (by omega) (by simp)
theorem spec_l9With_ev (set : List Int) (word : Int) (b : Bool) (hl : set.length ≤ 1099511627776) : Ev (fun k => spec_l9With.f k set word b) (keepL set word b 1024 0) := by
  have lp : ∀ (d i : Nat) (acc : List Int), 1024 - i = d → i ≤ 1024 → acc.length ≤ i → Ev (fun k => spec_l9With.l0 k set word b acc (i : Int)) (acc ++ keepL set word b d i) := by
    intro d
    induction d with
    | zero =>
      intro i acc hd hi ha
      refine Ev.step (fun k => by rw [spec_l9With.l0]) ?_
      exact Ev.neg (by omega) (Ev.eq (by simp [keepL]))
    | succ d ih =>
      intro i acc hd hi ha
      have ih1 := ih (i + 1) acc (by omega) (by omega) (by omega)
      have ih2 := ih (i + 1) (acc ++ [(i : Int)]) (by omega) (by omega) (by simp; omega)
      obtain ⟨r, hr, hp⟩ := placeIn_ev set (i : Int) hl
      refine Ev.step (fun k => by rw [spec_l9With.l0]) ?_
      rw [show wrap64 ((i : Int) + 1) = ((i + 1 : Nat) : Int) from by rw [w64 (by omega) (by omega)]; omega, keepL]
      refine Ev.pos (by omega) ?_
      refine Ev.cases (fun c => ?_) (fun c => ?_)
      · refine Ev.cases (fun c2 => ?_) (fun c2 => ?_)
        · refine Ev.pos (by omega) ?_
          rw [if_pos (.inl ⟨c, c2⟩)]
          rw [List.append_assoc] at ih2
          exact ih2
        · rw [if_neg (by rintro (⟨_, h⟩ | ⟨h, _⟩); exact c2 h; exact h c)]
          exact ih1
      · refine Ev.bind hr ?_
        rcases hp with ⟨h0, hm⟩ | ⟨h0, hm⟩
        · refine Ev.pos (by omega) ?_
          refine Ev.pos (by omega) ?_
          rw [if_pos (.inr ⟨c, hm⟩)]
          rw [List.append_assoc] at ih2
          exact ih2
        · refine Ev.neg (by omega) ?_
          rw [if_neg (by rintro (⟨h, _⟩ | ⟨_, h⟩); exact c h; exact hm h)]
          exact ih1
  unfold spec_l9With.f
  exact lp 1024 0 [] rfl (by omega) (by simp)
/-! ### the search -/
theorem less_f (a b : Int) : cmp_Less_int64.f a b = some (decide (a < b)) := by
  unfold cmp_Less_int64.f cmp_isNaN_int64.f
  simp
theorem nan_f (a : Int) : slices_isNaN_int64.f a = some false := by
  unfold slices_isNaN_int64.f
  simp
theorem bsearch_ev (l : List Int) (x : Int) (hs : l.Pairwise (· < ·)) (hl : l.length ≤ 1099511627776) : ∃ (i : Nat) (f : Bool), Ev (fun k => slices_BinarySearch_int64_int64.f k l x) ((i : Int), f) ∧ i ≤ l.length ∧ (∀ j (h : j < l.length), j < i → l[j] < x) ∧ (∀ j (h : j < l.length), i < j → x < l[j]) ∧ (f = true → ∃ h : i < l.length, l[i] = x) ∧ (f = false → ∀ h : i < l.length, x < l[i]) := by
  rw [List.pairwise_iff_getElem] at hs
  have u64 : ∀ y : Int, 0 ≤ y → y < 18446744073709551616 → IntKind.u64.wrap y = y := by
    intro y h0 h1
    simp only [IntKind.wrap, IntKind.bits, IntKind.signed]
    simp
    omega
  have lp : ∀ (d lo hi : Nat), hi - lo ≤ d → lo ≤ hi → hi ≤ l.length → (∀ j (h : j < l.length), j < lo → l[j] < x) → (∀ j (h : j < l.length), hi ≤ j → x ≤ l[j]) →
      ∃ (i : Nat) (f : Bool), Ev (fun k => slices_BinarySearch_int64_int64.l0 k l x (l.length : Int) (lo : Int) (hi : Int)) ((i : Int), f) ∧ i ≤ l.length ∧ (∀ j (h : j < l.length), j < i → l[j] < x) ∧ (∀ j (h : j < l.length), i < j → x < l[j]) ∧ (f = true → ∃ h : i < l.length, l[i] = x) ∧ (f = false → ∀ h : i < l.length, x < l[i]) := by
    intro d
    induction d with
    | zero =>
      intro lo hi hd hle hhi h1 h2
      obtain rfl : lo = hi := by omega
      by_cases hlt : lo < l.length
      · have hge := h2 lo hlt (Nat.le_refl _)
        have hup : ∀ j (h : j < l.length), lo < j → x < l[j] := fun j h hj => by
          have := hs lo j hlt h hj
          omega
        by_cases e : l[lo] = x
        · refine ⟨lo, true, ?_, by omega, h1, hup, fun _ => ⟨hlt, e⟩, by simp⟩
          refine Ev.step (fun k => by rw [slices_BinarySearch_int64_int64.l0]) ?_
          rw [rd_get hlt]
          exact Ev.neg (by omega) (Ev.pos (by omega) (Ev.pos (by omega) (Ev.pos (by omega) (Ev.pos e (Ev.eq rfl)))))
        · refine ⟨lo, false, ?_, by omega, h1, hup, by simp, fun _ _ => by omega⟩
          refine Ev.step (fun k => by rw [slices_BinarySearch_int64_int64.l0]) ?_
          rw [rd_get hlt]
          refine Ev.neg (by omega) (Ev.pos (by omega) (Ev.pos (by omega) (Ev.pos (by omega) (Ev.neg e ?_))))
          exact Ev.bindo (nan_f _) (Ev.neg (by simp) (Ev.eq rfl))
      · refine ⟨lo, false, ?_, by omega, h1, fun j h hj => by omega, by simp, fun _ h => by omega⟩
        refine Ev.step (fun k => by rw [slices_BinarySearch_int64_int64.l0]) ?_
        exact Ev.neg (by omega) (Ev.neg (by omega) (Ev.eq rfl))
    | succ d ih =>
      intro lo hi hd hle hhi h1 h2
      by_cases c : lo < hi
      · have hm : (lo + hi) / 2 < l.length := by omega
        have e1 : wrap64 (IntKind.u64.wrap (wrap64 ((lo : Int) + (hi : Int))) / 2) = (((lo + hi) / 2 : Nat) : Int) := by
          rw [w64 (x := (lo : Int) + (hi : Int)) (by omega) (by omega), u64 _ (by omega) (by omega), w64 (by omega) (by omega)]
          omega
        by_cases c2 : l[(lo + hi) / 2] < x
        · obtain ⟨i, f, hev, hr⟩ := ih ((lo + hi) / 2 + 1) hi (by omega) (by omega) hhi (fun j h hj => by
            by_cases e : j = (lo + hi) / 2
            · subst e; exact c2
            · have := hs j ((lo + hi) / 2) h hm (by omega)
              omega) h2
          refine ⟨i, f, ?_, hr⟩
          refine Ev.step (fun k => by rw [slices_BinarySearch_int64_int64.l0]) ?_
          rw [e1, rd_get hm, show wrap64 ((((lo + hi) / 2 : Nat) : Int) + 1) = (((lo + hi) / 2 + 1 : Nat) : Int) from by rw [w64 (by omega) (by omega)]; omega]
          refine Ev.pos (by omega) (Ev.pos (by omega) (Ev.pos (by omega) (Ev.bindo (less_f _ _) ?_)))
          exact Ev.pos (by simpa using c2) hev
        · obtain ⟨i, f, hev, hr⟩ := ih lo ((lo + hi) / 2) (by omega) (by omega) (by omega) h1 (fun j h hj => by
            by_cases e : j = (lo + hi) / 2
            · subst e; omega
            · have := hs ((lo + hi) / 2) j hm h (by omega)
              omega)
          refine ⟨i, f, ?_, hr⟩
          refine Ev.step (fun k => by rw [slices_BinarySearch_int64_int64.l0]) ?_
          rw [e1, rd_get hm]
          refine Ev.pos (by omega) (Ev.pos (by omega) (Ev.pos (by omega) (Ev.bindo (less_f _ _) ?_)))
          exact Ev.neg (by simpa using c2) hev
      · exact ih lo hi (by omega) hle hhi h1 h2
  unfold slices_BinarySearch_int64_int64.f
  exact lp l.length 0 l.length (by omega) (by omega) (Nat.le_refl _) (fun j h hj => by omega) (fun j h hj => by omega)
/-! ### what the program comes to -/
theorem impl_barrier_ev (set : List Int) (word ref : Int) (h : setFrom set 0) (h0 : 0 ≤ word) (h1 : word ≤ 1023) : Ev (fun k => impl_barrier.f k set word ref) (keepL set word (decide (refk ref = 2)) 1024 0) := by
  have hlen := set_length h
  have hsrt := set_sorted h
  have hrng := set_range h
  obtain ⟨i, f, hev, hi, hlo, hup, ht, hf⟩ := bsearch_ev set word hsrt (by omega)
  have hclone : slices_Clone_int64_int64.f set = some set := by
    unfold slices_Clone_int64_int64.f
    rw [if_pos (by omega)]
  have hg := List.pairwise_iff_getElem.1 hsrt
  have kmem := fun (b : Bool) (x : Int) => keepL_mem set word b x 1024 0
  have same : ∀ (l : List Int) (b : Bool), l.Pairwise (· < ·) → (∀ x, x ∈ l ↔ ((x = word ∧ b = true) ∨ (x ≠ word ∧ x ∈ set))) → l = keepL set word b 1024 0 := by
    intro l b hl hm
    refine sorted_ext hl (keepL_sorted set word b 1024 0) (fun x => ?_)
    rw [hm, kmem]
    constructor
    · rintro (⟨rfl, hb⟩ | ⟨hx, hxm⟩)
      · exact ⟨by omega, by omega, .inl ⟨rfl, hb⟩⟩
      · have := hrng x hxm
        exact ⟨by omega, by omega, .inr ⟨hx, hxm⟩⟩
    · rintro ⟨_, _, hx⟩
      exact hx
  have hfound : f = true ↔ word ∈ set := by
    constructor
    · intro hft
      obtain ⟨hlt, e⟩ := ht hft
      exact e ▸ List.getElem_mem hlt
    · intro hm
      obtain ⟨j, hj, e⟩ := List.getElem_of_mem hm
      cases hfc : f with
      | true => rfl
      | false =>
        rcases Nat.lt_trichotomy j i with c | c | c
        · have := hlo j hj c; omega
        · subst c
          have := hf hfc hj
          omega
        · have := hup j hj c; omega
  have htk : ∀ x, x ∈ set.take i → x < word ∧ x ∈ set := by
    intro x hx
    obtain ⟨j, hj, rfl⟩ := List.getElem_of_mem hx
    rw [List.length_take] at hj
    rw [List.getElem_take]
    exact ⟨hlo j (by omega) (by omega), List.getElem_mem _⟩
  have hdr : ∀ n, i ≤ n → (n = i → f = false) → ∀ x, x ∈ set.drop n → word < x ∧ x ∈ set := by
    intro n hn hni x hx
    obtain ⟨j, hj, rfl⟩ := List.getElem_of_mem hx
    rw [List.length_drop] at hj
    rw [List.getElem_drop]
    refine ⟨?_, List.getElem_mem _⟩
    by_cases c : n + j = i
    · have e : n = i := by omega
      have := hf (hni e) (by omega)
      simp only [c]
      exact this
    · exact hup _ (by omega) (by omega)
  unfold impl_barrier.f
  refine Ev.bindo hclone ?_
  refine Ev.bind hev ?_
  refine Ev.bind (impl_isYoung_ev ref) ?_
  simp only []
  by_cases hy : refk ref = 2
  · rw [show decide (refk ref = 2) = true from decide_eq_true hy]
    refine Ev.pos rfl ?_
    refine Ev.step (fun k => by rw [impl_barrier.j0]) ?_
    cases hfc : f with
    | false =>
      refine Ev.pos rfl ?_
      refine Ev.bindo (a := set.take i ++ ([word] ++ set.drop i)) ?_ ?_
      · unfold slices_Insert_int64_int64.f
        rw [if_pos (by omega), if_pos (by omega), if_pos (by simp), if_pos (by simp; omega), Int.toNat_natCast]
      · refine Ev.eq (same _ true ?_ ?_)
        · rw [List.pairwise_append, List.pairwise_append]
          refine ⟨hsrt.sublist (List.take_sublist _ _), ⟨List.pairwise_singleton _ _, hsrt.sublist (List.drop_sublist _ _), ?_⟩, ?_⟩
          · intro a ha b hb
            rw [List.mem_singleton] at ha
            subst ha
            exact (hdr i (Nat.le_refl _) (fun _ => hfc) b hb).1
          · intro a ha b hb
            have h1 := (htk a ha).1
            rw [List.mem_append, List.mem_singleton] at hb
            rcases hb with rfl | hb
            · exact h1
            · have := (hdr i (Nat.le_refl _) (fun _ => hfc) b hb).1
              omega
        · intro x
          have hnm : word ∉ set := fun hm => by have := hfound.2 hm; rw [hfc] at this; cases this
          have hsplit : x ∈ set ↔ x ∈ set.take i ∨ x ∈ set.drop i := by rw [← List.mem_append, List.take_append_drop]
          rw [List.mem_append, List.mem_append, List.mem_singleton]
          constructor
          · rintro (hx | rfl | hx)
            · exact .inr ⟨fun e => hnm (e ▸ (htk x hx).2), (htk x hx).2⟩
            · exact .inl ⟨rfl, rfl⟩
            · exact .inr ⟨fun e => hnm (e ▸ List.mem_of_mem_drop hx), List.mem_of_mem_drop hx⟩
          · rintro (⟨rfl, _⟩ | ⟨_, hx⟩)
            · exact .inr (.inl rfl)
            · rcases hsplit.1 hx with hx | hx
              · exact .inl hx
              · exact .inr (.inr hx)
    | true =>
      refine Ev.neg (by simp) ?_
      refine Ev.bind (impl_isYoung_ev ref) ?_
      refine Ev.pos (decide_eq_true hy) ?_
      refine Ev.eq (same _ true hsrt (fun x => ?_))
      have hm := hfound.1 hfc
      constructor
      · intro hx
        by_cases e : x = word
        · exact .inl ⟨e, rfl⟩
        · exact .inr ⟨e, hx⟩
      · rintro (⟨rfl, _⟩ | ⟨_, hx⟩)
        · exact hm
        · exact hx
  · rw [show decide (refk ref = 2) = false from decide_eq_false hy]
    refine Ev.neg (by simp) ?_
    refine Ev.step (fun k => by rw [impl_barrier.j0]) ?_
    refine Ev.neg (by simp) ?_
    refine Ev.bind (impl_isYoung_ev ref) ?_
    refine Ev.neg (by simpa using hy) ?_
    cases hfc : f with
    | false =>
      refine Ev.neg (by simp) ?_
      refine Ev.eq (same _ false hsrt (fun x => ?_))
      have hnm : word ∉ set := fun hm => by have := hfound.2 hm; rw [hfc] at this; cases this
      constructor
      · intro hx
        exact .inr ⟨fun e => hnm (e ▸ hx), hx⟩
      · rintro (⟨_, h⟩ | ⟨_, hx⟩)
        · cases h
        · exact hx
    | true =>
      obtain ⟨hlt, he⟩ := ht hfc
      refine Ev.pos rfl ?_
      refine Ev.bindo (a := set.take i ++ set.drop (i + 1)) ?_ ?_
      · unfold slices_Delete_int64_int64.f
        rw [show wrap64 ((i : Int) + 1) = ((i + 1 : Nat) : Int) from by rw [w64 (by omega) (by omega)]; omega]
        rw [if_pos (by omega), if_pos (by omega), if_pos (by omega), if_pos (by omega), Int.toNat_natCast, Int.toNat_natCast]
      · refine Ev.eq (same _ false ?_ ?_)
        · rw [List.pairwise_append]
          refine ⟨hsrt.sublist (List.take_sublist _ _), hsrt.sublist (List.drop_sublist _ _), ?_⟩
          intro a ha b hb
          have h1 := (htk a ha).1
          have h2 := (hdr (i + 1) (by omega) (fun e => by omega) b hb).1
          omega
        · intro x
          have hsplit : x ∈ set ↔ x ∈ set.take i ∨ x = word ∨ x ∈ set.drop (i + 1) := by
            conv => lhs; rw [← List.take_append_drop i set, List.drop_eq_getElem_cons hlt, he]
            rw [List.mem_append, List.mem_cons]
          rw [List.mem_append]
          constructor
          · rintro (hx | hx)
            · have := (htk x hx).1
              exact .inr ⟨by omega, (htk x hx).2⟩
            · have := (hdr (i + 1) (by omega) (fun e => by omega) x hx).1
              exact .inr ⟨by omega, List.mem_of_mem_drop hx⟩
          · rintro (⟨_, h⟩ | ⟨hne, hx⟩)
            · cases h
            · rcases hsplit.1 hx with hx | hx | hx
              · exact .inl hx
              · exact absurd hx hne
              · exact .inr hx
def barrierR (set : List Int) (word ref : Int) : List Int × Bool :=
  if setFrom set 0 ∧ (0 ≤ word ∧ word ≤ 1023) ∧ ¬ refk ref < 0 then (keepL set word (decide (refk ref = 2)) 1024 0, true) else ([], false)
theorem barrierR_length (set : List Int) (word ref : Int) : (barrierR set word ref).1.length ≤ 1024 := by
  unfold barrierR
  split
  · exact keepL_length _ _ _ _ _
  · simp
theorem impl_Barrier_ev (set : List Int) (word ref : Int) (hl : set.length ≤ 1099511627776) : Ev (fun k => impl_Barrier.f k set word ref) (barrierR set word ref) := by
  unfold impl_Barrier.f barrierR
  refine Ev.bind (impl_SetOk_ev set hl) ?_
  refine Ev.cases (fun c => ?_) (fun c => ?_)
  · have c := of_decide_eq_true c
    refine Ev.bindo (within_f _ _ _) ?_
    refine Ev.cases (fun c1 => ?_) (fun c1 => ?_)
    · have c1 : 0 ≤ word ∧ word ≤ 1023 := by simpa using c1
      refine Ev.bind (impl_RefKind_ev ref) ?_
      refine Ev.cases (fun c2 => ?_) (fun c2 => ?_)
      · rw [if_neg (fun h => h.2.2 c2)]
        exact Ev.eq rfl
      · rw [if_pos ⟨c, c1, c2⟩]
        exact Ev.bind (impl_barrier_ev set word ref c c1.1 c1.2) (Ev.eq rfl)
    · rw [if_neg (fun h => c1 (by simpa using h.2.1))]
      exact Ev.eq rfl
  · rw [if_neg (fun h => c (decide_eq_true h.1))]
    exact Ev.eq rfl
theorem spec_Barrier_ev (set : List Int) (word ref : Int) (hl : set.length ≤ 1099511627776) : Ev (fun k => spec_Barrier.f k set word ref) (barrierR set word ref) := by
  unfold spec_Barrier.f barrierR
  refine Ev.bind (spec_SetOk_ev set hl) ?_
  refine Ev.cases (fun c => ?_) (fun c => ?_)
  · have c := of_decide_eq_true c
    refine Ev.bindo (l1In_f _ _ _) ?_
    refine Ev.cases (fun c1 => ?_) (fun c1 => ?_)
    · have c1 : 0 ≤ word ∧ word ≤ 1023 := by simpa using c1
      refine Ev.bind (spec_RefKind_ev ref) ?_
      refine Ev.step (fun k => by rw [spec_Barrier.j0]) ?_
      refine Ev.cases (fun c2 => ?_) (fun c2 => ?_)
      · rw [if_neg (fun h => h.2.2 (of_decide_eq_true c2))]
        exact Ev.eq rfl
      · rw [if_pos ⟨c, c1, fun h => c2 (decide_eq_true h)⟩]
        refine Ev.bind (spec_RefKind_ev ref) ?_
        refine Ev.bind (spec_l9With_ev set word _ hl) (Ev.eq ?_)
        rfl
    · rw [if_neg (fun h => c1 (by simpa using h.2.1))]
      refine Ev.step (fun k => by rw [spec_Barrier.j0]) ?_
      exact Ev.pos rfl (Ev.eq rfl)
  · rw [if_neg (fun h => c (decide_eq_true h.1))]
    refine Ev.step (fun k => by rw [spec_Barrier.j0]) ?_
    exact Ev.pos rfl (Ev.eq rfl)
end Go.Proofs.Ytnhladaobcnmhaa.Pure
