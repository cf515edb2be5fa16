/- Epochs and logs of images: the reference and the program come to the same. For images of right configurations. (Merged out of this claim's own texts.) -/
import Derived.Test.YtmciidoohbmipaaGreatDoorBFnNoted3
import Derived.Test.YtmciidoohbmipaaGreatDoorProg
import Derived.Shelf.Strings.Builder1
import Derived.Shelf.Strings.Builder2
import Derived.Shelf.Strings.Trim
import Derived.Shelf.Small.Utf8
import Derived.Shelf.Small.Bits
import Derived.Shelf.Small.Strs
import Derived.Shelf.Strings.BuilderF
import Derived.Shelf.Strings.BuilderK
import Derived.Shelf.Strings.Builder2Cap
import Derived.Shelf.Strconv.Itoa0
import Derived.Shelf.Strings.Search1
import Derived.Shelf.Strings.Prefix
import Derived.Shelf.Strings.Runes
import Derived.Shelf.Strings.AsciiSet
import Derived.Shelf.Bits.Mul64
import Derived.Shelf.Strings.Repeat
import Derived.Shelf.Unicode.DecodeSlow
import Derived.Shelf.Strings.BuilderCap
import Derived.Ground.SlgnProg
import Derived.Shelf.SlicesG.CompactI
import Derived.Shelf.SlicesG.SearchI
import Derived.Shelf.SlicesG.Cells
import Derived.Shelf.SlicesE.Compact
import Derived.Ground.SlgfProg
import Derived.Shelf.SlicesE.IndexFunc
import Derived.Lib.UnsafeStr
import Derived.Shelf.Spec.SlicesInsert
import Derived.Lib.AppendZerosOnto
namespace Go.Proofs.YtmciidoohbmipaaGreatDoor.Abs.Pu
open Go Go.RowKit
set_option linter.unusedVariables false
set_option linter.unusedSectionVars false
set_option linter.unusedSimpArgs false
theorem w64n {n : Nat} (h : 64 * n + 64 ≤ 140737488355328) : wrap64 (64 * (n : Int)) = ((64 * n : Nat) : Int) ∧ wrap64 (wrap64 (64 * (n : Int)) + 64) = ((64 * n + 64 : Nat) : Int) := by
  have h1 : wrap64 (64 * (n : Int)) = ((64 * n : Nat) : Int) := by rw [w64 (by omega) (by omega)]; omega
  exact ⟨h1, by rw [h1, w64 (by omega) (by omega)]; omega⟩
theorem spec_l5Line_f (s : ByteArray) (n : Nat) (h : 64 * n + 64 ≤ s.size) (hs : s.size ≤ 140737488355328) : spec_l5Line.f s (n : Int) = some (lineB s n) := by
  obtain ⟨h1, h2⟩ := w64n (n := n) (by omega)
  unfold spec_l5Line.f lineB
  rw [h2, h1, if_pos (by omega), if_pos (by omega), if_pos (by omega), if_pos (by omega)]
  rfl
theorem impl_lineOf_f (s : ByteArray) (n : Nat) (h : 64 * n + 64 ≤ s.size) (hs : s.size ≤ 140737488355328) : impl_lineOf.f s (n : Int) = some (lineB s n) := by
  obtain ⟨h1, h2⟩ := w64n (n := n) (by omega)
  unfold impl_lineOf.f lineB
  rw [h2, h1, if_pos (by omega), if_pos (by omega), if_pos (by omega), if_pos (by omega)]
  rfl
def epochR (c : Cfg) (s : ByteArray) : Int := if isImageB c s = true then (if (epochO (lineB s 1)).2 = true then (epochO (lineB s 1)).1 else -1) else -1
theorem spec_EpochOf_ev (c : Cfg) (s : ByteArray) (hl : c.2.2.2.length ≤ 1048576) (ht : ∀ x ∈ c.2.2.2, x.size ≤ 1048576) : Ev (fun k => spec_EpochOf.f k c.1 c.2.1 c.2.2.1 c.2.2.2 s) (epochR c s) := by
  unfold spec_EpochOf.f epochR
  refine Ev.bind (spec_l5Image_ev c s hl ht) (Ev.cases (fun h => ?_) (fun h => by rw [if_neg h]; exact Ev.eq rfl))
  obtain ⟨hc, hz⟩ := isImageB_facts h
  have hf := configOk_facts hc
  rw [if_pos h]
  refine Ev.bindo (spec_l5Line_f s 1 (by omega) (by omega)) (Ev.bind (spec_ReadEpoch_ev _ (lineB_size (by omega))) (Ev.cases (fun k => ?_) (fun k => ?_)))
  · rw [if_pos k]; exact Ev.eq rfl
  · rw [if_neg k]; exact Ev.eq rfl
theorem impl_EpochOf_ev (c : Cfg) (s : ByteArray) (ht : ∀ x ∈ c.2.2.2, x.size ≤ 1048576) : Ev (fun k => impl_EpochOf.f k c.1 c.2.1 c.2.2.1 c.2.2.2 s) (epochR c s) := by
  unfold impl_EpochOf.f epochR
  refine Ev.bind (impl_isImage_ev c s ht) (Ev.cases (fun h => ?_) (fun h => by rw [if_neg h]; exact Ev.eq rfl))
  obtain ⟨hc, hz⟩ := isImageB_facts h
  have hf := configOk_facts hc
  rw [if_pos h]
  refine Ev.bindo (impl_lineOf_f s 1 (by omega) (by omega)) (Ev.bind (impl_ReadEpoch_ev _ (lineB_size (by omega))) (Ev.cases (fun k => ?_) (fun k => ?_)))
  · rw [if_pos k]; exact Ev.eq rfl
  · rw [if_neg k]; exact Ev.eq rfl
theorem epochR_image {c : Cfg} {s : ByteArray} (h : ¬ epochR c s < 0) : isImageB c s = true := by
  unfold epochR at h
  split at h
  · assumption
  · omega
/-- A half that may be logged. -/
def canB (c : Cfg) (x : Int) : Bool := (decide (4 ≤ x) && decide (x ≤ 5)) || (decide (2 * (4 + c.2.1) ≤ x) && decide (x ≤ 2 * c.1 - 1))
theorem spec_l5Half_f (c : Cfg) (hc : configOk c = true) (x : Int) : spec_l5Half.f c.1 c.2.1 c.2.2.1 c.2.2.2 x = some (canB c x) := by
  have hf := configOk_facts hc
  unfold spec_l5Half.f canB
  rw [w64 (x := 4 + c.2.1) (by omega) (by omega), w64 (x := 2 * (4 + c.2.1)) (by omega) (by omega), w64 (x := 2 * c.1) (by omega) (by omega), w64 (x := 2 * c.1 - 1) (by omega) (by omega), l1In_f, Option.bind_some]
  by_cases h4 : x = 4
  · rw [if_pos h4, h4]; rfl
  rw [if_neg h4]
  by_cases h5 : x = 5
  · rw [if_pos h5, h5]; rfl
  rw [if_neg h5, show (decide (4 ≤ x) && decide (x ≤ 5)) = false from by simp; omega, Bool.false_or]
theorem impl_canLog_f (c : Cfg) (hc : configOk c = true) (x : Int) : impl_canLog.f c.1 c.2.1 c.2.2.1 c.2.2.2 x = some (canB c x) := by
  have hf := configOk_facts hc
  unfold impl_canLog.f canB
  rw [w64 (x := 4 + c.2.1) (by omega) (by omega), w64 (x := 2 * (4 + c.2.1)) (by omega) (by omega), w64 (x := 2 * c.1) (by omega) (by omega), w64 (x := 2 * c.1 - 1) (by omega) (by omega), within_f, Option.bind_some, within_f, Option.bind_some]
  by_cases h : (decide (4 ≤ x) && decide (x ≤ 5)) = true
  · rw [if_pos h, h, Bool.true_or]
  · rw [if_neg h, Bool.eq_false_iff.2 h, Bool.false_or]
/-- The place of a record of a half. -/
def placeF (h : Int) : Nat → List Rec → Int
  | _, [] => -1
  | i, r :: l => if r.2.2.1 = h then (i : Int) else placeF h (i + 1) l
def hasHalf (l : List Rec) (h : Int) : Bool := l.any fun r => decide (r.2.2.1 = h)
theorem placeF_has (h : Int) : ∀ (l : List Rec) (i : Nat), decide (placeF h i l ≥ 0) = hasHalf l h
  | [], i => rfl
  | r :: l, i => by
    unfold placeF hasHalf
    rw [List.any_cons]
    by_cases k : r.2.2.1 = h
    · rw [if_pos k, decide_eq_true k, Bool.true_or]
      exact decide_eq_true (by omega)
    · rw [if_neg k, decide_eq_false k, Bool.false_or]
      exact placeF_has h l (i + 1)
theorem spec_l5Place_ev (l : List Rec) (h : Int) (hl : l.length ≤ 1048576) : Ev (fun k => spec_l5Place.f k l h) (placeF h 0 l) := by
  have key : ∀ i, i ≤ l.length → Ev (fun k => spec_l5Place.p6 k l h (i : Int)) (placeF h i (l.drop i)) := by
    refine down ?_ ?_
    · refine Ev.step (fun k => by rw [spec_l5Place.p6]) ?_
      rw [List.drop_eq_nil_of_le (Nat.le_refl _)]
      exact Ev.neg (by omega) (Ev.eq rfl)
    · intro i hi ih
      have hg : rdOf ((0, (0, (0, ByteArray.empty))) : Rec) l (i : Int) = l[i] := rdg hi
      refine Ev.step (fun k => by rw [spec_l5Place.p6]) ?_
      rw [w64s (i := i) (by omega), hg, List.drop_eq_getElem_cons hi, placeF]
      refine Ev.pos (by omega) (Ev.pos (by omega) (Ev.pos (by omega) ?_))
      by_cases k : (l[i]).2.2.1 = h
      · rw [if_pos k]; exact Ev.pos k (Ev.eq rfl)
      · rw [if_neg k]; exact Ev.neg k ih
  unfold spec_l5Place.f
  exact key 0 (Nat.zero_le _)
theorem impl_twice_ev (l : List Rec) (x : Rec) (hl : l.length ≤ 1048576) : Ev (fun k => slices_ContainsFunc_implRecord_at_impl_LogOf_1.f k l x) (hasHalf l x.2.2.1) := by
  have key : ∀ i, i ≤ l.length → Ev (fun k => slices_IndexFunc_implRecord_at_impl_LogOf_1.p6 k l x (l.length : Int) (i : Int)) (placeF x.2.2.1 i (l.drop i)) := by
    refine down ?_ ?_
    · refine Ev.step (fun k => by rw [slices_IndexFunc_implRecord_at_impl_LogOf_1.p6]) ?_
      rw [List.drop_eq_nil_of_le (Nat.le_refl _)]
      exact Ev.neg (by omega) (Ev.eq rfl)
    · intro i hi ih
      have hg : rdOf ((0, (0, (0, ByteArray.empty))) : Rec) l (i : Int) = l[i] := rdg hi
      refine Ev.step (fun k => by rw [slices_IndexFunc_implRecord_at_impl_LogOf_1.p6]) ?_
      rw [w64s (i := i) (by omega), hg, List.drop_eq_getElem_cons hi, placeF]
      unfold impl_LogOf_1.f
      refine Ev.pos (by omega) (Ev.pos (by omega) (Ev.pos (by omega) ?_))
      refine Ev.bindo rfl ?_
      by_cases k : (l[i]).2.2.1 = x.2.2.1
      · rw [if_pos k]; exact Ev.pos (decide_eq_true k) (Ev.eq rfl)
      · rw [if_neg k]; exact Ev.neg (by simpa using k) ih
  unfold slices_ContainsFunc_implRecord_at_impl_LogOf_1.f slices_IndexFunc_implRecord_at_impl_LogOf_1.f
  exact Ev.bind (key 0 (Nat.zero_le _)) (Ev.eq (placeF_has _ _ _))
/-- The records that are current, line by line. -/
def logF (c : Cfg) (s : ByteArray) (e : Int) : Nat → Nat → List Rec → Option (List Rec)
  | 0, _, out => some out
  | d + 1, i, out => match recO (lineB s (4 + i)) with
    | none => logF c s e d (i + 1) out
    | some r => if r.1 < e then logF c s e d (i + 1) out else if e < r.1 then none else
      if (decide (out.length = i) && (decide (r.2.1 = (i : Int)) && (canB c r.2.2.1 && !hasHalf out r.2.2.1))) = true then logF c s e d (i + 1) (out ++ [r]) else none
def logR (c : Cfg) (s : ByteArray) : Option (List Rec) := if epochR c s < 0 then none else logF c s (epochR c s) c.2.1.toNat 0 []
def outL : Option (List Rec) → List Rec × Bool
  | some l => (l, true)
  | none => ([], false)
theorem spec_LogOf_ev (c : Cfg) (s : ByteArray) (hl : c.2.2.2.length ≤ 1048576) (ht : ∀ x ∈ c.2.2.2, x.size ≤ 1048576) : Ev (fun k => spec_LogOf.f k c.1 c.2.1 c.2.2.1 c.2.2.2 s) (outL (logR c s)) := by
  unfold spec_LogOf.f logR
  refine Ev.bind (spec_EpochOf_ev c s hl ht) (Ev.cases (fun h => by rw [if_pos h]; exact Ev.eq rfl) (fun h => ?_))
  obtain ⟨hc, hz⟩ := isImageB_facts (epochR_image h)
  have hf := configOk_facts hc
  rw [if_neg h]
  generalize epochR c s = e
  have bad : ∀ (out : List Rec) (i : Nat) (r : Rec) (b : Bool), b = true → Ev (fun k => spec_LogOf.p46 k s c.1 c.2.1 c.2.2.1 c.2.2.2 e out (i : Int) r.1 r.2.1 r.2.2.1 r.2.2.2 b) (([] : List Rec), false) := by
    intro out i r b hb
    refine Ev.step (fun k => by rw [spec_LogOf.p46]) ?_
    exact Ev.pos hb (Ev.eq rfl)
  have key : ∀ (d i : Nat) (out : List Rec), i + d = c.2.1.toNat → out.length ≤ i → Ev (fun k => spec_LogOf.p18 k s c.1 c.2.1 c.2.2.1 c.2.2.2 e out (i : Int)) (outL (logF c s e d i out)) := by
    intro d
    induction d with
    | zero =>
      intro i out hi ho
      refine Ev.step (fun k => by rw [spec_LogOf.p18]) ?_
      exact Ev.neg (by omega) (Ev.eq rfl)
    | succ d ih =>
      intro i out hi ho
      have hlz : (lineB s (4 + i)).size = 64 := lineB_size (by omega)
      refine Ev.step (fun k => by rw [spec_LogOf.p18]) ?_
      rw [show wrap64 (4 + (i : Int)) = ((4 + i : Nat) : Int) from by rw [w64 (by omega) (by omega)]; omega]
      refine Ev.pos (by omega) (Ev.bindo (spec_l5Line_f s (4 + i) (by omega) (by omega)) (Ev.bind (spec_ReadRecord_ev _ hlz) ?_))
      unfold logF
      have nx : ∀ (x : Int × Int × Int × ByteArray) (b : Bool), b = true → Ev (fun k => spec_LogOf.p40 k s c.1 c.2.1 c.2.2.1 c.2.2.2 e out (i : Int) x.1 x.2.1 x.2.2.1 x.2.2.2 b) (outL (logF c s e d (i + 1) out)) := by
        intro x b hb
        refine Ev.step (fun k => by rw [spec_LogOf.p40]) ?_
        rw [w64s (i := i) (by omega)]
        exact Ev.pos hb (ih (i + 1) out (by omega) (by omega))
      cases hr : recO (lineB s (4 + i)) with
      | none =>
        simp only [outR]
        refine Ev.neg (by simp) ?_
        refine Ev.step (fun k => by rw [spec_LogOf.p32]) ?_
        exact Ev.neg (by simp) (Ev.neg (by simp) (nx (0, 0, 0, ⟨#[]⟩) true rfl))
      | some r =>
        simp only [outR]
        refine Ev.pos trivial ?_
        refine Ev.step (fun k => by rw [spec_LogOf.p32]) ?_
        by_cases g1 : r.1 > e
        · rw [if_neg (by omega), if_pos (show e < r.1 from g1)]
          exact Ev.pos (decide_eq_true g1) (Ev.eq rfl)
        refine Ev.neg (fun h => g1 (of_decide_eq_true h)) (Ev.pos rfl ?_)
        by_cases g2 : r.1 = e
        rotate_left
        · rw [if_pos (show r.1 < e by omega)]
          exact nx r _ (by rw [decide_eq_false g2]; rfl)
        rw [if_neg (by omega), if_neg (by omega)]
        refine Ev.step (fun k => by rw [spec_LogOf.p40]) ?_
        refine Ev.neg (by rw [decide_eq_true g2]; simp) ?_
        by_cases g3 : (i : Int) = (out.length : Int)
        rotate_left
        · rw [if_neg (by rw [decide_eq_false (show ¬ out.length = i by omega)]; simp)]
          exact Ev.neg g3 (bad out i r true rfl)
        rw [decide_eq_true (show out.length = i by omega), Bool.true_and]
        refine Ev.pos g3 ?_
        by_cases g4 : r.2.1 = (i : Int)
        rotate_left
        · rw [if_neg (by rw [decide_eq_false g4]; simp)]
          exact Ev.neg g4 (bad out i r true rfl)
        rw [decide_eq_true g4, Bool.true_and]
        refine Ev.pos g4 (Ev.bindo (spec_l5Half_f c hc _) ?_)
        by_cases g5 : canB c r.2.2.1 = true
        rotate_left
        · rw [if_neg (by rw [Bool.eq_false_iff.2 g5]; simp)]
          exact Ev.neg g5 (bad out i r true rfl)
        rw [g5, Bool.true_and]
        refine Ev.pos rfl (Ev.bind (spec_l5Place_ev out r.2.2.1 (by omega)) ?_)
        rw [placeF_has]
        by_cases g6 : hasHalf out r.2.2.1 = true
        · rw [if_neg (by rw [g6]; simp)]
          exact bad out i r _ g6
        rw [Bool.eq_false_iff.2 g6, if_pos (by simp)]
        refine Ev.step (fun k => by rw [spec_LogOf.p46]) ?_
        rw [w64s (i := i) (by omega)]
        exact Ev.neg (by simp) (Ev.pos (by omega) (ih (i + 1) _ (by omega) (by simp; omega)))
  exact key _ 0 [] (Nat.zero_add _) (Nat.le_refl _)
theorem impl_LogOf_ev (c : Cfg) (s : ByteArray) (ht : ∀ x ∈ c.2.2.2, x.size ≤ 1048576) : Ev (fun k => impl_LogOf.f k c.1 c.2.1 c.2.2.1 c.2.2.2 s) (outL (logR c s)) := by
  unfold impl_LogOf.f logR
  refine Ev.bind (impl_EpochOf_ev c s ht) (Ev.cases (fun h => by rw [if_pos h]; exact Ev.eq rfl) (fun h => ?_))
  obtain ⟨hc, hz⟩ := isImageB_facts (epochR_image h)
  have hf := configOk_facts hc
  rw [if_neg h]
  generalize epochR c s = e
  obtain ⟨n, hn⟩ := Int.eq_ofNat_of_zero_le (show 0 ≤ c.2.1 by omega)
  have hn : c.2.1 = (n : Int) := hn
  have bad : ∀ (out : List Rec) (i : Nat) (r : Rec) (b : Bool), b = true → Ev (fun k => impl_LogOf.p42 k s c.1 c.2.1 c.2.2.1 c.2.2.2 e out r.1 r.2.1 r.2.2.1 r.2.2.2 c.2.1 (i : Int) b) (([] : List Rec), false) := by
    intro out i r b hb
    refine Ev.step (fun k => by rw [impl_LogOf.p42]) ?_
    exact Ev.pos hb (Ev.eq rfl)
  have key : ∀ (d i : Nat) (out : List Rec), i + d = c.2.1.toNat → out.length ≤ i → Ev (fun k => impl_LogOf.p18 k s c.1 c.2.1 c.2.2.1 c.2.2.2 e out c.2.1 (i : Int)) (outL (logF c s e d i out)) := by
    intro d
    induction d with
    | zero =>
      intro i out hi ho
      refine Ev.step (fun k => by rw [impl_LogOf.p18]) ?_
      exact Ev.neg (by omega) (Ev.eq rfl)
    | succ d ih =>
      intro i out hi ho
      have hlz : (lineB s (4 + i)).size = 64 := lineB_size (by omega)
      refine Ev.step (fun k => by rw [impl_LogOf.p18]) ?_
      rw [show wrap64 (4 + (i : Int)) = ((4 + i : Nat) : Int) from by rw [w64 (by omega) (by omega)]; omega]
      refine Ev.pos (by omega) (Ev.bindo (impl_lineOf_f s (4 + i) (by omega) (by omega)) (Ev.bind (impl_ReadRecord_ev _ hlz) ?_))
      unfold logF
      have nx : ∀ (x : Int × Int × Int × ByteArray) (b : Bool), b = true → Ev (fun k => impl_LogOf.p34 k s c.1 c.2.1 c.2.2.1 c.2.2.2 e out (i : Int) x.1 x.2.1 x.2.2.1 x.2.2.2 c.2.1 (i : Int) b) (outL (logF c s e d (i + 1) out)) := by
        intro x b hb
        refine Ev.step (fun k => by rw [impl_LogOf.p34]) ?_
        rw [w64s (i := i) (by omega)]
        exact Ev.pos hb (ih (i + 1) out (by omega) (by omega))
      cases hr : recO (lineB s (4 + i)) with
      | none =>
        simp only [outR]
        exact Ev.neg (by simp) (nx (0, 0, 0, ⟨#[]⟩) true rfl)
      | some r =>
        simp only [outR]
        refine Ev.pos trivial ?_
        by_cases g0 : r.1 < e
        · rw [if_pos g0]
          exact nx r _ (decide_eq_true g0)
        rw [if_neg g0]
        refine Ev.step (fun k => by rw [impl_LogOf.p34]) ?_
        refine Ev.neg (fun h => g0 (of_decide_eq_true h)) (Ev.bind (impl_twice_ev out r (by omega)) ?_)
        by_cases g1 : r.1 > e
        · rw [if_pos (show e < r.1 from g1)]
          exact Ev.pos g1 (bad out i r true rfl)
        rw [if_neg (show ¬ e < r.1 from g1)]
        refine Ev.neg g1 (Ev.bindo rfl ?_)
        by_cases g3 : (out.length : Int) = (i : Int)
        rotate_left
        · rw [if_neg (by rw [decide_eq_false (show ¬ out.length = i by omega)]; simp)]
          exact Ev.neg g3 (bad out i r true rfl)
        rw [decide_eq_true (show out.length = i by omega), Bool.true_and]
        refine Ev.pos g3 ?_
        by_cases g4 : r.2.1 = (i : Int)
        rotate_left
        · rw [if_neg (by rw [decide_eq_false g4]; simp)]
          exact Ev.neg g4 (bad out i r true rfl)
        rw [decide_eq_true g4, Bool.true_and]
        refine Ev.pos g4 (Ev.bindo (impl_canLog_f c hc _) ?_)
        by_cases g5 : canB c r.2.2.1 = true
        rotate_left
        · rw [if_neg (by rw [Bool.eq_false_iff.2 g5]; simp)]
          exact Ev.neg g5 (bad out i r true rfl)
        rw [g5, Bool.true_and]
        refine Ev.pos rfl ?_
        by_cases g6 : hasHalf out r.2.2.1 = true
        · rw [if_neg (by rw [g6]; simp)]
          exact bad out i r _ g6
        rw [Bool.eq_false_iff.2 g6, if_pos (by simp)]
        refine Ev.step (fun k => by rw [impl_LogOf.p42]) ?_
        rw [w64s (i := i) (by omega)]
        exact Ev.neg (by simp) (Ev.pos (by omega) (ih (i + 1) _ (by omega) (by simp; omega)))
  exact key _ 0 [] (Nat.zero_add _) (Nat.le_refl _)
/-- What holds of every current record. -/
theorem logF_all {c : Cfg} {s : ByteArray} {e : Int} (hz : ∀ i : Nat, (i : Int) < c.2.1 → (lineB s (4 + i)).size = 64) : ∀ (d i : Nat) (out : List Rec) {l : List Rec}, ((i + d : Nat) : Int) ≤ c.2.1 → (∀ x ∈ out, recOk x = true ∧ canB c x.2.2.1 = true) → out.length ≤ i → logF c s e d i out = some l → (∀ x ∈ l, recOk x = true ∧ canB c x.2.2.1 = true) ∧ l.length ≤ i + d
  | 0, i, out, l, _, ho, hle, h => by
    unfold logF at h
    injection h with h
    subst h
    exact ⟨ho, by omega⟩
  | d + 1, i, out, l, hi, ho, hle, h => by
    have hw : i + 1 + d = i + (d + 1) := by omega
    unfold logF at h
    split at h
    · have := logF_all hz d (i + 1) out (by omega) ho (by omega) h
      rwa [hw] at this
    · rename_i r hr
      split at h
      · have := logF_all hz d (i + 1) out (by omega) ho (by omega) h
        rwa [hw] at this
      · split at h
        · cases h
        · split at h
          · rename_i hk
            simp only [Bool.and_eq_true] at hk
            have := logF_all hz d (i + 1) (out ++ [r]) (by omega) (fun x hx => by
              rcases List.mem_append.1 hx with hx | hx
              · exact ho x hx
              · rw [List.mem_singleton.1 hx]
                exact ⟨recO_ok (hz i (by omega)) hr, hk.2.2.1⟩) (by simp; omega) h
            rwa [hw] at this
          · cases h
theorem logR_all {c : Cfg} {s : ByteArray} {l : List Rec} (h : logR c s = some l) : isImageB c s = true ∧ (∀ x ∈ l, recOk x = true ∧ canB c x.2.2.1 = true) ∧ l.length ≤ 32 := by
  unfold logR at h
  split at h
  · cases h
  · rename_i hn
    have him := epochR_image hn
    obtain ⟨hc, hz⟩ := isImageB_facts him
    have hf := configOk_facts hc
    obtain ⟨h1, h2⟩ := logF_all (fun i hi => lineB_size (by omega)) _ 0 [] (by omega) (fun x hx => by cases hx) (Nat.le_refl _) h
    exact ⟨him, h1, by omega⟩
end Go.Proofs.YtmciidoohbmipaaGreatDoor.Abs.Pu
namespace Go.Proofs.YtmciidoohbmipaaGreatDoor.Abs.Pu
open Go Go.RowKit
set_option linter.unusedVariables false
set_option linter.unusedSectionVars false
set_option linter.unusedSimpArgs false
abbrev rc0 : Rec := (0, (0, (0, ByteArray.empty)))
theorem spec_l2Seen_ev {n : Nat} {d : Dev} (h : DevP n d) : Ev (fun k => spec_l2Seen.f k d.1 d.2) (seenB d) := by
  have hn := h.hi
  have hln := h.len
  unfold spec_l2Seen.f seenB
  have key : ∀ i, i ≤ d.2.length → ∀ s : ByteArray, s.size = 64 * n → Ev (fun k => spec_l2Seen.p8 k d.1 d.2 (bytesOf s) (i : Int)) (pickF (d.2.drop i) (allTwo (d.2.drop i)) s) := by
    refine down ?_ ?_
    · intro s hs
      refine Ev.step (fun k => by rw [spec_l2Seen.p8]) ?_
      rw [List.drop_eq_nil_of_le (Nat.le_refl _)]
      exact Ev.neg (by omega) (Ev.eq (strOfNums_bytesOf s))
    · intro i hi ih s hs
      have hg : rdOf ln0 d.2 (i : Int) = d.2[i] := rdg hi
      have hx := h.lines _ (List.getElem_mem hi)
      have hfit := hx.fits hs
      have nx := ih (put64 s d.2[i].1 d.2[i].2.1) (put64_size hx hs (by have := hx.data; omega))
      refine Ev.step (fun k => by rw [spec_l2Seen.p8]) ?_
      rw [w64s (i := i) (by omega), hg, hx.w (by omega), bytesOf_length, Int.toNat_natCast, cpy_repl (by have := hx.data; omega), List.drop_eq_getElem_cons hi]
      show Ev _ (pickF (d.2.drop (i + 1)) (allTwo (d.2.drop (i + 1))) (picked d.2[i] 2 s))
      rw [show picked d.2[i] 2 s = put64 s d.2[i].1 d.2[i].2.1 from if_pos rfl]
      exact Ev.pos (by omega) (Ev.pos (by omega) (Ev.pos (by omega) (Ev.pos (by omega) (Ev.pos (by omega) (Ev.pos (by omega) (Ev.pos (by omega) nx))))))
  rw [numsOf_eq]
  have := key 0 (Nat.zero_le _) d.1 h.size
  rw [List.drop_zero] at this
  exact this
/-! ### Steps with power enough -/
theorem on_f (d : Dev) (st : Int) : spec_l5W_on.f d.1 d.2 (-1) st false = some (d.1, d.2, -1, wrap64 (st + 1), false, true) := by
  unfold spec_l5W_on.f
  rw [if_neg (by simp), if_neg (by omega), if_neg (by omega)]
theorem step_f (d : Dev) (cnt : Int) : impl_machine_step.f d.1 d.2 (-1) cnt = some (d.1, d.2, -1, wrap64 (cnt + 1)) := by
  unfold impl_machine_step.f
  rw [if_neg (by omega), if_neg (by rw [w64 (by omega) (by omega)]; omega)]
section
variable {n : Nat} {d : Dev}
theorem wstore_ev (h : DevP n d) (L p : Nat) (t : ByteArray) (hL : L < n) (hp : p + t.size ≤ 64) (hp2 : p < 64) (st : Int) : Ev (fun k => spec_l5W_store.f k d.1 d.2 (-1) st false ((64 * L + p : Nat) : Int) t) ((storeR d L p t).1, (storeR d L p t).2, -1, wrap64 (st + 1), false) := by
  unfold spec_l5W_store.f
  exact Ev.bindo (on_f d st) (Ev.pos rfl (Ev.bind (spec_l2Store_ev h L p t hL hp hp2) (Ev.eq rfl)))
theorem wflush_ev (h : DevP n d) (L : Int) (st : Int) : Ev (fun k => spec_l5W_flush.f k d.1 d.2 (-1) st false L) ((flushR d L).1, (flushR d L).2, -1, wrap64 (st + 1), false) := by
  unfold spec_l5W_flush.f
  exact Ev.bindo (on_f d st) (Ev.pos rfl (Ev.bind (spec_l2Flush_ev h L) (Ev.eq rfl)))
theorem wfence_ev (h : DevP n d) (st : Int) : Ev (fun k => spec_l5W_fence.f k d.1 d.2 (-1) st false) ((fenceR d).1, (fenceR d).2, -1, wrap64 (st + 1), false) := by
  unfold spec_l5W_fence.f
  exact Ev.bindo (on_f d st) (Ev.pos rfl (Ev.bind (spec_l2Fence_ev h) (Ev.eq rfl)))
theorem mstore_ev (h : DevP n d) (L p : Nat) (t : ByteArray) (hL : L < n) (hp : p + t.size ≤ 64) (hp2 : p < 64) (st : Int) : Ev (fun k => impl_machine_store.f k d.1 d.2 (-1) st ((64 * L + p : Nat) : Int) t) ((storeR d L p t).1, (storeR d L p t).2, -1, wrap64 (st + 1)) := by
  unfold impl_machine_store.f
  exact Ev.bindo (step_f d st) (Ev.bind (impl_store_ev h L p t hL hp hp2) (Ev.eq rfl))
theorem mflush_ev (h : DevP n d) (L : Int) (st : Int) : Ev (fun k => impl_machine_flush.f k d.1 d.2 (-1) st L) ((flushR d L).1, (flushR d L).2, -1, wrap64 (st + 1)) := by
  unfold impl_machine_flush.f
  exact Ev.bindo (step_f d st) (Ev.bind (impl_flush_ev h L) (Ev.eq rfl))
theorem mfence_ev (h : DevP n d) (st : Int) : Ev (fun k => impl_machine_fence.f k d.1 d.2 (-1) st) ((fenceR d).1, (fenceR d).2, -1, wrap64 (st + 1)) := by
  unfold impl_machine_fence.f
  exact Ev.bindo (step_f d st) (Ev.bind (impl_fence_ev h) (Ev.eq rfl))
/-- The epoch goes on by one. -/
def nextR (d : Dev) (e : Int) : Dev := fenceR (flushR (storeR d 1 0 (epochL (wrap64 (e + 1)))) 1)
theorem epochL_fits (e : Int) : 0 + (epochL e).size ≤ 64 := by
  rcases epochL_size e with h | h
  · omega
  · rw [h]; exact Nat.zero_le _
theorem nextR_ok (h : DevP n d) (h1 : 1 < n) (e : Int) : DevP n (nextR d e) := fenceR_ok (flushR_ok (storeR_ok h 1 0 _ h1 (epochL_fits _)) 1)
theorem wnext_ev (h : DevP n d) (h1 : 1 < n) (c : Cfg) (e st : Int) : ∃ st', Ev (fun k => spec_l5W_next.f k d.1 d.2 (-1) st false c.1 c.2.1 c.2.2.1 c.2.2.2 e) ((nextR d e).1, (nextR d e).2, -1, st', false) := by
  have s1 := storeR_ok h 1 0 (epochL (wrap64 (e + 1))) h1 (epochL_fits _)
  have a1 := wstore_ev h 1 0 (epochL (wrap64 (e + 1))) h1 (epochL_fits _) (by omega) st
  rw [show ((64 * 1 + 0 : Nat) : Int) = 64 from rfl] at a1
  refine ⟨wrap64 (wrap64 (wrap64 (st + 1) + 1) + 1), ?_⟩
  unfold spec_l5W_next.f
  exact Ev.bind (spec_EpochLine_ev _) (Ev.bind a1 (Ev.bind (wflush_ev s1 1 _) (Ev.bind (wfence_ev (flushR_ok s1 1) _) (Ev.eq rfl))))
theorem msync_ev (h : DevP n d) (h1 : 1 < n) (e st : Int) : ∃ st', Ev (fun k => impl_machine_sync.f k d.1 d.2 (-1) st 1 (epochL (wrap64 (e + 1)))) ((nextR d e).1, (nextR d e).2, -1, st') := by
  have s1 := storeR_ok h 1 0 (epochL (wrap64 (e + 1))) h1 (epochL_fits _)
  have a1 := mstore_ev h 1 0 (epochL (wrap64 (e + 1))) h1 (epochL_fits _) (by omega) st
  rw [show ((64 * 1 + 0 : Nat) : Int) = wrap64 (64 * 1) from by rw [w64 (by omega) (by omega)]; rfl] at a1
  refine ⟨wrap64 (wrap64 (wrap64 (st + 1) + 1) + 1), ?_⟩
  unfold impl_machine_sync.f
  exact Ev.bind a1 (Ev.bind (mflush_ev s1 1 _) (Ev.bind (mfence_ev (flushR_ok s1 1) _) (Ev.eq rfl)))
end
/-! ### Halves put back -/
def lineI (h : Int) : Nat := (h / 2).toNat
def partI (h : Int) : Nat := (32 * (h % 2)).toNat
theorem half_at {c : Cfg} (hc : configOk c = true) {h : Int} (hb : canB c h = true) : wrap64 (32 * h) = ((64 * lineI h + partI h : Nat) : Int) ∧ partI h + 32 ≤ 64 ∧ (lineI h : Int) < c.1 ∧ wrap64 (Int.tdiv h 2) = (lineI h : Int) ∧ (h = 2 * (lineI h : Int) ∨ h = 2 * (lineI h : Int) + 1) := by
  have hf := configOk_facts hc
  unfold canB at hb
  simp only [Bool.or_eq_true, Bool.and_eq_true, decide_eq_true_eq] at hb
  have h0 : 0 ≤ h := by omega
  unfold lineI partI
  rw [w64 (by omega) (by omega), Int.tdiv_eq_ediv_of_nonneg h0, w64 (by omega) (by omega)]
  omega
def backR (d : Dev) (r : Rec) : Dev := storeR d (lineI r.2.2.1) (partI r.2.2.1) r.2.2.2
def backsR (l : List Rec) (d : Dev) : Dev := l.foldr (fun r d => backR d r) d
theorem backs_snoc (l : List Rec) (j : Nat) (h : j < l.length) (d : Dev) : backsR (l.take (j + 1)) d = backsR (l.take j) (backR d l[j]) := by
  rw [take_snoc2 _ _ h]
  unfold backsR
  rw [List.foldr_append]
  rfl
def flushLs (ls : List Int) (d : Dev) : Dev := ls.foldl flushR d
theorem flushLs_ok {n : Nat} : ∀ (ls : List Int) {d : Dev}, DevP n d → DevP n (flushLs ls d)
  | [], _, h => h
  | L :: ls, _, h => flushLs_ok ls (flushR_ok h L)
def hasLine (l : List Rec) (L : Nat) : Bool := hasHalf l (2 * (L : Int)) || hasHalf l (2 * (L : Int) + 1)
def lineL (l : List Rec) (n i : Nat) : List Int := ((List.range' i (n - i)).filter (hasLine l)).map fun L : Nat => (L : Int)
def endR (ls : List Int) (d : Dev) (e : Int) : Dev := nextR (fenceR (flushLs ls d)) e
theorem lineL_end (l : List Rec) (n : Nat) : lineL l n n = [] := by
  unfold lineL
  rw [Nat.sub_self]
  rfl
theorem lineL_succ (l : List Rec) (n i : Nat) (h : i < n) : lineL l n i = if hasLine l i = true then (i : Int) :: lineL l n (i + 1) else lineL l n (i + 1) := by
  unfold lineL
  rw [show n - i = (n - (i + 1)) + 1 from by omega, List.range'_succ, List.filter_cons]
  split <;> rfl
section
variable {c : Cfg} {n : Nat} {l : List Rec}
theorem back_ok (hc : configOk c = true) (hn : (n : Int) = c.1) {r : Rec} (hr : recOk r = true ∧ canB c r.2.2.1 = true) {d : Dev} (h : DevP n d) : DevP n (backR d r) := by
  obtain ⟨a1, a2, a3, a4, a5⟩ := half_at hc hr.2
  have := (recOk_facts hr.1).2.2.2.2.2.2
  exact storeR_ok h _ _ _ (by omega) (by omega)
theorem backs_ok (hc : configOk c = true) (hn : (n : Int) = c.1) : ∀ (l : List Rec) {d : Dev}, (∀ r ∈ l, recOk r = true ∧ canB c r.2.2.1 = true) → DevP n d → DevP n (backsR l d)
  | [], _, _, h => h
  | r :: l, _, hl, h => back_ok hc hn (hl r List.mem_cons_self) (backs_ok hc hn l (fun x hx => hl x (List.mem_cons_of_mem _ hx)) h)
/-- The reference, the lines. -/
theorem spec_p31_ev (hc : configOk c = true) (hn : (n : Int) = c.1) (hlen : l.length ≤ 32) (hl : c.2.2.2.length ≤ 1048576) (ht : ∀ x ∈ c.2.2.2, x.size ≤ 1048576) (img : ByteArray) : ∀ i, i ≤ n → ∀ (d : Dev) (st : Int), DevP n d → ∃ st', Ev (fun k => spec_l5W_back.p31 k d.1 d.2 (-1) st false c.1 c.2.1 c.2.2.1 c.2.2.2 img l (i : Int)) ((endR (lineL l n i) d (epochR c img)).1, (endR (lineL l n i) d (epochR c img)).2, -1, st', false) := by
  have hf := configOk_facts hc
  refine down ?_ ?_
  · intro d st h
    obtain ⟨st', h3⟩ := wnext_ev (fenceR_ok h) (by omega) c (epochR c img) (wrap64 (st + 1))
    refine ⟨st', Ev.step (fun k => by rw [spec_l5W_back.p31]) ?_⟩
    rw [lineL_end]
    exact Ev.neg (by omega) (Ev.bind (wfence_ev h st) (Ev.bind (spec_EpochOf_ev c img hl ht) (Ev.bind h3 (Ev.eq rfl))))
  · intro i hi ih d st h
    obtain ⟨s1, n1⟩ := ih (flushR d (i : Int)) (wrap64 (st + 1)) (flushR_ok h _)
    obtain ⟨s2, n2⟩ := ih d st h
    have p1 := spec_l5Place_ev l (2 * (i : Int)) (by omega)
    have p2 := spec_l5Place_ev l (2 * (i : Int) + 1) (by omega)
    have q1 := placeF_has (2 * (i : Int)) l 0
    have q2 := placeF_has (2 * (i : Int) + 1) l 0
    have w1 : wrap64 (2 * (i : Int)) = 2 * (i : Int) := w64 (by omega) (by omega)
    have w2 : wrap64 (2 * (i : Int) + 1) = 2 * (i : Int) + 1 := w64 (by omega) (by omega)
    rw [lineL_succ l n i hi]
    by_cases c1 : placeF (2 * (i : Int)) 0 l ≥ 0
    · rw [decide_eq_true c1] at q1
      rw [if_pos (by unfold hasLine; rw [← q1]; rfl)]
      refine ⟨s1, Ev.step (fun k => by rw [spec_l5W_back.p31]) ?_⟩
      rw [w64s (i := i) (by omega), w1]
      exact Ev.pos (by omega) (Ev.bind p1 (Ev.pos c1 (Ev.bind (wflush_ev h _ st) n1)))
    · rw [decide_eq_false c1] at q1
      by_cases c2 : placeF (2 * (i : Int) + 1) 0 l ≥ 0
      · rw [decide_eq_true c2] at q2
        rw [if_pos (by unfold hasLine; rw [← q1, ← q2]; rfl)]
        refine ⟨s1, Ev.step (fun k => by rw [spec_l5W_back.p31]) ?_⟩
        rw [w64s (i := i) (by omega), w1, w2]
        exact Ev.pos (by omega) (Ev.bind p1 (Ev.neg c1 (Ev.bind p2 (Ev.pos c2 (Ev.bind (wflush_ev h _ st) n1)))))
      · rw [decide_eq_false c2] at q2
        rw [if_neg (by unfold hasLine; rw [← q1, ← q2]; simp)]
        refine ⟨s2, Ev.step (fun k => by rw [spec_l5W_back.p31]) ?_⟩
        rw [w64s (i := i) (by omega), w1, w2]
        exact Ev.pos (by omega) (Ev.bind p1 (Ev.neg c1 (Ev.bind p2 (Ev.neg c2 n2))))
/-- The reference, the halves. -/
theorem spec_p16_ev (hc : configOk c = true) (hn : (n : Int) = c.1) (hr : ∀ r ∈ l, recOk r = true ∧ canB c r.2.2.1 = true) (hlen : l.length ≤ 32) (hl : c.2.2.2.length ≤ 1048576) (ht : ∀ x ∈ c.2.2.2, x.size ≤ 1048576) (img : ByteArray) : ∀ j, j ≤ l.length → ∀ (d : Dev) (st : Int), DevP n d → ∃ st', Ev (fun k => spec_l5W_back.p16 k d.1 d.2 (-1) st false c.1 c.2.1 c.2.2.1 c.2.2.2 img l ((j : Int) - 1)) ((endR (lineL l n 0) (backsR (l.take j) d) (epochR c img)).1, (endR (lineL l n 0) (backsR (l.take j) d) (epochR c img)).2, -1, st', false) := by
  intro j
  induction j with
  | zero =>
    intro _ d st h
    obtain ⟨st', e⟩ := spec_p31_ev (l := l) hc hn hlen hl ht img 0 (Nat.zero_le _) d st h
    refine ⟨st', Ev.step (fun k => by rw [spec_l5W_back.p16]) ?_⟩
    exact Ev.neg (by omega) e
  | succ j ih =>
    intro hj d st h
    have hj : j < l.length := hj
    have hrj := hr _ (List.getElem_mem hj)
    obtain ⟨a1, a2, a3, a4, a5⟩ := half_at hc hrj.2
    have hz := (recOk_facts hrj.1).2.2.2.2.2.2
    have hg : rdOf rc0 l (j : Int) = l[j] := rdg hj
    obtain ⟨st', nx⟩ := ih (by omega) (backR d l[j]) (wrap64 (st + 1)) (back_ok hc hn hrj h)
    refine ⟨st', Ev.step (fun k => by rw [spec_l5W_back.p16]) ?_⟩
    rw [backs_snoc l j hj, show (((j + 1 : Nat) : Int) - 1) = (j : Int) from by omega, hg, a1, w64 (x := (j : Int) - 1) (by omega) (by omega)]
    exact Ev.pos (by omega) (Ev.pos (by omega) (Ev.pos (by omega) (Ev.pos (by omega) (Ev.pos (by omega) (Ev.bind (wstore_ev h _ _ _ (by omega) (by omega) (by omega) st) nx)))))
end
end Go.Proofs.YtmciidoohbmipaaGreatDoor.Abs.Pu
namespace Go.Proofs.YtmciidoohbmipaaGreatDoor.Abs.Pu
open Go Go.RowKit
set_option linter.unusedVariables false
set_option linter.unusedSectionVars false
set_option linter.unusedSimpArgs false
def rollR (c : Cfg) (d : Dev) (l : List Rec) : Dev := if l.length = 0 then d else endR (lineL l c.1.toNat 0) (backsR l d) (epochR c (seenB d))
def rolledO (c : Cfg) (d : Dev) : Option Dev := if devB d = true then (match logR c (seenB d) with
  | none => none
  | some l => some (rollR c d l)) else none
def outD : Option Dev → ByteArray × List Line × Int
  | some D => (D.1, D.2, 0)
  | none => ((⟨#[]⟩ : ByteArray), [], 1)
theorem spec_Seen_ev (d : Dev) (h : d.1.size ≤ 1099511627776) (hl : d.2.length ≤ 1048576) : Ev (fun k => spec_Seen.f k d.1 d.2) (seenR d) := by
  unfold spec_Seen.f seenR
  refine Ev.bind (spec_DeviceOk_ev d h hl) (Ev.cases (fun h0 => ?_) (fun h0 => by rw [if_neg h0]; exact Ev.eq rfl))
  obtain ⟨n, hd⟩ := (devB_iff d).1 h0
  rw [if_pos h0]
  exact Ev.bind (spec_l2Seen_ev hd) (Ev.eq rfl)
theorem spec_l5Bad_ev (c : Cfg) (d : Dev) (hl : c.2.2.2.length ≤ 1048576) (ht : ∀ x ∈ c.2.2.2, x.size ≤ 1048576) (h : d.1.size ≤ 1099511627776) (hd : d.2.length ≤ 1048576) : Ev (fun k => spec_l5Bad.f k c.1 c.2.1 c.2.2.1 c.2.2.2 d.1 d.2) (!(outL (logR c (seenR d))).2) := by
  unfold spec_l5Bad.f
  exact Ev.bind (spec_Seen_ev d h hd) (Ev.bind (spec_LogOf_ev c _ hl ht) (Ev.eq rfl))
theorem logR_empty (c : Cfg) : logR c (⟨#[]⟩ : ByteArray) = none := by
  cases h : logR c (⟨#[]⟩ : ByteArray) with
  | none => rfl
  | some l =>
    obtain ⟨hc, hz⟩ := isImageB_facts (logR_all h).1
    have hf := configOk_facts hc
    have hz : ((0 : Nat) : Int) = 64 * c.1 := hz
    omega
theorem rolled_facts {c : Cfg} {d : Dev} {n : Nat} {l : List Rec} (hd : DevP n d) (h : logR c (seenB d) = some l) : configOk c = true ∧ (n : Int) = c.1 ∧ c.1.toNat = n ∧ (∀ r ∈ l, recOk r = true ∧ canB c r.2.2.1 = true) ∧ l.length ≤ 32 := by
  obtain ⟨h1, h2, h3⟩ := logR_all h
  obtain ⟨hc, hz⟩ := isImageB_facts h1
  have hs := seen_size hd
  exact ⟨hc, by omega, by omega, h2, h3⟩
theorem spec_RolledBack_ev (c : Cfg) (d : Dev) (hl : c.2.2.2.length ≤ 1048576) (ht : ∀ x ∈ c.2.2.2, x.size ≤ 1048576) (h : d.1.size ≤ 1099511627776) (hdl : d.2.length ≤ 1048576) : Ev (fun k => spec_RolledBack.f k c.1 c.2.1 c.2.2.1 c.2.2.2 d.1 d.2) (outD (rolledO c d)) := by
  have hb := spec_l5Bad_ev c d hl ht h hdl
  unfold spec_RolledBack.f rolledO
  refine Ev.bind hb ?_
  unfold seenR
  by_cases h0 : devB d = true
  · obtain ⟨n, hd⟩ := (devB_iff d).1 h0
    rw [if_pos h0, if_pos h0]
    cases hlog : logR c (seenB d) with
    | none => exact Ev.pos rfl (Ev.eq rfl)
    | some l =>
      obtain ⟨hc, hn, hn2, hr, hlen⟩ := rolled_facts hd hlog
      have hcp : spec_l2Copy.f d.1 d.2 = some (d.1, d.2) := by
        unfold spec_l2Copy.f
        rw [if_pos (by omega)]
        rfl
      have hlo := spec_LogOf_ev c (seenB d) hl ht
      rw [hlog] at hlo
      refine Ev.neg (by simp [outL]) (Ev.bindo hcp ?_)
      show Ev _ ((rollR c d l).1, (rollR c d l).2, 0)
      have main : ∃ st', Ev (fun k => spec_l5W_back.f k d.1 d.2 (-1) 0 false c.1 c.2.1 c.2.2.1 c.2.2.2) ((rollR c d l).1, (rollR c d l).2, -1, st', false) := by
        unfold spec_l5W_back.f rollR
        by_cases k0 : l.length = 0
        · rw [if_pos k0]
          exact ⟨0, Ev.bind (spec_l2Seen_ev hd) (Ev.bind hlo (Ev.pos (by show ((l.length : Nat) : Int) = 0; omega) (Ev.eq rfl)))⟩
        · rw [if_neg k0]
          obtain ⟨st', e⟩ := spec_p16_ev (n := n) hc hn hr hlen hl ht (seenB d) l.length (Nat.le_refl _) d 0 hd
          rw [List.take_length] at e
          rw [hn2]
          refine ⟨st', Ev.bind (spec_l2Seen_ev hd) (Ev.bind hlo (Ev.neg (by show ¬ ((l.length : Nat) : Int) = 0; omega) ?_))⟩
          show Ev (fun k => spec_l5W_back.p16 k d.1 d.2 (-1) 0 false c.1 c.2.1 c.2.2.1 c.2.2.2 (seenB d) l (wrap64 ((l.length : Int) - 1))) _
          rw [w64 (x := (l.length : Int) - 1) (by omega) (by omega)]
          exact e
      obtain ⟨st', e⟩ := main
      exact Ev.bind e (Ev.eq rfl)
  · rw [if_neg h0, if_neg h0, logR_empty]
    exact Ev.pos rfl (Ev.eq rfl)
end Go.Proofs.YtmciidoohbmipaaGreatDoor.Abs.Pu
namespace Go.Proofs.YtmciidoohbmipaaGreatDoor.Abs.Pu
open Go Go.RowKit
set_option linter.unusedVariables false
set_option linter.unusedSectionVars false
set_option linter.unusedSimpArgs false
theorem format_ev (c : Cfg) (hc : configOk c = true) (hl : c.2.2.2.length ≤ 1048576) (hs : ∀ x ∈ c.2.2.2, x.size ≤ 1048576) : ∃ s : ByteArray, Ev (fun k => spec_Format.f k c.1 c.2.1 c.2.2.1 c.2.2.2) s ∧ (s.size : Int) = 64 * c.1 := by
  have hf := configOk_facts hc
  have htl := types_len hf.2.2.2.2.2.2.2
  have h3 := spec_l3Super_ev c hc
  have hq := quads_size c.2.2.2 (headB c)
  have hh := headB_size c
  have hz3 := sealR_size (s := quads c.2.2.2 (headB c)) (by omega)
  have hw := wordB_size 0
  have hE : Ev (fun k => spec_EpochLine.f k 0) (sealR (wordB 0)) := by
    unfold spec_EpochLine.f
    exact Ev.bindo (l1In_f _ _ _) (Ev.pos (by decide) (Ev.bind (spec_WordBytes_ev 0) (Ev.bind (spec_Sealed_ev _ (by omega)) (Ev.eq rfl))))
  have hzE := sealR_size (s := wordB 0) (by omega)
  have hZ := spec_l1Zeros_f (64 * c.1 - 128).toNat (by omega)
  have hzz := zerosB_size (64 * c.1 - 128).toNat
  refine ⟨(sealR (quads c.2.2.2 (headB c)) ++ sealR (wordB 0)) ++ zerosB (64 * c.1 - 128).toNat, ?_, ?_⟩
  · unfold spec_Format.f
    rw [w64 (x := 64 * c.1) (by omega) (by omega), w64 (x := 64 * c.1 - 128) (by omega) (by omega), show 64 * c.1 - 128 = (((64 * c.1 - 128).toNat : Nat) : Int) from by omega]
    refine Ev.bind (spec_ConfigOk_ev c hl hs) (Ev.pos hc (Ev.bind h3 (Ev.bind hE (Ev.pos (by omega) (Ev.bindo hZ (Ev.pos (by rw [ByteArray.size_append]; omega) (Ev.eq rfl)))))))
  · simp only [ByteArray.size_append]
    omega
end Go.Proofs.YtmciidoohbmipaaGreatDoor.Abs.Pu
namespace Go.Proofs.YtmciidoohbmipaaGreatDoor.Abs.Pu
open Go Go.RowKit
set_option linter.unusedVariables false
set_option linter.unusedSectionVars false
set_option linter.unusedSimpArgs false
theorem wordv_left {a b : ByteArray} {p : Nat} (h : p + 8 ≤ a.size) : wordv (a ++ b) p = wordv a p := by
  unfold wordv
  exact congrArg wrap64 (be_congr 8 fun i hi => bt_left (by omega))
theorem wordv_right {a b : ByteArray} {p n : Nat} (hn : a.size = n) : wordv (a ++ b) (n + p) = wordv b p := by
  unfold wordv
  refine congrArg wrap64 (be_congr 8 fun i hi => ?_)
  rw [← hn, Nat.add_assoc]
  exact bt_right
theorem bt_right' {a b : ByteArray} {n j : Nat} (hn : a.size = n) : bt (a ++ b) ((n + j : Nat) : Int) = bt b (j : Int) := by
  rw [← hn]; exact bt_right
theorem bt_zeros (n i : Nat) : bt (zerosB n) (i : Int) = 0 := by
  rw [bt_bytesOf, bytesOf_zerosB, List.getD_eq_getElem?_getD, List.getElem?_replicate]
  split <;> rfl
theorem bt_nums (l : List Int) (i : Nat) (h : isBytes l) : bt (strOfNums l) (i : Int) = l.getD i 0 := by
  rw [bt_bytesOf, bytesOf_strOfNums h]
theorem seal_left {B : ByteArray} {i : Nat} (h : i < B.size) (hB : B.size ≤ 60) : bt (sealR B) (i : Int) = bt B (i : Int) := by
  unfold sealR
  rw [bt_left (by rw [sealT_size hB]; omega)]
  unfold sealT
  exact bt_left h
theorem seal_word {B : ByteArray} {p : Nat} (h : p + 8 ≤ B.size) (hB : B.size ≤ 60) : wordv (sealR B) p = wordv B p := by
  unfold sealR
  rw [wordv_left (by rw [sealT_size hB]; omega)]
  unfold sealT
  exact wordv_left h
theorem extract_left {a b : ByteArray} {p q : Nat} (h : q ≤ a.size) : (a ++ b).extract p q = a.extract p q := by
  refine bytesOf_inj ?_
  rw [bytesOf_cut, bytesOf_cut, bytesOf_append]
  by_cases c : p ≤ a.size
  · rw [List.drop_append_of_le_length (by rw [bytesOf_length]; exact c), List.take_append_of_le_length (by rw [List.length_drop, bytesOf_length]; omega)]
  · rw [show q - p = 0 from by omega]
    rfl
theorem epoch_round {e : Int} (h : epochOk e = true) : epochO (epochL e) = (e, true) := by
  have hs : epochL e = sealR (wordB e) := by unfold epochL; rw [if_pos h]
  have h2 := h
  unfold epochOk at h2
  simp only [Bool.and_eq_true, decide_eq_true_eq] at h2
  have hw : wordv (epochL e) 0 = e := by
    rw [hs, seal_word (by rw [wordB_size]; omega) (by rw [wordB_size]; omega)]
    exact wordv_wordB e (by omega) (by omega)
  unfold epochO
  rw [hw, if_pos rfl]
theorem epochL_sz {e : Int} (h : epochOk e = true) : (epochL e).size = 64 := by
  unfold epochL
  rw [if_pos h]
  exact sealR_size (by rw [wordB_size]; omega)
theorem rec_round {r : Rec} (h : recOk r = true) : recO (recL r) = some r := by
  obtain ⟨h1, h2, h3, h4, h5, h6, h7⟩ := recOk_facts h
  have hB := recB_size h7
  have hs := recL_yes h
  have z1 : (⟨#[85]⟩ : ByteArray).size = 1 := rfl
  have z2 := one_size (r.2.1 % 256)
  have z3 := shortB_size r.2.2.1
  have z4 := wordB_size r.1
  have hA : ((⟨#[85]⟩ : ByteArray) ++ strOf ([(r.2.1 % 256)] : List Int)).size = 2 := by rw [ByteArray.size_append, z1, z2]
  have hC : (((⟨#[85]⟩ : ByteArray) ++ strOf ([(r.2.1 % 256)] : List Int)) ++ shortB r.2.2.1).size = 4 := by rw [ByteArray.size_append, hA, z3]
  have hD : ((((⟨#[85]⟩ : ByteArray) ++ strOf ([(r.2.1 % 256)] : List Int)) ++ shortB r.2.2.1) ++ wordB r.1).size = 12 := by rw [ByteArray.size_append, hC, z4]
  have e1 : wordv (recL r) 4 = r.1 := by
    rw [hs, seal_word (by omega) (by omega)]
    unfold recB
    rw [wordv_left (by omega), show (4 : Nat) = 4 + 0 from rfl, wordv_right hC]
    exact wordv_wordB r.1 (by omega) (by omega)
  have e2 : bt (recL r) 1 = r.2.1 := by
    have := seal_left (B := recB r) (i := 1) (by omega) (by omega)
    rw [hs, show (1 : Int) = ((1 : Nat) : Int) from rfl, this]
    unfold recB
    rw [bt_left (by omega), bt_left (by omega), bt_left (by omega), show (1 : Nat) = 1 + 0 from rfl, bt_right' z1, strOf_eq, bt_nums _ _ (by intro x hx; rw [List.mem_singleton.1 hx]; omega)]
    show r.2.1 % 256 = _
    omega
  have e3 : ∀ j, j < 2 → bt (recL r) ((2 + j : Nat) : Int) = ([r.2.2.1 / 256 % 256, r.2.2.1 % 256] : List Int).getD j 0 := by
    intro j hj
    rw [hs, seal_left (B := recB r) (i := 2 + j) (by omega) (by omega)]
    unfold recB
    rw [bt_left (by omega), bt_left (by omega), bt_right' hA]
    unfold shortB
    exact bt_nums _ _ (by intro x hx; simp at hx; omega)
  have e4 : rdS (recL r) 2 = r.2.2.1 := by
    unfold rdS
    have a := e3 0 (by omega)
    have b := e3 1 (by omega)
    rw [show ((2 : Nat) : Int) = ((2 + 0 : Nat) : Int) from rfl, a, show ((2 + 1 : Nat) : Int) = ((2 + 1 : Nat) : Int) from rfl, b]
    show r.2.2.1 / 256 % 256 * 256 + r.2.2.1 % 256 = _
    omega
  have e5 : (recL r).extract 12 44 = r.2.2.2 := by
    rw [hs]
    unfold sealR
    rw [extract_left (by rw [sealT_size (by omega)]; omega)]
    unfold sealT
    rw [extract_left (by omega)]
    unfold recB
    exact cut_right _ _ hD (by omega)
  have ha : recAt (recL r) = r := by
    unfold recAt
    rw [e1, e2, e4, e5]
  unfold recO
  rw [ha, if_pos rfl]
theorem recL_sz {r : Rec} (h : recOk r = true) : (recL r).size = 64 := by
  rw [recL_yes h]
  exact sealR_size (by rw [recB_size (recOk_facts h).2.2.2.2.2.2]; omega)
theorem rec_zeros : recO (zerosB 64) = none := by
  unfold recO
  split
  · rename_i k
    have hz := zerosB_size 64
    obtain ⟨h1, h2⟩ := recL_ok hz k
    exfalso
    have hB := recB_size (recOk_facts h1).2.2.2.2.2.2
    have a := seal_left (B := recB (recAt (zerosB 64))) (i := 0) (by omega) (by omega)
    rw [h2] at a
    have b : bt (recB (recAt (zerosB 64))) ((0 : Nat) : Int) = 85 := by
      unfold recB
      have z1 : (⟨#[85]⟩ : ByteArray).size = 1 := rfl
      rw [bt_left (by simp only [ByteArray.size_append]; omega), bt_left (by simp only [ByteArray.size_append]; omega), bt_left (by simp only [ByteArray.size_append]; omega), bt_left (by omega)]
      rfl
    rw [b, bt_zeros] at a
    omega
  · rfl
end Go.Proofs.YtmciidoohbmipaaGreatDoor.Abs.Pu
namespace Go.Proofs.YtmciidoohbmipaaGreatDoor.Abs.Pu
open Go Go.RowKit
set_option linter.unusedVariables false
set_option linter.unusedSectionVars false
set_option linter.unusedSimpArgs false
/-- What is seen of a line. -/
def sight (safe : ByteArray) (L : Nat) : List Line → ByteArray
  | [] => lineB safe L
  | x :: l => if x.1 = (L : Int) then x.2.1 else sight safe L l
theorem sight_none {safe : ByteArray} {L : Nat} : ∀ {l : List Line}, (∀ x ∈ l, x.1 ≠ (L : Int)) → sight safe L l = lineB safe L
  | [], _ => rfl
  | x :: l, h => by
    unfold sight
    rw [if_neg (h x List.mem_cons_self)]
    exact sight_none fun y hy => h y (List.mem_cons_of_mem _ hy)
theorem sight_mem {safe : ByteArray} {L : Nat} : ∀ {l : List Line}, (l.Pairwise fun x y => x.1 < y.1) → ∀ x ∈ l, x.1 = (L : Int) → sight safe L l = x.2.1
  | y :: l, hp, x, hx, e => by
    rw [List.pairwise_cons] at hp
    unfold sight
    rcases List.mem_cons.1 hx with h | h
    · rw [← h, if_pos e]
    · have := hp.1 x h
      rw [if_neg (by omega)]
      exact sight_mem hp.2 x h e
theorem mem_or (l : List Line) (L : Nat) : (∃ x ∈ l, x.1 = (L : Int)) ∨ ∀ x ∈ l, x.1 ≠ (L : Int) := by
  by_cases h : ∃ x ∈ l, x.1 = (L : Int)
  · exact .inl h
  · exact .inr fun x hx e => h ⟨x, hx, e⟩
section
variable {n : Nat} {d : Dev}
theorem seen_line (h : DevP n d) (L : Nat) (hL : L < n) : lineB (seenB d) L = sight d.1 L d.2 := by
  rcases mem_or d.2 L with ⟨x, hx, e⟩ | ho
  · rw [sight_mem h.sorted x hx e]
    obtain ⟨j, hj, rfl⟩ := List.getElem_of_mem hx
    have := seen_at h j hj
    rwa [e, Int.toNat_natCast] at this
  · rw [sight_none ho, seen_other h L hL ho]
/-- Two right devices of which the same is seen of each line. -/
theorem seen_same {d' : Dev} (h : DevP n d) (h' : DevP n d') (hs : ∀ L, L < n → sight d'.1 L d'.2 = sight d.1 L d.2) : seenB d' = seenB d :=
  lines_same n (seen_size h') (seen_size h) fun L hL => by rw [seen_line h' L hL, seen_line h L hL, hs L hL]
theorem seen_flush (h : DevP n d) (M : Int) : seenB (flushR d M) = seenB d := by
  refine seen_same h (flushR_ok h M) fun L hL => ?_
  unfold flushR
  show sight d.1 L (d.2.map (flushX M)) = _
  generalize d.2 = l
  induction l with
  | nil => rfl
  | cons x l ih =>
    rw [List.map_cons]
    unfold sight
    rw [(flushX_at M x).1, (flushX_at M x).2, ih]
theorem fenceS_pick : ∀ (l : List Line) (s : ByteArray), fenceS l s = pickF l (List.replicate l.length 1) s
  | [], _ => rfl
  | x :: l, s => by
    rw [List.length_cons, List.replicate_succ]
    show fenceS l (put64 s x.1 x.2.2) = pickF l _ (picked x 1 s)
    rw [show picked x 1 s = put64 s x.1 x.2.2 from by unfold picked; rw [if_neg (by omega), if_pos rfl], fenceS_pick l]
theorem fence_line (h : DevP n d) (L : Nat) (hL : L < n) : (∀ x ∈ d.2, x.1 = (L : Int) → lineB (fenceR d).1 L = if x.2.2 = (⟨#[]⟩ : ByteArray) then lineB d.1 L else x.2.2) ∧ ((∀ x ∈ d.2, x.1 ≠ (L : Int)) → lineB (fenceR d).1 L = lineB d.1 L) := by
  unfold fenceR
  refine ⟨fun x hx e => ?_, fun ho => ?_⟩
  · obtain ⟨j, hj, rfl⟩ := List.getElem_of_mem hx
    have := pick_at (n := n) d.2 (List.replicate d.2.length 1) j hj h.lines h.sorted h.size
    rw [e, Int.toNat_natCast, ← fenceS_pick, List.getD_eq_getElem?_getD, List.getElem?_replicate, if_pos hj] at this
    rw [show (fenceS d.2 d.1, fenceL d.2).1 = fenceS d.2 d.1 from rfl, this]
    rfl
  · rw [show (fenceS d.2 d.1, fenceL d.2).1 = fenceS d.2 d.1 from rfl, fenceS_pick]
    exact pick_other d.2 _ L h.lines h.size hL ho
theorem fenceL_at {l : List Line} {x : Line} (hx : x ∈ l) (hne : x.2.2 ≠ x.2.1) : (x.1, x.2.1, (⟨#[]⟩ : ByteArray)) ∈ fenceL l := by
  unfold fenceL
  rw [List.mem_filterMap]
  exact ⟨x, hx, by unfold fenceX; rw [if_neg hne]⟩
theorem uniq_at (hp : d.2.Pairwise fun x y => x.1 < y.1) {x y : Line} (hx : x ∈ d.2) (hy : y ∈ d.2) (e : x.1 = y.1) : x = y := by
  rw [List.pairwise_iff_getElem] at hp
  obtain ⟨i, hi, rfl⟩ := List.getElem_of_mem hx
  obtain ⟨j, hj, rfl⟩ := List.getElem_of_mem hy
  rcases Nat.lt_trichotomy i j with c | c | c
  · have := hp i j hi hj c; omega
  · subst c; rfl
  · have := hp j i hj hi c; omega
theorem seen_fence (h : DevP n d) : seenB (fenceR d) = seenB d := by
  refine seen_same h (fenceR_ok h) fun L hL => ?_
  obtain ⟨f1, f2⟩ := fence_line h L hL
  have hp' := (fenceR_ok h).sorted
  rcases mem_or d.2 L with ⟨x, hx, e⟩ | ho
  · rw [sight_mem h.sorted x hx e]
    by_cases c : x.2.2 = x.2.1
    · have hno : ∀ y ∈ (fenceR d).2, y.1 ≠ (L : Int) := by
        intro y hy ey
        obtain ⟨z, hz, rfl⟩ := fenceL_mem hy
        have hzx := uniq_at h.sorted hz hx (ey.trans e.symm)
        subst hzx
        unfold fenceR fenceL at hy
        rw [List.mem_filterMap] at hy
        obtain ⟨w, hw, ew⟩ := hy
        unfold fenceX at ew
        split at ew
        · cases ew
        · rename_i hc
          injection ew with ew
          have e1 : w.1 = z.1 := (Prod.mk.inj ew).1
          exact hc (by rw [uniq_at h.sorted hw hz e1]; exact c)
      rw [sight_none hno, f1 x hx e, if_neg, c]
      intro e0
      have := (h.lines x hx).data
      rw [← c, e0] at this
      cases this
    · rw [sight_mem hp' _ (fenceL_at hx c) e]
  · have hno : ∀ y ∈ (fenceR d).2, y.1 ≠ (L : Int) := by
      intro y hy
      obtain ⟨z, hz, rfl⟩ := fenceL_mem hy
      exact ho z hz
    rw [sight_none hno, sight_none ho, f2 ho]
theorem seen_store (h : DevP n d) (M p : Nat) (t : ByteArray) (hM : M < n) (hp : p + t.size ≤ 64) (L : Nat) (hL : L < n) : lineB (seenB (storeR d M p t)) L = if L = M then replB (lineB (seenB d) L) p t else lineB (seenB d) L := by
  rw [seen_line (storeR_ok h M p t hM hp) L hL, seen_line h L hL]
  unfold storeR
  show sight d.1 L (stL (M : Int) (fun s => replB s p t) (lineB d.1 M) d.2) = _
  have hs := h.sorted
  generalize d.2 = l at hs
  induction l with
  | nil =>
    unfold stL sight
    by_cases c : L = M
    · subst c
      rw [if_pos rfl, if_pos rfl]
    · rw [if_neg c, if_neg (by show ¬ (M : Int) = L; omega)]
      rfl
  | cons x l ih =>
    rw [List.pairwise_cons] at hs
    have ih := ih hs.2
    unfold stL
    by_cases c1 : x.1 > (M : Int)
    · rw [if_pos c1]
      by_cases c : L = M
      · subst c
        have e : sight d.1 L (x :: l) = lineB d.1 L := sight_none fun y hy => by
          rcases List.mem_cons.1 hy with hy | hy
          · rw [hy]; omega
          · have := hs.1 y hy; omega
        rw [e, if_pos rfl]
        unfold sight
        rw [if_pos rfl]
      · rw [if_neg c]
        rw [show sight d.1 L (((M : Int), (replB (lineB d.1 M) p t, (⟨#[]⟩ : ByteArray))) :: x :: l) = sight d.1 L (x :: l) from by
          rw [sight]
          exact if_neg (by show ¬ (M : Int) = L; omega)]
    · rw [if_neg c1]
      by_cases c2 : x.1 = (M : Int)
      · rw [if_pos c2]
        by_cases c : L = M
        · subst c
          rw [if_pos rfl]
          unfold sight
          rw [if_pos c2, if_pos c2]
        · rw [if_neg c]
          unfold sight
          rw [if_neg (by show ¬ x.1 = (L : Int); omega), if_neg (by omega)]
      · rw [if_neg c2]
        by_cases c : x.1 = (L : Int)
        · rw [if_neg (by omega)]
          unfold sight
          rw [if_pos c, if_pos c]
        · rw [sight, sight, if_neg c, if_neg c]
          exact ih
theorem evictS_pick (M : Int) : ∀ (l : List Line) (s : ByteArray), evictS M l s = pickF l (l.map fun x => if x.1 = M then 2 else 0) s
  | [], _ => rfl
  | x :: l, s => by
    rw [List.map_cons]
    show evictS M l (if x.1 = M then put64 s x.1 x.2.1 else s) = pickF l _ (picked x (if x.1 = M then 2 else 0) s)
    rw [evictS_pick M l]
    congr 1
    unfold picked
    by_cases c : x.1 = M
    · rw [if_pos c, if_pos c, if_pos rfl]
    · rw [if_neg c, if_neg c, if_neg (by omega), if_neg (by omega)]
theorem evict_line (h : DevP n d) (M : Int) (L : Nat) (hL : L < n) (x : Line) (hx : x ∈ d.2) (e : x.1 = (L : Int)) : lineB (evictR d M).1 L = if x.1 = M then x.2.1 else lineB d.1 L := by
  unfold evictR
  obtain ⟨j, hj, rfl⟩ := List.getElem_of_mem hx
  have := pick_at (n := n) d.2 (d.2.map fun x => if x.1 = M then 2 else 0) j hj h.lines h.sorted h.size
  rw [← evictS_pick, List.getD_eq_getElem?_getD, List.getElem?_map, List.getElem?_eq_getElem hj] at this
  rw [show (evictS M d.2 d.1, evictL M d.2).1 = evictS M d.2 d.1 from rfl]
  have e2 : (d.2[j]).1.toNat = L := by omega
  rw [e2] at this
  rw [this]
  show choice d.2[j] (if (d.2[j]).1 = M then 2 else 0) _ = _
  unfold choice
  by_cases c : (d.2[j]).1 = M
  · rw [if_pos c, if_pos c, if_pos rfl]
  · rw [if_neg c, if_neg c, if_neg (by omega), if_neg (by omega)]
theorem seen_evict (h : DevP n d) (M : Int) : seenB (evictR d M) = seenB d := by
  refine seen_same h (evictR_ok h M) fun L hL => ?_
  have hp' := (evictR_ok h M).sorted
  have hm : ∀ y, y ∈ (evictR d M).2 ↔ y ∈ d.2 ∧ y.1 ≠ M := by
    intro y
    unfold evictR evictL
    rw [List.mem_filter]
    simp
  rcases mem_or d.2 L with ⟨x, hx, e⟩ | ho
  · rw [sight_mem h.sorted x hx e]
    by_cases c : x.1 = M
    · have hno : ∀ y ∈ (evictR d M).2, y.1 ≠ (L : Int) := by
        intro y hy ey
        exact ((hm y).1 hy).2 (by omega)
      rw [sight_none hno, evict_line h M L hL x hx e, if_pos c]
    · rw [sight_mem hp' x ((hm x).2 ⟨hx, c⟩) e]
  · have hno : ∀ y ∈ (evictR d M).2, y.1 ≠ (L : Int) := fun y hy => ho y ((hm y).1 hy).1
    rw [sight_none hno, sight_none ho]
    unfold evictR
    rw [show (evictS M d.2 d.1, evictL M d.2).1 = evictS M d.2 d.1 from rfl, evictS_pick]
    exact pick_other d.2 _ L h.lines h.size hL ho
/-- Nothing unsaved is seen where there are no lines. -/
theorem seen_plain (s : ByteArray) : seenB (s, ([] : List Line)) = s := rfl
theorem plain_ok {s : ByteArray} (hs : s.size = 64 * n) (h1 : 1 ≤ n) (h2 : n ≤ 128) : DevP n (s, ([] : List Line)) := ⟨hs, h1, h2, fun x hx => (by cases hx), List.Pairwise.nil⟩
end
end Go.Proofs.YtmciidoohbmipaaGreatDoor.Abs.Pu
namespace Go.Proofs.YtmciidoohbmipaaGreatDoor.Abs.Pu
open Go Go.RowKit
set_option linter.unusedVariables false
set_option linter.unusedSectionVars false
set_option linter.unusedSimpArgs false
section
variable {c : Cfg} {s t : ByteArray} {e : Int}
theorem logF_congr : ∀ (d i : Nat) (out : List Rec), (∀ j, i ≤ j → j < i + d → lineB s (4 + j) = lineB t (4 + j)) → logF c s e d i out = logF c t e d i out
  | 0, _, _, _ => rfl
  | d + 1, i, out, h => by
    have ih := fun out => logF_congr d (i + 1) out fun j h1 h2 => h j (by omega) (by omega)
    unfold logF
    rw [h i (Nat.le_refl _) (by omega)]
    simp only [ih]
theorem logF_len : ∀ (d i : Nat) (out : List Rec) {l : List Rec}, logF c s e d i out = some l → out.length ≤ l.length
  | 0, _, _, _, h => by
    unfold logF at h
    injection h with h
    rw [h]
    exact Nat.le_refl _
  | d + 1, i, out, l, h => by
    unfold logF at h
    split at h
    · exact logF_len d _ _ h
    · split at h
      · exact logF_len d _ _ h
      · split at h
        · cases h
        · split at h
          · have := logF_len d _ _ h
            rw [List.length_append, List.length_singleton] at this
            omega
          · cases h
/-- Nothing was taken. -/
theorem logF_quiet : ∀ (d i : Nat) (out : List Rec) {l : List Rec}, logF c s e d i out = some l → l.length = out.length → l = out ∧ ∀ out', logF c s e d i out' = some out'
  | 0, _, _, _, h, _ => by
    unfold logF at h
    injection h with h
    exact ⟨h.symm, fun _ => rfl⟩
  | d + 1, i, out, l, h, hl => by
    unfold logF at h
    unfold logF
    split at h
    · rename_i e0
      try simp only [e0]
      exact logF_quiet d _ _ h hl
    · rename_i r e0
      try simp only [e0]
      split at h
      · rename_i c1
        simp only [if_pos c1]
        exact logF_quiet d _ _ h hl
      · split at h
        · cases h
        · split at h
          · have := logF_len d _ _ h
            rw [List.length_append, List.length_singleton] at this
            omega
          · cases h
theorem logF_stuck : ∀ (d i : Nat) (out : List Rec) {l : List Rec}, out.length < i → logF c s e d i out = some l → l.length = out.length
  | 0, _, _, _, _, h => by
    unfold logF at h
    injection h with h
    rw [h]
  | d + 1, i, out, l, ho, h => by
    unfold logF at h
    split at h
    · exact logF_stuck d _ _ (by omega) h
    · split at h
      · exact logF_stuck d _ _ (by omega) h
      · split at h
        · cases h
        · split at h
          · rename_i k
            simp only [Bool.and_eq_true, decide_eq_true_eq] at k
            omega
          · cases h
theorem logF_epoch : ∀ (d i : Nat) (out : List Rec) {l : List Rec}, (∀ x ∈ out, x.1 = e) → logF c s e d i out = some l → ∀ x ∈ l, x.1 = e
  | 0, _, _, _, ho, h => by
    unfold logF at h
    injection h with h
    rw [← h]
    exact ho
  | d + 1, i, out, l, ho, h => by
    unfold logF at h
    split at h
    · exact logF_epoch d _ _ ho h
    · split at h
      · exact logF_epoch d _ _ ho h
      · split at h
        · cases h
        · split at h
          · refine logF_epoch d _ _ (fun x hx => ?_) h
            rcases List.mem_append.1 hx with hx | hx
            · exact ho x hx
            · rw [List.mem_singleton.1 hx]
              omega
          · cases h
/-- An epoch on, nothing stands. -/
theorem logF_skip {e' : Int} (he : e < e') : ∀ (d i : Nat) (out : List Rec) {l : List Rec}, logF c s e d i out = some l → ∀ out', logF c s e' d i out' = some out'
  | 0, _, _, _, _ => fun _ => rfl
  | d + 1, i, out, l, h => by
    intro out'
    unfold logF at h
    unfold logF
    split at h
    · rename_i e0
      try simp only [e0]
      exact logF_skip he d _ _ h out'
    · rename_i r e0
      try simp only [e0]
      split at h
      · rw [if_pos (by omega)]
        exact logF_skip he d _ _ h out'
      · split at h
        · cases h
        · split at h
          · rw [if_pos (by omega)]
            exact logF_skip he d _ _ h out'
          · cases h
theorem logF_none : ∀ (d i : Nat) (out : List Rec), (∀ j, i ≤ j → j < i + d → recO (lineB s (4 + j)) = none) → logF c s e d i out = some out
  | 0, _, _, _ => rfl
  | d + 1, i, out, h => by
    unfold logF
    rw [h i (Nat.le_refl _) (by omega)]
    exact logF_none d _ _ fun j h1 h2 => h j (by omega) (by omega)
/-- A record more. -/
theorem logF_snoc {r : Rec} : ∀ (d i : Nat) (out : List Rec) {l : List Rec}, logF c s e d i out = some l → out.length ≤ i → i ≤ l.length → l.length < i + d → (∀ j, i ≤ j → j < i + d → j ≠ l.length → lineB t (4 + j) = lineB s (4 + j)) →
    recO (lineB t (4 + l.length)) = some r → r.1 = e → r.2.1 = (l.length : Int) → canB c r.2.2.1 = true → hasHalf l r.2.2.1 = false → logF c t e d i out = some (l ++ [r]) := by
  intro d
  induction d with
  | zero => intro i out l _ _ h1 h2; omega
  | succ d ih =>
    intro i out l h ho h1 h2 hs hr he hq hc hh
    by_cases ci : i = l.length
    · have h' := h
      have tail : logF c s e d (i + 1) out = some l := by
        unfold logF at h
        split at h
        · exact h
        · split at h
          · exact h
          · split at h
            · cases h
            · split at h
              · rename_i k
                simp only [Bool.and_eq_true, decide_eq_true_eq] at k
                have := logF_len d _ _ h
                rw [List.length_append, List.length_singleton] at this
                omega
              · cases h
      have hlo : l.length = out.length := by
        rcases Nat.lt_or_ge out.length i with q | q
        · exact logF_stuck (d + 1) i out q h'
        · omega
      obtain ⟨rfl, hq2⟩ := logF_quiet d (i + 1) out tail hlo
      unfold logF
      rw [ci, hr]
      simp only
      rw [if_neg (by omega), if_neg (by omega), if_pos (by rw [hq, hc, hh]; simp)]
      rw [logF_congr (s := t) (t := s) d (l.length + 1) (l ++ [r]) (fun j h3 h4 => hs j (by omega) (by omega) (by omega)), ← ci]
      exact hq2 _
    · unfold logF at h
      unfold logF
      rw [hs i (Nat.le_refl _) (by omega) ci]
      split at h
      · rename_i e0
        try simp only [e0]
        exact ih (i + 1) out h (by omega) (by omega) (by omega) (fun j h3 h4 => hs j (by omega) (by omega)) hr he hq hc hh
      · rename_i r0 e0
        try simp only [e0]
        split at h
        · rename_i k0
          rw [if_pos k0]
          exact ih (i + 1) out h (by omega) (by omega) (by omega) (fun j h3 h4 => hs j (by omega) (by omega)) hr he hq hc hh
        · rename_i k0
          rw [if_neg k0]
          split at h
          · cases h
          · rename_i k1
            rw [if_neg k1]
            split at h
            · rename_i k2
              rw [if_pos k2]
              have hl : (out ++ [r0]).length = out.length + 1 := by simp
              simp only [Bool.and_eq_true, decide_eq_true_eq] at k2
              exact ih (i + 1) (out ++ [r0]) h (by omega) (by omega) (by omega) (fun j h3 h4 => hs j (by omega) (by omega)) hr he hq hc hh
            · cases h
end
def isLog (c : Cfg) (L : Nat) : Prop := L = 1 ∨ (4 ≤ L ∧ (L : Int) < 4 + c.2.1)
theorem epochR_congr {c : Cfg} {s t : ByteArray} (hz : s.size = t.size) (hl : lineB s 1 = lineB t 1) : epochR c s = epochR c t := by
  unfold epochR isImageB
  rw [hz, hl]
theorem logR_congr {c : Cfg} {s t : ByteArray} (hz : s.size = t.size) (hl : ∀ L, isLog c L → lineB s L = lineB t L) : logR c s = logR c t := by
  unfold logR
  rw [epochR_congr hz (hl 1 (.inl rfl))]
  rw [logF_congr (s := s) (t := t) _ 0 [] fun j _ h => hl (4 + j) (.inr ⟨by omega, by omega⟩)]
theorem logR_some {c : Cfg} {s : ByteArray} {l : List Rec} (h : logR c s = some l) : isImageB c s = true ∧ 0 ≤ epochR c s ∧ logF c s (epochR c s) c.2.1.toNat 0 [] = some l := by
  have h1 := (logR_all h).1
  unfold logR at h
  split at h
  · cases h
  · exact ⟨h1, by omega, h⟩
theorem epochR_le {c : Cfg} {s : ByteArray} (h : 0 ≤ epochR c s) (hz : (lineB s 1).size = 64) : epochR c s ≤ 1000000000 ∧ epochO (lineB s 1) = (epochR c s, true) := by
  unfold epochR at h ⊢
  split at h
  · rename_i h1
    rw [if_pos h1]
    split at h
    · rename_i h2
      rw [if_pos h2]
      have e := h2
      unfold epochO at e ⊢
      split at e
      · rename_i h3
        rw [if_pos h3]
        have := (epochL_ok hz h3).1
        unfold epochOk at this
        simp only [Bool.and_eq_true, decide_eq_true_eq] at this
        exact ⟨this.2, rfl⟩
      · cases e
    · omega
  · omega
theorem epochR_is {c : Cfg} {s : ByteArray} {e : Int} (h : isImageB c s = true) (h1 : lineB s 1 = epochL e) (h2 : epochOk e = true) : epochR c s = e := by
  unfold epochR
  rw [if_pos h, h1, epoch_round h2, if_pos rfl]
/-! ### Devices whose log stands in Safe alone -/
structure Good (c : Cfg) (n : Nat) (d : Dev) : Prop where
  ok : DevP n d
  cfg : configOk c = true
  nn : (n : Int) = c.1
  log : ∃ l, logR c (seenB d) = some l
  clean : ∀ x ∈ d.2, ∀ L : Nat, x.1 = (L : Int) → ¬ isLog c L
section
variable {c : Cfg} {n : Nat} {d : Dev}
theorem isLog_lt (hc : configOk c = true) (hn : (n : Int) = c.1) {L : Nat} (h : isLog c L) : L < n := by
  have hf := configOk_facts hc
  rcases h with h | h <;> omega
theorem Good.same (g : Good c n d) {d' : Dev} (h : DevP n d') (hs : ∀ L, isLog c L → lineB (seenB d') L = lineB (seenB d) L) (hc : ∀ x ∈ d'.2, ∀ L : Nat, x.1 = (L : Int) → ¬ isLog c L) : Good c n d' := by
  refine ⟨h, g.cfg, g.nn, ?_, hc⟩
  obtain ⟨l, hl⟩ := g.log
  exact ⟨l, by rw [logR_congr (by rw [seen_size h, seen_size g.ok]) hs]; exact hl⟩
theorem Good.evict (g : Good c n d) (M : Int) : Good c n (evictR d M) :=
  g.same (evictR_ok g.ok M) (fun L _ => by rw [seen_evict g.ok]) fun x hx => g.clean x (List.mem_filter.1 hx).1
theorem Good.flush (g : Good c n d) (M : Int) : Good c n (flushR d M) :=
  g.same (flushR_ok g.ok M) (fun L _ => by rw [seen_flush g.ok]) fun x hx => by
    obtain ⟨y, hy, rfl⟩ := List.mem_map.1 hx
    rw [(flushX_at M y).1]
    exact g.clean y hy
theorem Good.fence (g : Good c n d) : Good c n (fenceR d) :=
  g.same (fenceR_ok g.ok) (fun L _ => by rw [seen_fence g.ok]) fun x hx => by
    obtain ⟨y, hy, rfl⟩ := fenceL_mem hx
    exact g.clean y hy
theorem Good.flushes : ∀ (ls : List Int) {d : Dev}, Good c n d → Good c n (ls.foldl flushR d)
  | [], _, g => g
  | L :: ls, _, g => Good.flushes ls (g.flush L)
theorem Good.crash (g : Good c n d) (ks : List Int) : Good c n (pickF d.2 ks d.1, ([] : List Line)) := by
  refine g.same (plain_ok (pickF_size _ _ g.ok.lines g.ok.size) g.ok.lo g.ok.hi) (fun L hL => ?_) fun x hx => by cases hx
  have hlt := isLog_lt g.cfg g.nn hL
  have ho : ∀ x ∈ d.2, x.1 ≠ (L : Int) := fun x hx e => g.clean x hx L e hL
  rw [seen_plain, pick_other _ _ L g.ok.lines g.ok.size hlt ho, seen_other g.ok L hlt ho]
theorem Good.store (g : Good c n d) (M p : Nat) (t : ByteArray) (hM : M < n) (hp : p + t.size ≤ 64) (hd : ¬ isLog c M) : Good c n (storeR d M p t) := by
  refine g.same (storeR_ok g.ok M p t hM hp) (fun L hL => ?_) fun x hx L e hL => ?_
  · rw [seen_store g.ok M p t hM hp L (isLog_lt g.cfg g.nn hL), if_neg (fun e : L = M => hd (e ▸ hL))]
  · rcases stL_mem hx with hx | hx | ⟨y, hy, ey, hx⟩
    · exact g.clean x hx L e hL
    · rw [hx] at e
      have : M = L := by
        have e : (M : Int) = L := e
        omega
      exact hd (this ▸ hL)
    · rw [hx] at e
      exact g.clean y hy L e hL
/-! ### A line that is stored, flushed and fenced -/
def syncR (d : Dev) (L : Nat) (t : ByteArray) : Dev := fenceR (flushR (storeR d L 0 t) (L : Int))
theorem repl_all {s t : ByteArray} (h : s.size = t.size) : replB s 0 t = t := by
  refine bytes_same (by rw [repl_size (by omega)]; exact h) fun i hi => ?_
  rw [repl_size (by omega)] at hi
  rw [bt_repl (by omega), if_pos (by omega)]
  rfl
theorem sync_ok (h : DevP n d) (L : Nat) (t : ByteArray) (hL : L < n) (ht : t.size ≤ 64) : DevP n (syncR d L t) := fenceR_ok (flushR_ok (storeR_ok h L 0 t hL (by omega)) _)
theorem sync_seen (h : DevP n d) (L : Nat) (t : ByteArray) (hL : L < n) (ht : t.size = 64) (M : Nat) (hM : M < n) : lineB (seenB (syncR d L t)) M = if M = L then t else lineB (seenB d) M := by
  have s1 := storeR_ok h L 0 t hL (by omega)
  unfold syncR
  rw [seen_fence (flushR_ok s1 _), seen_flush s1, seen_store h L 0 t hL (by omega) M hM, repl_all]
  rw [ht]
  exact lineB_size (by rw [seen_size h]; omega)
theorem fence_drops {M : Int} {x : Line} (hx : x ∈ (fenceR (flushR d M)).2) : x.1 ≠ M := by
  unfold fenceR fenceL at hx
  rw [List.mem_filterMap] at hx
  obtain ⟨y, hy, ey⟩ := hx
  obtain ⟨z, hz, rfl⟩ := List.mem_map.1 hy
  unfold fenceX at ey
  split at ey
  · cases ey
  · rename_i hne
    injection ey with ey
    have e1 : (flushX M z).1 = x.1 := by rw [← ey]
    intro e
    apply hne
    have ez : z.1 = M := by rw [← (flushX_at M z).1, e1, e]
    unfold flushX
    rw [if_pos ez]
theorem sync_lines {L : Nat} {t : ByteArray} {x : Line} (hx : x ∈ (syncR d L t).2) : x.1 ≠ (L : Int) ∧ ∃ y ∈ d.2, y.1 = x.1 := by
  have h1 := fence_drops hx
  refine ⟨h1, ?_⟩
  obtain ⟨y, hy, rfl⟩ := fenceL_mem hx
  obtain ⟨z, hz, rfl⟩ := List.mem_map.1 hy
  have e : (flushX (L : Int) z).1 = z.1 := (flushX_at _ _).1
  have h1 : z.1 ≠ (L : Int) := fun q => h1 (by show (flushX (L : Int) z).1 = _; rw [e, q])
  show ∃ y ∈ d.2, y.1 = (flushX (L : Int) z).1
  rw [e]
  rcases stL_mem hz with hz | hz | ⟨w, hw, ew, hz⟩
  · exact ⟨z, hz, rfl⟩
  · exact absurd (by rw [hz]) h1
  · exact ⟨w, hw, by rw [hz]⟩
theorem sync_clean (h : ∀ x ∈ d.2, ∀ L : Nat, x.1 = (L : Int) → ¬ isLog c L) (M : Nat) (t : ByteArray) : ∀ x ∈ (syncR d M t).2, ∀ L : Nat, x.1 = (L : Int) → ¬ isLog c L := by
  intro x hx L e
  obtain ⟨_, y, hy, ey⟩ := sync_lines hx
  exact h y hy L (by rw [ey, e])
/-- The log an epoch on. -/
theorem next_log (h : DevP n d) (hc : configOk c = true) (hn : (n : Int) = c.1) {l : List Rec} (hl : logR c (seenB d) = some l) (he : epochR c (seenB d) < 1000000000) : isImageB c (seenB (syncR d 1 (epochL (epochR c (seenB d) + 1)))) = true ∧ epochR c (seenB (syncR d 1 (epochL (epochR c (seenB d) + 1)))) = epochR c (seenB d) + 1 ∧ logR c (seenB (syncR d 1 (epochL (epochR c (seenB d) + 1)))) = some [] := by
  have hf := configOk_facts hc
  obtain ⟨h1, h2, h3⟩ := logR_some hl
  have hok : epochOk (epochR c (seenB d) + 1) = true := by
    unfold epochOk
    simp only [Bool.and_eq_true, decide_eq_true_eq]
    omega
  have hz := epochL_sz hok
  have hso := sync_ok h 1 (epochL (epochR c (seenB d) + 1)) (by omega) (by omega)
  have hseen := sync_seen h 1 (epochL (epochR c (seenB d) + 1)) (by omega) hz
  generalize epochR c (seenB d) = e at *
  have him : isImageB c (seenB (syncR d 1 (epochL (e + 1)))) = true := by
    unfold isImageB
    rw [hc, seen_size hso]
    simp
    omega
  have hep : epochR c (seenB (syncR d 1 (epochL (e + 1)))) = e + 1 := epochR_is him (by rw [hseen 1 (by omega), if_pos rfl]) hok
  refine ⟨him, hep, ?_⟩
  unfold logR
  rw [hep, if_neg (by omega)]
  have hsk := logF_skip (e' := e + 1) (by omega) _ _ _ h3 []
  rw [← hsk]
  exact logF_congr _ 0 [] fun j _ hj => by rw [hseen (4 + j) (by omega), if_neg (by omega)]
/-- The log with a record more. -/
theorem note_log (h : DevP n d) (hc : configOk c = true) (hn : (n : Int) = c.1) {l : List Rec} (hl : logR c (seenB d) = some l) {r : Rec} (hr : recOk r = true) (he : r.1 = epochR c (seenB d)) (hq : r.2.1 = (l.length : Int)) (hlen : (l.length : Int) < c.2.1) (hcan : canB c r.2.2.1 = true) (hh : hasHalf l r.2.2.1 = false) : epochR c (seenB (syncR d (4 + l.length) (recL r))) = epochR c (seenB d) ∧ logR c (seenB (syncR d (4 + l.length) (recL r))) = some (l ++ [r]) := by
  have hf := configOk_facts hc
  obtain ⟨h1, h2, h3⟩ := logR_some hl
  have hz := recL_sz hr
  have hso := sync_ok h (4 + l.length) (recL r) (by omega) (by omega)
  have hseen := sync_seen h (4 + l.length) (recL r) (by omega) hz
  have hep : epochR c (seenB (syncR d (4 + l.length) (recL r))) = epochR c (seenB d) := epochR_congr (by rw [seen_size hso, seen_size h]) (by rw [hseen 1 (by omega), if_neg (by omega)])
  refine ⟨hep, ?_⟩
  unfold logR
  rw [hep, if_neg (by omega)]
  refine logF_snoc _ 0 [] h3 (Nat.le_refl _) (Nat.zero_le _) (by omega) (fun j _ hj hne => ?_) ?_ he hq hcan hh
  · rw [hseen (4 + j) (by omega), if_neg (by omega)]
  · rw [hseen (4 + l.length) (by omega), if_pos rfl]
    exact rec_round hr
theorem logF_count {c : Cfg} {s : ByteArray} {e : Int} : ∀ (d i : Nat) (out : List Rec) {l : List Rec}, out.length ≤ i → logF c s e d i out = some l → l.length ≤ i + d
  | 0, _, _, _, ho, h => by
    unfold logF at h
    injection h with h
    rw [← h]
    omega
  | d + 1, i, out, l, ho, h => by
    unfold logF at h
    split at h
    · have := logF_count d _ _ (by omega) h; omega
    · split at h
      · have := logF_count d _ _ (by omega) h; omega
      · split at h
        · cases h
        · split at h
          · have := logF_count d (i + 1) _ (by rw [List.length_append, List.length_singleton]; omega) h; omega
          · cases h
theorem logF_le (hd : DevP n d) {l : List Rec} (h : logR c (seenB d) = some l) : (l.length : Int) ≤ c.2.1 := by
  obtain ⟨h1, h2, h3⟩ := logR_some h
  have hf := configOk_facts (isImageB_facts h1).1
  have := logF_count _ 0 [] (Nat.le_refl _) h3
  omega
end
end Go.Proofs.YtmciidoohbmipaaGreatDoor.Abs.Pu
namespace Go.Proofs.YtmciidoohbmipaaGreatDoor.Abs.Pu
open Go Go.RowKit
set_option linter.unusedVariables false
set_option linter.unusedSectionVars false
set_option linter.unusedSimpArgs false
/-! ### Ending -/
def endedR (c : Cfg) (d : Dev) (l : List Rec) : Dev := if l.length = 0 then d else endR (d.2.map Prod.fst) d (epochR c (seenB d))
def endedO (c : Cfg) (d : Dev) : Option Dev := if devB d = true then (match logR c (seenB d) with
  | none => none
  | some l => some (endedR c d l)) else none
theorem spec_end_p18 {c : Cfg} {n : Nat} {l : List Rec} (hc : configOk c = true) (hn : (n : Int) = c.1) (hl : c.2.2.2.length ≤ 1048576) (ht : ∀ x ∈ c.2.2.2, x.size ≤ 1048576) (img : ByteArray) (ls : List Line) (hls : ls.length ≤ 1048576) : ∀ i, i ≤ ls.length → ∀ (d : Dev) (st : Int), DevP n d → ∃ st', Ev (fun k => spec_l5W_end.p18 k d.1 d.2 (-1) st false c.1 c.2.1 c.2.2.1 c.2.2.2 img ls (i : Int)) ((endR ((ls.drop i).map Prod.fst) d (epochR c img)).1, (endR ((ls.drop i).map Prod.fst) d (epochR c img)).2, -1, st', false) := by
  have hf := configOk_facts hc
  refine down ?_ ?_
  · intro d st h
    obtain ⟨st', h3⟩ := wnext_ev (fenceR_ok h) (by omega) c (epochR c img) (wrap64 (st + 1))
    refine ⟨st', Ev.step (fun k => by rw [spec_l5W_end.p18]) ?_⟩
    rw [List.drop_eq_nil_of_le (Nat.le_refl _)]
    exact Ev.neg (by omega) (Ev.bind (wfence_ev h st) (Ev.bind (spec_EpochOf_ev c img hl ht) (Ev.bind h3 (Ev.eq rfl))))
  · intro i hi ih d st h
    have hg : rdOf ln0 ls (i : Int) = ls[i] := rdg hi
    obtain ⟨s1, n1⟩ := ih (flushR d ls[i].1) (wrap64 (st + 1)) (flushR_ok h _)
    refine ⟨s1, Ev.step (fun k => by rw [spec_l5W_end.p18]) ?_⟩
    rw [w64s (i := i) (by omega), hg, List.drop_eq_getElem_cons hi]
    exact Ev.pos (by omega) (Ev.pos (by omega) (Ev.pos (by omega) (Ev.bind (wflush_ev h _ st) n1)))
theorem spec_Ended_ev (c : Cfg) (d : Dev) (hl : c.2.2.2.length ≤ 1048576) (ht : ∀ x ∈ c.2.2.2, x.size ≤ 1048576) (h : d.1.size ≤ 1099511627776) (hdl : d.2.length ≤ 1048576) : Ev (fun k => spec_Ended.f k c.1 c.2.1 c.2.2.1 c.2.2.2 d.1 d.2) (outD (endedO c d)) := by
  have hb := spec_l5Bad_ev c d hl ht h hdl
  unfold spec_Ended.f endedO
  refine Ev.bind hb ?_
  unfold seenR
  by_cases h0 : devB d = true
  · obtain ⟨n, hd⟩ := (devB_iff d).1 h0
    rw [if_pos h0, if_pos h0]
    cases hlog : logR c (seenB d) with
    | none => exact Ev.pos rfl (Ev.eq rfl)
    | some l =>
      obtain ⟨hc, hn, hn2, hr, hlen⟩ := rolled_facts hd hlog
      have hcp : spec_l2Copy.f d.1 d.2 = some (d.1, d.2) := by
        unfold spec_l2Copy.f
        rw [if_pos (by omega)]
        rfl
      have hlo := spec_LogOf_ev c (seenB d) hl ht
      rw [hlog] at hlo
      refine Ev.neg (by simp [outL]) (Ev.bindo hcp ?_)
      show Ev _ ((endedR c d l).1, (endedR c d l).2, 0)
      have main : ∃ st', Ev (fun k => spec_l5W_end.f k d.1 d.2 (-1) 0 false c.1 c.2.1 c.2.2.1 c.2.2.2) ((endedR c d l).1, (endedR c d l).2, -1, st', false) := by
        unfold spec_l5W_end.f endedR
        by_cases k0 : l.length = 0
        · rw [if_pos k0]
          exact ⟨0, Ev.bind (spec_l2Seen_ev hd) (Ev.bind hlo (Ev.pos (by show ((l.length : Nat) : Int) = 0; omega) (Ev.eq rfl)))⟩
        · rw [if_neg k0]
          obtain ⟨st', e⟩ := spec_end_p18 (l := l) hc hn hl ht (seenB d) d.2 hdl 0 (Nat.zero_le _) d 0 hd
          rw [List.drop_zero] at e
          exact ⟨st', Ev.bind (spec_l2Seen_ev hd) (Ev.bind hlo (Ev.neg (by show ¬ ((l.length : Nat) : Int) = 0; omega) (Ev.bindo hcp e)))⟩
      obtain ⟨st', e⟩ := main
      exact Ev.bind e (Ev.eq rfl)
  · rw [if_neg h0, if_neg h0, logR_empty]
    exact Ev.pos rfl (Ev.eq rfl)
/-! ### Noting -/
theorem w4n (m : Nat) (h : m ≤ 1000) : wrap64 (4 + (m : Int)) = ((4 + m : Nat) : Int) := by
  rw [w64 (x := 4 + (m : Int)) (by omega) (by omega)]
  omega
theorem w64m (N : Nat) (h : N ≤ 1000) : wrap64 (64 * (N : Int)) = ((64 * N : Nat) : Int) := by
  rw [w64 (x := 64 * (N : Int)) (by omega) (by omega)]
  omega
theorem recL_fits (r : Rec) : (recL r).size ≤ 64 := by
  by_cases h : recOk r = true
  · rw [recL_sz h]; exact Nat.le_refl _
  · rw [recL_no h]; exact Nat.zero_le _
def oldH (s : ByteArray) (h : Int) : ByteArray := s.extract (32 * h).toNat (32 * h + 32).toNat
def newRec (d : Dev) (l : List Rec) (e h : Int) : Rec := (e, (l.length : Int), h, oldH (seenB d) h)
def noteR (c : Cfg) (d : Dev) (l : List Rec) (e h : Int) : Dev × Int :=
  if hasHalf l h = true then (d, 0) else if (l.length : Int) = c.2.1 then (d, 3) else if e = 1000000000 then (d, 3) else (syncR d (4 + l.length) (recL (newRec d l e h)), 0)
theorem can_range {c : Cfg} (hc : configOk c = true) {h : Int} (hb : canB c h = true) : 4 ≤ h ∧ h ≤ 2 * c.1 - 1 := by
  have hf := configOk_facts hc
  unfold canB at hb
  simp only [Bool.or_eq_true, Bool.and_eq_true, decide_eq_true_eq] at hb
  omega
section
variable {c : Cfg} {n : Nat} {d : Dev} {l : List Rec}
theorem wsync_ev (h : DevP n d) (L : Nat) (t : ByteArray) (hL : L < n) (ht : t.size ≤ 64) (st : Int) : ∃ D1 D2 : Dev, Ev (fun k => spec_l5W_store.f k d.1 d.2 (-1) st false ((64 * L : Nat) : Int) t) (D1.1, D1.2, -1, wrap64 (st + 1), false) ∧ Ev (fun k => spec_l5W_flush.f k D1.1 D1.2 (-1) (wrap64 (st + 1)) false (L : Int)) (D2.1, D2.2, -1, wrap64 (wrap64 (st + 1) + 1), false) ∧ Ev (fun k => spec_l5W_fence.f k D2.1 D2.2 (-1) (wrap64 (wrap64 (st + 1) + 1)) false) ((syncR d L t).1, (syncR d L t).2, -1, wrap64 (wrap64 (wrap64 (st + 1) + 1) + 1), false) := by
  have s1 := storeR_ok h L 0 t hL (by omega)
  exact ⟨storeR d L 0 t, flushR (storeR d L 0 t) (L : Int), wstore_ev h L 0 t hL (by omega) (by omega) st, wflush_ev s1 _ _, wfence_ev (flushR_ok s1 _) _⟩
theorem spec_note_ev (hd : DevP n d) (hlog : logR c (seenB d) = some l) (hl : c.2.2.2.length ≤ 1048576) (ht : ∀ x ∈ c.2.2.2, x.size ≤ 1048576) {h : Int} (hb : canB c h = true) : ∃ st', Ev (fun k => spec_l5W_note.f k d.1 d.2 (-1) 0 false c.1 c.2.1 c.2.2.1 c.2.2.2 h) ((noteR c d l (epochR c (seenB d)) h).1.1, (noteR c d l (epochR c (seenB d)) h).1.2, -1, st', false, (noteR c d l (epochR c (seenB d)) h).2) := by
  obtain ⟨hc, hn, hn2, hr, hlen⟩ := rolled_facts hd hlog
  have hf := configOk_facts hc
  have hrg := can_range hc hb
  have hsz := seen_size hd
  have hlo := spec_LogOf_ev c (seenB d) hl ht
  rw [hlog] at hlo
  have hp := spec_l5Place_ev l h (by omega)
  have hq := placeF_has h l 0
  have hep := spec_EpochOf_ev c (seenB d) hl ht
  have hle := logF_le hd hlog
  have hN : 4 + l.length ≤ 1000 := by omega
  have hlt : (l.length : Int) < c.2.1 → 4 + l.length < n := by omega
  generalize epochR c (seenB d) = E at *
  generalize placeF h 0 l = P at *
  unfold spec_l5W_note.f noteR
  by_cases c1 : P ≥ 0
  · rw [decide_eq_true c1] at hq
    rw [if_pos hq.symm]
    exact ⟨0, Ev.bind (spec_l2Seen_ev hd) (Ev.bind hlo (Ev.bind hep (Ev.bind hp (Ev.pos c1 (Ev.eq rfl)))))⟩
  rw [decide_eq_false c1] at hq
  rw [if_neg (by rw [← hq]; simp)]
  by_cases c2 : (l.length : Int) = c.2.1
  · rw [if_pos c2]
    exact ⟨0, Ev.bind (spec_l2Seen_ev hd) (Ev.bind hlo (Ev.bind hep (Ev.bind hp (Ev.neg c1 (Ev.pos c2 (Ev.eq rfl))))))⟩
  rw [if_neg c2]
  by_cases c3 : E = 1000000000
  · rw [if_pos c3]
    exact ⟨0, Ev.bind (spec_l2Seen_ev hd) (Ev.bind hlo (Ev.bind hep (Ev.bind hp (Ev.neg c1 (Ev.neg c2 (Ev.pos c3 (Ev.eq rfl)))))))⟩
  rw [if_neg c3]
  have hll : (l.length : Int) < c.2.1 := by
    omega
  obtain ⟨D1, D2, w1, w2, w3⟩ := wsync_ev hd (4 + l.length) (recL (newRec d l E h)) (hlt hll) (recL_fits _) 0
  have e1 : wrap64 (32 * h + 32) = 32 * h + 32 := w64 (by omega) (by omega)
  have e2 : wrap64 (32 * h) = 32 * h := w64 (by omega) (by omega)
  have e3 := w4n l.length (by omega)
  have hrl : Ev (fun k => spec_RecordLine.f k E (l.length : Int) h ((seenB d).extract (32 * h).toNat (32 * h + 32).toNat)) (recL (newRec d l E h)) := spec_RecordLine_ev (newRec d l E h)
  generalize recL (newRec d l E h) = T at *
  generalize 4 + l.length = N at *
  have e4 := w64m N hN
  generalize syncR d N T = D3 at *
  refine ⟨wrap64 (wrap64 (wrap64 (0 + 1) + 1) + 1), ?_⟩
  refine Ev.bind (spec_l2Seen_ev hd) (Ev.bind hlo ?_)
  refine Ev.bind hep ?_
  refine Ev.bind hp ?_
  refine Ev.neg c1 ?_
  refine Ev.neg c2 ?_
  refine Ev.neg c3 ?_
  simp only [outL, e1, e2, e3, e4]
  refine Ev.pos (by omega) (Ev.pos (by omega) (Ev.pos (by omega) (Ev.pos (by omega) (Ev.bind hrl (Ev.bind w1 (Ev.bind w2 (Ev.bind w3 (Ev.eq rfl))))))))
end
/-! ### Logging -/
def formB (c : Cfg) (at_ : Int) (t : ByteArray) : Bool := (decide (0 ≤ at_) && (decide (1 ≤ t.size) && decide (t.size ≤ 32))) && (decide (at_ % 32 + (t.size : Int) ≤ 32) && canB c (at_ / 32))
def storeAt (d : Dev) (at_ : Int) (t : ByteArray) : Dev := storeR d (at_ / 64).toNat (at_ % 64).toNat t
def loggedR (c : Cfg) (d : Dev) (l : List Rec) (at_ : Int) (t : ByteArray) : Dev × Int :=
  if formB c at_ t = true then (if (noteR c d l (epochR c (seenB d)) (at_ / 32)).2 = 0 then (storeAt (noteR c d l (epochR c (seenB d)) (at_ / 32)).1 at_ t, 0) else (((⟨#[]⟩ : ByteArray), []), (noteR c d l (epochR c (seenB d)) (at_ / 32)).2)) else (((⟨#[]⟩ : ByteArray), []), 2)
def loggedO (c : Cfg) (d : Dev) (at_ : Int) (t : ByteArray) : Dev × Int := if devB d = true then (match logR c (seenB d) with
  | none => (((⟨#[]⟩ : ByteArray), []), 1)
  | some l => loggedR c d l at_ t) else (((⟨#[]⟩ : ByteArray), []), 1)
theorem form_at {c : Cfg} (hc : configOk c = true) {at_ : Int} {t : ByteArray} (h : formB c at_ t = true) : 0 ≤ at_ ∧ 1 ≤ t.size ∧ t.size ≤ 32 ∧ canB c (at_ / 32) = true ∧ at_ = ((64 * (at_ / 64).toNat + (at_ % 64).toNat : Nat) : Int) ∧ (at_ % 64).toNat + t.size ≤ 64 ∧ (at_ % 64).toNat < 64 ∧ ((at_ / 64).toNat : Int) < c.1 ∧ (at_ / 64).toNat = lineI (at_ / 32) := by
  unfold formB at h
  simp only [Bool.and_eq_true, decide_eq_true_eq] at h
  obtain ⟨⟨h1, h2, h3⟩, h4, h5⟩ := h
  have hr := can_range hc h5
  refine ⟨h1, h2, h3, h5, by omega, by omega, by omega, by omega, ?_⟩
  unfold lineI
  omega
theorem noteR_ok {c : Cfg} {n : Nat} {d : Dev} {l : List Rec} (hd : DevP n d) (hlog : logR c (seenB d) = some l) (h : Int) : DevP n (noteR c d l (epochR c (seenB d)) h).1 := by
  obtain ⟨hc, hn, hn2, hr, hlen⟩ := rolled_facts hd hlog
  have hf := configOk_facts hc
  have := logF_le hd hlog
  unfold noteR
  split
  · exact hd
  · split
    · exact hd
    · split
      · exact hd
      · exact sync_ok hd _ _ (by omega) (recL_fits _)
theorem spec_Logged_ev (c : Cfg) (d : Dev) (at_ : Int) (t : ByteArray) (ha : -9223372036854775808 ≤ at_) (ha2 : at_ ≤ 9223372036854775807) (hts : t.size ≤ 1048576) (hl : c.2.2.2.length ≤ 1048576) (ht : ∀ x ∈ c.2.2.2, x.size ≤ 1048576) (h : d.1.size ≤ 1099511627776) (hdl : d.2.length ≤ 1048576) : Ev (fun k => spec_Logged.f k c.1 c.2.1 c.2.2.1 c.2.2.2 d.1 d.2 at_ t) ((loggedO c d at_ t).1.1, (loggedO c d at_ t).1.2, (loggedO c d at_ t).2) := by
  have hb := spec_l5Bad_ev c d hl ht h hdl
  unfold spec_Logged.f loggedO
  refine Ev.bind hb ?_
  unfold seenR
  by_cases h0 : devB d = true
  · obtain ⟨n, hd⟩ := (devB_iff d).1 h0
    rw [if_pos h0, if_pos h0]
    cases hlog : logR c (seenB d) with
    | none => exact Ev.pos rfl (Ev.eq rfl)
    | some l =>
      obtain ⟨hc, hn, hn2, hr, hlen⟩ := rolled_facts hd hlog
      have hf := configOk_facts hc
      refine Ev.neg (by simp [outL]) ?_
      show Ev _ ((loggedR c d l at_ t).1.1, (loggedR c d l at_ t).1.2, (loggedR c d l at_ t).2)
      have bad : formB c at_ t = false → Ev (fun k => spec_Logged.p15 k at_ t c.1 c.2.1 c.2.2.1 c.2.2.2 d.1 d.2 (⟨#[]⟩ : ByteArray) true) ((loggedR c d l at_ t).1.1, (loggedR c d l at_ t).1.2, (loggedR c d l at_ t).2) := by
        intro hf
        unfold loggedR
        rw [if_neg (by rw [hf]; simp)]
        refine Ev.step (fun k => by rw [spec_Logged.p15]) ?_
        exact Ev.pos rfl (Ev.eq rfl)
      by_cases c1 : at_ < 0
      · exact Ev.pos c1 (bad (by unfold formB; rw [decide_eq_false (show ¬ 0 ≤ at_ by omega)]; simp))
      refine Ev.neg c1 (Ev.bindo (l1In_f _ _ _) ?_)
      by_cases c2 : (decide ((1 : Int) ≤ (t.size : Int)) && decide ((t.size : Int) ≤ 32)) = true
      · have c2' := c2
        simp only [Bool.and_eq_true, decide_eq_true_eq] at c2'
        refine Ev.pos c2 ?_
        rw [Int.tmod_eq_emod_of_nonneg (by omega), w64 (x := at_ % 32 + (t.size : Int)) (by omega) (by omega), Int.tdiv_eq_ediv_of_nonneg (by omega), w64 (x := at_ / 32) (by omega) (by omega)]
        by_cases c3 : at_ % 32 + (t.size : Int) > 32
        · exact Ev.pos c3 (bad (by unfold formB; rw [decide_eq_false (show ¬ at_ % 32 + (t.size : Int) ≤ 32 by omega)]; simp))
        refine Ev.neg c3 (Ev.bindo (spec_l5Half_f c hc (at_ / 32)) ?_)
        by_cases c4 : canB c (at_ / 32) = true
        · have hform : formB c at_ t = true := by
            unfold formB
            rw [c4, decide_eq_true (show 0 ≤ at_ by omega), decide_eq_true (show 1 ≤ t.size by omega), decide_eq_true (show t.size ≤ 32 by omega), decide_eq_true (show at_ % 32 + (t.size : Int) ≤ 32 by omega)]
            rfl
          rw [c4]
          have hcp : spec_l2Copy.f d.1 d.2 = some (d.1, d.2) := by
            unfold spec_l2Copy.f
            rw [if_pos (by omega)]
            rfl
          obtain ⟨st', en⟩ := spec_note_ev hd hlog hl ht c4
          have hno := noteR_ok hd hlog (at_ / 32)
          obtain ⟨a1, a2, a3, a4, a5, a6, a7, a8, a9⟩ := form_at hc hform
          refine Ev.step (fun k => by rw [spec_Logged.p15]) ?_
          rw [Int.tdiv_eq_ediv_of_nonneg (by omega), w64 (x := at_ / 32) (by omega) (by omega)]
          refine Ev.neg (by simp) (Ev.bindo hcp (Ev.bind en ?_))
          unfold loggedR
          rw [if_pos hform]
          generalize noteR c d l (epochR c (seenB d)) (at_ / 32) = R at *
          by_cases c5 : R.2 = 0
          · rw [if_pos c5]
            have hst := wstore_ev hno (at_ / 64).toNat (at_ % 64).toNat t (by omega) a6 a7 st'
            rw [← a5] at hst
            exact Ev.pos c5 (Ev.bind hst (Ev.eq rfl))
          · rw [if_neg c5]
            exact Ev.neg c5 (Ev.eq rfl)
        · rw [Bool.eq_false_iff.2 c4]
          exact bad (by unfold formB; rw [Bool.eq_false_iff.2 c4]; simp)
      · refine Ev.neg c2 (bad ?_)
        have c2' : ¬ (1 ≤ t.size ∧ t.size ≤ 32) := by
          intro q
          apply c2
          simp only [Bool.and_eq_true, decide_eq_true_eq]
          omega
        unfold formB
        rw [show (decide (1 ≤ t.size) && decide (t.size ≤ 32)) = false from by
          rw [Bool.eq_false_iff]
          intro q
          simp only [Bool.and_eq_true, decide_eq_true_eq] at q
          exact c2' q]
        simp
  · rw [if_neg h0, if_neg h0, logR_empty]
    exact Ev.pos rfl (Ev.eq rfl)
end Go.Proofs.YtmciidoohbmipaaGreatDoor.Abs.Pu
namespace Go.Proofs.YtmciidoohbmipaaGreatDoor.Abs.Pu
open Go Go.RowKit
set_option linter.unusedVariables false
set_option linter.unusedSectionVars false
set_option linter.unusedSimpArgs false
section
variable {c : Cfg} {n : Nat} {d : Dev} {l : List Rec}
theorem epoch_of_log (hlog : logR c (seenB d) = some l) (h0 : l.length ≠ 0) : epochR c (seenB d) < 1000000000 := by
  obtain ⟨h1, h2, h3⟩ := logR_some hlog
  cases l with
  | nil => exact absurd rfl h0
  | cons r l =>
    have a := logF_epoch _ 0 [] (fun x hx => by cases hx) h3 r List.mem_cons_self
    have b := recOk_facts ((logR_all hlog).2.1 r List.mem_cons_self).1
    omega
theorem nextR_sync (d1 : Dev) {e : Int} (h0 : 0 ≤ e) (h1 : e < 1000000000) : nextR d1 e = syncR d1 1 (epochL (e + 1)) := by
  unfold nextR syncR
  rw [w64 (x := e + 1) (by omega) (by omega)]
  rfl
theorem next_good (g : Good c n d) {d1 : Dev} (h1 : DevP n d1) (hs : ∀ L, isLog c L → lineB (seenB d1) L = lineB (seenB d) L) (hc1 : ∀ x ∈ d1.2, ∀ L : Nat, x.1 = (L : Int) → ¬ isLog c L) (hlog : logR c (seenB d) = some l) (h0 : l.length ≠ 0) : Good c n (nextR d1 (epochR c (seenB d))) := by
  have hf := configOk_facts g.cfg
  have hnn := g.nn
  have hz : (seenB d1).size = (seenB d).size := by rw [seen_size h1, seen_size g.ok]
  have e1 : epochR c (seenB d1) = epochR c (seenB d) := epochR_congr hz (hs 1 (.inl rfl))
  have l1 : logR c (seenB d1) = some l := by rw [logR_congr hz hs]; exact hlog
  have hlt := epoch_of_log hlog h0
  have h00 := (logR_some hlog).2.1
  obtain ⟨a1, a2, a3⟩ := next_log h1 g.cfg g.nn l1 (by omega)
  rw [e1] at a3
  refine ⟨nextR_ok h1 (by omega) _, g.cfg, g.nn, ⟨[], by rw [nextR_sync d1 h00 hlt]; exact a3⟩, ?_⟩
  rw [nextR_sync d1 h00 hlt]
  exact sync_clean hc1 _ _
theorem seen_flushLs : ∀ (ls : List Int) {d : Dev}, DevP n d → seenB (flushLs ls d) = seenB d
  | [], _, _ => rfl
  | L :: ls, d, h => (seen_flushLs ls (flushR_ok h L)).trans (seen_flush h L)
theorem flushLs_good : ∀ (ls : List Int) {d : Dev}, Good c n d → Good c n (flushLs ls d)
  | [], _, g => g
  | L :: ls, _, g => flushLs_good ls (g.flush L)
theorem end_good (g : Good c n d) {d0 : Dev} (g0 : Good c n d0) (hs : ∀ L, isLog c L → lineB (seenB d0) L = lineB (seenB d) L) (ls : List Int) (hlog : logR c (seenB d) = some l) (h0 : l.length ≠ 0) : Good c n (endR ls d0 (epochR c (seenB d))) := by
  have g1 := (flushLs_good ls g0)
  have g2 := g1.fence
  unfold endR
  exact next_good g g2.ok (fun L hL => by rw [seen_fence g1.ok, seen_flushLs ls g0.ok, hs L hL]) g2.clean hlog h0
theorem ended_good (g : Good c n d) (hlog : logR c (seenB d) = some l) : Good c n (endedR c d l) := by
  unfold endedR
  by_cases h0 : l.length = 0
  · rw [if_pos h0]; exact g
  · rw [if_neg h0]; exact end_good g g (fun _ _ => rfl) _ hlog h0
theorem half_data (hc : configOk c = true) {h : Int} (hb : canB c h = true) : ¬ isLog c (lineI h) := by
  have hf := configOk_facts hc
  unfold canB at hb
  simp only [Bool.or_eq_true, Bool.and_eq_true, decide_eq_true_eq] at hb
  unfold isLog lineI
  omega
theorem backs_keep (hn : (n : Int) = c.1) : ∀ (l : List Rec), (∀ r ∈ l, recOk r = true ∧ canB c r.2.2.1 = true) → ∀ d : Dev, Good c n d → Good c n (backsR l d) ∧ ∀ L, isLog c L → lineB (seenB (backsR l d)) L = lineB (seenB d) L
  | [], _, d, g => ⟨g, fun _ _ => rfl⟩
  | r :: l, hr, d, g => by
    obtain ⟨g1, s1⟩ := backs_keep hn l (fun x hx => hr x (List.mem_cons_of_mem _ hx)) d g
    have hr0 := hr r List.mem_cons_self
    obtain ⟨a1, a2, a3, a4, a5⟩ := half_at g.cfg hr0.2
    have hz := (recOk_facts hr0.1).2.2.2.2.2.2
    have hd := half_data g.cfg hr0.2
    show Good c n (backR (backsR l d) r) ∧ ∀ L, isLog c L → lineB (seenB (backR (backsR l d) r)) L = _
    unfold backR
    refine ⟨g1.store _ _ _ (by omega) (by omega) hd, fun L hL => ?_⟩
    rw [seen_store g1.ok _ _ _ (by omega) (by omega) L (isLog_lt g.cfg g.nn hL), if_neg (fun e : L = lineI r.2.2.1 => hd (e ▸ hL))]
    exact s1 L hL
theorem rolled_good (g : Good c n d) (hlog : logR c (seenB d) = some l) : Good c n (rollR c d l) := by
  obtain ⟨hc, hn, hn2, hr, hlen⟩ := rolled_facts g.ok hlog
  unfold rollR
  by_cases h0 : l.length = 0
  · rw [if_pos h0]; exact g
  · rw [if_neg h0]
    obtain ⟨g1, s1⟩ := backs_keep hn l hr d g
    exact end_good g g1 s1 _ hlog h0
theorem newRec_ok (hd : DevP n d) (hlog : logR c (seenB d) = some l) {h : Int} (hb : canB c h = true) (hll : (l.length : Int) ≠ c.2.1) (he : epochR c (seenB d) ≠ 1000000000) : recOk (newRec d l (epochR c (seenB d)) h) = true := by
  obtain ⟨hc, hn, hn2, hr, hlen⟩ := rolled_facts hd hlog
  have hf := configOk_facts hc
  have hrg := can_range hc hb
  have hle := logF_le hd hlog
  have h00 := (logR_some hlog).2.1
  have hsz := seen_size hd
  have hep := (epochR_le h00 (lineB_size (by omega))).1
  unfold recOk newRec oldH
  simp only [Bool.and_eq_true, decide_eq_true_eq]
  rw [ByteArray.size_extract]
  omega
theorem note_good (g : Good c n d) (hlog : logR c (seenB d) = some l) {h : Int} (hb : canB c h = true) : Good c n (noteR c d l (epochR c (seenB d)) h).1 := by
  obtain ⟨hc, hn, hn2, hr, hlen⟩ := rolled_facts g.ok hlog
  have hf := configOk_facts hc
  have hle := logF_le g.ok hlog
  unfold noteR
  by_cases c1 : hasHalf l h = true
  · rw [if_pos c1]; exact g
  rw [if_neg c1]
  by_cases c2 : (l.length : Int) = c.2.1
  · rw [if_pos c2]; exact g
  rw [if_neg c2]
  by_cases c3 : epochR c (seenB d) = 1000000000
  · rw [if_pos c3]; exact g
  rw [if_neg c3]
  have hok := newRec_ok g.ok hlog hb c2 c3
  have h2 := note_log g.ok hc hn hlog hok rfl rfl (by omega) hb (Bool.eq_false_iff.2 c1)
  exact ⟨sync_ok g.ok _ _ (by omega) (recL_fits _), hc, hn, ⟨_, h2.2⟩, sync_clean g.clean _ _⟩
theorem logged_good (g : Good c n d) (hlog : logR c (seenB d) = some l) (at_ : Int) (t : ByteArray) (h0 : (loggedR c d l at_ t).2 = 0) : Good c n (loggedR c d l at_ t).1 := by
  unfold loggedR at h0 ⊢
  by_cases hform : formB c at_ t = true
  · rw [if_pos hform] at h0 ⊢
    obtain ⟨a1, a2, a3, a4, a5, a6, a7, a8, a9⟩ := form_at g.cfg hform
    have g1 := note_good g hlog a4
    by_cases k : (noteR c d l (epochR c (seenB d)) (at_ / 32)).2 = 0
    · rw [if_pos k]
      have hnn := g.nn
      have hd := half_data g.cfg a4
      rw [← a9] at hd
      exact g1.store _ _ t (by omega) a6 hd
    · rw [if_neg k] at h0
      exact absurd h0 k
  · rw [if_neg hform] at h0
    exact absurd h0 (by decide)
theorem start_good (hc : configOk c = true) (hn : (n : Int) = c.1) {s : ByteArray} (hz : s.size = 64 * n) {e : Int} (he : epochOk e = true) (h1 : lineB s 1 = epochL e) (h2 : ∀ j : Nat, (j : Int) < c.2.1 → lineB s (4 + j) = zerosB 64) : Good c n (s, ([] : List Line)) := by
  have hf := configOk_facts hc
  refine ⟨plain_ok hz (by omega) (by omega), hc, hn, ⟨[], ?_⟩, fun x hx => by cases hx⟩
  have him : isImageB c s = true := by
    unfold isImageB
    rw [hc]
    simp
    omega
  have hep := epochR_is him h1 he
  have he2 := he
  unfold epochOk at he2
  simp only [Bool.and_eq_true, decide_eq_true_eq] at he2
  rw [seen_plain]
  unfold logR
  rw [hep, if_neg (by omega)]
  exact logF_none _ 0 [] fun j _ hj => by rw [h2 j (by omega)]; exact rec_zeros
end
end Go.Proofs.YtmciidoohbmipaaGreatDoor.Abs.Pu
namespace Go.Proofs.YtmciidoohbmipaaGreatDoor.Abs
open Go Go.RowKit
set_option linter.unusedVariables false
set_option linter.unusedSectionVars false
set_option linter.unusedSimpArgs false

/-- A code and a place in it. -/
structure Rd (l : List Int) (p : Int) : Prop where
  bytes : isBytes l
  len : l.length ≤ 1099511627776
  lo : 0 ≤ p
  hi : p ≤ l.length
theorem Rd.start {l : List Int} (hb : isBytes l) (hl : l.length ≤ 1099511627776) : Rd l 0 := ⟨hb, hl, by omega, by omega⟩
theorem next_f {l : List Int} {p : Int} (h : Rd l p) : ∃ b q, spec_l1Rd_next.f l p = some (l, q, b) ∧ 0 ≤ b ∧ b ≤ 255 ∧ Rd l q := by
  obtain ⟨hb, hl, h0, h1⟩ := h
  unfold spec_l1Rd_next.f
  by_cases c : p ≥ (l.length : Int)
  · exact ⟨0, p, by rw [if_pos c], by omega, by omega, hb, hl, h0, h1⟩
  · have hg := isBytes_getD hb p.toNat
    have e : rd l p = l.getD p.toNat 0 := rfl
    rw [if_neg c, w64 (x := p + 1) (by omega) (by omega), w64 (x := p + 1 - 1) (by omega) (by omega), show p + 1 - 1 = p from by omega, if_pos h0, if_pos (by omega), w64 (x := rd l p) (by omega) (by omega)]
    exact ⟨_, _, rfl, by omega, by omega, hb, hl, by omega, by omega⟩
theorem tmod_range {x n : Int} (hx : 0 ≤ x) (hn : 0 < n) : 0 ≤ Int.tmod x n ∧ Int.tmod x n < n := by
  rw [Int.tmod_eq_emod_of_nonneg hx]
  exact ⟨Int.emod_nonneg _ (by omega), Int.emod_lt_of_pos _ hn⟩
/-- below n: one of 0 .. n - 1. -/
theorem below_f {l : List Int} {p : Int} (h : Rd l p) (n : Int) (hn : 1 ≤ n) (hn2 : n ≤ 65536) : ∃ v q, spec_l1Rd_below.f l p n = some (l, q, v) ∧ 0 ≤ v ∧ v < n ∧ Rd l q := by
  unfold spec_l1Rd_below.f
  by_cases c : n ≤ 1
  · exact ⟨0, p, by rw [if_pos c], by omega, by omega, h⟩
  · rw [if_neg c]
    by_cases c2 : n ≤ 256
    · obtain ⟨b, q, e, h0, h1, hq⟩ := next_f h
      have hm := tmod_range h0 (show 0 < n by omega)
      rw [if_pos c2, e, Option.bind_some, if_neg (by omega)]
      exact ⟨_, _, rfl, hm.1, hm.2, hq⟩
    · obtain ⟨b, q, e, h0, h1, hq⟩ := next_f h
      obtain ⟨b2, q2, e2, h2, h3, hq2⟩ := next_f hq
      have hm := tmod_range (show 0 ≤ b * 256 + b2 by omega) (show 0 < n by omega)
      rw [if_neg c2, e, Option.bind_some]
      simp only []
      rw [e2, Option.bind_some, if_neg (by omega)]
      simp only []
      rw [w64 (x := b * 256) (by omega) (by omega), w64 (x := b * 256 + b2) (by omega) (by omega)]
      exact ⟨_, _, rfl, hm.1, hm.2, hq2⟩
theorem once_f {l : List Int} {p : Int} (h : Rd l p) (n : Int) (hn : 1 ≤ n) (hn2 : n ≤ 65536) : ∃ v q, spec_l1Rd_once.f l p n = some (l, q, v) ∧ Rd l q := by
  obtain ⟨v, q, e, _, _, hq⟩ := below_f h n hn hn2
  unfold spec_l1Rd_once.f
  rw [e, Option.bind_some]
  exact ⟨_, _, rfl, hq⟩
/-- word: a number of 64 bits. -/
theorem word_ev {l : List Int} {p : Int} (h : Rd l p) : ∃ v q, Ev (fun k => spec_l1Rd_word.f k l p) (l, q, v) ∧ 0 ≤ v ∧ v < 18446744073709551616 ∧ Rd l q := by
  have lp : ∀ (d i : Nat) (f : Nat → Int) (p : Int), 8 - i = d → i ≤ 8 → (∀ j, 0 ≤ f j ∧ f j ≤ 255) → Rd l p → ∃ v q, Ev (fun k => spec_l1Rd_word.p8 k l p (be f i) (i : Int)) (l, q, v) ∧ 0 ≤ v ∧ v < 18446744073709551616 ∧ Rd l q := by
    intro d
    induction d with
    | zero =>
      intro i f p hd hi hf hp
      obtain rfl : i = 8 := by omega
      have hr := be_range f hf 8
      have e8 : (256 : Int) ^ 8 = 18446744073709551616 := by decide
      exact ⟨_, _, Ev.step (fun k => by rw [spec_l1Rd_word.p8]) (Ev.neg (by omega) (Ev.eq rfl)), hr.1, by omega, hp⟩
    | succ d ih =>
      intro i f p hd hi hf hp
      obtain ⟨b, q, e, h0, h1, hq⟩ := next_f hp
      obtain ⟨v, q2, he, hv⟩ := ih (i + 1) (fun j => if j = i then b else f j) q (by omega) (by omega) (fun j => by
        by_cases c : j = i
        · simp only [if_pos c]; exact ⟨h0, h1⟩
        · simp only [if_neg c]; exact hf j) hq
      refine ⟨v, q2, Ev.step (fun k => by rw [spec_l1Rd_word.p8]) (Ev.pos (by omega) (Ev.bindo e ?_)), hv⟩
      have hb := be_step_u64 (fun j => if j = i then b else f j) (fun j => by
        by_cases c : j = i
        · simp only [if_pos c]; exact ⟨h0, h1⟩
        · simp only [if_neg c]; exact hf j) i (by omega)
      rw [be_congr (f := fun j => if j = i then b else f j) (g := f) i (fun j hj => if_neg (by omega))] at hb
      simp only [if_true] at hb
      simp only []
      rw [shl8_u64, orA_eq, hb, show wrap64 ((i : Int) + 1) = ((i + 1 : Nat) : Int) from by rw [w64 (by omega) (by omega)]; omega]
      exact he
  unfold spec_l1Rd_word.f
  exact lp 8 0 (fun _ => 0) p rfl (by omega) (fun _ => by omega) h
theorem u64_id {x : Int} (h0 : 0 ≤ x) (h1 : x < 18446744073709551616) : IntKind.u64.wrap x = x := by
  simp [IntKind.wrap, IntKind.bits, IntKind.signed]
  omega
/-- near lo hi: one of lo .. hi, or an end of it. -/
theorem near_ev {l : List Int} {p : Int} (h : Rd l p) (lo hi : Int) (h0 : -2305843009213693952 ≤ lo) (h1 : lo ≤ 2305843009213693952) (h2 : -2305843009213693952 ≤ hi) (h3 : hi ≤ 2305843009213693952) :
    ∃ v q, Ev (fun k => spec_l1Rd_near.f k l p lo hi) (l, q, v) ∧ (lo ≤ hi → lo ≤ v ∧ v ≤ hi) ∧ (v = hi ∨ lo ≤ v) ∧ -2305843009213693952 ≤ v ∧ v ≤ 2305843009213693952 ∧ Rd l q := by
  obtain ⟨v, q, e, hv0, hv1, hq⟩ := below_f h 8 (by omega) (by omega)
  unfold spec_l1Rd_near.f
  by_cases c0 : v = 0
  · exact ⟨_, _, Ev.bindo e (Ev.pos c0 (Ev.eq rfl)), fun _ => by omega, by omega, by omega, by omega, hq⟩
  · by_cases c1 : v = 1
    · exact ⟨_, _, Ev.bindo e (Ev.neg c0 (Ev.pos c1 (Ev.eq rfl))), fun _ => by omega, by omega, by omega, by omega, hq⟩
    · by_cases c2 : hi < lo
      · exact ⟨_, _, Ev.bindo e (Ev.neg c0 (Ev.neg c1 (Ev.pos c2 (Ev.eq rfl)))), fun _ => by omega, by omega, by omega, by omega, hq⟩
      · obtain ⟨w, q2, ew, hw0, hw1, hq2⟩ := word_ev hq
        have hm := tmod_range (show 0 ≤ w / 2 by omega) (show 0 < hi - lo + 1 by omega)
        refine ⟨lo + Int.tmod (w / 2) (hi - lo + 1), q2, Ev.bindo e (Ev.neg c0 (Ev.neg c1 (Ev.neg c2 (Ev.bind ew ?_)))), fun _ => by omega, by omega, by omega, by omega, hq2⟩
        rw [w64 (x := hi - lo) (by omega) (by omega), w64 (x := hi - lo + 1) (by omega) (by omega), u64_id (x := hi - lo + 1) (by omega) (by omega)]
        refine Ev.neg (by omega) ?_
        simp only []
        rw [shr1_u64, w64 (x := Int.tmod (w / 2) (hi - lo + 1)) (by omega) (by omega), w64 (x := lo + Int.tmod (w / 2) (hi - lo + 1)) (by omega) (by omega)]
        exact Ev.eq rfl
/-- off lo hi: as near, now and then just outside, or an end of int64. -/
theorem off_ev {l : List Int} {p : Int} (h : Rd l p) (lo hi : Int) (h0 : -1099511627776 ≤ lo) (h1 : lo ≤ 1099511627776) (h2 : -1099511627776 ≤ hi) (h3 : hi ≤ 1099511627776) :
    ∃ v q, Ev (fun k => spec_l1Rd_off.f k l p lo hi) (l, q, v) ∧ -9223372036854775808 ≤ v ∧ v ≤ 9223372036854775807 ∧ Rd l q := by
  obtain ⟨o, q, e, hq⟩ := once_f h 24 (by omega) (by omega)
  unfold spec_l1Rd_off.f
  by_cases c : o = true
  · obtain ⟨v, q2, e2, hv0, hv1, hq2⟩ := below_f hq 4 (by omega) (by omega)
    refine ⟨rd [wrap64 (lo - 1), wrap64 (hi + 1), (-9223372036854775808), 9223372036854775807] v, q2, Ev.bindo e (Ev.pos c (Ev.bindo e2 (Ev.pos (by simp only []; omega) (Ev.pos (by simp only [List.length_cons, List.length_nil]; omega) (Ev.eq rfl))))), ?_, ?_, hq2⟩
    all_goals
      obtain rfl | rfl | rfl | rfl : v = 0 ∨ v = 1 ∨ v = 2 ∨ v = 3 := by omega
      · have := wrap64_range (lo - 1); simp [rd]; omega
      · have := wrap64_range (hi + 1); simp [rd]; omega
      · simp [rd]
      · simp [rd]
  · obtain ⟨v, q2, e2, _, _, hv0, hv1, hq2⟩ := near_ev hq lo hi (by omega) (by omega) (by omega) (by omega)
    exact ⟨v, q2, Ev.bindo e (Ev.neg c (Ev.bind e2 (Ev.eq rfl))), by omega, by omega, hq2⟩
end Go.Proofs.YtmciidoohbmipaaGreatDoor.Abs
namespace Go.Proofs.YtmciidoohbmipaaGreatDoor.Abs.Pu
open Go Go.RowKit
set_option linter.unusedVariables false
set_option linter.unusedSectionVars false
set_option linter.unusedSimpArgs false
theorem size_f {l : List Int} {p : Int} (h : Rd l p) (per most : Int) (hp : 1 ≤ per) (hm : 1 ≤ most) (hm2 : most ≤ 60000) : ∃ v q, spec_l1Rd_size.f l p per most = some (l, q, v) ∧ 1 ≤ v ∧ v ≤ most ∧ Rd l q := by
  have hl := h.len
  have h0 : 0 ≤ (l.length : Int) / per := Int.ediv_nonneg (by omega) (by omega)
  have h1 : (l.length : Int) / per ≤ l.length := Int.ediv_le_self _ (by omega)
  unfold spec_l1Rd_size.f
  rw [if_neg (by omega), Int.tdiv_eq_ediv_of_nonneg (by omega), w64 (x := (l.length : Int) / per) (by omega) (by omega), w64 (x := 1 + (l.length : Int) / per) (by omega) (by omega)]
  split
  · obtain ⟨v, q, e, hv0, hv1, hq⟩ := below_f h most hm (by omega)
    refine ⟨_, q, by rw [e]; rfl, ?_, ?_, hq⟩
    all_goals simp only []; rw [w64 (x := 1 + v) (by omega) (by omega)]; omega
  · obtain ⟨v, q, e, hv0, hv1, hq⟩ := below_f h (1 + (l.length : Int) / per) (by omega) (by omega)
    refine ⟨_, q, by rw [e]; rfl, ?_, ?_, hq⟩
    all_goals simp only []; rw [w64 (x := 1 + v) (by omega) (by omega)]; omega
end Go.Proofs.YtmciidoohbmipaaGreatDoor.Abs.Pu
namespace Go.Proofs.YtmciidoohbmipaaGreatDoor.Abs.Pu
open Go Go.RowKit
set_option linter.unusedVariables false
set_option linter.unusedSectionVars false
set_option linter.unusedSimpArgs false
theorem one4 (a b c d : UInt8) {v : Int} (h0 : 0 ≤ v) (h1 : v < 4) : (rdOf ByteArray.empty [(⟨#[a]⟩ : ByteArray), (⟨#[b]⟩ : ByteArray), (⟨#[c]⟩ : ByteArray), (⟨#[d]⟩ : ByteArray)] v).size = 1 := by
  obtain rfl | rfl | rfl | rfl : v = 0 ∨ v = 1 ∨ v = 2 ∨ v = 3 := by omega
  all_goals rfl
theorem hurt_f {l : List Int} {p : Int} (h : Rd l p) (s : ByteArray) (hs : s.size ≤ 60000) : ∃ s' q, spec_l1Rd_hurt.f l p s = some (l, q, s') ∧ s'.size ≤ s.size + 1 ∧ Rd l q := by
  obtain ⟨a, q, ea, ha0, ha1, hq⟩ := below_f h 6 (by omega) (by omega)
  unfold spec_l1Rd_hurt.f
  rw [ea, Option.bind_some]
  simp only []
  by_cases c1 : a = 1
  · obtain ⟨b, q2, eb, hb0, hb1, hq2⟩ := below_f hq ((s.size : Int) + 1) (by omega) (by omega)
    rw [if_pos c1, w64 (x := (s.size : Int) + 1) (by omega) (by omega), eb, Option.bind_some]
    simp only []
    rw [if_pos hb0, if_pos (by omega)]
    exact ⟨_, _, rfl, by rw [ByteArray.size_extract]; omega, hq2⟩
  rw [if_neg c1]
  by_cases c2 : a = 2
  · rw [if_pos c2]
    by_cases c3 : (s.size : Int) > 0
    · obtain ⟨b, q2, eb, hb0, hb1, hq2⟩ := below_f hq (s.size : Int) (by omega) (by omega)
      obtain ⟨d, q3, ed, hd0, hd1, hq3⟩ := below_f hq2 4 (by omega) (by omega)
      have ho := one4 0 55 255 32 hd0 hd1
      rw [if_pos c3, eb, Option.bind_some]
      simp only []
      rw [if_pos hb0, if_pos (by omega), ed, Option.bind_some]
      simp only []
      rw [if_pos hd0, if_pos hd1, w64 (x := b + 1) (by omega) (by omega), if_pos (by rw [ByteArray.size_extract, ho]; omega), if_pos (by omega), if_pos (by omega), if_pos (by rw [ByteArray.size_append, ByteArray.size_extract, ByteArray.size_extract, ho]; omega)]
      exact ⟨_, _, rfl, by rw [ByteArray.size_append, ByteArray.size_append, ByteArray.size_extract, ByteArray.size_extract, ho]; omega, hq3⟩
    · rw [if_neg c3]
      exact ⟨_, _, rfl, by omega, hq⟩
  rw [if_neg c2]
  by_cases c3 : a = 3
  · obtain ⟨d, q3, ed, hd0, hd1, hq3⟩ := below_f hq 4 (by omega) (by omega)
    have ho := one4 0 49 10 32 hd0 hd1
    rw [if_pos c3, ed, Option.bind_some]
    simp only []
    rw [if_pos hd0, if_pos hd1, if_pos (by rw [ho]; omega)]
    exact ⟨_, _, rfl, by rw [ByteArray.size_append, ho]; omega, hq3⟩
  · rw [if_neg c3]
    exact ⟨_, _, rfl, by omega, hq⟩
end Go.Proofs.YtmciidoohbmipaaGreatDoor.Abs.Pu
namespace Go.Proofs.YtmciidoohbmipaaGreatDoor.Abs.Pu
open Go Go.RowKit
set_option linter.unusedVariables false
set_option linter.unusedSectionVars false
set_option linter.unusedSimpArgs false
theorem bytes_ev {l : List Int} {p : Int} (h : Rd l p) (most : Nat) (hm : most ≤ 60000) : ∃ t q, Ev (fun k => spec_l1Rd_bytes.f k l p (most : Int)) (l, q, t) ∧ t.size ≤ most ∧ Rd l q := by
  obtain ⟨v, q, e, h0, h1, hq⟩ := below_f h ((most : Int) + 1) (by omega) (by omega)
  have lp : ∀ (d : Nat) (out : List Int) (q : Int), Rd l q → out.length + d ≤ most → ∃ t q2, Ev (fun k => spec_l1Rd_bytes.p8 k l q out (d : Int)) (l, q2, t) ∧ t.size ≤ most ∧ Rd l q2 := by
    intro d
    induction d with
    | zero =>
      intro out q hq ho
      refine ⟨strOf out, q, ?_, by rw [strOf_eq, strOfNums_size]; omega, hq⟩
      refine Ev.step (fun k => by rw [spec_l1Rd_bytes.p8]) ?_
      exact Ev.neg (by omega) (Ev.eq rfl)
    | succ d ih =>
      intro out q hq ho
      obtain ⟨b, q1, e1, _, _, hq1⟩ := below_f hq 256 (by omega) (by omega)
      obtain ⟨t, q2, e2, ht, hq2⟩ := ih (out ++ [b % 256]) q1 hq1 (by simp; omega)
      refine ⟨t, q2, ?_, ht, hq2⟩
      refine Ev.step (fun k => by rw [spec_l1Rd_bytes.p8]) ?_
      rw [show wrap64 (((d + 1 : Nat) : Int) - 1) = (d : Int) from by rw [w64 (by omega) (by omega)]; omega]
      exact Ev.pos (by omega) (Ev.bindo e1 (Ev.pos (by omega) e2))
  obtain ⟨t, q2, e2, ht, hq2⟩ := lp v.toNat [] q hq (by simp; omega)
  refine ⟨t, q2, ?_, ht, hq2⟩
  unfold spec_l1Rd_bytes.f
  rw [w64 (x := (most : Int) + 1) (by omega) (by omega)]
  rw [Int.toNat_of_nonneg h0] at e2
  exact Ev.bindo e e2
theorem four_size {v : Int} (h0 : 0 ≤ v) (h1 : v < 4) : (rdOf ByteArray.empty ([(⟨#[97]⟩ : ByteArray), (⟨#[98, 99]⟩ : ByteArray), (⟨#[0]⟩ : ByteArray), (⟨#[120, 121, 122]⟩ : ByteArray)] : List ByteArray) v).size ≤ 3 := by
  obtain rfl | rfl | rfl | rfl : v = 0 ∨ v = 1 ∨ v = 2 ∨ v = 3 := by omega
  all_goals decide
theorem zerosB_sz (n : Nat) : (zerosB n).size = n := zerosB_size n
theorem keep_ev {l : List Int} {p : Int} (h : Rd l p) (n : Nat) (hn : n ≤ 60000) : ∃ (ks : List Int) (q : Int), Ev (fun k => spec_l1Rd_keep.f k l p (n : Int)) (l, q, ks) ∧ ks.length ≤ n + 1 ∧ Rd l q := by
  have lp : ∀ (d i : Nat) (out : List Int) (q : Int), i + d = n → out.length = i → Rd l q → ∃ (ks : List Int) (q2 : Int), Ev (fun k => spec_l1Rd_keep.p8 k l q (n : Int) out (i : Int)) (l, q2, ks) ∧ ks.length ≤ n + 1 ∧ Rd l q2 := by
    intro d
    induction d with
    | zero =>
      intro i out q hi ho hq
      obtain ⟨b, q1, eb, hb0, hb1, hq1⟩ := below_f hq 12 (by omega) (by omega)
      by_cases c0 : b = 0
      · obtain ⟨v, q2, e2, _, _, hq2⟩ := below_f hq1 3 (by omega) (by omega)
        refine ⟨out ++ [v], q2, ?_, by simp; omega, hq2⟩
        refine Ev.step (fun k => by rw [spec_l1Rd_keep.p8]) ?_
        exact Ev.neg (by omega) (Ev.bindo eb (Ev.pos c0 (Ev.bindo e2 (Ev.pos (by omega) (Ev.eq rfl)))))
      by_cases c1 : b = 1
      · refine ⟨(out.take (wrap64 (Int.tdiv (out.length : Int) 2)).toNat).drop 0, q1, ?_, by simp; omega, hq1⟩
        have hw : wrap64 (Int.tdiv (out.length : Int) 2) = (out.length : Int) / 2 := by rw [Int.tdiv_eq_ediv_of_nonneg (by omega), w64 (by omega) (by omega)]
        refine Ev.step (fun k => by rw [spec_l1Rd_keep.p8]) ?_
        exact Ev.neg (by omega) (Ev.bindo eb (Ev.neg c0 (Ev.pos c1 (Ev.pos (by rw [hw]; omega) (Ev.pos (by rw [hw]; omega) (Ev.eq rfl))))))
      by_cases c2 : b = 2
      · by_cases hl : out.length = 0
        · refine ⟨out, q1, ?_, by omega, hq1⟩
          refine Ev.step (fun k => by rw [spec_l1Rd_keep.p8]) ?_
          exact Ev.neg (by omega) (Ev.bindo eb (Ev.neg c0 (Ev.neg c1 (Ev.pos c2 (Ev.neg (by omega) (Ev.eq rfl))))))
        · obtain ⟨v, q2, e2, hv0, hv1, hq2⟩ := below_f hq1 (out.length : Int) (by omega) (by omega)
          obtain ⟨u, q3, e3, _, _, hq3⟩ := off_ev hq2 0 2 (by omega) (by omega) (by omega) (by omega)
          refine ⟨out.set v.toNat u, q3, ?_, by rw [List.length_set]; omega, hq3⟩
          refine Ev.step (fun k => by rw [spec_l1Rd_keep.p8]) ?_
          exact Ev.neg (by omega) (Ev.bindo eb (Ev.neg c0 (Ev.neg c1 (Ev.pos c2 (Ev.pos (by omega) (Ev.bindo e2 (Ev.bind e3 (Ev.pos hv0 (Ev.pos hv1 (Ev.eq rfl))))))))))
      · refine ⟨out, q1, ?_, by omega, hq1⟩
        refine Ev.step (fun k => by rw [spec_l1Rd_keep.p8]) ?_
        exact Ev.neg (by omega) (Ev.bindo eb (Ev.neg c0 (Ev.neg c1 (Ev.neg c2 (Ev.eq rfl)))))
    | succ d ih =>
      intro i out q hi ho hq
      obtain ⟨v, q1, e1, _, _, hq1⟩ := below_f hq 3 (by omega) (by omega)
      obtain ⟨ks, q2, e2, h1, h2⟩ := ih (i + 1) (out ++ [v]) q1 (by omega) (by simp; omega) hq1
      refine ⟨ks, q2, ?_, h1, h2⟩
      refine Ev.step (fun k => by rw [spec_l1Rd_keep.p8]) ?_
      rw [w64s (i := i) (by omega)]
      exact Ev.pos (by omega) (Ev.bindo e1 (Ev.pos (by omega) e2))
  unfold spec_l1Rd_keep.f
  exact lp n 0 [] p (by omega) rfl h
end Go.Proofs.YtmciidoohbmipaaGreatDoor.Abs.Pu
namespace Go.Proofs.YtmciidoohbmipaaGreatDoor.Abs
open Go Go.RowKit
set_option linter.unusedVariables false
set_option linter.unusedSectionVars false
set_option linter.unusedSimpArgs false
theorem kinds_ev {l : List Int} {p : Int} (h : Rd l p) (most : Int) (h1 : 1 ≤ most) (h2 : most ≤ 100) : ∃ s q, Ev (fun k => spec_l1Rd_kinds.f k l p most) (l, q, s) ∧ (1 ≤ s.size ∧ s.size ≤ 100) ∧ Rd l q := by
  have lp : ∀ (d : Nat) (s : ByteArray) (p : Int), 1 ≤ s.size + d ∧ s.size + d ≤ 100 → Rd l p → ∃ s' q, Ev (fun k => spec_l1Rd_kinds.p8 k l p s (d : Int)) (l, q, s') ∧ (1 ≤ s'.size ∧ s'.size ≤ 100) ∧ Rd l q := by
    intro d
    induction d with
    | zero =>
      intro s p hs hp
      exact ⟨_, _, Ev.step (fun k => by rw [spec_l1Rd_kinds.p8]) (Ev.neg (by omega) (Ev.eq rfl)), by omega, hp⟩
    | succ d ih =>
      intro s p hs hp
      obtain ⟨v, q, e, hv0, hv1, hq⟩ := below_f hp 2 (by omega) (by omega)
      have hz : (rdOf ByteArray.empty [(⟨#[105]⟩ : ByteArray), (⟨#[114]⟩ : ByteArray)] v).size = 1 := by
        obtain rfl | rfl : v = 0 ∨ v = 1 := by omega
        · rfl
        · rfl
      obtain ⟨s', q2, e2, hs', hq2⟩ := ih (s ++ rdOf ByteArray.empty [(⟨#[105]⟩ : ByteArray), (⟨#[114]⟩ : ByteArray)] v) q (by rw [ByteArray.size_append, hz]; omega) hq
      refine ⟨s', q2, ?_, hs', hq2⟩
      refine Ev.step (fun k => by rw [spec_l1Rd_kinds.p8]) ?_
      refine Ev.pos (by omega) (Ev.bindo e ?_)
      rw [show wrap64 (((d + 1 : Nat) : Int) - 1) = (d : Int) from by rw [w64 (by omega) (by omega)]; omega]
      refine Ev.pos hv0 (Ev.pos (by simp only []; omega) ?_)
      exact Ev.pos (by simp only [hz]; omega) e2
  obtain ⟨v, q, e, hv0, hv1, hq⟩ := below_f h most (by omega) (by omega)
  obtain ⟨s, q2, e2, hs, hq2⟩ := lp (1 + v).toNat ⟨#[]⟩ q (by show 1 ≤ 0 + _ ∧ 0 + _ ≤ _; omega) hq
  refine ⟨s, q2, ?_, hs, hq2⟩
  unfold spec_l1Rd_kinds.f
  refine Ev.bindo e ?_
  simp only []
  rw [show wrap64 (1 + v) = ((1 + v).toNat : Int) from by rw [w64 (by omega) (by omega)]; omega]
  exact e2
theorem sizes_snoc {ts : List ByteArray} {s : ByteArray} {n : Nat} (h : ∀ x ∈ ts, 1 ≤ x.size ∧ x.size ≤ n) (hz : 1 ≤ s.size ∧ s.size ≤ n) : ∀ x ∈ ts ++ [s], 1 ≤ x.size ∧ x.size ≤ n := by
  intro x hx
  rcases List.mem_append.1 hx with hx | hx
  · exact h x hx
  · simp only [List.mem_singleton] at hx
    subst hx
    exact hz
theorem drawTypes1_ev {l : List Int} {p : Int} (h : Rd l p) : ∃ ts q, Ev (fun k => spec_l1Rd_types.f k l p) (l, q, ts) ∧ 1 ≤ ts.length ∧ ts.length ≤ 100 ∧ (∀ x ∈ ts, 1 ≤ x.size ∧ x.size ≤ 100) ∧ Rd l q := by
  have lp : ∀ (d : Nat) (ts : List ByteArray) (p : Int), 1 ≤ ts.length → ts.length + d ≤ 100 → (∀ x ∈ ts, 1 ≤ x.size ∧ x.size ≤ 100) → Rd l p → ∃ ts' q, Ev (fun k => spec_l1Rd_types.p8 k l p ts (d : Int)) (l, q, ts') ∧ 1 ≤ ts'.length ∧ ts'.length ≤ 100 ∧ (∀ x ∈ ts', 1 ≤ x.size ∧ x.size ≤ 100) ∧ Rd l q := by
    intro d
    induction d with
    | zero =>
      intro ts p h1 h2 hs hp
      exact ⟨_, _, Ev.step (fun k => by rw [spec_l1Rd_types.p8]) (Ev.neg (by omega) (Ev.eq rfl)), h1, by omega, hs, hp⟩
    | succ d ih =>
      intro ts p h1 h2 hs hp
      obtain ⟨b, q, e, hq⟩ := once_f hp 4 (by omega) (by omega)
      have e1 : wrap64 (((d + 1 : Nat) : Int) - 1) = (d : Int) := by rw [w64 (by omega) (by omega)]; omega
      cases b with
      | true =>
        obtain ⟨s, q2, e2, hz, hq2⟩ := kinds_ev hq 23 (by omega) (by omega)
        obtain ⟨ts', q3, e3, hr⟩ := ih (ts ++ [s]) q2 (by simp) (by simp; omega) (sizes_snoc hs hz) hq2
        refine ⟨ts', q3, ?_, hr⟩
        refine Ev.step (fun k => by rw [spec_l1Rd_types.p8]) ?_
        refine Ev.pos (by omega) (Ev.bindo e ?_)
        refine Ev.pos rfl (Ev.bind e2 ?_)
        refine Ev.pos (by omega) ?_
        rw [e1]
        exact e3
      | false =>
        obtain ⟨s, q2, e2, hz, hq2⟩ := kinds_ev hq 5 (by omega) (by omega)
        obtain ⟨ts', q3, e3, hr⟩ := ih (ts ++ [s]) q2 (by simp) (by simp; omega) (sizes_snoc hs hz) hq2
        refine ⟨ts', q3, ?_, hr⟩
        refine Ev.step (fun k => by rw [spec_l1Rd_types.p8]) ?_
        refine Ev.pos (by omega) (Ev.bindo e ?_)
        refine Ev.neg (by simp) (Ev.bind e2 ?_)
        refine Ev.pos (by omega) ?_
        rw [e1]
        exact e3
  obtain ⟨v, q, e, hv0, hv1, hq⟩ := below_f h 4 (by omega) (by omega)
  obtain ⟨n, q2, e2, hn0, hn1, hq2⟩ := below_f hq 3 (by omega) (by omega)
  have hz : 1 ≤ (rdOf ByteArray.empty [(⟨#[105, 114]⟩ : ByteArray), (⟨#[114, 114, 105]⟩ : ByteArray), (⟨#[114, 105]⟩ : ByteArray), (⟨#[105, 114, 114]⟩ : ByteArray)] v).size ∧ (rdOf ByteArray.empty [(⟨#[105, 114]⟩ : ByteArray), (⟨#[114, 114, 105]⟩ : ByteArray), (⟨#[114, 105]⟩ : ByteArray), (⟨#[105, 114, 114]⟩ : ByteArray)] v).size ≤ 100 := by
    obtain rfl | rfl | rfl | rfl : v = 0 ∨ v = 1 ∨ v = 2 ∨ v = 3 := by omega
    · show 1 ≤ 2 ∧ 2 ≤ 100; omega
    · show 1 ≤ 3 ∧ 3 ≤ 100; omega
    · show 1 ≤ 2 ∧ 2 ≤ 100; omega
    · show 1 ≤ 3 ∧ 3 ≤ 100; omega
  obtain ⟨ts, q3, e3, hr⟩ := lp n.toNat [rdOf ByteArray.empty [(⟨#[105, 114]⟩ : ByteArray), (⟨#[114, 114, 105]⟩ : ByteArray), (⟨#[114, 105]⟩ : ByteArray), (⟨#[105, 114, 114]⟩ : ByteArray)] v] q2 (by simp) (by simp only [List.length_cons, List.length_nil]; omega) (fun x hx => by simp only [List.mem_singleton] at hx; subst hx; exact hz) hq2
  refine ⟨ts, q3, ?_, hr⟩
  unfold spec_l1Rd_types.f
  refine Ev.bindo e (Ev.pos hv0 (Ev.pos (by simp only []; omega) (Ev.bindo e2 ?_)))
  simp only []
  rw [show n = ((n.toNat : Nat) : Int) from by omega]
  exact e3
theorem drawTypes_ev {l : List Int} {p : Int} (h : Rd l p) : ∃ ts q, Ev (fun k => spec_l1Rd_types.f k l p) (l, q, ts) ∧ 1 ≤ ts.length ∧ ts.length ≤ 100 ∧ (∀ x ∈ ts, x.size ≤ 100) ∧ Rd l q := by
  obtain ⟨ts, q, e, h1, h2, h3, h4⟩ := drawTypes1_ev h
  exact ⟨ts, q, e, h1, h2, fun x hx => (h3 x hx).2, h4⟩
end Go.Proofs.YtmciidoohbmipaaGreatDoor.Abs
namespace Go.Proofs.YtmciidoohbmipaaGreatDoor.Abs.Pu
open Go Go.RowKit
set_option linter.unusedVariables false
set_option linter.unusedSectionVars false
set_option linter.unusedSimpArgs false
theorem kinds2_ev {l : List Int} {p : Int} (h : Rd l p) (most : Int) (h1 : 1 ≤ most) (h2 : most ≤ 23) : ∃ s q, Ev (fun k => spec_l1Rd_kinds.f k l p most) (l, q, s) ∧ typeOk s = true ∧ Rd l q := by
  have lp : ∀ (d : Nat) (s : ByteArray) (p : Int), 1 ≤ s.size + d ∧ s.size + d ≤ 23 → kindsOk s.data.toList = true → Rd l p → ∃ s' q, Ev (fun k => spec_l1Rd_kinds.p8 k l p s (d : Int)) (l, q, s') ∧ typeOk s' = true ∧ Rd l q := by
    intro d
    induction d with
    | zero =>
      intro s p hs hk hp
      refine ⟨s, p, Ev.step (fun k => by rw [spec_l1Rd_kinds.p8]) (Ev.neg (by omega) (Ev.eq rfl)), ?_, hp⟩
      unfold typeOk
      rw [decide_eq_true (by omega), hk]
      rfl
    | succ d ih =>
      intro s p hs hk hp
      obtain ⟨v, q, e, hv0, hv1, hq⟩ := below_f hp 2 (by omega) (by omega)
      have hz : (rdOf ByteArray.empty [(⟨#[105]⟩ : ByteArray), (⟨#[114]⟩ : ByteArray)] v).size = 1 ∧ kindsOk (rdOf ByteArray.empty [(⟨#[105]⟩ : ByteArray), (⟨#[114]⟩ : ByteArray)] v).data.toList = true := by
        obtain rfl | rfl : v = 0 ∨ v = 1 := by omega
        · exact ⟨rfl, rfl⟩
        · exact ⟨rfl, rfl⟩
      obtain ⟨s', q2, e2, hs', hq2⟩ := ih (s ++ rdOf ByteArray.empty [(⟨#[105]⟩ : ByteArray), (⟨#[114]⟩ : ByteArray)] v) q (by rw [ByteArray.size_append, hz.1]; omega) (by
        unfold kindsOk at hk hz ⊢
        rw [ByteArray.data_append, Array.toList_append, List.all_append, hk, hz.2]
        rfl) hq
      refine ⟨s', q2, ?_, hs', hq2⟩
      refine Ev.step (fun k => by rw [spec_l1Rd_kinds.p8]) ?_
      refine Ev.pos (by omega) (Ev.bindo e ?_)
      rw [show wrap64 (((d + 1 : Nat) : Int) - 1) = (d : Int) from by rw [w64 (by omega) (by omega)]; omega]
      refine Ev.pos hv0 (Ev.pos (by simp only []; omega) ?_)
      exact Ev.pos (by simp only [hz.1]; omega) e2
  obtain ⟨v, q, e, hv0, hv1, hq⟩ := below_f h most (by omega) (by omega)
  obtain ⟨s, q2, e2, hs, hq2⟩ := lp (1 + v).toNat ⟨#[]⟩ q (by show 1 ≤ 0 + _ ∧ 0 + _ ≤ _; omega) rfl hq
  refine ⟨s, q2, ?_, hs, hq2⟩
  unfold spec_l1Rd_kinds.f
  refine Ev.bindo e ?_
  simp only []
  rw [show wrap64 (1 + v) = ((1 + v).toNat : Int) from by rw [w64 (by omega) (by omega)]; omega]
  exact e2
theorem all_snoc {ts : List ByteArray} {s : ByteArray} (h : ts.all typeOk = true) (hz : typeOk s = true) : (ts ++ [s]).all typeOk = true := by
  rw [List.all_append, h]
  simp [hz]
theorem types2_ev {l : List Int} {p : Int} (h : Rd l p) : ∃ ts q, Ev (fun k => spec_l1Rd_types.f k l p) (l, q, ts) ∧ typesOk ts = true ∧ Rd l q := by
  have lp : ∀ (d : Nat) (ts : List ByteArray) (p : Int), 1 ≤ ts.length → ts.length + d ≤ 12 → ts.all typeOk = true → Rd l p → ∃ ts' q, Ev (fun k => spec_l1Rd_types.p8 k l p ts (d : Int)) (l, q, ts') ∧ typesOk ts' = true ∧ Rd l q := by
    intro d
    induction d with
    | zero =>
      intro ts p h1 h2 hs hp
      refine ⟨ts, p, Ev.step (fun k => by rw [spec_l1Rd_types.p8]) (Ev.neg (by omega) (Ev.eq rfl)), ?_, hp⟩
      unfold typesOk
      rw [decide_eq_true (by omega), hs]
      rfl
    | succ d ih =>
      intro ts p h1 h2 hs hp
      obtain ⟨b, q, e, hq⟩ := once_f hp 4 (by omega) (by omega)
      have e1 : wrap64 (((d + 1 : Nat) : Int) - 1) = (d : Int) := by rw [w64 (by omega) (by omega)]; omega
      cases b with
      | true =>
        obtain ⟨s, q2, e2, hz, hq2⟩ := kinds2_ev hq 23 (by omega) (by omega)
        obtain ⟨ts', q3, e3, hr⟩ := ih (ts ++ [s]) q2 (by simp) (by simp; omega) (all_snoc hs hz) hq2
        refine ⟨ts', q3, ?_, hr⟩
        refine Ev.step (fun k => by rw [spec_l1Rd_types.p8]) ?_
        rw [e1]
        exact Ev.pos (by omega) (Ev.bindo e (Ev.pos rfl (Ev.bind e2 (Ev.pos (by omega) e3))))
      | false =>
        obtain ⟨s, q2, e2, hz, hq2⟩ := kinds2_ev hq 5 (by omega) (by omega)
        obtain ⟨ts', q3, e3, hr⟩ := ih (ts ++ [s]) q2 (by simp) (by simp; omega) (all_snoc hs hz) hq2
        refine ⟨ts', q3, ?_, hr⟩
        refine Ev.step (fun k => by rw [spec_l1Rd_types.p8]) ?_
        rw [e1]
        exact Ev.pos (by omega) (Ev.bindo e (Ev.neg (by simp) (Ev.bind e2 (Ev.pos (by omega) e3))))
  obtain ⟨v, q, e, hv0, hv1, hq⟩ := below_f h 4 (by omega) (by omega)
  obtain ⟨n, q2, e2, hn0, hn1, hq2⟩ := below_f hq 3 (by omega) (by omega)
  have hz : typeOk (rdOf ByteArray.empty [(⟨#[105, 114]⟩ : ByteArray), (⟨#[114, 114, 105]⟩ : ByteArray), (⟨#[114, 105]⟩ : ByteArray), (⟨#[105, 114, 114]⟩ : ByteArray)] v) = true := by
    obtain rfl | rfl | rfl | rfl : v = 0 ∨ v = 1 ∨ v = 2 ∨ v = 3 := by omega
    all_goals rfl
  obtain ⟨ts, q3, e3, hr⟩ := lp n.toNat [rdOf ByteArray.empty [(⟨#[105, 114]⟩ : ByteArray), (⟨#[114, 114, 105]⟩ : ByteArray), (⟨#[114, 105]⟩ : ByteArray), (⟨#[105, 114, 114]⟩ : ByteArray)] v] q2 (by simp) (by simp only [List.length_cons, List.length_nil]; omega) (by simp only [List.all_cons, List.all_nil, hz]; rfl) hq2
  refine ⟨ts, q3, ?_, hr⟩
  unfold spec_l1Rd_types.f
  refine Ev.bindo e (Ev.pos hv0 (Ev.pos (by simp only []; omega) (Ev.bindo e2 ?_)))
  simp only []
  rw [show n = ((n.toNat : Nat) : Int) from by omega]
  exact e3
end Go.Proofs.YtmciidoohbmipaaGreatDoor.Abs.Pu
namespace Go.Proofs.YtmciidoohbmipaaGreatDoor.Abs.Pu
open Go Go.RowKit
set_option linter.unusedVariables false
set_option linter.unusedSectionVars false
set_option linter.unusedSimpArgs false
theorem spec_l2Crash_ev {n : Nat} {d : Dev} (hd : DevP n d) (ks : List Int) (hk : ks.length ≤ 1048576) : Ev (fun k => spec_l2Crash.f k d.1 d.2 ks) (pickF d.2 ks d.1) := by
  unfold spec_l2Crash.f
  have hl := hd.len
  have hn := hd.hi
  have fin : ∀ (i : Nat) (s : ByteArray), Ev (fun k => spec_l2Crash.p12 k ks d.1 d.2 (⟨#[]⟩ : ByteArray) (bytesOf s) (i : Int) false) s := by
    intro i s
    refine Ev.step (fun k => by rw [spec_l2Crash.p12]) ?_
    exact Ev.neg (by simp) (Ev.eq (strOfNums_bytesOf s))
  have key : ∀ i, i ≤ d.2.length → ∀ s : ByteArray, s.size = 64 * n → Ev (fun k => spec_l2Crash.p8 k ks d.1 d.2 (⟨#[]⟩ : ByteArray) (bytesOf s) (i : Int)) (pickF (d.2.drop i) (ks.drop i) s) := by
    refine down ?_ ?_
    · intro s hs
      refine Ev.step (fun k => by rw [spec_l2Crash.p8]) ?_
      rw [List.drop_eq_nil_of_le (Nat.le_refl _)]
      exact Ev.neg (by omega) (fin _ s)
    · intro i hi ih s hs
      have hg : rdOf ln0 d.2 (i : Int) = d.2[i] := rdg hi
      have hx := hd.lines _ (List.getElem_mem hi)
      have hfit := hx.fits hs
      refine Ev.step (fun k => by rw [spec_l2Crash.p8]) ?_
      rw [List.drop_eq_getElem_cons hi]
      refine Ev.pos (by omega) ?_
      by_cases c : i < ks.length
      rotate_left
      · rw [decide_eq_false (by omega), List.drop_eq_nil_of_le (show ks.length ≤ i by omega)]
        exact fin _ s
      rw [decide_eq_true (by omega), List.drop_eq_getElem_cons c]
      show Ev _ (pickF (d.2.drop (i + 1)) (ks.drop (i + 1)) (picked d.2[i] ks[i] s))
      have nx := ih _ (picked_size hx hs ks[i])
      refine Ev.step (fun k => by rw [spec_l2Crash.p12]) ?_
      rw [w64s (i := i) (by omega), hg, hx.w (by omega), rdk c, Int.toNat_natCast, bytesOf_length]
      refine Ev.pos rfl (Ev.pos (by omega) (Ev.pos (by omega) (Ev.pos (by omega) (Ev.pos (by omega) ?_))))
      unfold picked put64 at nx ⊢
      rw [cpy_repl (by have := hx.sent64; omega), cpy_repl (by have := hx.data; omega)]
      by_cases k1 : ks[i] = 1
      · rw [if_neg (by omega), if_pos k1] at nx ⊢
        exact Ev.pos k1 (Ev.pos (by omega) (Ev.pos (by omega) nx))
      refine Ev.neg k1 ?_
      by_cases k2 : ks[i] = 2
      · rw [if_pos k2] at nx ⊢
        exact Ev.pos k2 (Ev.pos (by omega) (Ev.pos (by omega) nx))
      · rw [if_neg k2, if_neg k1] at nx ⊢
        exact Ev.neg k2 nx
  have hb : numsOf d.1 = bytesOf d.1 := numsOf_eq d.1
  rw [hb]
  exact key 0 (Nat.zero_le _) d.1 hd.size
end Go.Proofs.YtmciidoohbmipaaGreatDoor.Abs.Pu
namespace Go.Proofs.YtmciidoohbmipaaGreatDoor.Abs.Pu
open Go Go.RowKit
set_option linter.unusedVariables false
set_option linter.unusedSectionVars false
set_option linter.unusedSimpArgs false
theorem small_ev {l : List Int} {p : Int} (h : Rd l p) : ∃ (c : Cfg) (q : Int), Ev (fun k => spec_l1Rd_small.f k l p) (l, q, c.1, c.2.1, c.2.2.1, c.2.2.2) ∧ configOk c = true ∧ Rd l q := by
  obtain ⟨v1, q1, e1, a1, b1, h1⟩ := below_f h 5 (by omega) (by omega)
  obtain ⟨v2, q2, e2, a2, b2, h2⟩ := below_f h1 30 (by omega) (by omega)
  obtain ⟨ts, q3, e3, ht, h3⟩ := types2_ev h2
  obtain ⟨v4, q4, e4, a4, b4, h4⟩ := below_f h3 8 (by omega) (by omega)
  have w1 : wrap64 (1 + v1) = 1 + v1 := w64 (by omega) (by omega)
  have w2 : wrap64 (4 + v2) = 4 + v2 := w64 (by omega) (by omega)
  have w3 : wrap64 (1 + v4) = 1 + v4 := w64 (by omega) (by omega)
  have w4 : wrap64 (4 + (1 + v1)) = 5 + v1 := by rw [w64 (by omega) (by omega)]; omega
  have w5 : wrap64 (5 + v1 + (1 + v4)) = 6 + v1 + v4 := by rw [w64 (by omega) (by omega)]; omega
  have ok : ∀ L : Int, 8 ≤ L → 6 + v1 + v4 ≤ L → L ≤ 20 → configOk (L, 1 + v1, 4 + v2, ts) = true := by
    intro L k1 k2 k3
    unfold configOk
    simp only [ht, Bool.and_eq_true, decide_eq_true_eq, and_true]
    omega
  unfold spec_l1Rd_small.f
  by_cases k : 6 + v1 + v4 < 8
  · refine ⟨(8, 1 + v1, 4 + v2, ts), q4, Ev.bindo e1 (Ev.bindo e2 (Ev.bind e3 (Ev.bindo e4 ?_))), ok 8 (by omega) (by omega) (by omega), h4⟩
    simp only [w1, w2, w3, w4, w5]
    exact Ev.pos k (Ev.eq rfl)
  · refine ⟨(6 + v1 + v4, 1 + v1, 4 + v2, ts), q4, Ev.bindo e1 (Ev.bindo e2 (Ev.bind e3 (Ev.bindo e4 ?_))), ok _ (by omega) (by omega) (by omega), h4⟩
    simp only [w1, w2, w3, w4, w5]
    exact Ev.neg k (Ev.eq rfl)
theorem loggable_f {l : List Int} {p : Int} (h : Rd l p) {c : Cfg} (hc : configOk c = true) : ∃ v q, spec_l1Rd_loggable.f l p c.1 c.2.1 c.2.2.1 c.2.2.2 = some (l, q, v) ∧ 0 ≤ v ∧ v < 64 * c.1 ∧ canB c (v / 32) = true ∧ Rd l q := by
  have hf := configOk_facts hc
  obtain ⟨o, q1, e1, h1⟩ := once_f h 3 (by omega) (by omega)
  unfold spec_l1Rd_loggable.f
  rw [e1, Option.bind_some]
  cases o with
  | true =>
    obtain ⟨v, q2, e2, a2, b2, h2⟩ := below_f h1 64 (by omega) (by omega)
    refine ⟨128 + v, q2, ?_, by omega, by omega, ?_, h2⟩
    · rw [if_pos rfl]
      simp only [e2, Option.bind_some]
      rw [w64 (by omega) (by omega)]
    · unfold canB
      simp only [Bool.or_eq_true, Bool.and_eq_true, decide_eq_true_eq]
      omega
  | false =>
    have w1 : wrap64 (64 * wrap64 (wrap64 (c.1 - 4) - c.2.1)) = 64 * (c.1 - 4 - c.2.1) := by
      rw [w64 (x := c.1 - 4) (by omega) (by omega), w64 (x := c.1 - 4 - c.2.1) (by omega) (by omega), w64 (by omega) (by omega)]
    obtain ⟨v, q2, e2, a2, b2, h2⟩ := below_f h1 (64 * (c.1 - 4 - c.2.1)) (by omega) (by omega)
    refine ⟨64 * (4 + c.2.1) + v, q2, ?_, by omega, by omega, ?_, h2⟩
    · rw [if_neg (by simp)]
      simp only [w1, e2, Option.bind_some]
      rw [w64 (x := 4 + c.2.1) (by omega) (by omega), w64 (x := 64 * (4 + c.2.1)) (by omega) (by omega), w64 (by omega) (by omega)]
    · unfold canB
      simp only [Bool.or_eq_true, Bool.and_eq_true, decide_eq_true_eq]
      omega
theorem three_size {v : Int} (h0 : 0 ≤ v) (h1 : v < 3) : (rdOf ByteArray.empty ([(⟨#[97]⟩ : ByteArray), (⟨#[98, 99, 100]⟩ : ByteArray), (⟨#[0, 1]⟩ : ByteArray)] : List ByteArray) v).size ≤ 3 := by
  obtain rfl | rfl | rfl : v = 0 ∨ v = 1 ∨ v = 2 := by omega
  all_goals decide
/-! ### A formatted text -/
def fmtR (c : Cfg) : ByteArray := (sealR (quads c.2.2.2 (headB c)) ++ epochL 0) ++ zerosB (64 * c.1 - 128).toNat
theorem fmt_facts {c : Cfg} (hc : configOk c = true) : (fmtR c).size = 64 * c.1.toNat ∧ lineB (fmtR c) 1 = epochL 0 ∧ ∀ j : Nat, (j : Int) < c.2.1 → lineB (fmtR c) (4 + j) = zerosB 64 := by
  have hf := configOk_facts hc
  have htl := types_len hf.2.2.2.2.2.2.2
  have hq := quads_size c.2.2.2 (headB c)
  have hh := headB_size c
  have hz3 := sealR_size (s := quads c.2.2.2 (headB c)) (by omega)
  have hzE := epochL_sz (e := 0) (by decide)
  have hzz := zerosB_size (64 * c.1 - 128).toNat
  have hA : (sealR (quads c.2.2.2 (headB c)) ++ epochL 0).size = 128 := by rw [ByteArray.size_append]; omega
  have hs : (fmtR c).size = 64 * c.1.toNat := by
    unfold fmtR
    rw [ByteArray.size_append, hA]
    omega
  refine ⟨hs, ?_, fun j hj => ?_⟩
  · unfold lineB fmtR
    rw [extract_left (by omega)]
    exact cut_right _ _ (by omega) (by omega)
  · have hl : 64 * (4 + j) + 64 ≤ (fmtR c).size := by omega
    refine bytes_same (by rw [lineB_size hl, zerosB_size]) fun i hi => ?_
    rw [lineB_size hl] at hi
    rw [bt_line hl i hi, bt_zeros]
    unfold fmtR
    rw [show 64 * (4 + j) + i = 128 + (64 * (2 + j) + i) from by omega, bt_right' hA, bt_zeros]
theorem format_is (c : Cfg) (hc : configOk c = true) (hl : c.2.2.2.length ≤ 1048576) (hs : ∀ x ∈ c.2.2.2, x.size ≤ 1048576) : Ev (fun k => spec_Format.f k c.1 c.2.1 c.2.2.1 c.2.2.2) (fmtR c) := by
  have hf := configOk_facts hc
  have htl := types_len hf.2.2.2.2.2.2.2
  have h3 := spec_l3Super_ev c hc
  have hq := quads_size c.2.2.2 (headB c)
  have hh := headB_size c
  have hz3 := sealR_size (s := quads c.2.2.2 (headB c)) (by omega)
  have hE := spec_EpochLine_ev 0
  have hzE := epochL_sz (e := 0) (by decide)
  have hZ := spec_l1Zeros_f (64 * c.1 - 128).toNat (by omega)
  have hzz := zerosB_size (64 * c.1 - 128).toNat
  unfold spec_Format.f fmtR
  rw [w64 (x := 64 * c.1) (by omega) (by omega), w64 (x := 64 * c.1 - 128) (by omega) (by omega), show 64 * c.1 - 128 = (((64 * c.1 - 128).toNat : Nat) : Int) from by omega]
  rw [Int.toNat_natCast]
  exact Ev.bind (spec_ConfigOk_ev c hl hs) (Ev.pos hc (Ev.bind h3 (Ev.bind hE (Ev.pos (by omega) (Ev.bindo hZ (Ev.pos (by rw [ByteArray.size_append]; omega) (Ev.eq rfl)))))))
/-! ### The draw -/
theorem logged_p14 {l : List Int} {c : Cfg} {n : Nat} (hc : configOk c = true) (hl : c.2.2.2.length ≤ 1048576) (ht : ∀ x ∈ c.2.2.2, x.size ≤ 1048576) : ∀ (j : Nat), j ≤ 100 → ∀ (d : Dev) (q : Int), Good c n d → Rd l q → ∃ (D : Dev) (q2 : Int), Ev (fun k => spec_l1Rd_logged.p14 k l q c.1 c.2.1 c.2.2.1 c.2.2.2 (⟨#[]⟩ : ByteArray) d.1 d.2 (j : Int)) (l, q2, D.1, D.2) ∧ D.1.size ≤ 20000 ∧ D.2.length ≤ 1000 ∧ Rd l q2 := by
  have hf := configOk_facts hc
  intro j
  induction j with
  | zero =>
    intro _ d q g h
    have hz := g.ok.size
    have hn := g.ok.hi
    have hnn := g.nn
    have hln := g.ok.len
    obtain ⟨v, q1, e1, a1, b1, h1⟩ := below_f h 30 (by omega) (by omega)
    by_cases c0 : v = 0
    · have wz : wrap64 (Int.tdiv (d.1.size : Int) 32) = ((2 * n : Nat) : Int) := by rw [Int.tdiv_eq_ediv_of_nonneg (by omega), w64 (by omega) (by omega)]; omega
      obtain ⟨u, q2, e2, a2, b2, h2⟩ := below_f h1 ((2 * n : Nat) : Int) (by omega) (by omega)
      obtain ⟨t, q3, e3, ht3, h3⟩ := bytes_ev h2 3 (by omega)
      have hx : (⟨#[120]⟩ : ByteArray).size = 1 := rfl
      have htz : (t ++ (⟨#[120]⟩ : ByteArray)).size ≤ 4 := by rw [ByteArray.size_append, hx]; omega
      have hst := spec_l2Store_ev g.ok (u / 2).toNat (32 * (u % 2)).toNat (t ++ (⟨#[120]⟩ : ByteArray)) (by omega) (by omega) (by omega)
      have hsk := storeR_ok g.ok (u / 2).toNat (32 * (u % 2)).toNat (t ++ (⟨#[120]⟩ : ByteArray)) (by omega) (by omega)
      have wu : wrap64 (u * 32) = ((64 * (u / 2).toNat + (32 * (u % 2)).toNat : Nat) : Int) := by rw [w64 (by omega) (by omega)]; omega
      refine ⟨storeR d (u / 2).toNat (32 * (u % 2)).toNat (t ++ (⟨#[120]⟩ : ByteArray)), q3, ?_, ?_, ?_, h3⟩
      · refine Ev.step (fun k => by rw [spec_l1Rd_logged.p14]) ?_
        refine Ev.neg (by omega) (Ev.bindo e1 (Ev.pos c0 ?_))
        simp only [wz]
        refine Ev.bindo e2 (Ev.bind e3 (Ev.pos (by show t.size + (⟨#[120]⟩ : ByteArray).size ≤ _; rw [hx]; omega) ?_))
        simp only [wu]
        exact Ev.bind hst (Ev.eq rfl)
      · have := hsk.size; have := hsk.hi; omega
      · have := hsk.len; have := hsk.hi; omega
    by_cases c1 : v = 1
    · obtain ⟨x1, q2, e2, a2, b2, h2⟩ := below_f h1 4 (by omega) (by omega)
      obtain ⟨x2, q3, e3, a3, b3, h3⟩ := below_f h2 2 (by omega) (by omega)
      obtain ⟨x3, q4, e4, a4, b4, h4⟩ := below_f h3 40 (by omega) (by omega)
      have hZ := spec_l1Zeros_f 32 (by omega)
      have hR := spec_RecordLine_ev (x1, x2, x3, zerosB 32)
      have hrf := recL_fits (x1, x2, x3, zerosB 32)
      have hst := spec_l2Store_ev g.ok 4 0 (recL (x1, x2, x3, zerosB 32)) (by omega) (by omega) (by omega)
      have hsk := storeR_ok g.ok 4 0 (recL (x1, x2, x3, zerosB 32)) (by omega) (by omega)
      rw [show ((64 * 4 + 0 : Nat) : Int) = 256 from rfl] at hst
      refine ⟨storeR d 4 0 (recL (x1, x2, x3, zerosB 32)), q4, ?_, ?_, ?_, h4⟩
      · refine Ev.step (fun k => by rw [spec_l1Rd_logged.p14]) ?_
        exact Ev.neg (by omega) (Ev.bindo e1 (Ev.neg c0 (Ev.pos c1 (Ev.bindo e2 (Ev.bindo e3 (Ev.bindo e4 (Ev.bindo hZ (Ev.bind hR (Ev.bind hst (Ev.eq rfl))))))))))
      · have := hsk.size; have := hsk.hi; omega
      · have := hsk.len; have := hsk.hi; omega
    by_cases c2 : v = 2
    · obtain ⟨s', q2, e2, hs2, h2⟩ := hurt_f h1 d.1 (by omega)
      refine ⟨(s', d.2), q2, ?_, by show s'.size ≤ _; omega, by show d.2.length ≤ _; omega, h2⟩
      refine Ev.step (fun k => by rw [spec_l1Rd_logged.p14]) ?_
      exact Ev.neg (by omega) (Ev.bindo e1 (Ev.neg c0 (Ev.neg c1 (Ev.pos c2 (Ev.bindo e2 (Ev.eq rfl))))))
    · refine ⟨d, q1, ?_, by omega, by omega, h1⟩
      refine Ev.step (fun k => by rw [spec_l1Rd_logged.p14]) ?_
      exact Ev.neg (by omega) (Ev.bindo e1 (Ev.neg c0 (Ev.neg c1 (Ev.neg c2 (Ev.eq rfl)))))
  | succ j ih =>
    intro hj d q g h
    have hz := g.ok.size
    have hn := g.ok.hi
    have hnn := g.nn
    have hln := g.ok.len
    obtain ⟨lg, hlog⟩ := g.log
    have hdev : devB d = true := (devB_iff d).2 ⟨n, g.ok⟩
    have wj : wrap64 (((j + 1 : Nat) : Int) - 1) = (j : Int) := by rw [w64 (by omega) (by omega)]; omega
    obtain ⟨v, q1, e1, a1, b1, h1⟩ := below_f h 12 (by omega) (by omega)
    by_cases c0 : v = 0
    · have he := spec_Ended_ev c d hl ht (by omega) (by omega)
      have eo : endedO c d = some (endedR c d lg) := by unfold endedO; rw [if_pos hdev, hlog]
      rw [eo] at he
      obtain ⟨D, q2, r1, r2, r3, r4⟩ := ih (by omega) (endedR c d lg) q1 (ended_good g hlog) h1
      refine ⟨D, q2, Ev.step (fun k => by rw [spec_l1Rd_logged.p14]) ?_, r2, r3, r4⟩
      rw [wj]
      exact Ev.pos (by omega) (Ev.bindo e1 (Ev.pos c0 (Ev.bind he r1)))
    by_cases c1 : v = 1
    · have he := spec_RolledBack_ev c d hl ht (by omega) (by omega)
      have eo : rolledO c d = some (rollR c d lg) := by unfold rolledO; rw [if_pos hdev, hlog]
      rw [eo] at he
      obtain ⟨D, q2, r1, r2, r3, r4⟩ := ih (by omega) (rollR c d lg) q1 (rolled_good g hlog) h1
      refine ⟨D, q2, Ev.step (fun k => by rw [spec_l1Rd_logged.p14]) ?_, r2, r3, r4⟩
      rw [wj]
      exact Ev.pos (by omega) (Ev.bindo e1 (Ev.neg c0 (Ev.pos c1 (Ev.bind he r1))))
    by_cases c2 : v = 2
    · obtain ⟨u, q2, e2, a2, b2, h2⟩ := below_f h1 c.1 (by omega) (by omega)
      obtain ⟨D, q3, r1, r2, r3, r4⟩ := ih (by omega) (evictR d u) q2 (g.evict u) h2
      refine ⟨D, q3, Ev.step (fun k => by rw [spec_l1Rd_logged.p14]) ?_, r2, r3, r4⟩
      rw [wj]
      exact Ev.pos (by omega) (Ev.bindo e1 (Ev.neg c0 (Ev.neg c1 (Ev.pos c2 (Ev.bindo e2 (Ev.bind (spec_l2Evict_ev g.ok u) r1))))))
    by_cases c3 : v = 3
    · obtain ⟨ks, q2, e2, hk, h2⟩ := keep_ev h1 d.2.length (by omega)
      obtain ⟨D, q3, r1, r2, r3, r4⟩ := ih (by omega) (pickF d.2 ks d.1, ([] : List Line)) q2 (g.crash ks) h2
      refine ⟨D, q3, Ev.step (fun k => by rw [spec_l1Rd_logged.p14]) ?_, r2, r3, r4⟩
      rw [wj]
      exact Ev.pos (by omega) (Ev.bindo e1 (Ev.neg c0 (Ev.neg c1 (Ev.neg c2 (Ev.pos c3 (Ev.bind e2 (Ev.bind (spec_l2Crash_ev g.ok ks (by omega)) r1)))))))
    obtain ⟨at_, q2, e2, a2, b2, hcan, h2⟩ := loggable_f h1 hc
    obtain ⟨u, q3, e3, a3, b3, h3⟩ := below_f h2 3 (by omega) (by omega)
    have htz := three_size a3 b3
    have he := spec_Logged_ev c d at_ (rdOf ByteArray.empty ([(⟨#[97]⟩ : ByteArray), (⟨#[98, 99, 100]⟩ : ByteArray), (⟨#[0, 1]⟩ : ByteArray)] : List ByteArray) u) (by omega) (by omega) (by omega) hl ht (by omega) (by omega)
    obtain ⟨t, htt⟩ : ∃ t, t = rdOf ByteArray.empty ([(⟨#[97]⟩ : ByteArray), (⟨#[98, 99, 100]⟩ : ByteArray), (⟨#[0, 1]⟩ : ByteArray)] : List ByteArray) u := ⟨_, rfl⟩
    rw [← htt] at htz he
    have eo : loggedO c d at_ t = loggedR c d lg at_ t := by unfold loggedO; rw [if_pos hdev, hlog]
    rw [eo] at he
    by_cases c4 : (loggedR c d lg at_ t).2 = 0
    · obtain ⟨D, q4, r1, r2, r3, r4⟩ := ih (by omega) (loggedR c d lg at_ t).1 q3 (logged_good g hlog at_ t c4) h3
      refine ⟨D, q4, Ev.step (fun k => by rw [spec_l1Rd_logged.p14]) ?_, r2, r3, r4⟩
      rw [wj]
      refine Ev.pos (by omega) (Ev.bindo e1 (Ev.neg c0 (Ev.neg c1 (Ev.neg c2 (Ev.neg c3 (Ev.bindo e2 (Ev.bindo e3 (Ev.pos a3 (Ev.pos (by simp only []; omega) ?_)))))))))
      dsimp only
      rw [← htt]
      exact Ev.bind he (Ev.pos c4 r1)
    · obtain ⟨D, q4, r1, r2, r3, r4⟩ := ih (by omega) d q3 g h3
      refine ⟨D, q4, Ev.step (fun k => by rw [spec_l1Rd_logged.p14]) ?_, r2, r3, r4⟩
      rw [wj]
      refine Ev.pos (by omega) (Ev.bindo e1 (Ev.neg c0 (Ev.neg c1 (Ev.neg c2 (Ev.neg c3 (Ev.bindo e2 (Ev.bindo e3 (Ev.pos a3 (Ev.pos (by simp only []; omega) ?_)))))))))
      dsimp only
      rw [← htt]
      exact Ev.bind he (Ev.neg c4 r1)
theorem cfg_small {c : Cfg} (hc : configOk c = true) : c.2.2.2.length ≤ 1048576 ∧ ∀ x ∈ c.2.2.2, x.size ≤ 1048576 := by
  have hf := configOk_facts hc
  have h1 := types_len hf.2.2.2.2.2.2.2
  have h2 := types_small hf.2.2.2.2.2.2.2
  exact ⟨by omega, fun x hx => by have := h2 x hx; omega⟩
theorem logged_ev {l : List Int} {p : Int} (h : Rd l p) {c : Cfg} (hc : configOk c = true) : ∃ (D : Dev) (q : Int), Ev (fun k => spec_l1Rd_logged.f k l p c.1 c.2.1 c.2.2.1 c.2.2.2) (l, q, D.1, D.2) ∧ D.1.size ≤ 20000 ∧ D.2.length ≤ 1000 ∧ Rd l q := by
  have hf := configOk_facts hc
  obtain ⟨hl, ht⟩ := cfg_small hc
  obtain ⟨f1, f2, f3⟩ := fmt_facts hc
  have hfm := format_is c hc hl ht
  obtain ⟨o, q1, e1, h1⟩ := once_f h 20 (by omega) (by omega)
  unfold spec_l1Rd_logged.f
  cases o with
  | true =>
    obtain ⟨v, q2, e2, a2, b2, h2⟩ := below_f h1 2 (by omega) (by omega)
    obtain ⟨m, q3, e3, a3, b3, h3⟩ := size_f h2 3 12 (by omega) (by omega) (by omega)
    have we : wrap64 (1000000000 - v) = 1000000000 - v := w64 (by omega) (by omega)
    have hok : epochOk (1000000000 - v) = true := by
      unfold epochOk
      simp only [Bool.and_eq_true, decide_eq_true_eq]
      omega
    have hez := epochL_sz hok
    have hw := spec_l2With_f (fmtR c) (epochL (1000000000 - v)) 64 (by omega) (by omega)
    have hrz : (replB (fmtR c) (64 * 1) (epochL (1000000000 - v))).size = 64 * c.1.toNat := by rw [repl_size (by omega)]; exact f1
    have hlr : ∀ L, 64 * L + 64 ≤ (fmtR c).size → lineB (replB (fmtR c) (64 * 1) (epochL (1000000000 - v))) L = if L = 1 then epochL (1000000000 - v) else lineB (fmtR c) L := fun L hL => lineB_repl hez (by omega) hL
    have g := start_good (n := c.1.toNat) hc (by omega) hrz hok (by rw [hlr 1 (by omega), if_pos rfl]) (fun j hj => by rw [hlr (4 + j) (by omega), if_neg (by omega)]; exact f3 j hj)
    obtain ⟨D, q4, r1, r2, r3, r4⟩ := logged_p14 hc hl ht m.toNat (by omega) _ q3 g h3
    refine ⟨D, q4, Ev.bind hfm (Ev.bindo e1 (Ev.pos rfl (Ev.bindo e2 ?_))), r2, r3, r4⟩
    simp only [we]
    rw [Int.toNat_of_nonneg (by omega)] at r1
    exact Ev.bind (spec_EpochLine_ev _) (Ev.bindo hw (Ev.bindo e3 r1))
  | false =>
    obtain ⟨m, q3, e3, a3, b3, h3⟩ := size_f h1 3 12 (by omega) (by omega) (by omega)
    have g := start_good (n := c.1.toNat) hc (by omega) f1 (e := 0) (by decide) f2 f3
    obtain ⟨D, q4, r1, r2, r3, r4⟩ := logged_p14 hc hl ht m.toNat (by omega) _ q3 g h3
    refine ⟨D, q4, Ev.bind hfm (Ev.bindo e1 (Ev.neg (by simp) (Ev.bindo e3 ?_))), r2, r3, r4⟩
    rw [Int.toNat_of_nonneg (by omega)] at r1
    exact r1
end Go.Proofs.YtmciidoohbmipaaGreatDoor.Abs.Pu
namespace Go.Proofs.YtmciidoohbmipaaGreatDoor.Abs.Pu
open Go Go.RowKit
set_option linter.unusedVariables false
set_option linter.unusedSectionVars false
set_option linter.unusedSimpArgs false
theorem newMachine_f (d : Dev) (hdl : d.2.length ≤ 1048576) : impl_newMachine.f d.1 d.2 (-1) = some (d.1, d.2, -1, 0) := by
  unfold impl_newMachine.f _impl_Device_own.f slices_Clone_implLine.f
  rw [if_pos (by omega)]
  rfl
theorem impl_loggedOn_ev (c : Cfg) (d : Dev) (ht : ∀ x ∈ c.2.2.2, x.size ≤ 1048576) (h : d.1.size ≤ 1099511627776) (hdl : d.2.length ≤ 1048576) : Ev (fun k => impl_loggedOn.f k c.1 c.2.1 c.2.2.1 c.2.2.2 d.1 d.2) (if configOk c = true ∧ devB d = true then ((outL (logR c (seenB d))).1, epochR c (seenB d), (outL (logR c (seenB d))).2) else (([] : List Rec), 0, false)) := by
  unfold impl_loggedOn.f
  have no : Ev (fun k => impl_loggedOn.p5 k c.1 c.2.1 c.2.2.1 c.2.2.2 d.1 d.2 true) (([] : List Rec), 0, false) := by
    refine Ev.step (fun k => by rw [impl_loggedOn.p5]) ?_
    exact Ev.pos rfl (Ev.eq rfl)
  refine Ev.bind (impl_ConfigOk_ev c ht) (Ev.cases (fun hc => ?_) (fun hc => by rw [if_neg (fun e => hc e.1)]; exact no))
  refine Ev.bind (impl_DeviceOk_ev d h hdl) ?_
  by_cases h0 : devB d = true
  · obtain ⟨n, hd⟩ := (devB_iff d).1 h0
    rw [if_pos ⟨hc, h0⟩, h0]
    refine Ev.step (fun k => by rw [impl_loggedOn.p5]) ?_
    exact Ev.neg (by simp) (Ev.bind (seen_ev hd hdl) (Ev.bind (impl_LogOf_ev c _ ht) (Ev.bind (impl_EpochOf_ev c _ ht) (Ev.eq rfl))))
  · rw [if_neg (fun e => h0 e.2), Bool.eq_false_iff.2 h0]
    exact no
end Go.Proofs.YtmciidoohbmipaaGreatDoor.Abs.Pu
namespace Go.Proofs.YtmciidoohbmipaaGreatDoor.Abs.Pu
open Go Go.RowKit
set_option linter.unusedVariables false
set_option linter.unusedSectionVars false
set_option linter.unusedSimpArgs false
theorem sameDev_ev (d : Dev) (hl : d.2.length ≤ 1048576) : Ev (fun k => laws_sameDev.f k d.1 d.2 d.1 d.2) true := by
  unfold laws_sameDev.f
  refine Ev.pos rfl (Ev.pos rfl ?_)
  refine each_ev (n := d.2.length) (g := fun k i => laws_sameDev.p14 k d.1 d.2 d.1 d.2 i) (fun i hi hr => ?_) ?_
  · refine Ev.step (fun k => by rw [laws_sameDev.p14]) ?_
    rw [w64s (by omega)]
    exact Ev.pos (by omega) (Ev.pos (by omega) (Ev.pos (by omega) (Ev.pos (by omega) (Ev.pos (by omega) (Ev.pos ⟨rfl, rfl, rfl⟩ hr)))))
  · refine Ev.step (fun k => by rw [laws_sameDev.p14]) ?_
    exact Ev.neg (by omega) (Ev.eq rfl)
def dataB (c : Cfg) (s : ByteArray) : ByteArray := s.extract 128 192 ++ s.extract (64 * (4 + c.2.1)).toNat s.size
theorem data_f {c : Cfg} (hc : configOk c = true) {s : ByteArray} (hz : (s.size : Int) = 64 * c.1) : laws_data.f c.1 c.2.1 c.2.2.1 c.2.2.2 s = some (dataB c s) := by
  have hf := configOk_facts hc
  unfold laws_data.f dataB
  rw [w64 (x := 64 * c.1) (by omega) (by omega), w64 (x := 4 + c.2.1) (by omega) (by omega), w64 (x := 64 * (4 + c.2.1)) (by omega) (by omega), if_pos hz, if_pos (by omega), if_pos (by omega), if_pos (by omega), if_pos (by rw [ByteArray.size_extract, ByteArray.size_extract]; omega), Int.toNat_natCast]
theorem data_same {c : Cfg} (hc : configOk c = true) {n : Nat} (hn : (n : Int) = c.1) {s t : ByteArray} (hs : s.size = 64 * n) (ht : t.size = 64 * n) (h : ∀ L, L < n → L = 2 ∨ 4 + c.2.1 ≤ (L : Int) → lineB s L = lineB t L) : dataB c s = dataB c t := by
  have hf := configOk_facts hc
  unfold dataB
  have h2 : s.extract 128 192 = t.extract 128 192 := h 2 (by omega) (.inl rfl)
  rw [h2]
  refine congrArg (fun x => t.extract 128 192 ++ x) ?_
  have hsz : (s.extract (64 * (4 + c.2.1)).toNat s.size).size = 64 * n - (64 * (4 + c.2.1)).toNat := by rw [ByteArray.size_extract]; omega
  have htz : (t.extract (64 * (4 + c.2.1)).toNat t.size).size = 64 * n - (64 * (4 + c.2.1)).toNat := by rw [ByteArray.size_extract]; omega
  refine bytes_same (by rw [hsz, htz]) fun i hi => ?_
  rw [hsz] at hi
  rw [bt_extract _ _ _ _ (by omega) (Nat.le_refl _), bt_extract _ _ _ _ (by omega) (Nat.le_refl _)]
  obtain ⟨L, r, h1, h3⟩ : ∃ L r, (64 * (4 + c.2.1)).toNat + i = 64 * L + r ∧ r < 64 := ⟨((64 * (4 + c.2.1)).toNat + i) / 64, ((64 * (4 + c.2.1)).toNat + i) % 64, by omega, by omega⟩
  rw [h1, ← bt_line (n := L) (by omega) r h3, ← bt_line (n := L) (by omega) r h3, h L (by omega) (.inr (by omega))]
end Go.Proofs.YtmciidoohbmipaaGreatDoor.Abs.Pu
namespace Go.Proofs.YtmciidoohbmipaaGreatDoor.Abs.Pu
open Go Go.RowKit
set_option linter.unusedVariables false
set_option linter.unusedSectionVars false
set_option linter.unusedSimpArgs false
theorem impl_there_ev (l : List Rec) (h : Int) (hl : l.length ≤ 1048576) : Ev (fun k => slices_ContainsFunc_implRecord_at_impl_machine_note_1.f k l h) (hasHalf l h) := by
  have key : ∀ i, i ≤ l.length → Ev (fun k => slices_IndexFunc_implRecord_at_impl_machine_note_1.p6 k l h (l.length : Int) (i : Int)) (placeF h i (l.drop i)) := by
    refine down ?_ ?_
    · refine Ev.step (fun k => by rw [slices_IndexFunc_implRecord_at_impl_machine_note_1.p6]) ?_
      rw [List.drop_eq_nil_of_le (Nat.le_refl _)]
      exact Ev.neg (by omega) (Ev.eq rfl)
    · intro i hi ih
      have hg : rdOf ((0, (0, (0, ByteArray.empty))) : Rec) l (i : Int) = l[i] := rdg hi
      refine Ev.step (fun k => by rw [slices_IndexFunc_implRecord_at_impl_machine_note_1.p6]) ?_
      rw [w64s (i := i) (by omega), hg, List.drop_eq_getElem_cons hi, placeF]
      unfold impl_machine_note_1.f
      refine Ev.pos (by omega) (Ev.pos (by omega) (Ev.pos (by omega) ?_))
      refine Ev.bindo rfl ?_
      by_cases k : (l[i]).2.2.1 = h
      · rw [if_pos k]; exact Ev.pos (decide_eq_true k) (Ev.eq rfl)
      · rw [if_neg k]; exact Ev.neg (by simpa using k) ih
  unfold slices_ContainsFunc_implRecord_at_impl_machine_note_1.f slices_IndexFunc_implRecord_at_impl_machine_note_1.f
  exact Ev.bind (key 0 (Nat.zero_le _)) (Ev.eq (placeF_has _ _ _))
theorem impl_Half_f {n : Nat} {s : ByteArray} (hz : s.size = 64 * n) (hn : n ≤ 128) {h : Int} (h0 : 0 ≤ h) (h1 : h < 2 * (n : Int)) : impl_Half.f s h = some (oldH s h) := by
  unfold impl_Half.f oldH
  rw [Int.tdiv_eq_ediv_of_nonneg (by omega), w64 (x := (s.size : Int) / 32) (by omega) (by omega), w64 (x := 32 * h) (by omega) (by omega), w64 (x := 32 * h + 32) (by omega) (by omega), if_neg (by omega), if_neg (by omega), if_pos (by omega), if_pos (by omega), if_pos (by omega), if_pos (by omega)]
section
variable {c : Cfg} {n : Nat} {d : Dev} {l : List Rec}
theorem msyncL_ev (h : DevP n d) (L : Nat) (t : ByteArray) (hL : L < n) (ht : t.size ≤ 64) (st : Int) : ∃ st', Ev (fun k => impl_machine_sync.f k d.1 d.2 (-1) st (L : Int) t) ((syncR d L t).1, (syncR d L t).2, -1, st') := by
  have hh := h.hi
  have s1 := storeR_ok h L 0 t hL (by omega)
  have a1 := mstore_ev h L 0 t hL (by omega) (by omega) st
  rw [show ((64 * L + 0 : Nat) : Int) = wrap64 (64 * (L : Int)) from by rw [w64m L (by omega)]; rfl] at a1
  refine ⟨wrap64 (wrap64 (wrap64 (st + 1) + 1) + 1), ?_⟩
  unfold impl_machine_sync.f
  exact Ev.bind a1 (Ev.bind (mflush_ev s1 (L : Int) _) (Ev.bind (mfence_ev (flushR_ok s1 (L : Int)) _) (Ev.eq rfl)))
theorem impl_note_ev (hd : DevP n d) (hlog : logR c (seenB d) = some l) (ht : ∀ x ∈ c.2.2.2, x.size ≤ 1048576) {h : Int} (hb : canB c h = true) : ∃ st', Ev (fun k => impl_machine_note.f k d.1 d.2 (-1) 0 c.1 c.2.1 c.2.2.1 c.2.2.2 h) ((noteR c d l (epochR c (seenB d)) h).1.1, (noteR c d l (epochR c (seenB d)) h).1.2, -1, st', (noteR c d l (epochR c (seenB d)) h).2) := by
  obtain ⟨hc, hn, hn2, hr, hlen⟩ := rolled_facts hd hlog
  have hf := configOk_facts hc
  have hrg := can_range hc hb
  have hsz := seen_size hd
  have hhi := hd.hi
  have hln := hd.len
  have hdz := hd.size
  have hlo := impl_loggedOn_ev c d ht (by omega) (by omega)
  rw [if_pos ⟨hc, (devB_iff d).2 ⟨n, hd⟩⟩, hlog] at hlo
  have hp := impl_there_ev l h (by omega)
  have hle := logF_le hd hlog
  have hN : 4 + l.length ≤ 1000 := by omega
  have hlt : (l.length : Int) < c.2.1 → 4 + l.length < n := by omega
  have hsn := seen_ev hd (by omega)
  have hha := impl_Half_f hsz hhi (h := h) (by omega) (by omega)
  have hsize : impl_size_implRecord.f l = some (l.length : Int) := rfl
  generalize epochR c (seenB d) = E at *
  unfold impl_machine_note.f noteR
  by_cases c1 : hasHalf l h = true
  · rw [if_pos c1]
    exact ⟨0, Ev.bind hlo (Ev.pos rfl (Ev.bind hp (Ev.pos c1 (Ev.eq rfl))))⟩
  rw [if_neg c1]
  by_cases c2 : (l.length : Int) = c.2.1
  · rw [if_pos c2]
    exact ⟨0, Ev.bind hlo (Ev.pos rfl (Ev.bind hp (Ev.neg c1 (Ev.bindo hsize (Ev.pos c2 (Ev.eq rfl))))))⟩
  rw [if_neg c2]
  by_cases c3 : E = 1000000000
  · rw [if_pos c3]
    exact ⟨0, Ev.bind hlo (Ev.pos rfl (Ev.bind hp (Ev.neg c1 (Ev.bindo hsize (Ev.neg c2 (Ev.pos c3 (Ev.eq rfl)))))))⟩
  rw [if_neg c3]
  have hll : (l.length : Int) < c.2.1 := by omega
  obtain ⟨st', ms⟩ := msyncL_ev hd (4 + l.length) (recL (newRec d l E h)) (hlt hll) (recL_fits _) 0
  have e3 := w4n l.length (by omega)
  have hrl : Ev (fun k => impl_RecordLine.f k E (l.length : Int) h (oldH (seenB d) h)) (recL (newRec d l E h)) := impl_RecordLine_ev (newRec d l E h)
  have hms : Ev (fun k => impl_machine_seen.f k d.1 d.2 (-1) 0) (d.1, d.2, -1, 0, seenB d) := by
    unfold impl_machine_seen.f
    exact Ev.bind hsn (Ev.eq rfl)
  refine ⟨st', ?_⟩
  generalize recL (newRec d l E h) = T at *
  generalize 4 + l.length = N at *
  generalize syncR d N T = D3 at *
  refine Ev.bind hlo (Ev.pos rfl (Ev.bind hp (Ev.neg c1 ?_)))
  refine Ev.bindo hsize (Ev.neg c2 ?_)
  refine Ev.neg c3 ?_
  refine Ev.bindo hsize (Ev.bindo hsize (Ev.bind hms (Ev.bindo hha (Ev.bind hrl ?_))))
  simp only [e3]
  exact Ev.bind ms (Ev.eq rfl)
/-- What is seen behind a note but for the log. -/
theorem note_seen (hd : DevP n d) (hlog : logR c (seenB d) = some l) {h : Int} (hb : canB c h = true) (L : Nat) (hL : L < n) (hLL : L = 2 ∨ 4 + c.2.1 ≤ (L : Int)) : lineB (seenB (noteR c d l (epochR c (seenB d)) h).1) L = lineB (seenB d) L := by
  obtain ⟨hc, hn, hn2, hr, hlen⟩ := rolled_facts hd hlog
  have hf := configOk_facts hc
  have hle := logF_le hd hlog
  unfold noteR
  by_cases c1 : hasHalf l h = true
  · rw [if_pos c1]
  rw [if_neg c1]
  by_cases c2 : (l.length : Int) = c.2.1
  · rw [if_pos c2]
  rw [if_neg c2]
  by_cases c3 : epochR c (seenB d) = 1000000000
  · rw [if_pos c3]
  rw [if_neg c3]
  have hok := newRec_ok hd hlog hb c2 c3
  rw [sync_seen hd (4 + l.length) _ (by omega) (recL_sz hok) L hL, if_neg (by omega)]
end
/-- A part of a line. -/
theorem lineB_part {s t : ByteArray} {a p L : Nat} (hp : p + t.size ≤ 64) (h : 64 * a + 64 ≤ s.size) (hL : 64 * L + 64 ≤ s.size) : lineB (replB s (64 * a + p) t) L = if L = a then replB (lineB s L) p t else lineB s L := by
  have hr := repl_size (s := s) (t := t) (p := 64 * a + p) (by omega)
  have hlz := lineB_size hL
  have hz : (if L = a then replB (lineB s L) p t else lineB s L).size = 64 := by
    split
    · rw [repl_size (by omega)]; exact hlz
    · exact hlz
  refine bytes_same (by rw [lineB_size (by omega), hz]) fun i hi => ?_
  rw [lineB_size (by omega)] at hi
  rw [bt_line (by omega) i hi, bt_repl (by omega)]
  by_cases c : L = a
  · rw [if_pos c, bt_repl (by omega)]
    subst c
    by_cases q : p ≤ i ∧ i < p + t.size
    · rw [if_pos (by omega), if_pos q, show 64 * L + i - (64 * L + p) = i - p from by omega]
    · rw [if_neg (by omega), if_neg q, bt_line hL i hi]
  · rw [if_neg c, if_neg (by omega), bt_line hL i hi]
theorem answered_f (D : Dev) (st k : Int) : impl_answered.f D.1 D.2 (-1) st k = some (if k = 0 then (D.1, -1, st, D.1, D.2, 0) else (D.1, -1, st, (⟨#[]⟩ : ByteArray), ([] : List Line), k)) := by
  unfold impl_answered.f
  split <;> rfl
end Go.Proofs.YtmciidoohbmipaaGreatDoor.Abs.Pu
namespace Go.Proofs.YtmciidoohbmipaaGreatDoor.Abs.Pu
open Go Go.RowKit
set_option linter.unusedVariables false
set_option linter.unusedSectionVars false
set_option linter.unusedSimpArgs false
def notedR (c : Cfg) (d : Dev) (l : List Rec) (h : Int) : Dev × Int :=
  if canB c h = true then (if (noteR c d l (epochR c (seenB d)) h).2 = 0 then ((noteR c d l (epochR c (seenB d)) h).1, 0) else (((⟨#[]⟩ : ByteArray), []), (noteR c d l (epochR c (seenB d)) h).2)) else (((⟨#[]⟩ : ByteArray), []), 2)
def notedO (c : Cfg) (d : Dev) (h : Int) : Dev × Int := if devB d = true then (match logR c (seenB d) with
  | none => (((⟨#[]⟩ : ByteArray), []), 1)
  | some l => notedR c d l h) else (((⟨#[]⟩ : ByteArray), []), 1)
theorem spec_Noted_ev (c : Cfg) (d : Dev) (h : Int) (hl : c.2.2.2.length ≤ 1048576) (ht : ∀ x ∈ c.2.2.2, x.size ≤ 1048576) (hz : d.1.size ≤ 1099511627776) (hdl : d.2.length ≤ 1048576) : Ev (fun k => spec_Noted.f k c.1 c.2.1 c.2.2.1 c.2.2.2 d.1 d.2 h) ((notedO c d h).1.1, (notedO c d h).1.2, (notedO c d h).2) := by
  have hb := spec_l5Bad_ev c d hl ht hz hdl
  unfold spec_Noted.f notedO
  refine Ev.bind hb ?_
  unfold seenR
  by_cases h0 : devB d = true
  · obtain ⟨n, hd⟩ := (devB_iff d).1 h0
    rw [if_pos h0, if_pos h0]
    cases hlog : logR c (seenB d) with
    | none => exact Ev.pos rfl (Ev.eq rfl)
    | some l =>
      obtain ⟨hc, hn, hn2, hr, hlen⟩ := rolled_facts hd hlog
      refine Ev.neg (by simp [outL]) (Ev.bindo (spec_l5Half_f c hc h) ?_)
      show Ev _ ((notedR c d l h).1.1, (notedR c d l h).1.2, (notedR c d l h).2)
      unfold notedR
      by_cases c4 : canB c h = true
      · have hcp : spec_l2Copy.f d.1 d.2 = some (d.1, d.2) := by
          unfold spec_l2Copy.f
          rw [if_pos (by omega)]
          rfl
        obtain ⟨st', en⟩ := spec_note_ev hd hlog hl ht c4
        rw [if_pos c4]
        refine Ev.pos c4 (Ev.bindo hcp (Ev.bind en ?_))
        generalize noteR c d l (epochR c (seenB d)) h = R at *
        by_cases c5 : R.2 = 0
        · simp only [if_pos c5]
          exact Ev.eq rfl
        · simp only [if_neg c5]
          exact Ev.eq rfl
      · rw [if_neg c4]
        exact Ev.neg c4 (Ev.eq rfl)
  · rw [if_neg h0, if_neg h0, logR_empty]
    exact Ev.pos rfl (Ev.eq rfl)
theorem impl_Noted_ev (c : Cfg) (d : Dev) (h : Int) (ht : ∀ x ∈ c.2.2.2, x.size ≤ 1048576) (hz : d.1.size ≤ 1099511627776) (hdl : d.2.length ≤ 1048576) : Ev (fun k => impl_Noted.f k c.1 c.2.1 c.2.2.1 c.2.2.2 d.1 d.2 h) ((notedO c d h).1.1, (notedO c d h).1.2, (notedO c d h).2) := by
  have hlo := impl_loggedOn_ev c d ht hz hdl
  unfold impl_Noted.f notedO
  by_cases h0 : devB d = true
  · obtain ⟨n, hd⟩ := (devB_iff d).1 h0
    rw [if_pos h0]
    cases hlog : logR c (seenB d) with
    | none =>
      refine Ev.bind hlo (Ev.neg ?_ (Ev.eq rfl))
      rw [hlog]
      split <;> simp [outL]
    | some l =>
      obtain ⟨hc, hn, hn2, hr, hlen⟩ := rolled_facts hd hlog
      rw [if_pos ⟨hc, h0⟩, hlog] at hlo
      refine Ev.bind hlo (Ev.pos rfl (Ev.bindo (impl_canLog_f c hc h) ?_))
      show Ev _ ((notedR c d l h).1.1, (notedR c d l h).1.2, (notedR c d l h).2)
      unfold notedR
      by_cases c4 : canB c h = true
      · obtain ⟨st', en⟩ := impl_note_ev hd hlog ht c4
        rw [if_pos c4]
        refine Ev.pos c4 (Ev.bindo (newMachine_f d hdl) (Ev.bind en ?_))
        generalize noteR c d l (epochR c (seenB d)) h = R at *
        refine Ev.bindo (answered_f R.1 st' R.2) ?_
        by_cases c5 : R.2 = 0
        · rw [if_pos c5, if_pos c5]
          exact Ev.eq rfl
        · rw [if_neg c5, if_neg c5]
          exact Ev.eq rfl
      · rw [if_neg c4]
        exact Ev.neg c4 (Ev.eq rfl)
  · rw [if_neg h0]
    refine Ev.bind hlo (Ev.neg ?_ (Ev.eq rfl))
    rw [if_neg (fun e => h0 e.2)]
    simp
/-! ### Each half once -/
def cntH (h : Int) (l : List Rec) : Nat := l.countP fun r => decide (r.2.2.1 = h)
theorem logF_once {c : Cfg} {s : ByteArray} {e : Int} : ∀ (d i : Nat) (out : List Rec) {l : List Rec}, (out.Pairwise fun a b => a.2.2.1 ≠ b.2.2.1) → logF c s e d i out = some l → l.Pairwise fun a b => a.2.2.1 ≠ b.2.2.1
  | 0, _, _, _, ho, h => by
    unfold logF at h
    injection h with h
    rw [← h]
    exact ho
  | d + 1, i, out, l, ho, h => by
    unfold logF at h
    split at h
    · exact logF_once d _ _ ho h
    · split at h
      · exact logF_once d _ _ ho h
      · split at h
        · cases h
        · split at h
          · rename_i r _ _ _ k
            refine logF_once d _ _ (List.pairwise_append.2 ⟨ho, List.pairwise_singleton _ _, fun a ha b hb => ?_⟩) h
            rw [List.mem_singleton.1 hb]
            intro q
            simp only [Bool.and_eq_true] at k
            have k4 := k.2.2.2
            have : hasHalf out r.2.2.1 = true := by
              unfold hasHalf
              exact List.any_eq_true.2 ⟨a, ha, decide_eq_true q⟩
            rw [this] at k4
            cases k4
          · cases h
theorem cnt_none {h : Int} : ∀ {l : List Rec}, hasHalf l h = false → cntH h l = 0
  | [], _ => rfl
  | r :: l, hh => by
    unfold hasHalf at hh
    rw [List.any_cons, Bool.or_eq_false_iff] at hh
    unfold cntH
    rw [List.countP_cons, hh.1]
    exact cnt_none hh.2
theorem cnt_one {h : Int} : ∀ {l : List Rec}, (l.Pairwise fun a b => a.2.2.1 ≠ b.2.2.1) → hasHalf l h = true → cntH h l = 1
  | [], _, hh => by cases hh
  | r :: l, hp, hh => by
    rw [List.pairwise_cons] at hp
    unfold cntH
    rw [List.countP_cons]
    by_cases k : r.2.2.1 = h
    · rw [decide_eq_true k]
      have : hasHalf l h = false := by
        rw [Bool.eq_false_iff]
        intro q
        unfold hasHalf at q
        obtain ⟨a, ha, e⟩ := List.any_eq_true.1 q
        exact hp.1 a ha (k.trans (of_decide_eq_true e).symm)
      have := cnt_none this
      unfold cntH at this
      rw [this]
      rfl
    · rw [decide_eq_false k]
      have h2 : hasHalf l h = true := by
        unfold hasHalf at hh ⊢
        rw [List.any_cons, decide_eq_false k, Bool.false_or] at hh
        exact hh
      exact cnt_one hp.2 h2
theorem w_last (m : Nat) (h : m ≤ 1000) : wrap64 (((m + 1 : Nat) : Int) - 1) = (m : Int) := by
  rw [w64 (by omega) (by omega)]
  omega
theorem p34_loop {c : Cfg} {d E : Dev} {h : Int} {l l' : List Rec} (hl : l'.length ≤ 1000) (hcnt : cntH h l' = 1) (hend : Ev (fun k => laws_FnNoted.p34 k c.1 c.2.1 c.2.2.1 c.2.2.2 d.1 d.2 h E.1 E.2 l l' true 1 (l'.length : Int)) true) : Ev (fun k => laws_FnNoted.p34 k c.1 c.2.1 c.2.2.1 c.2.2.2 d.1 d.2 h E.1 E.2 l l' true 0 0) true := by
  have key : ∀ i, i ≤ l'.length → ∀ m : Nat, m ≤ i → m + cntH h (l'.drop i) = 1 → Ev (fun k => laws_FnNoted.p34 k c.1 c.2.1 c.2.2.1 c.2.2.2 d.1 d.2 h E.1 E.2 l l' true (m : Int) (i : Int)) true := by
    clear hcnt
    refine down ?_ ?_
    · intro m hm hmc
      rw [List.drop_eq_nil_of_le (Nat.le_refl _)] at hmc
      have hm1 : m = 1 := hmc
      rw [hm1]
      exact hend
    · intro i hi ih m hm hmc
      have hg : rdOf rc0 l' (i : Int) = l'[i] := rdg hi
      have hs : cntH h (l'.drop i) = cntH h (l'.drop (i + 1)) + (if (l'[i]).2.2.1 = h then 1 else 0) := by
        rw [List.drop_eq_getElem_cons hi]
        unfold cntH
        rw [List.countP_cons]
        simp
      have ih := fun m hm => ih m hm
      rw [hs] at hmc
      generalize cntH h (l'.drop (i + 1)) = q at *
      refine Ev.step (fun k => by rw [laws_FnNoted.p34]) ?_
      rw [hg, w64s (i := i) (by omega)]
      refine Ev.pos (by omega) (Ev.pos (by omega) (Ev.pos (by omega) ?_))
      by_cases k2 : (l'[i]).2.2.1 = h
      · rw [if_pos k2] at hmc
        have nx := ih (m + 1) (by omega) (by omega)
        rw [w64s (i := m) (by omega)]
        exact Ev.pos k2 nx
      · rw [if_neg k2] at hmc
        exact Ev.neg k2 (ih m (by omega) (by omega))
  exact key 0 (Nat.zero_le _) 0 (Nat.zero_le _) (by rw [List.drop_zero, hcnt])
attribute [local irreducible] cntH
theorem FnNoted : laws_FnNoted.Pure := by
  intro code ok
  refine Ev.rounds ?_
  unfold laws_FnNoted.f laws_big.f
  refine Ev.bindo rfl (Ev.cases (fun _ => Ev.eq rfl) (fun hbig => ?_))
  have hlen : code.length ≤ 1048576 := by
    have : ¬ ((code.length : Int) > 1048576) := fun h => hbig (decide_eq_true h)
    omega
  have hb : isBytes code := isBytes_of ok.2
  obtain ⟨c, q1, ec, hc, hq1⟩ := small_ev (Rd.start hb (by omega))
  obtain ⟨d, q2, ed, hd1, hd2, hq2⟩ := logged_ev hq1 hc
  obtain ⟨hl, ht⟩ := cfg_small hc
  have hf := configOk_facts hc
  obtain ⟨h, eD⟩ : ∃ h : Int, Ev (fun k => spec_DrawNoted.f k code) (c.1, c.2.1, c.2.2.1, c.2.2.2, d.1, d.2, h) := by
    obtain ⟨o, q3, e3, h3⟩ := once_f hq2 6 (by omega) (by omega)
    unfold spec_DrawNoted.f spec_l1Open.f
    cases o with
    | true =>
      obtain ⟨x, q4, e4, hx, hx2, h4⟩ := off_ev h3 0 (2 * c.1) (by omega) (by omega) (by omega) (by omega)
      have w : wrap64 (2 * c.1) = 2 * c.1 := w64 (by omega) (by omega)
      refine ⟨x, Ev.bindo rfl (Ev.bind ec (Ev.bind ed (Ev.bindo e3 (Ev.pos rfl ?_))))⟩
      simp only [w]
      exact Ev.bind e4 (Ev.eq rfl)
    | false =>
      obtain ⟨x, q4, e4, a4, b4, _, h4⟩ := loggable_f h3 hc
      exact ⟨wrap64 (Int.tdiv x 32), Ev.bindo rfl (Ev.bind ec (Ev.bind ed (Ev.bindo e3 (Ev.neg (by simp) (Ev.bindo e4 (Ev.eq rfl))))))⟩
  have g1 := spec_Noted_ev c d h hl ht (by omega) (by omega)
  have g2 := impl_Noted_ev c d h ht (by omega) (by omega)
  have no : ∀ k : Int, k ≠ 0 → notedO c d h = (((⟨#[]⟩ : ByteArray), []), k) → Ev (fun j => laws_FnNoted.p19 j c.1 c.2.1 c.2.2.1 c.2.2.2 d.1 d.2 h (notedO c d h).1.1 (notedO c d h).1.2 (notedO c d h).2 (notedO c d h).1.1 (notedO c d h).1.2 (notedO c d h).2 (!decide ((notedO c d h).2 = 0))) true := by
    intro k hk e
    rw [e]
    refine Ev.step (fun k => by rw [laws_FnNoted.p19]) ?_
    exact Ev.pos (by show (!decide (k = 0)) = true; rw [decide_eq_false hk]; rfl) (Ev.pos rfl (Ev.bind (sameDev_ev ((⟨#[]⟩ : ByteArray), ([] : List Line)) (by simp)) (Ev.eq rfl)))
  refine Ev.bind eD (Ev.bind g2 (Ev.bind g1 (Ev.pos rfl ?_)))
  by_cases h0 : devB d = true
  rotate_left
  · have e : notedO c d h = (((⟨#[]⟩ : ByteArray), []), 1) := by unfold notedO; rw [if_neg h0]
    refine Ev.bind (a := true) ?_ (Ev.pos rfl (no 1 (by decide) e))
    rw [e]
    exact sameDev_ev ((⟨#[]⟩ : ByteArray), ([] : List Line)) (by simp)
  obtain ⟨n, hd⟩ := (devB_iff d).1 h0
  cases hlog : logR c (seenB d) with
  | none =>
    have e : notedO c d h = (((⟨#[]⟩ : ByteArray), []), 1) := by unfold notedO; rw [if_pos h0, hlog]
    refine Ev.bind (a := true) ?_ (Ev.pos rfl (no 1 (by decide) e))
    rw [e]
    exact sameDev_ev ((⟨#[]⟩ : ByteArray), ([] : List Line)) (by simp)
  | some l =>
    have eO : notedO c d h = notedR c d l h := by unfold notedO; rw [if_pos h0, hlog]
    by_cases c4 : canB c h = true
    rotate_left
    · have e : notedO c d h = (((⟨#[]⟩ : ByteArray), []), 2) := by rw [eO]; unfold notedR; rw [if_neg c4]
      refine Ev.bind (a := true) ?_ (Ev.pos rfl (no 2 (by decide) e))
      rw [e]
      exact sameDev_ev ((⟨#[]⟩ : ByteArray), ([] : List Line)) (by simp)
    by_cases k1 : (noteR c d l (epochR c (seenB d)) h).2 = 0
    rotate_left
    · have e : notedO c d h = (((⟨#[]⟩ : ByteArray), []), (noteR c d l (epochR c (seenB d)) h).2) := by rw [eO]; unfold notedR; rw [if_pos c4, if_neg k1]
      refine Ev.bind (a := true) ?_ (Ev.pos rfl (no _ k1 e))
      rw [e]
      exact sameDev_ev ((⟨#[]⟩ : ByteArray), ([] : List Line)) (by simp)
    obtain ⟨_, hn, hn2, hr, hll⟩ := rolled_facts hd hlog
    have hhi := hd.hi
    have hrg := can_range hc c4
    have hha := impl_Half_f (seen_size hd) hhi (h := h) (by omega) (by omega)
    have hE : notedO c d h = ((noteR c d l (epochR c (seenB d)) h).1, 0) := by rw [eO]; unfold notedR; rw [if_pos c4, if_pos k1]
    have hEok := noteR_ok hd hlog h
    have hns := note_seen hd hlog c4
    have hp := logF_once _ 0 [] List.Pairwise.nil (logR_some hlog).2.2
    -- the log behind it
    obtain ⟨l', hlog', hcnt, hl1, hlast, hhas⟩ : ∃ l', logR c (seenB (noteR c d l (epochR c (seenB d)) h).1) = some l' ∧ cntH h l' = 1 ∧ l'.length ≤ l.length + 1 ∧ (l'.length = l.length ∨ ∃ r, l' = l ++ [r] ∧ r.2.2.1 = h ∧ r.2.2.2 = oldH (seenB d) h) ∧ hasHalf l' h = true := by
      unfold noteR at k1 ⊢
      by_cases c1 : hasHalf l h = true
      · rw [if_pos c1]
        exact ⟨l, hlog, cnt_one hp c1, by omega, .inl rfl, c1⟩
      rw [if_neg c1] at k1 ⊢
      by_cases c2 : (l.length : Int) = c.2.1
      · rw [if_pos c2] at k1
        have k1 : (3 : Int) = 0 := k1
        omega
      rw [if_neg c2] at k1 ⊢
      by_cases c3 : epochR c (seenB d) = 1000000000
      · rw [if_pos c3] at k1
        have k1 : (3 : Int) = 0 := k1
        omega
      rw [if_neg c3]
      have hle := logF_le hd hlog
      have hok := newRec_ok hd hlog c4 c2 c3
      have h2 := note_log hd hc hn hlog hok rfl rfl (by omega) c4 (Bool.eq_false_iff.2 c1)
      refine ⟨l ++ [newRec d l (epochR c (seenB d)) h], h2.2, ?_, by simp, .inr ⟨_, rfl, rfl, rfl⟩, ?_⟩
      · unfold cntH
        rw [List.countP_append]
        have := cnt_none (Bool.eq_false_iff.2 c1)
        unfold cntH at this
        rw [this, List.countP_singleton, decide_eq_true (show (newRec d l (epochR c (seenB d)) h).2.2.1 = h from rfl)]
        rfl
      · unfold hasHalf
        exact List.any_eq_true.2 ⟨_, List.mem_append_right _ (List.mem_singleton.2 rfl), decide_eq_true rfl⟩
    rw [hE]
    generalize (noteR c d l (epochR c (seenB d)) h).1 = E at *
    have hEz := hEok.size
    have hEh := hEok.hi
    have hEl := hEok.len
    have hdE : devB E = true := (devB_iff E).2 ⟨n, hEok⟩
    have hS : Ev (fun k => spec_Seen.f k d.1 d.2) (seenB d) := by
      have := spec_Seen_ev d (by omega) (by omega)
      unfold seenR at this
      rwa [if_pos h0] at this
    have hS2 : Ev (fun k => impl_Seen.f k E.1 E.2) (seenB E) := by
      have := impl_Seen_ev E (by omega) (by omega)
      unfold seenR at this
      rwa [if_pos hdE] at this
    have hlo := spec_LogOf_ev c (seenB d) hl ht
    rw [hlog] at hlo
    have hlo2 := impl_LogOf_ev c (seenB E) ht
    rw [hlog'] at hlo2
    have hsz := seen_size hd
    have hsz2 := seen_size hEok
    have d1 := data_f hc (s := seenB E) (by omega)
    have d2 := data_f hc (s := seenB d) (by omega)
    have hsame : dataB c (seenB E) = dataB c (seenB d) := data_same hc hn hsz2 hsz hns
    have hsd := sameDev_ev E (by omega)
    have hag : Ev (fun k => impl_Noted.f k c.1 c.2.1 c.2.2.1 c.2.2.2 E.1 E.2 h) (E.1, E.2, 0) := by
      have := impl_Noted_ev c E h ht (by omega) (by omega)
      have e : notedO c E h = (E, 0) := by
        unfold notedO
        rw [if_pos hdE, hlog']
        show notedR c E l' h = (E, 0)
        unfold notedR noteR
        rw [if_pos c4, if_pos hhas, if_pos rfl]
      rwa [e] at this
    have w1 : wrap64 ((l.length : Int) + 1) = (l.length : Int) + 1 := w64 (by omega) (by omega)
    have hl2 : (l'.length : Int) ≤ (l.length : Int) + 1 := by
      have q := Int.ofNat_le.2 hl1
      rwa [Int.natCast_add] at q
    have p51 : Ev (fun k => laws_FnNoted.p51 k c.1 c.2.1 c.2.2.1 c.2.2.2 d.1 d.2 h E.1 E.2 l l' true 1 true) true := by
      refine Ev.step (fun k => by rw [laws_FnNoted.p51]) ?_
      rw [w1]
      exact Ev.bind hag (Ev.pos rfl (Ev.pos rfl (Ev.pos rfl (Ev.pos hl2 (Ev.bind hS2 (Ev.bindo d1 (Ev.bind hS (Ev.bindo d2 (Ev.pos (by rw [hsame]) (Ev.pos rfl (Ev.bind hsd (Ev.eq rfl))))))))))))
    have hpos : 0 < l'.length := by
      cases l' with
      | nil => cases hhas
      | cons a b => simp
    have hend : Ev (fun k => laws_FnNoted.p34 k c.1 c.2.1 c.2.2.1 c.2.2.2 d.1 d.2 h E.1 E.2 l l' true 1 (l'.length : Int)) true := by
      clear hcnt
      refine Ev.step (fun k => by rw [laws_FnNoted.p34]) ?_
      refine Ev.neg (Int.lt_irrefl _) (Ev.pos (Int.natCast_pos.2 hpos) ?_)
      by_cases k2 : (l'.length : Int) = (l.length : Int)
      · exact Ev.pos k2 p51
      · refine Ev.neg k2 ?_
        rcases hlast with q | ⟨r, rfl, e1, e2⟩
        · exact absurd (congrArg (fun x : Nat => (x : Int)) q) k2
        · have hl2 : (l ++ [r]).length = l.length + 1 := by simp
          have w2 : wrap64 (((l ++ [r]).length : Int) - 1) = (l.length : Int) := by rw [hl2]; exact w_last _ (Nat.le_trans hll (by decide))
          have hg : rdOf rc0 (l ++ [r]) (l.length : Int) = r := by
            rw [rdg (by rw [hl2]; exact Nat.lt_succ_self _)]
            simp
          have b1 : (0 : Int) ≤ (l.length : Int) := Int.natCast_nonneg _
          have b2 : (l.length : Int) < ((l ++ [r]).length : Int) := by rw [hl2]; exact Int.ofNat_lt.2 (Nat.lt_succ_self _)
          rw [w2, hg]
          refine Ev.pos b1 (Ev.pos b2 (Ev.pos e1 (Ev.pos b1 (Ev.pos b2 (Ev.bind hS (Ev.bindo hha ?_))))))
          rw [decide_eq_true (show r.2.2.2.toList = (oldH (seenB d) h).toList by rw [e2])]
          exact p51
    have p34 := p34_loop (c := c) (d := d) (E := E) (l := l) (Nat.le_trans hl1 (Nat.le_trans (Nat.succ_le_succ hll) (by decide))) hcnt hend
    refine Ev.bind hsd (Ev.pos rfl ?_)
    refine Ev.step (fun k => by rw [laws_FnNoted.p19]) ?_
    refine Ev.neg (by simp) (Ev.bind hS (Ev.bind hlo (Ev.bind hS2 (Ev.bind hlo2 ?_))))
    exact p34
end Go.Proofs.YtmciidoohbmipaaGreatDoor.Abs.Pu
namespace Go.Proofs
open Go.Shelf
def Tryz.lays231_ren : Go.Shelf.Ren := ⟨fun | 231 => 196 | n => n, fun | 9 => 9 | 5 => 5 | 3 => 3 | 4 => 4 | n => n, fun | n => n⟩
theorem Tryz.lays231 : Go.Proofs.Lays.n231 Tryz.prog Tryz.lays231_ren := {
  mixed := by kernel_rfl
  f231 := Tryz.func196.trans (congrArg some (by kernel_rfl))
  t3 := Tryz.underlying3
  a3 := Tryz.isAgg3
  z3 := Tryz.sizeOf3
  v3 := Tryz.zeroValue3
  t4 := Tryz.underlying4
  a4 := Tryz.isAgg4
  z4 := Tryz.sizeOf4
  v4 := Tryz.zeroValue4
  t5 := Tryz.underlying5
  a5 := Tryz.isAgg5
  z5 := Tryz.sizeOf5
  v5 := Tryz.zeroValue5
  t9 := Tryz.underlying9
  a9 := Tryz.isAgg9
  z9 := Tryz.sizeOf9
  v9 := Tryz.zeroValue9 }
open Go.RowKit in
/-- strings.trimLeftByte (no doc; what TrimLeft and Trim call at a cutset of one ASCII byte): the leading bytes that are c are cut off. The world is as it was. (LAID: no walk: one application.) -/
theorem Tryz.strings_trimLeftByte (s : ByteArray) (c : UInt8) (w : World) :
    Calls Tryz.prog 196 #[.string s, .int .u8 c.toNat] w fun e w' => e = .returned (.string ⟨(Lib.trimLeftB s.data.toList c).toArray⟩) ∧ w' = w := Any.strings_trimLeftByte Tryz.lays231 s c w
def Tryz.lays232_ren : Go.Shelf.Ren := ⟨fun | 232 => 197 | n => n, fun | 9 => 9 | 5 => 5 | 3 => 3 | 4 => 4 | n => n, fun | n => n⟩
theorem Tryz.lays232 : Go.Proofs.Lays.n232 Tryz.prog Tryz.lays232_ren := {
  mixed := by kernel_rfl
  f232 := Tryz.func197.trans (congrArg some (by kernel_rfl))
  t3 := Tryz.underlying3
  a3 := Tryz.isAgg3
  z3 := Tryz.sizeOf3
  v3 := Tryz.zeroValue3
  t4 := Tryz.underlying4
  a4 := Tryz.isAgg4
  z4 := Tryz.sizeOf4
  v4 := Tryz.zeroValue4
  t5 := Tryz.underlying5
  a5 := Tryz.isAgg5
  z5 := Tryz.sizeOf5
  v5 := Tryz.zeroValue5
  t9 := Tryz.underlying9
  a9 := Tryz.isAgg9
  z9 := Tryz.sizeOf9
  v9 := Tryz.zeroValue9 }
open Go.RowKit in
/-- strings.trimRightByte (no doc; what TrimRight and Trim call at a cutset of one ASCII byte): the trailing bytes that are c are cut off. The world is as it was. ('hs': a string's length is a number that an int holds.) (LAID: no walk: one application.) -/
theorem Tryz.strings_trimRightByte (s : ByteArray) (c : UInt8) (w : World) (hs : s.size ≤ 9223372036854775807) :
    Calls Tryz.prog 197 #[.string s, .int .u8 c.toNat] w fun e w' => e = .returned (.string ⟨(Lib.trimRightB s.data.toList c).toArray⟩) ∧ w' = w := Any.strings_trimRightByte Tryz.lays232 s c w hs
def Tryz.lays160_ren : Go.Shelf.Ren := ⟨fun | 160 => 186 | 232 => 197 | 231 => 196 | 227 => 198 | 234 => 200 | 233 => 199 | 236 => 202 | 235 => 201 | 228 => 209 | 271 => 212 | 151 => 211 | 197 => 210 | 120 => 220 | 152 => 219 | 260 => 218 | 137 => 222 | 119 => 223 | 224 => 224 | 225 => 225 | 217 => 226 | 266 => 227 | n => n, fun | 9 => 9 | 4 => 4 | 3 => 3 | 5 => 5 | 117 => 196 | 116 => 195 | 0 => 0 | 124 => 199 | 21 => 21 | 105 => 208 | 46 => 153 | 119 => 218 | 139 => 221 | 138 => 220 | n => n, fun | 3 => 0 | 4 => 1 | n => n⟩
theorem Tryz.lays160 : Go.Proofs.Lays.n160 Tryz.prog Tryz.lays160_ren := {
  mixed := by kernel_rfl
  f119 := Tryz.func223.trans (congrArg some (by kernel_rfl))
  f120 := Tryz.func220.trans (congrArg some (by kernel_rfl))
  f137 := Tryz.func222.trans (congrArg some (by kernel_rfl))
  f151 := Tryz.func211.trans (congrArg some (by kernel_rfl))
  f152 := Tryz.func219.trans (congrArg some (by kernel_rfl))
  f160 := Tryz.func186.trans (congrArg some (by kernel_rfl))
  f197 := Tryz.func210.trans (congrArg some (by kernel_rfl))
  f217 := Tryz.func226.trans (congrArg some (by kernel_rfl))
  f224 := Tryz.func224.trans (congrArg some (by kernel_rfl))
  f225 := Tryz.func225.trans (congrArg some (by kernel_rfl))
  f227 := Tryz.func198.trans (congrArg some (by kernel_rfl))
  f228 := Tryz.func209.trans (congrArg some (by kernel_rfl))
  f231 := Tryz.func196.trans (congrArg some (by kernel_rfl))
  f232 := Tryz.func197.trans (congrArg some (by kernel_rfl))
  f233 := Tryz.func199.trans (congrArg some (by kernel_rfl))
  f234 := Tryz.func200.trans (congrArg some (by kernel_rfl))
  f235 := Tryz.func201.trans (congrArg some (by kernel_rfl))
  f236 := Tryz.func202.trans (congrArg some (by kernel_rfl))
  f260 := Tryz.func218.trans (congrArg some (by kernel_rfl))
  f266 := Tryz.func227.trans (congrArg some (by kernel_rfl))
  f271 := Tryz.func212.trans (congrArg some (by kernel_rfl))
  t0 := Tryz.underlying0
  a0 := Tryz.isAgg0
  z0 := Tryz.sizeOf0
  v0 := Tryz.zeroValue0
  t3 := Tryz.underlying3
  a3 := Tryz.isAgg3
  z3 := Tryz.sizeOf3
  v3 := Tryz.zeroValue3
  t4 := Tryz.underlying4
  a4 := Tryz.isAgg4
  z4 := Tryz.sizeOf4
  v4 := Tryz.zeroValue4
  t5 := Tryz.underlying5
  a5 := Tryz.isAgg5
  z5 := Tryz.sizeOf5
  v5 := Tryz.zeroValue5
  t9 := Tryz.underlying9
  a9 := Tryz.isAgg9
  z9 := Tryz.sizeOf9
  v9 := Tryz.zeroValue9
  t21 := Tryz.underlying21
  a21 := Tryz.isAgg21
  z21 := Tryz.sizeOf21
  v21 := Tryz.zeroValue21
  t46 := Tryz.underlying153
  a46 := Tryz.isAgg153
  z46 := Tryz.sizeOf153
  v46 := Tryz.zeroValue153
  t105 := Tryz.underlying208
  a105 := Tryz.isAgg208
  z105 := Tryz.sizeOf208
  v105 := Tryz.zeroValue208
  t116 := Tryz.underlying195
  a116 := Tryz.isAgg195
  z116 := Tryz.sizeOf195
  t117 := Tryz.underlying196
  a117 := Tryz.isAgg196
  z117 := Tryz.sizeOf196
  v117 := Tryz.zeroValue196
  t119 := Tryz.underlying218
  a119 := Tryz.isAgg218
  z119 := Tryz.sizeOf218
  t124 := Tryz.underlying199
  a124 := Tryz.isAgg199
  z124 := Tryz.sizeOf199
  v124 := Tryz.zeroValue199
  t138 := Tryz.underlying220
  a138 := Tryz.isAgg220
  z138 := Tryz.sizeOf220
  v138 := Tryz.zeroValue220
  t139 := Tryz.underlying221
  a139 := Tryz.isAgg221
  z139 := Tryz.sizeOf221
  v139 := Tryz.zeroValue221
  g3 := by kernel_rfl
  g4 := by kernel_rfl }
open Go.RowKit in
/-- strings.Trim: "Trim returns a slice of the string s with all leading and trailing Unicode code points contained in cutset removed.": AT A cutset OF ONE ASCII BYTE. THE WORLD BEHIND IT: as it was, or (where s is not empty) with ONE DRAW MORE off the tape: the statement 'return trimLeftByte(trimRightByte(s, c), c)' draws its order of evaluation. (LAID: no walk: one application.) -/
theorem Tryz.strings_Trim_one (s : ByteArray) (c : UInt8) (hc : c.toNat < 128) (w : World) (hs : s.size ≤ 9223372036854775807) :
    Calls Tryz.prog 186 #[.string s, .string ⟨#[c]⟩] w fun e w' => e = .returned (.string ⟨(Lib.trimB s.data.toList c).toArray⟩) ∧ (w' = w ∨ w' = w.drew) := Any.strings_Trim_one Tryz.lays160 s c hc w hs
def Tryz.lays119_ren : Go.Shelf.Ren := ⟨fun | 119 => 223 | n => n, fun | 21 => 21 | 4 => 4 | n => n, fun | n => n⟩
theorem Tryz.lays119 : Go.Proofs.Lays.n119 Tryz.prog Tryz.lays119_ren := {
  mixed := by kernel_rfl
  f119 := Tryz.func223.trans (congrArg some (by kernel_rfl))
  t4 := Tryz.underlying4
  a4 := Tryz.isAgg4
  z4 := Tryz.sizeOf4
  v4 := Tryz.zeroValue4
  t21 := Tryz.underlying21
  a21 := Tryz.isAgg21
  z21 := Tryz.sizeOf21
  v21 := Tryz.zeroValue21 }
/-- utf8.ValidRune: "ValidRune reports whether r can be legally encoded as UTF-8. Code points that are out of range or a surrogate half are illegal.": IT RETURNS 'Lib.validRune r'; the world is as it was. (LAID: no walk: one application.) -/
theorem Tryz.utf8_ValidRune (r : Int) (w : World) :
    Calls Tryz.prog 223 #[.int .i32 r] w fun e w' => e = .returned (.bool (Lib.validRune r)) ∧ w' = w := Any.utf8_ValidRune Tryz.lays119 r w
def Tryz.lays120_ren : Go.Shelf.Ren := ⟨fun | 120 => 220 | n => n, fun | 5 => 5 | 4 => 4 | n => n, fun | n => n⟩
theorem Tryz.lays120 : Go.Proofs.Lays.n120 Tryz.prog Tryz.lays120_ren := {
  mixed := by kernel_rfl
  f120 := Tryz.func220.trans (congrArg some (by kernel_rfl))
  t4 := Tryz.underlying4
  a4 := Tryz.isAgg4
  z4 := Tryz.sizeOf4
  v4 := Tryz.zeroValue4
  t5 := Tryz.underlying5
  a5 := Tryz.isAgg5
  z5 := Tryz.sizeOf5
  v5 := Tryz.zeroValue5 }
/-- utf8.RuneStart: "RuneStart reports whether the byte could be the first byte of an encoded, possibly invalid rune. Second and subsequent bytes always have the top two bits set to 10.": IT RETURNS 'Lib.runeStart b'; the world is as it was. ('h0', 'h1': b is a byte: a caller has it of every byte that it was handed.) (LAID: no walk: one application.) -/
theorem Tryz.utf8_RuneStart (b : Int) (w : World) (h0 : 0 ≤ b) (h1 : b < 256) :
    Calls Tryz.prog 220 #[.int .u8 b] w fun e w' => e = .returned (.bool (Lib.runeStart b)) ∧ w' = w := Any.utf8_RuneStart Tryz.lays120 b w h0 h1
def Tryz.lays128_ren : Go.Shelf.Ren := ⟨fun | 128 => 183 | n => n, fun | 51 => 173 | 3 => 3 | 4 => 4 | 46 => 153 | 5 => 5 | 9 => 9 | n => n, fun | n => n⟩
theorem Tryz.lays128 : Go.Proofs.Lays.n128 Tryz.prog Tryz.lays128_ren := {
  mixed := by kernel_rfl
  f128 := Tryz.func183.trans (congrArg some (by kernel_rfl))
  t3 := Tryz.underlying3
  a3 := Tryz.isAgg3
  z3 := Tryz.sizeOf3
  v3 := Tryz.zeroValue3
  t4 := Tryz.underlying4
  a4 := Tryz.isAgg4
  z4 := Tryz.sizeOf4
  v4 := Tryz.zeroValue4
  t5 := Tryz.underlying5
  a5 := Tryz.isAgg5
  z5 := Tryz.sizeOf5
  v5 := Tryz.zeroValue5
  t9 := Tryz.underlying9
  a9 := Tryz.isAgg9
  z9 := Tryz.sizeOf9
  v9 := Tryz.zeroValue9
  t46 := Tryz.underlying153
  a46 := Tryz.isAgg153
  z46 := Tryz.sizeOf153
  v46 := Tryz.zeroValue153
  t51 := Tryz.underlying173
  a51 := Tryz.isAgg173
  z51 := Tryz.sizeOf173
  v51 := Tryz.zeroValue173 }
/-- bits.Len32: "Len32 returns the minimum number of bits required to represent x; the result is 0 for x == 0.": IT RETURNS 'Lib.bitLen x'; the world is as it was. ('h0', 'h1': x is a uint32.) (LAID: no walk: one application.) -/
theorem Tryz.bits_Len32 (x : Int) (w : World) (h0 : 0 ≤ x) (h1 : x ≤ 4294967295) :
    Calls Tryz.prog 183 #[.int .u32 x] w fun e w' => e = .returned (.int .i64 (Lib.bitLen x.toNat)) ∧ w' = w := Any.bits_Len32 Tryz.lays128 x w h0 h1
def Tryz.lays125_ren : Go.Shelf.Ren := ⟨fun | 125 => 160 | 128 => 183 | 129 => 184 | n => n, fun | 46 => 153 | 3 => 3 | 51 => 173 | 53 => 151 | 4 => 4 | 5 => 5 | 9 => 9 | n => n, fun | n => n⟩
theorem Tryz.lays125 : Go.Proofs.Lays.n125 Tryz.prog Tryz.lays125_ren := {
  mixed := by kernel_rfl
  f125 := Tryz.func160.trans (congrArg some (by kernel_rfl))
  f128 := Tryz.func183.trans (congrArg some (by kernel_rfl))
  f129 := Tryz.func184.trans (congrArg some (by kernel_rfl))
  t3 := Tryz.underlying3
  a3 := Tryz.isAgg3
  z3 := Tryz.sizeOf3
  v3 := Tryz.zeroValue3
  t4 := Tryz.underlying4
  a4 := Tryz.isAgg4
  z4 := Tryz.sizeOf4
  v4 := Tryz.zeroValue4
  t5 := Tryz.underlying5
  a5 := Tryz.isAgg5
  z5 := Tryz.sizeOf5
  v5 := Tryz.zeroValue5
  t9 := Tryz.underlying9
  a9 := Tryz.isAgg9
  z9 := Tryz.sizeOf9
  v9 := Tryz.zeroValue9
  t46 := Tryz.underlying153
  a46 := Tryz.isAgg153
  z46 := Tryz.sizeOf153
  v46 := Tryz.zeroValue153
  t51 := Tryz.underlying173
  a51 := Tryz.isAgg173
  z51 := Tryz.sizeOf173
  v51 := Tryz.zeroValue173
  t53 := Tryz.underlying151
  a53 := Tryz.isAgg151
  z53 := Tryz.sizeOf151
  v53 := Tryz.zeroValue151 }
/-- bits.Len: "Len returns the minimum number of bits required to represent x; the result is 0 for x == 0.": IT RETURNS 'Lib.bitLen x'; the world is as it was. (A uint has 64 bits in the model.) ITS CALLEE bits.Len64 IS MET BY ITS OWN CONTRACT OFF THE SHELF (lay that first). (LAID: no walk: one application.) -/
theorem Tryz.bits_Len (x : Int) (w : World) (h0 : 0 ≤ x) (h1 : x ≤ 18446744073709551615) :
    Calls Tryz.prog 160 #[.int .u64 x] w fun e w' => e = .returned (.int .i64 (Lib.bitLen x.toNat)) ∧ w' = w := Any.bits_Len Tryz.lays125 x w h0 h1
def Tryz.lays137_ren : Go.Shelf.Ren := ⟨fun | 137 => 222 | 217 => 226 | 266 => 227 | n => n, fun | 9 => 9 | 5 => 5 | 3 => 3 | n => n, fun | n => n⟩
theorem Tryz.lays137 : Go.Proofs.Lays.n137 Tryz.prog Tryz.lays137_ren := {
  mixed := by kernel_rfl
  f137 := Tryz.func222.trans (congrArg some (by kernel_rfl))
  f217 := Tryz.func226.trans (congrArg some (by kernel_rfl))
  f266 := Tryz.func227.trans (congrArg some (by kernel_rfl))
  t3 := Tryz.underlying3
  a3 := Tryz.isAgg3
  z3 := Tryz.sizeOf3
  v3 := Tryz.zeroValue3
  t5 := Tryz.underlying5
  a5 := Tryz.isAgg5
  z5 := Tryz.sizeOf5
  v5 := Tryz.zeroValue5
  t9 := Tryz.underlying9
  a9 := Tryz.isAgg9
  z9 := Tryz.sizeOf9
  v9 := Tryz.zeroValue9 }
open Go.RowKit in
/-- strings.IndexByte: "IndexByte returns the index of the first instance of c in s, or -1 if c is not present in s.": IT RETURNS 'Lib.indexByte s c'; the world is as it was. (LAID: no walk: one application.) -/
theorem Tryz.strings_IndexByte (s : ByteArray) (c : Int) (w : World) :
    Calls Tryz.prog 222 #[.string s, .int .u8 c] w fun e w' => e = .returned (.int .i64 (Lib.indexByte s.data.toList c.toNat.toUInt8)) ∧ w' = w := Any.strings_IndexByte Tryz.lays137 s c w
def Tryz.lays129_ren : Go.Shelf.Ren := ⟨fun | 129 => 184 | n => n, fun | 53 => 151 | 3 => 3 | 4 => 4 | 46 => 153 | 5 => 5 | 9 => 9 | n => n, fun | n => n⟩
theorem Tryz.lays129 : Go.Proofs.Lays.n129 Tryz.prog Tryz.lays129_ren := {
  mixed := by kernel_rfl
  f129 := Tryz.func184.trans (congrArg some (by kernel_rfl))
  t3 := Tryz.underlying3
  a3 := Tryz.isAgg3
  z3 := Tryz.sizeOf3
  v3 := Tryz.zeroValue3
  t4 := Tryz.underlying4
  a4 := Tryz.isAgg4
  z4 := Tryz.sizeOf4
  v4 := Tryz.zeroValue4
  t5 := Tryz.underlying5
  a5 := Tryz.isAgg5
  z5 := Tryz.sizeOf5
  v5 := Tryz.zeroValue5
  t9 := Tryz.underlying9
  a9 := Tryz.isAgg9
  z9 := Tryz.sizeOf9
  v9 := Tryz.zeroValue9
  t46 := Tryz.underlying153
  a46 := Tryz.isAgg153
  z46 := Tryz.sizeOf153
  v46 := Tryz.zeroValue153
  t53 := Tryz.underlying151
  a53 := Tryz.isAgg151
  z53 := Tryz.sizeOf151
  v53 := Tryz.zeroValue151 }
/-- bits.Len64: "Len64 returns the minimum number of bits required to represent x; the result is 0 for x == 0.": IT RETURNS 'Lib.bitLen x'; the world is as it was. ('h0', 'h1': x is a uint64.) (LAID: no walk: one application.) -/
theorem Tryz.bits_Len64 (x : Int) (w : World) (h0 : 0 ≤ x) (h1 : x ≤ 18446744073709551615) :
    Calls Tryz.prog 184 #[.int .u64 x] w fun e w' => e = .returned (.int .i64 (Lib.bitLen x.toNat)) ∧ w' = w := Any.bits_Len64 Tryz.lays129 x w h0 h1
def Tryz.lays217_ren : Go.Shelf.Ren := ⟨fun | 217 => 226 | 266 => 227 | n => n, fun | 9 => 9 | 5 => 5 | 3 => 3 | n => n, fun | n => n⟩
theorem Tryz.lays217 : Go.Proofs.Lays.n217 Tryz.prog Tryz.lays217_ren := {
  mixed := by kernel_rfl
  f217 := Tryz.func226.trans (congrArg some (by kernel_rfl))
  f266 := Tryz.func227.trans (congrArg some (by kernel_rfl))
  t3 := Tryz.underlying3
  a3 := Tryz.isAgg3
  z3 := Tryz.sizeOf3
  v3 := Tryz.zeroValue3
  t5 := Tryz.underlying5
  a5 := Tryz.isAgg5
  z5 := Tryz.sizeOf5
  v5 := Tryz.zeroValue5
  t9 := Tryz.underlying9
  a9 := Tryz.isAgg9
  z9 := Tryz.sizeOf9
  v9 := Tryz.zeroValue9 }
open Go.RowKit Go.Lib in
/-- internal/stringslite.IndexByte (what strings.IndexByte calls): IT RETURNS 'Lib.indexByte s c'; the world is as it was. (LAID: no walk: one application.) -/
theorem Tryz.stringslite_IndexByte (s : ByteArray) (c : Int) (w : World) :
    Calls Tryz.prog 226 #[.string s, .int .u8 c] w fun e w' => e = .returned (.int .i64 (Lib.indexByte s.data.toList c.toNat.toUInt8)) ∧ w' = w := Any.stringslite_IndexByte Tryz.lays217 s c w
def Tryz.lays224_ren : Go.Shelf.Ren := ⟨fun | 224 => 224 | n => n, fun | 3 => 3 | n => n, fun | n => n⟩
theorem Tryz.lays224 : Go.Proofs.Lays.n224 Tryz.prog Tryz.lays224_ren := {
  mixed := by kernel_rfl
  f224 := Tryz.func224.trans (congrArg some (by kernel_rfl))
  t3 := Tryz.underlying3
  a3 := Tryz.isAgg3
  z3 := Tryz.sizeOf3
  v3 := Tryz.zeroValue3 }
open Go.RowKit Go.Lib in
/-- internal/bytealg.Cutover: "Cutover reports the number of failures of IndexByte we should tolerate before switching over to Index. n is the number of bytes processed so far.": on amd64: (n + 16) / 8. (LAID: no walk: one application.) -/
theorem Tryz.bytealg_Cutover (n : Int) (h0 : 0 ≤ n) (h1 : n < 4611686018427387904) (w : World) :
    Calls Tryz.prog 224 #[.int .i64 n] w fun e w' => e = .returned (.int .i64 ((n + 16) / 8)) ∧ w' = w := Any.bytealg_Cutover Tryz.lays224 n h0 h1 w
def Tryz.lays206_ren : Go.Shelf.Ren := ⟨fun | 206 => 216 | n => n, fun | 9 => 9 | 4 => 4 | 3 => 3 | n => n, fun | n => n⟩
theorem Tryz.lays206 : Go.Proofs.Lays.n206 Tryz.prog Tryz.lays206_ren := {
  mixed := by kernel_rfl
  f206 := Tryz.func216.trans (congrArg some (by kernel_rfl))
  t3 := Tryz.underlying3
  a3 := Tryz.isAgg3
  z3 := Tryz.sizeOf3
  v3 := Tryz.zeroValue3
  t4 := Tryz.underlying4
  a4 := Tryz.isAgg4
  z4 := Tryz.sizeOf4
  v4 := Tryz.zeroValue4
  t9 := Tryz.underlying9
  a9 := Tryz.isAgg9
  z9 := Tryz.sizeOf9
  v9 := Tryz.zeroValue9 }
open Go.RowKit Go.Lib in
/-- internal/stringslite.HasPrefix (what strings.HasPrefix calls). (LAID: no walk: one application.) -/
theorem Tryz.stringslite_HasPrefix (s p : ByteArray) (w : World) :
    Calls Tryz.prog 216 #[.string s, .string p] w fun e w' => e = .returned (.bool (Lib.hasPrefix s.data.toList p.data.toList)) ∧ w' = w := Any.stringslite_HasPrefix Tryz.lays206 s p w
def Tryz.lays99_ren : Go.Shelf.Ren := ⟨fun | 99 => 205 | 206 => 216 | n => n, fun | 9 => 9 | 4 => 4 | 3 => 3 | n => n, fun | n => n⟩
theorem Tryz.lays99 : Go.Proofs.Lays.n99 Tryz.prog Tryz.lays99_ren := {
  mixed := by kernel_rfl
  f99 := Tryz.func205.trans (congrArg some (by kernel_rfl))
  f206 := Tryz.func216.trans (congrArg some (by kernel_rfl))
  t3 := Tryz.underlying3
  a3 := Tryz.isAgg3
  z3 := Tryz.sizeOf3
  v3 := Tryz.zeroValue3
  t4 := Tryz.underlying4
  a4 := Tryz.isAgg4
  z4 := Tryz.sizeOf4
  v4 := Tryz.zeroValue4
  t9 := Tryz.underlying9
  a9 := Tryz.isAgg9
  z9 := Tryz.sizeOf9
  v9 := Tryz.zeroValue9 }
open Go.RowKit Go.Lib in
/-- strings.HasPrefix: "HasPrefix reports whether the string s begins with prefix.": IT RETURNS 'Lib.hasPrefix s prefix'; the world is as it was. (LAID: no walk: one application.) -/
theorem Tryz.strings_HasPrefix (s p : ByteArray) (w : World) :
    Calls Tryz.prog 205 #[.string s, .string p] w fun e w' => e = .returned (.bool (Lib.hasPrefix s.data.toList p.data.toList)) ∧ w' = w := Any.strings_HasPrefix Tryz.lays99 s p w
def Tryz.lays152_ren : Go.Shelf.Ren := ⟨fun | 152 => 219 | 137 => 222 | 119 => 223 | 224 => 224 | 225 => 225 | 217 => 226 | 266 => 227 | n => n, fun | 9 => 9 | 21 => 21 | 3 => 3 | 4 => 4 | 5 => 5 | 0 => 0 | 46 => 153 | n => n, fun | n => n⟩
theorem Tryz.lays152 : Go.Proofs.Lays.n152 Tryz.prog Tryz.lays152_ren := {
  mixed := by kernel_rfl
  f119 := Tryz.func223.trans (congrArg some (by kernel_rfl))
  f137 := Tryz.func222.trans (congrArg some (by kernel_rfl))
  f152 := Tryz.func219.trans (congrArg some (by kernel_rfl))
  f217 := Tryz.func226.trans (congrArg some (by kernel_rfl))
  f224 := Tryz.func224.trans (congrArg some (by kernel_rfl))
  f225 := Tryz.func225.trans (congrArg some (by kernel_rfl))
  f266 := Tryz.func227.trans (congrArg some (by kernel_rfl))
  t0 := Tryz.underlying0
  a0 := Tryz.isAgg0
  z0 := Tryz.sizeOf0
  v0 := Tryz.zeroValue0
  t3 := Tryz.underlying3
  a3 := Tryz.isAgg3
  z3 := Tryz.sizeOf3
  v3 := Tryz.zeroValue3
  t4 := Tryz.underlying4
  a4 := Tryz.isAgg4
  z4 := Tryz.sizeOf4
  v4 := Tryz.zeroValue4
  t5 := Tryz.underlying5
  a5 := Tryz.isAgg5
  z5 := Tryz.sizeOf5
  v5 := Tryz.zeroValue5
  t9 := Tryz.underlying9
  a9 := Tryz.isAgg9
  z9 := Tryz.sizeOf9
  v9 := Tryz.zeroValue9
  t21 := Tryz.underlying21
  a21 := Tryz.isAgg21
  z21 := Tryz.sizeOf21
  v21 := Tryz.zeroValue21
  t46 := Tryz.underlying153
  a46 := Tryz.isAgg153
  z46 := Tryz.sizeOf153
  v46 := Tryz.zeroValue153 }
open Go.RowKit Go.Lib in
theorem Tryz.strings_IndexRune_ascii (s : ByteArray) (r : Int) (w : World) (h0 : 0 ≤ r) (h1 : r < 128) :
    Calls Tryz.prog 219 #[.string s, .int .i32 r] w fun e w' => e = .returned (.int .i64 (Lib.indexByte s.data.toList r.toNat.toUInt8)) ∧ w' = w := Any.strings_IndexRune_ascii Tryz.lays152 s r w h0 h1
def Tryz.lays151_ren : Go.Shelf.Ren := ⟨fun | 151 => 211 | 152 => 219 | 137 => 222 | 119 => 223 | 224 => 224 | 225 => 225 | 217 => 226 | 266 => 227 | n => n, fun | 9 => 9 | 21 => 21 | 4 => 4 | 3 => 3 | 5 => 5 | 0 => 0 | 46 => 153 | n => n, fun | n => n⟩
theorem Tryz.lays151 : Go.Proofs.Lays.n151 Tryz.prog Tryz.lays151_ren := {
  mixed := by kernel_rfl
  f119 := Tryz.func223.trans (congrArg some (by kernel_rfl))
  f137 := Tryz.func222.trans (congrArg some (by kernel_rfl))
  f151 := Tryz.func211.trans (congrArg some (by kernel_rfl))
  f152 := Tryz.func219.trans (congrArg some (by kernel_rfl))
  f217 := Tryz.func226.trans (congrArg some (by kernel_rfl))
  f224 := Tryz.func224.trans (congrArg some (by kernel_rfl))
  f225 := Tryz.func225.trans (congrArg some (by kernel_rfl))
  f266 := Tryz.func227.trans (congrArg some (by kernel_rfl))
  t0 := Tryz.underlying0
  a0 := Tryz.isAgg0
  z0 := Tryz.sizeOf0
  v0 := Tryz.zeroValue0
  t3 := Tryz.underlying3
  a3 := Tryz.isAgg3
  z3 := Tryz.sizeOf3
  v3 := Tryz.zeroValue3
  t4 := Tryz.underlying4
  a4 := Tryz.isAgg4
  z4 := Tryz.sizeOf4
  v4 := Tryz.zeroValue4
  t5 := Tryz.underlying5
  a5 := Tryz.isAgg5
  z5 := Tryz.sizeOf5
  v5 := Tryz.zeroValue5
  t9 := Tryz.underlying9
  a9 := Tryz.isAgg9
  z9 := Tryz.sizeOf9
  v9 := Tryz.zeroValue9
  t21 := Tryz.underlying21
  a21 := Tryz.isAgg21
  z21 := Tryz.sizeOf21
  v21 := Tryz.zeroValue21
  t46 := Tryz.underlying153
  a46 := Tryz.isAgg153
  z46 := Tryz.sizeOf153
  v46 := Tryz.zeroValue153 }
open Go.RowKit Go.Lib in
theorem Tryz.strings_ContainsRune_ascii (s : ByteArray) (r : Int) (w : World) (h0 : 0 ≤ r) (h1 : r < 128) :
    Calls Tryz.prog 211 #[.string s, .int .i32 r] w fun e w' => e = .returned (.bool (decide (0 ≤ Lib.indexByte s.data.toList r.toNat.toUInt8))) ∧ w' = w := Any.strings_ContainsRune_ascii Tryz.lays151 s r w h0 h1
def Tryz.lays227_ren : Go.Shelf.Ren := ⟨fun | 227 => 198 | n => n, fun | 9 => 9 | 116 => 195 | 4 => 4 | 0 => 0 | 3 => 3 | 5 => 5 | n => n, fun | n => n⟩
theorem Tryz.lays227 : Go.Proofs.Lays.n227 Tryz.prog Tryz.lays227_ren := {
  mixed := by kernel_rfl
  f227 := Tryz.func198.trans (congrArg some (by kernel_rfl))
  t0 := Tryz.underlying0
  a0 := Tryz.isAgg0
  z0 := Tryz.sizeOf0
  v0 := Tryz.zeroValue0
  t3 := Tryz.underlying3
  a3 := Tryz.isAgg3
  z3 := Tryz.sizeOf3
  v3 := Tryz.zeroValue3
  t4 := Tryz.underlying4
  a4 := Tryz.isAgg4
  z4 := Tryz.sizeOf4
  v4 := Tryz.zeroValue4
  t5 := Tryz.underlying5
  a5 := Tryz.isAgg5
  z5 := Tryz.sizeOf5
  v5 := Tryz.zeroValue5
  t9 := Tryz.underlying9
  a9 := Tryz.isAgg9
  z9 := Tryz.sizeOf9
  v9 := Tryz.zeroValue9
  t116 := Tryz.underlying195
  a116 := Tryz.isAgg195
  z116 := Tryz.sizeOf195 }
open Go.RowKit Go.Lib in
theorem Tryz.strings_makeASCIISet (hv116 : ∀ w, (zeroValue 195).run Tryz.prog w = .ok (.agg (Array.replicate 256 (.bool false))) w) (chars : ByteArray) (w : World) (hs : chars.size < 4294967281) (hascii : ∀ (j : Nat) b, chars.data.toList[j]? = some b → b.toNat < 128) :
    Calls Tryz.prog 198 #[.string chars] w fun e w' => e = .returned (.tuple #[.agg (Lib.setCells chars.data.toList), .bool true]) ∧ w' = w.alloc (.cells (Lib.setCells chars.data.toList) 195) := Any.strings_makeASCIISet Tryz.lays227 hv116 (by kernel_rfl) chars w hs hascii
def Tryz.lays228_ren : Go.Shelf.Ren := ⟨fun | 228 => 209 | n => n, fun | 124 => 199 | 5 => 5 | 4 => 4 | 0 => 0 | 116 => 195 | n => n, fun | n => n⟩
theorem Tryz.lays228 : Go.Proofs.Lays.n228 Tryz.prog Tryz.lays228_ren := {
  mixed := by kernel_rfl
  f228 := Tryz.func209.trans (congrArg some (by kernel_rfl))
  t0 := Tryz.underlying0
  a0 := Tryz.isAgg0
  z0 := Tryz.sizeOf0
  v0 := Tryz.zeroValue0
  t4 := Tryz.underlying4
  a4 := Tryz.isAgg4
  z4 := Tryz.sizeOf4
  v4 := Tryz.zeroValue4
  t5 := Tryz.underlying5
  a5 := Tryz.isAgg5
  z5 := Tryz.sizeOf5
  v5 := Tryz.zeroValue5
  t116 := Tryz.underlying195
  a116 := Tryz.isAgg195
  z116 := Tryz.sizeOf195
  t124 := Tryz.underlying199
  a124 := Tryz.isAgg199
  z124 := Tryz.sizeOf199
  v124 := Tryz.zeroValue199 }
open Go.RowKit Go.Lib in
/-- '(as *asciiSet) contains(c)': 'as[c]': the set lies at block b, whole. (LAID: no walk: one application.) -/
theorem Tryz.asciiSet_contains (b : Nat) (x : UInt8) (v : Bool) (w : World) (hc : w.cell? ⟨b, x.toNat, none⟩ = some (.bool v)) :
    Calls Tryz.prog 209 #[.pointer (some ⟨b, 0, none⟩), .int .u8 x.toNat] w fun e w' => e = .returned (.bool v) ∧ w' = w := Any.asciiSet_contains Tryz.lays228 b x v w hc
def Tryz.lays264_ren : Go.Shelf.Ren := ⟨fun | 264 => 215 | n => n, fun | 53 => 151 | 46 => 153 | n => n, fun | n => n⟩
theorem Tryz.lays264 : Go.Proofs.Lays.n264 Tryz.prog Tryz.lays264_ren := {
  mixed := by kernel_rfl
  f264 := Tryz.func215.trans (congrArg some (by kernel_rfl))
  t46 := Tryz.underlying153
  a46 := Tryz.isAgg153
  z46 := Tryz.sizeOf153
  v46 := Tryz.zeroValue153
  t53 := Tryz.underlying151
  a53 := Tryz.isAgg151
  z53 := Tryz.sizeOf151
  v53 := Tryz.zeroValue151 }
open Go.RowKit Go.Lib in
theorem Tryz.bits_Mul64 (x y : Nat) (hx : x < 18446744073709551616) (hy : y < 18446744073709551616) (w : World) :
    Calls Tryz.prog 215 #[.int .u64 x, .int .u64 y] w fun e w' => e = .returned (.tuple #[.int .u64 ((x * y / 18446744073709551616 : Nat) : Int), .int .u64 ((x * y % 18446744073709551616 : Nat) : Int)]) ∧ w' = w := Any.bits_Mul64 Tryz.lays264 x y hx hy w
def Tryz.lays212_ren : Go.Shelf.Ren := ⟨fun | 212 => 204 | 263 => 214 | 264 => 215 | n => n, fun | 46 => 153 | 51 => 173 | 146 => 212 | 53 => 151 | 148 => 214 | n => n, fun | n => n⟩
theorem Tryz.lays212 : Go.Proofs.Lays.n212 Tryz.prog Tryz.lays212_ren := {
  mixed := by kernel_rfl
  f212 := Tryz.func204.trans (congrArg some (by kernel_rfl))
  f263 := Tryz.func214.trans (congrArg some (by kernel_rfl))
  f264 := Tryz.func215.trans (congrArg some (by kernel_rfl))
  t46 := Tryz.underlying153
  a46 := Tryz.isAgg153
  z46 := Tryz.sizeOf153
  v46 := Tryz.zeroValue153
  t51 := Tryz.underlying173
  a51 := Tryz.isAgg173
  z51 := Tryz.sizeOf173
  v51 := Tryz.zeroValue173
  t53 := Tryz.underlying151
  a53 := Tryz.isAgg151
  z53 := Tryz.sizeOf151
  v53 := Tryz.zeroValue151
  t146 := Tryz.underlying212
  a146 := Tryz.isAgg212
  z146 := Tryz.sizeOf212
  v146 := Tryz.zeroValue212
  t148 := Tryz.underlying214
  a148 := Tryz.isAgg214
  z148 := Tryz.sizeOf214
  v148 := Tryz.zeroValue214 }
open Go.RowKit Go.Lib in
/-- math/bits.Mul: "Mul returns the full-width product of x and y": on a machine of 64 bits: Mul64's. (LAID: no walk: one application.) -/
theorem Tryz.bits_Mul (x y : Nat) (hx : x < 18446744073709551616) (hy : y < 18446744073709551616) (w : World) :
    Calls Tryz.prog 204 #[.int .u64 x, .int .u64 y] w fun e w' => e = .returned (.tuple #[.int .u64 ((x * y / 18446744073709551616 : Nat) : Int), .int .u64 ((x * y % 18446744073709551616 : Nat) : Int)]) ∧ w' = w := Any.bits_Mul Tryz.lays212 x y hx hy w
def Tryz.lays105_ren : Go.Shelf.Ren := ⟨fun | 105 => 190 | 212 => 204 | 99 => 205 | 165 => 206 | 166 => 113 | 170 => 207 | 169 => 115 | 263 => 214 | 264 => 215 | 206 => 216 | 240 => 149 | 241 => 217 | 276 => 167 | 277 => 221 | n => n, fun | 9 => 9 | 3 => 3 | 4 => 4 | 20 => 20 | 0 => 0 | 46 => 153 | 109 => 200 | 5 => 5 | 72 => 134 | 76 => 137 | 51 => 173 | 146 => 212 | 53 => 151 | 148 => 214 | 70 => 132 | 37 => 22 | 75 => 136 | 127 => 157 | 164 => 167 | 80 => 91 | n => n, fun | n => n⟩
theorem Tryz.lays105 : Go.Proofs.Lays.n105 Tryz.prog Tryz.lays105_ren := {
  mixed := by kernel_rfl
  f99 := Tryz.func205.trans (congrArg some (by kernel_rfl))
  f105 := Tryz.func190.trans (congrArg some (by kernel_rfl))
  f165 := Tryz.func206.trans (congrArg some (by kernel_rfl))
  f166 := Tryz.func113.trans (congrArg some (by kernel_rfl))
  f169 := Tryz.func115.trans (congrArg some (by kernel_rfl))
  f170 := Tryz.func207.trans (congrArg some (by kernel_rfl))
  f206 := Tryz.func216.trans (congrArg some (by kernel_rfl))
  f212 := Tryz.func204.trans (congrArg some (by kernel_rfl))
  f240 := Tryz.func149.trans (congrArg some (by kernel_rfl))
  f241 := Tryz.func217.trans (congrArg some (by kernel_rfl))
  f263 := Tryz.func214.trans (congrArg some (by kernel_rfl))
  f264 := Tryz.func215.trans (congrArg some (by kernel_rfl))
  f276 := Tryz.func167.trans (congrArg some (by kernel_rfl))
  f277 := Tryz.func221.trans (congrArg some (by kernel_rfl))
  t0 := Tryz.underlying0
  a0 := Tryz.isAgg0
  z0 := Tryz.sizeOf0
  v0 := Tryz.zeroValue0
  t3 := Tryz.underlying3
  a3 := Tryz.isAgg3
  z3 := Tryz.sizeOf3
  v3 := Tryz.zeroValue3
  t4 := Tryz.underlying4
  a4 := Tryz.isAgg4
  z4 := Tryz.sizeOf4
  v4 := Tryz.zeroValue4
  t5 := Tryz.underlying5
  a5 := Tryz.isAgg5
  z5 := Tryz.sizeOf5
  v5 := Tryz.zeroValue5
  t9 := Tryz.underlying9
  a9 := Tryz.isAgg9
  z9 := Tryz.sizeOf9
  v9 := Tryz.zeroValue9
  t20 := Tryz.underlying20
  a20 := Tryz.isAgg20
  z20 := Tryz.sizeOf20
  v20 := Tryz.zeroValue20
  t37 := Tryz.underlying22
  a37 := Tryz.isAgg22
  z37 := Tryz.sizeOf22
  v37 := Tryz.zeroValue22
  t46 := Tryz.underlying153
  a46 := Tryz.isAgg153
  z46 := Tryz.sizeOf153
  v46 := Tryz.zeroValue153
  t51 := Tryz.underlying173
  a51 := Tryz.isAgg173
  z51 := Tryz.sizeOf173
  v51 := Tryz.zeroValue173
  t53 := Tryz.underlying151
  a53 := Tryz.isAgg151
  z53 := Tryz.sizeOf151
  v53 := Tryz.zeroValue151
  t70 := Tryz.underlying132
  a70 := Tryz.isAgg132
  z70 := Tryz.sizeOf132
  v70 := Tryz.zeroValue132
  t72 := Tryz.underlying134
  a72 := Tryz.isAgg134
  z72 := Tryz.sizeOf134
  v72 := Tryz.zeroValue134
  t75 := Tryz.underlying136
  a75 := Tryz.isAgg136
  z75 := Tryz.sizeOf136
  v75 := Tryz.zeroValue136
  t76 := Tryz.underlying137
  a76 := Tryz.isAgg137
  z76 := Tryz.sizeOf137
  v76 := Tryz.zeroValue137
  t109 := Tryz.underlying200
  a109 := Tryz.isAgg200
  z109 := Tryz.sizeOf200
  v109 := Tryz.zeroValue200
  t127 := Tryz.underlying157
  a127 := Tryz.isAgg157
  z127 := Tryz.sizeOf157
  v127 := Tryz.zeroValue157
  t146 := Tryz.underlying212
  a146 := Tryz.isAgg212
  z146 := Tryz.sizeOf212
  v146 := Tryz.zeroValue212
  t148 := Tryz.underlying214
  a148 := Tryz.isAgg214
  z148 := Tryz.sizeOf214
  v148 := Tryz.zeroValue214
  t164 := Tryz.underlying167
  a164 := Tryz.isAgg167
  z164 := Tryz.sizeOf167
  v164 := Tryz.zeroValue167 }
theorem Tryz.Builder_Extra_105 : Builder.Extra Tryz.prog Tryz.lays105_ren := {
  sizeBuilder := by kernel_rfl
  liesBuilder := by kernel_rfl
  t5 := Tryz.underlying5
  a5 := Tryz.isAgg5
  z5 := Tryz.sizeOf5
  v5 := Tryz.zeroValue5
  infoByte := by kernel_rfl
  cellsByte := by kernel_rfl
  sizeByte := by kernel_rfl
  neB5 := by decide }
open Go.RowKit Go.Lib in
/-- THE MAIN CASE: at least two copies of a string that is not empty. (LAID: no walk: one application.) -/
theorem Tryz.strings_Repeat_main (s : ByteArray) (c : Nat) (w : World) (hc2 : 2 ≤ c) (hc : c ≤ 9223372036854775807) (hlen : s.size * c ≤ 140737488355328) (h0 : 0 < s.size) :
    Calls Tryz.prog 190 #[.string s, .int .i64 c] w fun e w' => e = .returned (.string ⟨(Lib.repeatL s.data.toList c).toArray⟩) ∧ Below w.heap.size w w' := Any.strings_Repeat_main Tryz.lays105 Tryz.Builder_Extra_105 s c w hc2 hc hlen h0
open Go.RowKit Go.Lib in
theorem Tryz.strings_Repeat_zero (s : ByteArray) (w : World) :
    Calls Tryz.prog 190 #[.string s, .int .i64 0] w fun e w' => e = .returned (.string ⟨#[]⟩) ∧ w' = w := Any.strings_Repeat_zero Tryz.lays105 s w
open Go.RowKit Go.Lib in
theorem Tryz.strings_Repeat_one (s : ByteArray) (w : World) :
    Calls Tryz.prog 190 #[.string s, .int .i64 1] w fun e w' => e = .returned (.string s) ∧ w' = w := Any.strings_Repeat_one Tryz.lays105 s w
open Go.RowKit Go.Lib in
/-- Copies of the empty string. (LAID: no walk: one application.) -/
theorem Tryz.strings_Repeat_empty (s : ByteArray) (c : Nat) (w : World) (hc2 : 2 ≤ c) (hc : c ≤ 9223372036854775807) (h0 : s.size = 0) :
    Calls Tryz.prog 190 #[.string s, .int .i64 c] w fun e w' => e = .returned (.string ⟨#[]⟩) ∧ w' = w := Any.strings_Repeat_empty Tryz.lays105 s c w hc2 hc h0
open Go.RowKit Go.Lib in
/-- count < 0: "It panics if count is negative". (LAID: no walk: one application.) -/
theorem Tryz.strings_Repeat_negative (s : ByteArray) (c : Int) (w : World) (hc : c < 0) :
    Calls Tryz.prog 190 #[.string s, .int .i64 c] w fun e w' => e = .panicked [{ v := repeatPanic Tryz.lays105_ren "strings: negative Repeat count", recovered := false }] ∧ w' = w := Any.strings_Repeat_negative Tryz.lays105 s c w hc
open Go.RowKit Go.Lib in
/-- len(s) * count is no int: ".. or if the result of (len(s) * count) overflows". (LAID: no walk: one application.) -/
theorem Tryz.strings_Repeat_overflow (s : ByteArray) (c : Nat) (w : World) (hc : c ≤ 9223372036854775807) (hs : s.size ≤ 9223372036854775807) (hbig : 9223372036854775807 < s.size * c) :
    Calls Tryz.prog 190 #[.string s, .int .i64 c] w fun e w' => e = .panicked [{ v := repeatPanic Tryz.lays105_ren "strings: Repeat output length overflow", recovered := false }] ∧ w' = w := Any.strings_Repeat_overflow Tryz.lays105 s c w hc hs hbig
open Go.RowKit Go.Lib in
/-- **strings.Repeat: count ≥ 0, the result within one allocation: count copies of s.** (LAID: no walk: one application.) -/
theorem Tryz.strings_Repeat (s : ByteArray) (c : Nat) (w : World) (hc : c ≤ 9223372036854775807) (hlen : s.size * c ≤ 140737488355328) :
    Calls Tryz.prog 190 #[.string s, .int .i64 c] w fun e w' => e = .returned (.string ⟨(Lib.repeatL s.data.toList c).toArray⟩) ∧ Below w.heap.size w w' := Any.strings_Repeat Tryz.lays105 Tryz.Builder_Extra_105 s c w hc hlen
def Tryz.lays260_ren : Go.Shelf.Ren := ⟨fun | 260 => 218 | n => n, fun | 9 => 9 | 21 => 21 | 3 => 3 | 4 => 4 | 5 => 5 | 119 => 218 | 0 => 0 | 46 => 153 | 139 => 221 | 138 => 220 | n => n, fun | 3 => 0 | 4 => 1 | n => n⟩
theorem Tryz.lays260 : Go.Proofs.Lays.n260 Tryz.prog Tryz.lays260_ren := {
  mixed := by kernel_rfl
  f260 := Tryz.func218.trans (congrArg some (by kernel_rfl))
  t0 := Tryz.underlying0
  a0 := Tryz.isAgg0
  z0 := Tryz.sizeOf0
  v0 := Tryz.zeroValue0
  t3 := Tryz.underlying3
  a3 := Tryz.isAgg3
  z3 := Tryz.sizeOf3
  v3 := Tryz.zeroValue3
  t4 := Tryz.underlying4
  a4 := Tryz.isAgg4
  z4 := Tryz.sizeOf4
  v4 := Tryz.zeroValue4
  t5 := Tryz.underlying5
  a5 := Tryz.isAgg5
  z5 := Tryz.sizeOf5
  v5 := Tryz.zeroValue5
  t9 := Tryz.underlying9
  a9 := Tryz.isAgg9
  z9 := Tryz.sizeOf9
  v9 := Tryz.zeroValue9
  t21 := Tryz.underlying21
  a21 := Tryz.isAgg21
  z21 := Tryz.sizeOf21
  v21 := Tryz.zeroValue21
  t46 := Tryz.underlying153
  a46 := Tryz.isAgg153
  z46 := Tryz.sizeOf153
  v46 := Tryz.zeroValue153
  t119 := Tryz.underlying218
  a119 := Tryz.isAgg218
  z119 := Tryz.sizeOf218
  t138 := Tryz.underlying220
  a138 := Tryz.isAgg220
  z138 := Tryz.sizeOf220
  v138 := Tryz.zeroValue220
  t139 := Tryz.underlying221
  a139 := Tryz.isAgg221
  z139 := Tryz.sizeOf221
  v139 := Tryz.zeroValue221
  g3 := by kernel_rfl
  g4 := by kernel_rfl }
open Go.RowKit Go.Lib in
theorem Tryz.utf8_decodeRuneInStringSlow (s : ByteArray) (w : World) (hT : Lib.Utf8Tabs 0 1 w) :
    Calls Tryz.prog 218 #[.string s] w fun e w' => e = .returned (.tuple #[.int .i32 (Lib.decodeGo s).1, .int .i64 (Lib.decodeGo s).2]) ∧ Below w.heap.size w w' := Any.utf8_decodeRuneInStringSlow Tryz.lays260 s w hT
end Go.Proofs
namespace Go.Proofs.YtmciidoohbmipaaGreatDoor.Abs
open Go Go.RowKit
set_option linter.unusedVariables false
set_option linter.unusedSectionVars false
set_option linter.unusedSimpArgs false

/-- The operation, for the walk. -/
theorem wpList_append_str {P : Program} {w : World} {ops : Array Oper} {rest : List Oper} {o : Oper} {a : Act} {Q : Exit → Act → World → Prop} (hgd : o.guard = none) (sl x : Operand) (t u : TypeId)
    (ho : o.op = .call { callee := .builtin .append, args := #[sl, x], argTypes := #[t, u] })
    (e : TypeId) (i : TypeInfo) (ht : P.underlying t = some (.slice e)) (hu : P.underlying u = some .string) (hi : P.info? e = some i) (hz : i.zero = some (.int .u8 0)) (hsize : i.size = 1) (hby : i.bytes = 1)
    (v : Value) (n : Nat) (xs : List Value) (hs : a.eval sl = v) (hown : w.ownsRow 0 e 1 v n xs) (s : ByteArray) (hx : a.eval x = .string s) (hbytes : n + s.size ≤ 140737488355328)
    (h : ∀ v' w', w'.ownsRow 0 e 1 v' (n + s.size) (xs ++ Lib.strCells s) → w.grownBy w' v.ownBlock → (v'.ownBlock = v.ownBlock ∨ ∀ g, v'.ownBlock = some g → w.heap.size ≤ g) → wpList P ops Q rest (a.put o.dst v') w') : wpList P ops Q (o :: rest) a w := by
  refine wpList_plain hgd fun K hK => ?_
  obtain ⟨v', w', hr, h2, h3, h4⟩ := run_append_str (P := P) (w := w) t u o.type e i ht hu hi hz hsize hby v n xs hown s hbytes
  unfold Oper.wp execOp
  simp only [ho, resolve, invoke, builtin, Sem.run_bind, Sem.run_pure, Result.andThen_ok, List.map_toArray, List.map_cons, List.map_nil, hs, hx, hr]
  exact hK _ _ (h v' w' h2 h3 h4)

def bytesU (l : List Int) : List UInt8 := l.map fun n => UInt8.ofNat n.toNat
theorem bytesU_back : (l : List Int) → okB l = true → (bytesU l).map (fun b => (b.toNat : Int)) = l
  | [], _ => rfl
  | x :: l, h => by
    unfold okB at h
    simp only [List.all_cons, Bool.and_eq_true, decide_eq_true_eq] at h
    have ih := bytesU_back l h.2
    have hx : x.toNat < 256 := by omega
    unfold bytesU at ih ⊢
    simp only [List.map_cons, ih]
    congr 1
    rw [UInt8.toNat_ofNat', Nat.mod_eq_of_lt hx]
    omega
theorem els_u8 {M : Nat → Prop} {w : World} : {l : List Int} → {xs : List Value} → Els (Ty.KR M w (.int .u8)) l xs → xs = l.map (Value.int .u8)
  | [], _, h => h
  | x :: l, _, ⟨c, r, e, hc, hr⟩ => by
    have hc : c = [.int .u8 x] := hc
    rw [e, hc, els_u8 hr]
    rfl

section
variable {P : Program} {f : FuncId} {T e : TypeId}

def writeX (T e : TypeId) (r : List Int × Int) : AV × List HE := (.tup [.v (.int .i64 r.2), .v .nilIface], [.bld T (.own 2), .gone, .row e (.int .u8) r.1])

theorem sound_write {pat : Nat → List AV → List HE → Option (Option (List Int × Int))}
    (hpat : ∀ k avs H o x, pat k avs H = some o → o = some x → ∃ (l : List Int) (s : ByteArray), avs = [.box 0 0, .v (.string s)] ∧ H = [.bld T (.own 1), .row e (.int .u8) l] ∧ l.length + s.size ≤ 140737488355328 ∧ x = (l ++ numsOf s, (s.size : Int)))
    (h : ∀ (b : Nat) (p v : Value) (n : Nat) (xs : List Value) (s : ByteArray) (w : World), w.heap[b]? = some (.cells #[p, v] T (0, 0)) → (p = .pointer none ∨ p = .pointer (some ⟨b, 0, none⟩)) → w.ownsRow 0 e 1 v n xs → v.ownBlock ≠ some b → n + s.size ≤ 140737488355328 →
      Calls P f #[.pointer (some ⟨b, 0, none⟩), .string s] w fun en w' => en = .returned (.tuple #[.int .i64 s.size, .nilIface]) ∧ ∃ v', w'.heap[b]? = some (.cells #[.pointer (some ⟨b, 0, none⟩), v'] T (0, 0)) ∧ w'.ownsRow 0 e 1 v' (n + s.size) (xs ++ Lib.strCells s) ∧ Off (fun x => x = b ∨ v.ownBlock = some x) w w' ∧ (v'.ownBlock = v.ownBlock ∨ ∀ g, v'.ownBlock = some g → w.heap.size ≤ g)) :
    Sound P f (mkS [.bld T (.row e (.int .u8)), .val] pat (writeX T e)) := by
  intro k avs H c x hc hx MX w ρ vals hst
  unfold mkS at hc
  simp only at hc
  split at hc
  case h_2 => cases hc
  rename_i o ho
  injection hc with hc
  subst hc
  obtain ⟨l, s, rfl, rfl, hl, rfl⟩ := hpat k avs H o x ho hx
  obtain ⟨y0, q0, rfl, ⟨_, g, o0, hr0, rfl⟩, y1, q1, rfl, hy1, hq1⟩ := hst.args
  obtain rfl : q1 = [] := hq1
  obtain rfl : y1 = .string s := hy1
  have ok0 := hst.rel.ok 0
  have ok1 := hst.rel.ok 1
  obtain ⟨g', p, v, a1, a2, a3, ⟨_, rfl, A0, n0, c0, hv⟩⟩ := (show HEok _ w ρ _ 0 (.bld T (.own 1)) from ok0)
  obtain ⟨xs, b1, b2⟩ := (show HEok _ w ρ _ 1 (.row e (.int .u8) l) from ok1)
  rw [hr0] at a1
  injection a1 with a1
  injection a1 with a1
  injection a1 with e1 e2
  subst e1 e2
  have live0 : live (hpOf [.bld T (.own 1), .row e (.int .u8) l] 0) := trivial
  have live1 : live (hpOf [.bld T (.own 1), .row e (.int .u8) l] 1) := trivial
  have blk0 : blk (ρ 0) = some g := by rw [hr0]; rfl
  have blk1 : blk (ρ 1) = (ρ 1).ownBlock := blk_own ⟨A0, n0, c0, hv⟩
  have hne : (ρ 1).ownBlock ≠ some g := fun e => by
    have := hst.rel.sep 0 1 g live0 live1 blk0 (by rw [blk1]; exact e)
    omega
  have hglt : g < w.heap.size := (Array.getElem?_eq_some_iff.1 a2).1
  refine (h g p (ρ 1) l.length xs s w a2 a3 b1 hne hl).mono ?_
  rintro en w' ⟨rfl, v', d1, d2, d3, d4⟩
  have hv' : ∃ A n c, v' = .slice A n c := by
    rcases d2.2 with ⟨h2, _⟩ | ⟨g2, cap, cur, h2, _⟩
    · exact ⟨_, _, _, h2⟩
    · exact ⟨_, _, _, h2⟩
  have blk2 : blk v' = v'.ownBlock := blk_own hv'
  have hnl := numsOf_length s
  have cl : ∀ i, live (hpOf (writeX T e (l ++ numsOf s, (s.size : Int))).2 i) → (i = 0 ∧ blk (upd ρ 2 v' i) = some g) ∨ (i = 2 ∧ blk (upd ρ 2 v' i) = v'.ownBlock) := by
    intro i hi
    cases i with
    | zero => exact .inl ⟨rfl, by rw [upd_ne _ _ (by decide)]; exact blk0⟩
    | succ i => cases i with
      | zero => exact hi.elim
      | succ i => cases i with
        | zero => exact .inr ⟨rfl, by rw [show (0 + 1 + 1) = 2 from rfl, upd_same]; exact blk2⟩
        | succ i => simp [writeX, hpOf, live] at hi
  have hnew : ∀ b, v'.ownBlock = some b → b < w.heap.size → (ρ 1).ownBlock = some b := by
    intro b hb hlt
    rcases d4 with h4 | h4
    · rw [← h4]; exact hb
    · have := h4 b hb; omega
  refine ⟨_, upd ρ 2 v', rfl, Left.of hst (fun i => ?_) (fun i j b hi hj hbi hbj => ?_) (fun i b hi hbi hm => ?_) ?_ (fun i hi => ?_) ?_ (fun b hb ⟨i, hi, hbi⟩ => ?_) (fun i cs hi => ?_)⟩
  · cases i with
    | zero => exact ⟨g, _, v', by rw [upd_ne _ _ (by decide)]; exact hr0, d1, .inr rfl, by simp [writeX, hpOf], by rw [upd_same], hv'⟩
    | succ i => cases i with
      | zero => trivial
      | succ i => cases i with
        | zero =>
          refine ⟨xs ++ Lib.strCells s, ?_, Els.append (Els.imp (fun _ _ h => h) b2) (strCells_els s)⟩
          rw [show (0 + 1 + 1) = 2 from rfl, upd_same]
          have e1 : (l ++ numsOf s).length = l.length + s.size := by rw [List.length_append, hnl]
          show w'.ownsRow 0 e 1 v' (l ++ numsOf s).length _
          rw [e1]
          exact d2
        | succ i => simp [writeX, hpOf, HEok]
  · rcases cl i hi with ⟨rfl, h1⟩ | ⟨rfl, h1⟩ <;> rcases cl j hj with ⟨rfl, h2⟩ | ⟨rfl, h2⟩
    · rfl
    · rw [h1] at hbi
      injection hbi with hbi
      subst hbi
      rw [h2] at hbj
      exact absurd (hnew g hbj hglt) hne
    · rw [h2] at hbj
      injection hbj with hbj
      subst hbj
      rw [h1] at hbi
      exact absurd (hnew g hbi hglt) hne
    · rfl
  · rcases cl i hi with ⟨rfl, h1⟩ | ⟨rfl, h1⟩
    · rw [h1] at hbi
      exact hst.rel.ext 0 b live0 (by rw [blk0]; exact hbi) hm
    · rw [h1] at hbi
      exact hst.rel.ext 1 b live1 (by rw [blk1]; exact hnew b hbi (hst.rel.mx b hm)) hm
  · exact ⟨[.int .i64 s.size, .nilIface], rfl, _, _, rfl, rfl, _, _, rfl, rfl, rfl⟩
  · have : i = 0 ∨ i = 1 := by simp at hi; omega
    rw [upd_ne _ _ (by omega)]
  · exact d3.mono fun b _ hb => hb.elim (fun h => h ▸ ⟨0, live0, blk0⟩) (fun h => ⟨1, live1, by rw [blk1]; exact h⟩)
  · rcases cl i hi with ⟨rfl, h1⟩ | ⟨rfl, h1⟩
    · rw [h1] at hbi
      exact ⟨0, live0, by rw [blk0]; exact hbi⟩
    · rw [h1] at hbi
      exact ⟨1, live1, by rw [blk1]; exact hnew b hbi hb⟩
  · cases i with
    | zero => cases hi
    | succ i => cases i with
      | zero => cases hi
      | succ i => simp [hpOf] at hi

theorem Off.freeze (w : World) (g n : Nat) : Off (fun x => x = g) w (w.freeze ⟨g, 0, none⟩ n) := by
  unfold World.freeze
  split
  · exact Off.refl _ _
  · exact ⟨rfl, rfl, rfl, by simp, fun k _ hk => by
      simp only [Array.getElem?_modify]
      rw [if_neg (fun e => hk e.symm)]⟩

theorem sound_str {pat : Nat → List AV → List HE → Option (Option ByteArray)}
    (hpat : ∀ k avs H o x, pat k avs H = some o → o = some x → ∃ l : List Int, avs = [.box 0 0] ∧ H = [.bld T (.own 1), .row e (.int .u8) l] ∧ okB l = true ∧ x = strOf l)
    (h : ∀ (b : Nat) (p v : Value) (l : List UInt8) (w : World), w.heap[b]? = some (.cells #[p, v] T (0, 0)) → w.ownsRow 0 e 1 v l.length (Lib.byteCells l) →
      Calls P f #[.pointer (some ⟨b, 0, none⟩)] w fun en w' => en = .returned (.string ⟨l.toArray⟩) ∧ Off (fun x => v.ownBlock = some x) w w') :
    Sound P f (mkS [.bld T (.row e (.int .u8))] pat fun r => (.v (.string r), [.gone, .gone])) := by
  intro k avs H c x hc hx MX w ρ vals hst
  unfold mkS at hc
  simp only at hc
  split at hc
  case h_2 => cases hc
  rename_i o ho
  injection hc with hc
  subst hc
  obtain ⟨l, rfl, rfl, hl, rfl⟩ := hpat k avs H o x ho hx
  obtain ⟨y0, q0, rfl, ⟨_, g, o0, hr0, rfl⟩, hq1⟩ := hst.args
  obtain rfl : q0 = [] := hq1
  obtain ⟨g', p, v, a1, a2, a3, ⟨_, rfl, A0, n0, c0, hv⟩⟩ := (show HEok _ w ρ _ 0 (.bld T (.own 1)) from hst.rel.ok 0)
  obtain ⟨xs, b1, b2⟩ := (show HEok _ w ρ _ 1 (.row e (.int .u8) l) from hst.rel.ok 1)
  rw [hr0] at a1
  injection a1 with a1
  injection a1 with a1
  injection a1 with e1 e2
  subst e1 e2
  have live1 : live (hpOf [.bld T (.own 1), .row e (.int .u8) l] 1) := trivial
  have blk1 : blk (ρ 1) = (ρ 1).ownBlock := blk_own ⟨A0, n0, c0, hv⟩
  have hbk := bytesU_back l hl
  have hlen : (bytesU l).length = l.length := by simp [bytesU]
  have hxs : xs = Lib.byteCells (bytesU l) := by
    rw [els_u8 b2]
    have h2 := congrArg (List.map (Value.int .u8)) hbk
    rw [List.map_map] at h2
    exact h2.symm
  rw [hxs] at b1
  refine (h g p (ρ 1) (bytesU l) w a2 (by rw [hlen]; exact b1)).mono ?_
  rintro en w' ⟨rfl, d3⟩
  have nol : ∀ i, ¬ live (hpOf [.gone, .gone] i) := by
    intro i hi
    cases i with
    | zero => exact hi
    | succ i => cases i with
      | zero => exact hi
      | succ i => simp [hpOf, live] at hi
  refine ⟨_, ρ, rfl, Left.of hst (fun i => ?_) (fun i j b hi => (nol i hi).elim) (fun i b hi => (nol i hi).elim) rfl (fun i hi => rfl) ?_ (fun b hb ⟨i, hi, _⟩ => (nol i hi).elim) (fun i cs hi => ?_)⟩
  · cases i with
    | zero => trivial
    | succ i => cases i with
      | zero => trivial
      | succ i => simp [hpOf, HEok]
  · exact d3.mono fun b _ hb => ⟨1, live1, by rw [blk1]; exact hb⟩
  · cases i with
    | zero => cases hi
    | succ i => cases i with
      | zero => cases hi
      | succ i => simp [hpOf] at hi
end
end Go.Proofs.YtmciidoohbmipaaGreatDoor.Abs
namespace Go.Proofs
open Go.Shelf
def Tryz.lays170_ren : Go.Shelf.Ren := ⟨fun | 170 => 207 | n => n, fun | 70 => 132 | 3 => 3 | 0 => 0 | 72 => 134 | 37 => 22 | 5 => 5 | n => n, fun | n => n⟩
theorem Tryz.lays170 : Go.Proofs.Lays.n170 Tryz.prog Tryz.lays170_ren := {
  mixed := by kernel_rfl
  f170 := Tryz.func207.trans (congrArg some (by kernel_rfl))
  t0 := Tryz.underlying0
  a0 := Tryz.isAgg0
  z0 := Tryz.sizeOf0
  v0 := Tryz.zeroValue0
  t3 := Tryz.underlying3
  a3 := Tryz.isAgg3
  z3 := Tryz.sizeOf3
  v3 := Tryz.zeroValue3
  t37 := Tryz.underlying22
  a37 := Tryz.isAgg22
  z37 := Tryz.sizeOf22
  v37 := Tryz.zeroValue22
  t70 := Tryz.underlying132
  a70 := Tryz.isAgg132
  z70 := Tryz.sizeOf132
  v70 := Tryz.zeroValue132
  t72 := Tryz.underlying134
  a72 := Tryz.isAgg134
  z72 := Tryz.sizeOf134
  v72 := Tryz.zeroValue134 }
open Go.RowKit in
/-- (*strings.Builder).Len: "Len returns the number of accumulated bytes; b.Len() == len(b.String()).": the world is as it was. (LAID: no walk: one application.) -/
theorem Tryz.Builder_Len (B b : Nat) (bs : List Value) (w : World) (h : Lib.IsBuilder 134 5 B b bs w) :
    Calls Tryz.prog 207 #[.pointer (some ⟨b, 0, none⟩)] w fun e w' => e = .returned (.int .i64 bs.length) ∧ w' = w := Any.Builder_Len Tryz.lays170 B b bs w h
def Tryz.lays169_ren : Go.Shelf.Ren := ⟨fun | 169 => 115 | n => n, fun | 70 => 132 | 9 => 9 | 0 => 0 | 72 => 134 | 37 => 22 | 127 => 157 | 3 => 3 | 5 => 5 | n => n, fun | n => n⟩
theorem Tryz.lays169 : Go.Proofs.Lays.n169 Tryz.prog Tryz.lays169_ren := {
  mixed := by kernel_rfl
  f169 := Tryz.func115.trans (congrArg some (by kernel_rfl))
  t0 := Tryz.underlying0
  a0 := Tryz.isAgg0
  z0 := Tryz.sizeOf0
  v0 := Tryz.zeroValue0
  t3 := Tryz.underlying3
  a3 := Tryz.isAgg3
  z3 := Tryz.sizeOf3
  v3 := Tryz.zeroValue3
  t9 := Tryz.underlying9
  a9 := Tryz.isAgg9
  z9 := Tryz.sizeOf9
  v9 := Tryz.zeroValue9
  t37 := Tryz.underlying22
  a37 := Tryz.isAgg22
  z37 := Tryz.sizeOf22
  v37 := Tryz.zeroValue22
  t70 := Tryz.underlying132
  a70 := Tryz.isAgg132
  z70 := Tryz.sizeOf132
  v70 := Tryz.zeroValue132
  t72 := Tryz.underlying134
  a72 := Tryz.isAgg134
  z72 := Tryz.sizeOf134
  v72 := Tryz.zeroValue134
  t127 := Tryz.underlying157
  a127 := Tryz.isAgg157
  z127 := Tryz.sizeOf157
  v127 := Tryz.zeroValue157 }
theorem Tryz.Builder_Extra_169 : Builder.Extra Tryz.prog Tryz.lays169_ren := {
  sizeBuilder := by kernel_rfl
  liesBuilder := by kernel_rfl
  t5 := Tryz.underlying5
  a5 := Tryz.isAgg5
  z5 := Tryz.sizeOf5
  v5 := Tryz.zeroValue5
  infoByte := by kernel_rfl
  cellsByte := by kernel_rfl
  sizeByte := by kernel_rfl
  neB5 := by decide }
open Go.RowKit in
/-- (*strings.Builder).String: "String returns the accumulated string.": OF A BUILDER THAT HOLDS AT LEAST ONE BYTE. ✋ THE MODEL FREEZES THOSE BYTES IN THE BUFFER (unsafe.String): a later write INTO them ends the model's run without an answer; a later append BEHIND them goes on. The statement's order of evaluation is drawn: one draw. (LAID: no walk: one application.) -/
theorem Tryz.Builder_String (B b : Nat) (l : List UInt8) (w : World) (h : Lib.IsBuilder 134 5 B b (Lib.byteCells l) w) (h0 : l ≠ []) :
    Calls Tryz.prog 115 #[.pointer (some ⟨b, 0, none⟩)] w fun e w' => e = .returned (.string ⟨l.toArray⟩) ∧ Below B w w' := Any.Builder_String Tryz.lays169 Tryz.Builder_Extra_169 B b l w h h0
open Go.RowKit in
/-- (*strings.Builder).String OF A BUILDER THAT HOLDS NO BYTE: the empty string. (Its buffer is nil, or a row of which it has taken nothing yet; where that row has NO capacity the model lays one new block for unsafe.SliceData's 'some address'.) One draw. (LAID: no walk: one application.) -/
theorem Tryz.Builder_String_empty (B b : Nat) (w : World) (h : Lib.IsBuilder 134 5 B b [] w) (hBw : B ≤ w.heap.size) :
    Calls Tryz.prog 115 #[.pointer (some ⟨b, 0, none⟩)] w fun e w' => e = .returned (.string ⟨#[]⟩) ∧ Below B w w' := Any.Builder_String_empty Tryz.lays169 Tryz.Builder_Extra_169 B b w h hBw
open Go.RowKit in
/-- (*strings.Builder).String: "String returns the accumulated string.": WHATEVER THE BUILDER HOLDS. (LAID: no walk: one application.) -/
theorem Tryz.Builder_String_any (B b : Nat) (l : List UInt8) (w : World) (h : Lib.IsBuilder 134 5 B b (Lib.byteCells l) w) (hBw : B ≤ w.heap.size) :
    Calls Tryz.prog 115 #[.pointer (some ⟨b, 0, none⟩)] w fun e w' => e = .returned (.string ⟨l.toArray⟩) ∧ Below B w w' := Any.Builder_String_any Tryz.lays169 Tryz.Builder_Extra_169 B b l w h hBw
def Tryz.lays241_ren : Go.Shelf.Ren := ⟨fun | 241 => 217 | 277 => 221 | n => n, fun | 70 => 132 | 3 => 3 | 0 => 0 | 72 => 134 | 37 => 22 | 5 => 5 | n => n, fun | n => n⟩
theorem Tryz.lays241 : Go.Proofs.Lays.n241 Tryz.prog Tryz.lays241_ren := {
  mixed := by kernel_rfl
  f241 := Tryz.func217.trans (congrArg some (by kernel_rfl))
  f277 := Tryz.func221.trans (congrArg some (by kernel_rfl))
  t0 := Tryz.underlying0
  a0 := Tryz.isAgg0
  z0 := Tryz.sizeOf0
  v0 := Tryz.zeroValue0
  t3 := Tryz.underlying3
  a3 := Tryz.isAgg3
  z3 := Tryz.sizeOf3
  v3 := Tryz.zeroValue3
  t37 := Tryz.underlying22
  a37 := Tryz.isAgg22
  z37 := Tryz.sizeOf22
  v37 := Tryz.zeroValue22
  t70 := Tryz.underlying132
  a70 := Tryz.isAgg132
  z70 := Tryz.sizeOf132
  v70 := Tryz.zeroValue132
  t72 := Tryz.underlying134
  a72 := Tryz.isAgg134
  z72 := Tryz.sizeOf134
  v72 := Tryz.zeroValue134 }
theorem Tryz.Builder_Extra_241 : Builder.Extra Tryz.prog Tryz.lays241_ren := {
  sizeBuilder := by kernel_rfl
  liesBuilder := by kernel_rfl
  t5 := Tryz.underlying5
  a5 := Tryz.isAgg5
  z5 := Tryz.sizeOf5
  v5 := Tryz.zeroValue5
  infoByte := by kernel_rfl
  cellsByte := by kernel_rfl
  sizeByte := by kernel_rfl
  neB5 := by decide }
open Go.RowKit in
/-- (*strings.Builder).grow (no doc but "grow copies the buffer to a new, larger buffer so that there are at least n bytes of capacity beyond len(b.buf)."): AT A BUILDER WITHOUT A BUFFER: a new row of whatever bytes for its buffer, none of them its own yet. Three draws. (LAID: no walk: one application.) -/
theorem Tryz.Builder_grow_fresh (B b n : Nat) (w : World) (hB : B ≤ b) (hbk : w.heap[b]? = some (.cells #[.pointer (some ⟨b, 0, none⟩), .slice none 0 0] 134 (0, 0))) (hBw : B ≤ w.heap.size) (hn : n ≤ 281474976710656) :
    Calls Tryz.prog 217 #[.pointer (some ⟨b, 0, none⟩), .int .i64 n] w fun e w' => e = .returned (.tuple #[]) ∧ (Lib.BuilderAt 134 5 B b (.pointer (some ⟨b, 0, none⟩)) [] w' ∧ Below B w w') := Any.Builder_grow_fresh Tryz.lays241 Tryz.Builder_Extra_241 B b n w hB hbk hBw hn
def Tryz.lays165_ren : Go.Shelf.Ren := ⟨fun | 165 => 206 | 240 => 149 | 241 => 217 | 276 => 167 | 277 => 221 | n => n, fun | 70 => 132 | 3 => 3 | 0 => 0 | 4 => 4 | 9 => 9 | 20 => 20 | 72 => 134 | 37 => 22 | 164 => 167 | 5 => 5 | n => n, fun | n => n⟩
theorem Tryz.lays165 : Go.Proofs.Lays.n165 Tryz.prog Tryz.lays165_ren := {
  mixed := by kernel_rfl
  f165 := Tryz.func206.trans (congrArg some (by kernel_rfl))
  f240 := Tryz.func149.trans (congrArg some (by kernel_rfl))
  f241 := Tryz.func217.trans (congrArg some (by kernel_rfl))
  f276 := Tryz.func167.trans (congrArg some (by kernel_rfl))
  f277 := Tryz.func221.trans (congrArg some (by kernel_rfl))
  t0 := Tryz.underlying0
  a0 := Tryz.isAgg0
  z0 := Tryz.sizeOf0
  v0 := Tryz.zeroValue0
  t3 := Tryz.underlying3
  a3 := Tryz.isAgg3
  z3 := Tryz.sizeOf3
  v3 := Tryz.zeroValue3
  t4 := Tryz.underlying4
  a4 := Tryz.isAgg4
  z4 := Tryz.sizeOf4
  v4 := Tryz.zeroValue4
  t9 := Tryz.underlying9
  a9 := Tryz.isAgg9
  z9 := Tryz.sizeOf9
  v9 := Tryz.zeroValue9
  t20 := Tryz.underlying20
  a20 := Tryz.isAgg20
  z20 := Tryz.sizeOf20
  v20 := Tryz.zeroValue20
  t37 := Tryz.underlying22
  a37 := Tryz.isAgg22
  z37 := Tryz.sizeOf22
  v37 := Tryz.zeroValue22
  t70 := Tryz.underlying132
  a70 := Tryz.isAgg132
  z70 := Tryz.sizeOf132
  v70 := Tryz.zeroValue132
  t72 := Tryz.underlying134
  a72 := Tryz.isAgg134
  z72 := Tryz.sizeOf134
  v72 := Tryz.zeroValue134
  t164 := Tryz.underlying167
  a164 := Tryz.isAgg167
  z164 := Tryz.sizeOf167
  v164 := Tryz.zeroValue167 }
theorem Tryz.Builder_Extra_165 : Builder.Extra Tryz.prog Tryz.lays165_ren := {
  sizeBuilder := by kernel_rfl
  liesBuilder := by kernel_rfl
  t5 := Tryz.underlying5
  a5 := Tryz.isAgg5
  z5 := Tryz.sizeOf5
  v5 := Tryz.zeroValue5
  infoByte := by kernel_rfl
  cellsByte := by kernel_rfl
  sizeByte := by kernel_rfl
  neB5 := by decide }
open Go.RowKit in
/-- (*strings.Builder).Grow AT A BUILDER THAT HAS NOT BEEN WRITTEN ('var b strings.Builder; b.Grow(n)'): "Grow grows b's capacity, if necessary, to guarantee space for another n bytes.": it holds no byte behind it as before it. (LAID: no walk: one application.) -/
theorem Tryz.Builder_Grow_fresh (B b n : Nat) (w : World) (hB : B ≤ b) (hbk : w.heap[b]? = some (.cells #[.pointer none, .slice none 0 0] 134 (0, 0))) (hBw : B ≤ w.heap.size) (hn : n ≤ 281474976710656) :
    Calls Tryz.prog 206 #[.pointer (some ⟨b, 0, none⟩), .int .i64 n] w fun e w' => e = .returned (.tuple #[]) ∧ (Lib.BuilderAt 134 5 B b (.pointer (some ⟨b, 0, none⟩)) [] w' ∧ Below B w w') := Any.Builder_Grow_fresh Tryz.lays165 Tryz.Builder_Extra_165 B b n w hB hbk hBw hn
open Go.RowKit in
/-- (*strings.Builder).Len: "Len returns the number of accumulated bytes; b.Len() == len(b.String()).": the world is as it was. (THE FORM '_f': 'Lib.IsBuilderF'.) (LAID: no walk: one application.) -/
theorem Tryz.Builder_Len_f (B b : Nat) (bs : List Value) (w : World) (h : Lib.IsBuilderF 134 5 B b bs w) :
    Calls Tryz.prog 207 #[.pointer (some ⟨b, 0, none⟩)] w fun e w' => e = .returned (.int .i64 bs.length) ∧ w' = w := Any.Builder_Len_f Tryz.lays170 B b bs w h
open Go.RowKit in
/-- (*strings.Builder).String: "String returns the accumulated string.": OF A BUILDER THAT HOLDS AT LEAST ONE BYTE. ✋ THE MODEL FREEZES THOSE BYTES IN THE BUFFER (unsafe.String): a later write INTO them ends the model's run without an answer; a later append BEHIND them goes on. The statement's order of evaluation is drawn: one draw. THE FORM '_f': IT SAYS BESIDES THAT THE BUILDER IS A BUILDER STILL ('Lib.IsBuilderF', the same bytes): SO IT CAN BE WRITTEN ON: 'b.WriteString(b.String()[:k])'. (LAID: no walk: one application.) -/
theorem Tryz.Builder_String_f (B b : Nat) (l : List UInt8) (w : World) (h : Lib.IsBuilderF 134 5 B b (Lib.byteCells l) w) (h0 : l ≠ []) :
    Calls Tryz.prog 115 #[.pointer (some ⟨b, 0, none⟩)] w fun e w' => e = .returned (.string ⟨l.toArray⟩) ∧ (Lib.IsBuilderF 134 5 B b (Lib.byteCells l) w' ∧ Below B w w') := Any.Builder_String_f Tryz.lays169 Tryz.Builder_Extra_169 B b l w h h0
open Go.RowKit in
/-- (*strings.Builder).String OF A BUILDER THAT HOLDS NO BYTE: the empty string; THE FORM '_f': a builder still. (LAID: no walk: one application.) -/
theorem Tryz.Builder_String_empty_f (B b : Nat) (w : World) (h : Lib.IsBuilderF 134 5 B b [] w) (hBw : B ≤ w.heap.size) :
    Calls Tryz.prog 115 #[.pointer (some ⟨b, 0, none⟩)] w fun e w' => e = .returned (.string ⟨#[]⟩) ∧ (Lib.IsBuilderF 134 5 B b [] w' ∧ Below B w w') := Any.Builder_String_empty_f Tryz.lays169 Tryz.Builder_Extra_169 B b w h hBw
open Go.RowKit in
/-- (*strings.Builder).String: "String returns the accumulated string.": WHATEVER THE BUILDER HOLDS; THE FORM '_f': OF A BUILDER THAT MAY HAVE BEEN READ BEFORE; AND IT IS A BUILDER STILL, holding the same bytes: it can be written on. (LAID: no walk: one application.) -/
theorem Tryz.Builder_String_any_f (B b : Nat) (l : List UInt8) (w : World) (h : Lib.IsBuilderF 134 5 B b (Lib.byteCells l) w) (hBw : B ≤ w.heap.size) :
    Calls Tryz.prog 115 #[.pointer (some ⟨b, 0, none⟩)] w fun e w' => e = .returned (.string ⟨l.toArray⟩) ∧ (Lib.IsBuilderF 134 5 B b (Lib.byteCells l) w' ∧ Below B w w') := Any.Builder_String_any_f Tryz.lays169 Tryz.Builder_Extra_169 B b l w h hBw
open Go.RowKit in
/-- (*strings.Builder).String: "String returns the accumulated string.": OF A BUILDER THAT HOLDS AT LEAST ONE BYTE. ✋ THE MODEL FREEZES THOSE BYTES IN THE BUFFER (unsafe.String): a later write INTO them ends the model's run without an answer; a later append BEHIND them goes on. The statement's order of evaluation is drawn: one draw. THE FORM '_k': OVER 'Lib.IsBuilderF' (a builder that 'String()' may have read), AND WITH THE FRAME THAT REACHES ABOVE THE BUILDER: 'Lib.OthersKept': every block that is not b and is no row of uint8's stands as it stood: the iterator of a range among them. (LAID: no walk: one application.) -/
theorem Tryz.Builder_String_k (B b : Nat) (l : List UInt8) (w : World) (h : Lib.IsBuilderF 134 5 B b (Lib.byteCells l) w) (h0 : l ≠ []) :
    Calls Tryz.prog 115 #[.pointer (some ⟨b, 0, none⟩)] w fun e w' => e = .returned (.string ⟨l.toArray⟩) ∧ (Lib.IsBuilderF 134 5 B b (Lib.byteCells l) w' ∧ Below B w w' ∧ Lib.OthersKept 5 (some b) w w') := Any.Builder_String_k Tryz.lays169 Tryz.Builder_Extra_169 B b l w h h0
open Go.RowKit in
/-- (*strings.Builder).String OF A BUILDER THAT HOLDS NO BYTE: the empty string; THE FORM '_k': OVER 'Lib.IsBuilderF' (a builder that 'String()' may have read), AND WITH THE FRAME THAT REACHES ABOVE THE BUILDER: 'Lib.OthersKept': every block that is not b and is no row of uint8's stands as it stood: the iterator of a range among them. (LAID: no walk: one application.) -/
theorem Tryz.Builder_String_empty_k (B b : Nat) (w : World) (h : Lib.IsBuilderF 134 5 B b [] w) (hBw : B ≤ w.heap.size) :
    Calls Tryz.prog 115 #[.pointer (some ⟨b, 0, none⟩)] w fun e w' => e = .returned (.string ⟨#[]⟩) ∧ (Lib.IsBuilderF 134 5 B b [] w' ∧ Below B w w' ∧ Lib.OthersKept 5 (some b) w w') := Any.Builder_String_empty_k Tryz.lays169 Tryz.Builder_Extra_169 B b w h hBw
open Go.RowKit in
/-- (*strings.Builder).String: "String returns the accumulated string.": WHATEVER THE BUILDER HOLDS; THE FORM '_k': OVER 'Lib.IsBuilderF' (a builder that 'String()' may have read), AND WITH THE FRAME THAT REACHES ABOVE THE BUILDER: 'Lib.OthersKept': every block that is not b and is no row of uint8's stands as it stood: the iterator of a range among them. (LAID: no walk: one application.) -/
theorem Tryz.Builder_String_any_k (B b : Nat) (l : List UInt8) (w : World) (h : Lib.IsBuilderF 134 5 B b (Lib.byteCells l) w) (hBw : B ≤ w.heap.size) :
    Calls Tryz.prog 115 #[.pointer (some ⟨b, 0, none⟩)] w fun e w' => e = .returned (.string ⟨l.toArray⟩) ∧ (Lib.IsBuilderF 134 5 B b (Lib.byteCells l) w' ∧ Below B w w' ∧ Lib.OthersKept 5 (some b) w w') := Any.Builder_String_any_k Tryz.lays169 Tryz.Builder_Extra_169 B b l w h hBw
open Go.RowKit in
/-- (*strings.Builder).grow (no doc but "grow copies the buffer to a new, larger buffer so that there are at least n bytes of capacity beyond len(b.buf)."): AT A BUILDER WITHOUT A BUFFER: a new row of whatever bytes for its buffer, none of them its own yet. Three draws. (LAID: no walk: one application.) -/
theorem Tryz.Builder_grow_fresh_cap (B b n : Nat) (w : World) (hB : B ≤ b) (hbk : w.heap[b]? = some (.cells #[.pointer (some ⟨b, 0, none⟩), .slice none 0 0] 134 (0, 0))) (hBw : B ≤ w.heap.size) (hn : n ≤ 281474976710656) :
    Calls Tryz.prog 217 #[.pointer (some ⟨b, 0, none⟩), .int .i64 n] w fun e w' => e = .returned (.tuple #[]) ∧ (Lib.BuilderAt 134 5 B b (.pointer (some ⟨b, 0, none⟩)) [] w' ∧ Below B w w') ∧ ∃ p cap, w'.cell? ⟨b, 1, none⟩ = some (.slice p 0 cap) ∧ n ≤ cap := Any.Builder_grow_fresh_cap Tryz.lays241 Tryz.Builder_Extra_241 B b n w hB hbk hBw hn
open Go.RowKit in
/-- (*strings.Builder).Grow AT A BUILDER THAT HAS NOT BEEN WRITTEN ('var b strings.Builder; b.Grow(n)'): "Grow grows b's capacity, if necessary, to guarantee space for another n bytes.": it holds no byte behind it as before it. (LAID: no walk: one application.) -/
theorem Tryz.Builder_Grow_fresh_cap (B b n : Nat) (w : World) (hB : B ≤ b) (hbk : w.heap[b]? = some (.cells #[.pointer none, .slice none 0 0] 134 (0, 0))) (hBw : B ≤ w.heap.size) (hn : n ≤ 281474976710656) :
    Calls Tryz.prog 206 #[.pointer (some ⟨b, 0, none⟩), .int .i64 n] w fun e w' => e = .returned (.tuple #[]) ∧ (Lib.BuilderAt 134 5 B b (.pointer (some ⟨b, 0, none⟩)) [] w' ∧ Below B w w') ∧ ∃ p cap, w'.cell? ⟨b, 1, none⟩ = some (.slice p 0 cap) ∧ n ≤ cap := Any.Builder_Grow_fresh_cap Tryz.lays165 Tryz.Builder_Extra_165 B b n w hB hbk hBw hn
end Go.Proofs
namespace Go.Proofs.YtmciidoohbmipaaGreatDoor.Abs
open Go Go.RowKit
set_option linter.unusedVariables false
set_option linter.unusedSectionVars false
set_option linter.unusedSimpArgs false

/-- Laid aside: for the walks, which look through what stands ahead of them. -/
structure Aside0 (p : Prop) : Prop where
  out : p

theorem run_copy_wide {P : Program} (w : World) (dT sT ty elem : TypeId) (sz : Nat) (b o dLen dCap : Nat) (a : Addr) (sLen sCap : Nat) (n : Nat) (cs : List Value)
    (hu : P.underlying dT = some (.slice elem)) (hs : (P.info? elem).map (·.size) = some sz) (hm : Nat.min sLen dLen = n) (hn : cs.length = n * sz)
    (hsrc : ∀ j v, cs[j]? = some v → w.cell? (a.add j) = some v) (hc : ∀ j, j < cs.length → (w.cell? ⟨b, o + j, none⟩).isSome = true) (hf : ∀ j, j < cs.length → w.frozen? ⟨b, o + j, none⟩ = false) (h1 : ∀ v ∈ cs, v.oneCell' = true) :
    (Builtin.copy_ #[dT, sT] ty #[.slice (some ⟨b, o, none⟩) dLen dCap, .slice (some a) sLen sCap]).run P w = .ok (goInt n) (w.setCells b o cs) := by
  have hl := run_loadCells_list (P := P) w a cs hsrc
  have hst := run_storeCells_cells (P := P) b o cs 0 w (by simpa using hc) (by simpa using hf) h1
  cases hq : P.info? elem with
  | none => simp [hq] at hs
  | some i =>
    have hi : i.size = sz := by simpa [hq] using hs
    simp [Builtin.copy_, run_underlying hu, Builtin.lenOf, Builtin.firstCells, sizeOf, typeInfo, hq, hi, hm, ← hn, hl, hst]

theorem cells_row {w : World} {g : Nat} {e : TypeId} {cur : Array Value} {k : Nat} {xs : List Value} (hg : w.heap[g]? = some (.cells cur e (0, 0))) (ht : cur.toList.take k = xs) : ∀ (j : Nat) (u : Value), xs[j]? = some u → w.cell? ⟨g, j, none⟩ = some u := by
  intro j u hj
  have e : cur.toList[j]? = some u := by
    rw [← ht, List.getElem?_take] at hj
    split at hj
    · exact hj
    · cases hj
  simp only [World.cell?, hg]
  simpa using e

theorem ins_list1 (L C V : List Value) (i m n : Nat) (hC : L.take n = C) (hCl : C.length = n) (hi : i ≤ n) (hV : V.length = m) (hL : n + m ≤ L.length) :
    (((L.take (i + m) ++ C.drop i ++ L.drop (i + m + (C.drop i).length)).take i ++ V ++ (L.take (i + m) ++ C.drop i ++ L.drop (i + m + (C.drop i).length)).drop (i + V.length))).take (n + m) = C.take i ++ (V ++ C.drop i) := by
  have h1 : (L.take (i + m) ++ C.drop i ++ L.drop (i + m + (C.drop i).length)).take i = C.take i := by
    rw [List.append_assoc, List.take_append_of_le_length (by rw [List.length_take]; omega), List.take_take, Nat.min_eq_left (by omega), ← hC, List.take_take, Nat.min_eq_left hi]
  have h2 : (L.take (i + m) ++ C.drop i ++ L.drop (i + m + (C.drop i).length)).drop (i + V.length) = C.drop i ++ L.drop (i + m + (C.drop i).length) := by
    rw [hV, List.append_assoc, List.drop_append_of_le_length (by rw [List.length_take]; omega), List.drop_eq_nil_of_le (by rw [List.length_take]; omega), List.nil_append]
  rw [h1, h2, List.append_assoc, ← List.append_assoc V, ← List.append_assoc (C.take i)]
  exact List.take_left' (by simp; omega)
theorem ins_list2 (R C V more : List Value) (i m n : Nat) (hR : R = C.take i ++ more) (hCl : C.length = n) (hi : i ≤ n) (hV : V.length = m) (hL : n + m ≤ R.length) :
    (((R.take i ++ V ++ R.drop (i + V.length)).take (i + m) ++ C.drop i ++ (R.take i ++ V ++ R.drop (i + V.length)).drop (i + m + (C.drop i).length))).take (n + m) = C.take i ++ (V ++ C.drop i) := by
  have h0 : R.take i = C.take i := by
    rw [hR, List.take_append_of_le_length (by rw [List.length_take]; omega), List.take_take, Nat.min_self]
  have h1 : (R.take i ++ V ++ R.drop (i + V.length)).take (i + m) = C.take i ++ V := by
    rw [h0]
    exact List.take_left' (by simp; omega)
  rw [h1, ← List.append_assoc]
  exact List.take_left' (by simp; omega)

theorem Els.split {α : Type} {K : α → List Value → Prop} {sz : Nat} (hK : ∀ x cs, K x cs → cs.length = sz) : (i : Nat) → {l : List α} → {xs : List Value} → Els K l xs → i ≤ l.length → Els K (l.take i) (xs.take (i * sz)) ∧ Els K (l.drop i) (xs.drop (i * sz))
  | 0, l, xs, h, _ => by
    simp only [List.take_zero, Nat.zero_mul, List.drop_zero]
    exact ⟨rfl, h⟩
  | i + 1, [], xs, h, hi => absurd hi (by simp)
  | i + 1, x :: l, xs, ⟨c, r, e, hc, hr⟩, hi => by
    have hi : i ≤ l.length := by simpa using hi
    obtain ⟨h1, h2⟩ := Els.split hK i hr hi
    have hl := hK _ _ hc
    have ek : (i + 1) * sz = c.length + i * sz := by rw [hl, Nat.succ_mul, Nat.add_comm]
    rw [e, ek, List.take_length_add_append, List.drop_length_add_append, List.take_succ_cons, List.drop_succ_cons]
    exact ⟨⟨c, _, rfl, hc, h1⟩, h2⟩

section
variable {P : Program} {f : FuncId} {e : TypeId} {t : Ty}

/-- A row as the walk of slices.Clone needs it. -/
theorem clone_calls {M : Nat → Prop} {w : World} (l : List t.den) (A : Option Addr) (c : Nat) (hr : RowR M w (t.KR M w) t.sz A l) (by_ : Nat) (hl : l.length ≤ by_)
    (hnil : ∀ n c w, Calls P f #[.slice none n c] w fun e w' => e = .returned (.slice none 0 0) ∧ w' = w)
    (hsome : ∀ (a : Addr) n c (xs : List Value) w, n ≤ by_ → xs.length = n * t.sz → (∀ u ∈ xs, u.oneCell' = true) → (∀ j u, xs[j]? = some u → w.cell? (a.add j) = some u) → Calls P f #[.slice (some a) n c] w fun en w' => ∃ v', en = .returned v' ∧ w'.ownsRow w.heap.size e t.sz v' n xs ∧ Below w.heap.size w w') :
    Calls P f (List.toArray [.slice A l.length c]) w fun en w' => ∃ v xs, en = .returned v ∧ Below w.heap.size w w' ∧ w'.ownsRow w.heap.size e t.sz v l.length xs ∧ Els (t.KR M w) l xs := by
  rcases con_cells hr with ⟨rfl, rfl⟩ | ⟨a, ys, rfl, hy, hcell⟩
  · refine (hnil 0 c w).mono ?_
    rintro en w' ⟨rfl, rfl⟩
    exact ⟨_, [], rfl, Below.refl _ _, World.ownsRow_nil _ _ _ _, rfl⟩
  · refine (hsome a l.length c ys w hl (Els.len (fun _ _ h => KR_len t h) hy) (Els.one (sz := t.sz) (fun _ _ h => KR_one t h) hy) (fun j u hj => hcell j u hj)).mono ?_
    rintro en w' ⟨v', rfl, h1, h2⟩
    exact ⟨_, _, rfl, h2, h1, hy⟩

def insX (e : TypeId) (t : Ty) (r : List t.den) : AV × List HE := (.own 2, [.gone, .gone, .row e t r])

theorem sound_insert {B : Nat} {pat : Nat → List AV → List HE → Option (Option (List t.den))}
    (hpat : ∀ k avs H o x, pat k avs H = some o → o = some x → ∃ (l : List t.den) (i : Nat) (m : List t.den), avs = [.own 0, .v (.int .i64 i), .own 1] ∧ H = [.row e t l, .row e t m] ∧ i ≤ l.length ∧ 0 < m.length ∧ l.length + m.length ≤ B ∧ x = l.take i ++ (m ++ l.drop i))
    (h : ∀ (v u : Value) (n i m : Nat) (xs ys : List Value) (w : World), w.ownsRow 0 e t.sz v n xs → w.ownsRow 0 e t.sz u m ys → (∀ b, v.ownBlock = some b → u.ownBlock ≠ some b) → (∀ y ∈ xs, y.oneCell' = true) → (∀ y ∈ ys, y.oneCell' = true) → i ≤ n → 0 < m → n + m ≤ B →
      Calls P f #[v, .int .i64 i, u] w fun en w' => ∃ v', en = .returned v' ∧ w'.ownsRow 0 e t.sz v' (n + m) (xs.take (i * t.sz) ++ (ys ++ xs.drop (i * t.sz))) ∧ w.grownBy w' v.ownBlock ∧ (v'.ownBlock = v.ownBlock ∨ ∀ g, v'.ownBlock = some g → w.heap.size ≤ g)) :
    Sound P f (mkS [.row e t, .val, .row e t] pat (insX e t)) := by
  intro k avs H c x hc hx MX w ρ vals hst
  unfold mkS at hc
  simp only at hc
  split at hc
  case h_2 => cases hc
  rename_i o ho
  injection hc with hc
  subst hc
  obtain ⟨l, i, m, rfl, rfl, hil, hm0, hlm, rfl⟩ := hpat k avs H o x ho hx
  obtain ⟨y0, q0, rfl, ⟨_, rfl, A0, n0, c0, hv0⟩, y1, q1, rfl, hy1, y2, q2, rfl, ⟨_, rfl, A1, n1, c1, hv1⟩, hq2⟩ := hst.args
  obtain rfl : q2 = [] := hq2
  obtain rfl : y1 = .int .i64 i := hy1
  obtain ⟨xs, b1, b2⟩ := (show HEok _ w ρ _ 0 (.row e t l) from hst.rel.ok 0)
  obtain ⟨ys, d1, d2⟩ := (show HEok _ w ρ _ 1 (.row e t m) from hst.rel.ok 1)
  have live0 : live (hpOf [.row e t l, .row e t m] 0) := trivial
  have live1 : live (hpOf [.row e t l, .row e t m] 1) := trivial
  have blk0 : blk (ρ 0) = (ρ 0).ownBlock := blk_own ⟨A0, n0, c0, hv0⟩
  have blk1 : blk (ρ 1) = (ρ 1).ownBlock := blk_own ⟨A1, n1, c1, hv1⟩
  have hne : ∀ b, (ρ 0).ownBlock = some b → (ρ 1).ownBlock ≠ some b := fun b e1 e2 => by
    have := hst.rel.sep 0 1 b live0 live1 (by rw [blk0]; exact e1) (by rw [blk1]; exact e2)
    omega
  refine (h (ρ 0) (ρ 1) l.length i m.length xs ys w b1 d1 hne (Els.one (sz := t.sz) (fun _ _ h => KR_one t h) b2) (Els.one (sz := t.sz) (fun _ _ h => KR_one t h) d2) hil hm0 hlm).mono ?_
  rintro en w' ⟨v', rfl, e1, e2, e3⟩
  have hv' : ∃ A n c, v' = .slice A n c := by
    rcases e1.2 with ⟨h2, _⟩ | ⟨g2, cap, cur, h2, _⟩
    · exact ⟨_, _, _, h2⟩
    · exact ⟨_, _, _, h2⟩
  have blk2 : blk v' = v'.ownBlock := blk_own hv'
  have hoff : Off (fun g => (ρ 0).ownBlock = some g) w w' := Off.grown e2
  have cl : ∀ j, live (hpOf (insX e t (l.take i ++ (m ++ l.drop i))).2 j) → j = 2 ∧ blk (upd ρ 2 v' j) = v'.ownBlock := by
    intro j hj
    cases j with
    | zero => exact hj.elim
    | succ j => cases j with
      | zero => exact hj.elim
      | succ j => cases j with
        | zero => exact ⟨rfl, by rw [show (0 + 1 + 1) = 2 from rfl, upd_same]; exact blk2⟩
        | succ j => simp [insX, hpOf, live] at hj
  have hnew : ∀ b, v'.ownBlock = some b → b < w.heap.size → (ρ 0).ownBlock = some b := by
    intro b hb hlt
    rcases e3 with h4 | h4
    · rw [← h4]; exact hb
    · have := h4 b hb; omega
  have hM : ∀ b, b < w.heap.size → Mut MX (hpOf (insX e t (l.take i ++ (m ++ l.drop i))).2) (upd ρ 2 v') b → Mut MX (hpOf [.row e t l, .row e t m]) ρ b := by
    rintro b hb (h | ⟨j, hj, hbj⟩)
    · exact .inl h
    · obtain ⟨rfl, h1⟩ := cl j hj
      rw [h1] at hbj
      exact .inr ⟨0, live0, by rw [blk0]; exact hnew b hbj hb⟩
  have hD : ∀ b, b < w.heap.size → (ρ 0).ownBlock = some b → Mut MX (hpOf [.row e t l, .row e t m]) ρ b := fun b _ h => .inr ⟨0, live0, by rw [blk0]; exact h⟩
  obtain ⟨s1, s2⟩ := Els.split (fun _ _ h => KR_len t h) i b2 hil
  have hels := Els.append s1 (Els.append d2 s2)
  refine ⟨_, upd ρ 2 v', rfl, Left.of hst (fun j => ?_) (fun i j b hi hj hbi hbj => ?_) (fun i b hi hbi hm => ?_) ?_ (fun j hj => ?_) ?_ (fun b hb ⟨i, hi, hbi⟩ => ?_) (fun i cs hi => ?_)⟩
  · cases j with
    | zero => trivial
    | succ j => cases j with
      | zero => trivial
      | succ j => cases j with
        | zero =>
          refine ⟨_, ?_, Els.imp (fun y cs h => KR_step hoff hD hM t h) hels⟩
          rw [show (0 + 1 + 1) = 2 from rfl, upd_same]
          have e5 : (l.take i ++ (m ++ l.drop i)).length = l.length + m.length := by
            simp only [List.length_append, List.length_take, List.length_drop]; omega
          rw [e5]
          exact e1
        | succ j => simp [insX, hpOf, HEok]
  · obtain ⟨rfl, _⟩ := cl i hi
    obtain ⟨rfl, _⟩ := cl j hj
    rfl
  · obtain ⟨rfl, h1⟩ := cl i hi
    rw [h1] at hbi
    exact hst.rel.ext 0 b live0 (by rw [blk0]; exact hnew b hbi (hst.rel.mx b hm)) hm
  · exact ⟨by simp [insX, hpOf], by rw [upd_same], hv'⟩
  · have : j = 0 ∨ j = 1 := by simp at hj; omega
    rw [upd_ne _ _ (by omega)]
  · exact hoff.mono fun b _ hb => ⟨0, live0, by rw [blk0]; exact hb⟩
  · obtain ⟨rfl, h1⟩ := cl i hi
    rw [h1] at hbi
    exact ⟨0, live0, by rw [blk0]; exact hnew b hbi hb⟩
  · cases i with
    | zero => cases hi
    | succ i => cases i with
      | zero => cases hi
      | succ i => simp [hpOf] at hi
end
end Go.Proofs.YtmciidoohbmipaaGreatDoor.Abs
