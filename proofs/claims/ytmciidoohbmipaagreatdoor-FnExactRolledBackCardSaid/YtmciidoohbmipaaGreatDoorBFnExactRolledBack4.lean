/- Epochs and logs of images: the reference and the program come to the same. For images of right configurations. (Merged out of this claim's own texts.) -/
import Derived.Test.YtmciidoohbmipaaGreatDoorBFnExactRolledBack3
import Derived.Lib.SlicesCompact
import Derived.Shelf.Spec.SlicesInsert
import Derived.Lib.AppendZerosOnto
import Derived.Test.YtmciidoohbmipaaGreatDoorProg
import Derived.Shelf.Strings.Builder1
import Derived.Shelf.Strings.Builder2
import Derived.Shelf.Strings.Trim
import Derived.Shelf.Small.Utf8
import Derived.Shelf.Small.Bits
import Derived.Shelf.Small.Strs
import Derived.Shelf.Strings.BuilderF
import Derived.Shelf.Strings.BuilderK
import Derived.Shelf.Strings.Builder2Cap
import Derived.Shelf.Strconv.Itoa0
import Derived.Shelf.Strings.Search1
import Derived.Shelf.Strings.Prefix
import Derived.Shelf.Unicode.Decode
import Derived.Shelf.Strings.Runes
import Derived.Shelf.Strings.AsciiSet
import Derived.Shelf.Bits.Mul64
import Derived.Shelf.Strings.Repeat
import Derived.Shelf.Unicode.DecodeSlow
import Derived.Shelf.Unicode.DecodeAny
import Derived.Shelf.Unicode.DecodeLast
import Derived.Shelf.Strings.BuilderCap
import Derived.Ground.SlgnProg
import Derived.Shelf.SlicesG.CompactI
import Derived.Shelf.SlicesG.SearchI
import Derived.Shelf.SlicesG.Cells
import Derived.Shelf.SlicesE.Compact
import Derived.Ground.SlgfProg
import Derived.Shelf.SlicesE.IndexFunc
import Derived.Shelf.SortG.Plain
import Derived.Lib.UnsafeStr
import Derived.Sort.Grow
import Derived.Lib.RowBridge
namespace Go.Proofs.YtmciidoohbmipaaGreatDoor.Abs.Pu
open Go Go.RowKit
set_option linter.unusedVariables false
set_option linter.unusedSectionVars false
set_option linter.unusedSimpArgs false
theorem w64n {n : Nat} (h : 64 * n + 64 ≤ 140737488355328) : wrap64 (64 * (n : Int)) = ((64 * n : Nat) : Int) ∧ wrap64 (wrap64 (64 * (n : Int)) + 64) = ((64 * n + 64 : Nat) : Int) := by
  have h1 : wrap64 (64 * (n : Int)) = ((64 * n : Nat) : Int) := by rw [w64 (by omega) (by omega)]; omega
  exact ⟨h1, by rw [h1, w64 (by omega) (by omega)]; omega⟩
theorem spec_l5Line_f (s : ByteArray) (n : Nat) (h : 64 * n + 64 ≤ s.size) (hs : s.size ≤ 140737488355328) : spec_l5Line.f s (n : Int) = some (lineB s n) := by
  obtain ⟨h1, h2⟩ := w64n (n := n) (by omega)
  unfold spec_l5Line.f lineB
  rw [h2, h1, if_pos (by omega), if_pos (by omega), if_pos (by omega), if_pos (by omega)]
  rfl
theorem impl_lineOf_f (s : ByteArray) (n : Nat) (h : 64 * n + 64 ≤ s.size) (hs : s.size ≤ 140737488355328) : impl_lineOf.f s (n : Int) = some (lineB s n) := by
  obtain ⟨h1, h2⟩ := w64n (n := n) (by omega)
  unfold impl_lineOf.f lineB
  rw [h2, h1, if_pos (by omega), if_pos (by omega), if_pos (by omega), if_pos (by omega)]
  rfl
def epochR (c : Cfg) (s : ByteArray) : Int := if isImageB c s = true then (if (epochO (lineB s 1)).2 = true then (epochO (lineB s 1)).1 else -1) else -1
theorem spec_EpochOf_ev (c : Cfg) (s : ByteArray) (hl : c.2.2.2.length ≤ 1048576) (ht : ∀ x ∈ c.2.2.2, x.size ≤ 1048576) : Ev (fun k => spec_EpochOf.f k c.1 c.2.1 c.2.2.1 c.2.2.2 s) (epochR c s) := by
  unfold spec_EpochOf.f epochR
  refine Ev.bind (spec_l5Image_ev c s hl ht) (Ev.cases (fun h => ?_) (fun h => by rw [if_neg h]; exact Ev.eq rfl))
  obtain ⟨hc, hz⟩ := isImageB_facts h
  have hf := configOk_facts hc
  rw [if_pos h]
  refine Ev.bindo (spec_l5Line_f s 1 (by omega) (by omega)) (Ev.bind (spec_ReadEpoch_ev _ (lineB_size (by omega))) (Ev.cases (fun k => ?_) (fun k => ?_)))
  · rw [if_pos k]; exact Ev.eq rfl
  · rw [if_neg k]; exact Ev.eq rfl
theorem impl_EpochOf_ev (c : Cfg) (s : ByteArray) (ht : ∀ x ∈ c.2.2.2, x.size ≤ 1048576) : Ev (fun k => impl_EpochOf.f k c.1 c.2.1 c.2.2.1 c.2.2.2 s) (epochR c s) := by
  unfold impl_EpochOf.f epochR
  refine Ev.bind (impl_isImage_ev c s ht) (Ev.cases (fun h => ?_) (fun h => by rw [if_neg h]; exact Ev.eq rfl))
  obtain ⟨hc, hz⟩ := isImageB_facts h
  have hf := configOk_facts hc
  rw [if_pos h]
  refine Ev.bindo (impl_lineOf_f s 1 (by omega) (by omega)) (Ev.bind (impl_ReadEpoch_ev _ (lineB_size (by omega))) (Ev.cases (fun k => ?_) (fun k => ?_)))
  · rw [if_pos k]; exact Ev.eq rfl
  · rw [if_neg k]; exact Ev.eq rfl
theorem epochR_image {c : Cfg} {s : ByteArray} (h : ¬ epochR c s < 0) : isImageB c s = true := by
  unfold epochR at h
  split at h
  · assumption
  · omega
/-- A half that may be logged. -/
def canB (c : Cfg) (x : Int) : Bool := (decide (4 ≤ x) && decide (x ≤ 5)) || (decide (2 * (4 + c.2.1) ≤ x) && decide (x ≤ 2 * c.1 - 1))
theorem spec_l5Half_f (c : Cfg) (hc : configOk c = true) (x : Int) : spec_l5Half.f c.1 c.2.1 c.2.2.1 c.2.2.2 x = some (canB c x) := by
  have hf := configOk_facts hc
  unfold spec_l5Half.f canB
  rw [w64 (x := 4 + c.2.1) (by omega) (by omega), w64 (x := 2 * (4 + c.2.1)) (by omega) (by omega), w64 (x := 2 * c.1) (by omega) (by omega), w64 (x := 2 * c.1 - 1) (by omega) (by omega), l1In_f, Option.bind_some]
  by_cases h4 : x = 4
  · rw [if_pos h4, h4]; rfl
  rw [if_neg h4]
  by_cases h5 : x = 5
  · rw [if_pos h5, h5]; rfl
  rw [if_neg h5, show (decide (4 ≤ x) && decide (x ≤ 5)) = false from by simp; omega, Bool.false_or]
theorem impl_canLog_f (c : Cfg) (hc : configOk c = true) (x : Int) : impl_canLog.f c.1 c.2.1 c.2.2.1 c.2.2.2 x = some (canB c x) := by
  have hf := configOk_facts hc
  unfold impl_canLog.f canB
  rw [w64 (x := 4 + c.2.1) (by omega) (by omega), w64 (x := 2 * (4 + c.2.1)) (by omega) (by omega), w64 (x := 2 * c.1) (by omega) (by omega), w64 (x := 2 * c.1 - 1) (by omega) (by omega), within_f, Option.bind_some, within_f, Option.bind_some]
  by_cases h : (decide (4 ≤ x) && decide (x ≤ 5)) = true
  · rw [if_pos h, h, Bool.true_or]
  · rw [if_neg h, Bool.eq_false_iff.2 h, Bool.false_or]
/-- The place of a record of a half. -/
def placeF (h : Int) : Nat → List Rec → Int
  | _, [] => -1
  | i, r :: l => if r.2.2.1 = h then (i : Int) else placeF h (i + 1) l
def hasHalf (l : List Rec) (h : Int) : Bool := l.any fun r => decide (r.2.2.1 = h)
theorem placeF_has (h : Int) : ∀ (l : List Rec) (i : Nat), decide (placeF h i l ≥ 0) = hasHalf l h
  | [], i => rfl
  | r :: l, i => by
    unfold placeF hasHalf
    rw [List.any_cons]
    by_cases k : r.2.2.1 = h
    · rw [if_pos k, decide_eq_true k, Bool.true_or]
      exact decide_eq_true (by omega)
    · rw [if_neg k, decide_eq_false k, Bool.false_or]
      exact placeF_has h l (i + 1)
theorem spec_l5Place_ev (l : List Rec) (h : Int) (hl : l.length ≤ 1048576) : Ev (fun k => spec_l5Place.f k l h) (placeF h 0 l) := by
  have key : ∀ i, i ≤ l.length → Ev (fun k => spec_l5Place.p6 k l h (i : Int)) (placeF h i (l.drop i)) := by
    refine down ?_ ?_
    · refine Ev.step (fun k => by rw [spec_l5Place.p6]) ?_
      rw [List.drop_eq_nil_of_le (Nat.le_refl _)]
      exact Ev.neg (by omega) (Ev.eq rfl)
    · intro i hi ih
      have hg : rdOf ((0, (0, (0, ByteArray.empty))) : Rec) l (i : Int) = l[i] := rdg hi
      refine Ev.step (fun k => by rw [spec_l5Place.p6]) ?_
      rw [w64s (i := i) (by omega), hg, List.drop_eq_getElem_cons hi, placeF]
      refine Ev.pos (by omega) (Ev.pos (by omega) (Ev.pos (by omega) ?_))
      by_cases k : (l[i]).2.2.1 = h
      · rw [if_pos k]; exact Ev.pos k (Ev.eq rfl)
      · rw [if_neg k]; exact Ev.neg k ih
  unfold spec_l5Place.f
  exact key 0 (Nat.zero_le _)
theorem impl_twice_ev (l : List Rec) (x : Rec) (hl : l.length ≤ 1048576) : Ev (fun k => slices_ContainsFunc_implRecord_at_impl_LogOf_1.f k l x) (hasHalf l x.2.2.1) := by
  have key : ∀ i, i ≤ l.length → Ev (fun k => slices_IndexFunc_implRecord_at_impl_LogOf_1.p6 k l x (l.length : Int) (i : Int)) (placeF x.2.2.1 i (l.drop i)) := by
    refine down ?_ ?_
    · refine Ev.step (fun k => by rw [slices_IndexFunc_implRecord_at_impl_LogOf_1.p6]) ?_
      rw [List.drop_eq_nil_of_le (Nat.le_refl _)]
      exact Ev.neg (by omega) (Ev.eq rfl)
    · intro i hi ih
      have hg : rdOf ((0, (0, (0, ByteArray.empty))) : Rec) l (i : Int) = l[i] := rdg hi
      refine Ev.step (fun k => by rw [slices_IndexFunc_implRecord_at_impl_LogOf_1.p6]) ?_
      rw [w64s (i := i) (by omega), hg, List.drop_eq_getElem_cons hi, placeF]
      unfold impl_LogOf_1.f
      refine Ev.pos (by omega) (Ev.pos (by omega) (Ev.pos (by omega) ?_))
      refine Ev.bindo rfl ?_
      by_cases k : (l[i]).2.2.1 = x.2.2.1
      · rw [if_pos k]; exact Ev.pos (decide_eq_true k) (Ev.eq rfl)
      · rw [if_neg k]; exact Ev.neg (by simpa using k) ih
  unfold slices_ContainsFunc_implRecord_at_impl_LogOf_1.f slices_IndexFunc_implRecord_at_impl_LogOf_1.f
  exact Ev.bind (key 0 (Nat.zero_le _)) (Ev.eq (placeF_has _ _ _))
/-- The records that are current, line by line. -/
def logF (c : Cfg) (s : ByteArray) (e : Int) : Nat → Nat → List Rec → Option (List Rec)
  | 0, _, out => some out
  | d + 1, i, out => match recO (lineB s (4 + i)) with
    | none => logF c s e d (i + 1) out
    | some r => if r.1 < e then logF c s e d (i + 1) out else if e < r.1 then none else
      if (decide (out.length = i) && (decide (r.2.1 = (i : Int)) && (canB c r.2.2.1 && !hasHalf out r.2.2.1))) = true then logF c s e d (i + 1) (out ++ [r]) else none
def logR (c : Cfg) (s : ByteArray) : Option (List Rec) := if epochR c s < 0 then none else logF c s (epochR c s) c.2.1.toNat 0 []
def outL : Option (List Rec) → List Rec × Bool
  | some l => (l, true)
  | none => ([], false)
theorem spec_LogOf_ev (c : Cfg) (s : ByteArray) (hl : c.2.2.2.length ≤ 1048576) (ht : ∀ x ∈ c.2.2.2, x.size ≤ 1048576) : Ev (fun k => spec_LogOf.f k c.1 c.2.1 c.2.2.1 c.2.2.2 s) (outL (logR c s)) := by
  unfold spec_LogOf.f logR
  refine Ev.bind (spec_EpochOf_ev c s hl ht) (Ev.cases (fun h => by rw [if_pos h]; exact Ev.eq rfl) (fun h => ?_))
  obtain ⟨hc, hz⟩ := isImageB_facts (epochR_image h)
  have hf := configOk_facts hc
  rw [if_neg h]
  generalize epochR c s = e
  have bad : ∀ (out : List Rec) (i : Nat) (r : Rec) (b : Bool), b = true → Ev (fun k => spec_LogOf.p46 k s c.1 c.2.1 c.2.2.1 c.2.2.2 e out (i : Int) r.1 r.2.1 r.2.2.1 r.2.2.2 b) (([] : List Rec), false) := by
    intro out i r b hb
    refine Ev.step (fun k => by rw [spec_LogOf.p46]) ?_
    exact Ev.pos hb (Ev.eq rfl)
  have key : ∀ (d i : Nat) (out : List Rec), i + d = c.2.1.toNat → out.length ≤ i → Ev (fun k => spec_LogOf.p18 k s c.1 c.2.1 c.2.2.1 c.2.2.2 e out (i : Int)) (outL (logF c s e d i out)) := by
    intro d
    induction d with
    | zero =>
      intro i out hi ho
      refine Ev.step (fun k => by rw [spec_LogOf.p18]) ?_
      exact Ev.neg (by omega) (Ev.eq rfl)
    | succ d ih =>
      intro i out hi ho
      have hlz : (lineB s (4 + i)).size = 64 := lineB_size (by omega)
      refine Ev.step (fun k => by rw [spec_LogOf.p18]) ?_
      rw [show wrap64 (4 + (i : Int)) = ((4 + i : Nat) : Int) from by rw [w64 (by omega) (by omega)]; omega]
      refine Ev.pos (by omega) (Ev.bindo (spec_l5Line_f s (4 + i) (by omega) (by omega)) (Ev.bind (spec_ReadRecord_ev _ hlz) ?_))
      unfold logF
      have nx : ∀ (x : Int × Int × Int × ByteArray) (b : Bool), b = true → Ev (fun k => spec_LogOf.p40 k s c.1 c.2.1 c.2.2.1 c.2.2.2 e out (i : Int) x.1 x.2.1 x.2.2.1 x.2.2.2 b) (outL (logF c s e d (i + 1) out)) := by
        intro x b hb
        refine Ev.step (fun k => by rw [spec_LogOf.p40]) ?_
        rw [w64s (i := i) (by omega)]
        exact Ev.pos hb (ih (i + 1) out (by omega) (by omega))
      cases hr : recO (lineB s (4 + i)) with
      | none =>
        simp only [outR]
        refine Ev.neg (by simp) ?_
        refine Ev.step (fun k => by rw [spec_LogOf.p32]) ?_
        exact Ev.neg (by simp) (Ev.neg (by simp) (nx (0, 0, 0, ⟨#[]⟩) true rfl))
      | some r =>
        simp only [outR]
        refine Ev.pos trivial ?_
        refine Ev.step (fun k => by rw [spec_LogOf.p32]) ?_
        by_cases g1 : r.1 > e
        · rw [if_neg (by omega), if_pos (show e < r.1 from g1)]
          exact Ev.pos (decide_eq_true g1) (Ev.eq rfl)
        refine Ev.neg (fun h => g1 (of_decide_eq_true h)) (Ev.pos rfl ?_)
        by_cases g2 : r.1 = e
        rotate_left
        · rw [if_pos (show r.1 < e by omega)]
          exact nx r _ (by rw [decide_eq_false g2]; rfl)
        rw [if_neg (by omega), if_neg (by omega)]
        refine Ev.step (fun k => by rw [spec_LogOf.p40]) ?_
        refine Ev.neg (by rw [decide_eq_true g2]; simp) ?_
        by_cases g3 : (i : Int) = (out.length : Int)
        rotate_left
        · rw [if_neg (by rw [decide_eq_false (show ¬ out.length = i by omega)]; simp)]
          exact Ev.neg g3 (bad out i r true rfl)
        rw [decide_eq_true (show out.length = i by omega), Bool.true_and]
        refine Ev.pos g3 ?_
        by_cases g4 : r.2.1 = (i : Int)
        rotate_left
        · rw [if_neg (by rw [decide_eq_false g4]; simp)]
          exact Ev.neg g4 (bad out i r true rfl)
        rw [decide_eq_true g4, Bool.true_and]
        refine Ev.pos g4 (Ev.bindo (spec_l5Half_f c hc _) ?_)
        by_cases g5 : canB c r.2.2.1 = true
        rotate_left
        · rw [if_neg (by rw [Bool.eq_false_iff.2 g5]; simp)]
          exact Ev.neg g5 (bad out i r true rfl)
        rw [g5, Bool.true_and]
        refine Ev.pos rfl (Ev.bind (spec_l5Place_ev out r.2.2.1 (by omega)) ?_)
        rw [placeF_has]
        by_cases g6 : hasHalf out r.2.2.1 = true
        · rw [if_neg (by rw [g6]; simp)]
          exact bad out i r _ g6
        rw [Bool.eq_false_iff.2 g6, if_pos (by simp)]
        refine Ev.step (fun k => by rw [spec_LogOf.p46]) ?_
        rw [w64s (i := i) (by omega)]
        exact Ev.neg (by simp) (Ev.pos (by omega) (ih (i + 1) _ (by omega) (by simp; omega)))
  exact key _ 0 [] (Nat.zero_add _) (Nat.le_refl _)
theorem impl_LogOf_ev (c : Cfg) (s : ByteArray) (ht : ∀ x ∈ c.2.2.2, x.size ≤ 1048576) : Ev (fun k => impl_LogOf.f k c.1 c.2.1 c.2.2.1 c.2.2.2 s) (outL (logR c s)) := by
  unfold impl_LogOf.f logR
  refine Ev.bind (impl_EpochOf_ev c s ht) (Ev.cases (fun h => by rw [if_pos h]; exact Ev.eq rfl) (fun h => ?_))
  obtain ⟨hc, hz⟩ := isImageB_facts (epochR_image h)
  have hf := configOk_facts hc
  rw [if_neg h]
  generalize epochR c s = e
  obtain ⟨n, hn⟩ := Int.eq_ofNat_of_zero_le (show 0 ≤ c.2.1 by omega)
  have hn : c.2.1 = (n : Int) := hn
  have bad : ∀ (out : List Rec) (i : Nat) (r : Rec) (b : Bool), b = true → Ev (fun k => impl_LogOf.p42 k s c.1 c.2.1 c.2.2.1 c.2.2.2 e out r.1 r.2.1 r.2.2.1 r.2.2.2 c.2.1 (i : Int) b) (([] : List Rec), false) := by
    intro out i r b hb
    refine Ev.step (fun k => by rw [impl_LogOf.p42]) ?_
    exact Ev.pos hb (Ev.eq rfl)
  have key : ∀ (d i : Nat) (out : List Rec), i + d = c.2.1.toNat → out.length ≤ i → Ev (fun k => impl_LogOf.p18 k s c.1 c.2.1 c.2.2.1 c.2.2.2 e out c.2.1 (i : Int)) (outL (logF c s e d i out)) := by
    intro d
    induction d with
    | zero =>
      intro i out hi ho
      refine Ev.step (fun k => by rw [impl_LogOf.p18]) ?_
      exact Ev.neg (by omega) (Ev.eq rfl)
    | succ d ih =>
      intro i out hi ho
      have hlz : (lineB s (4 + i)).size = 64 := lineB_size (by omega)
      refine Ev.step (fun k => by rw [impl_LogOf.p18]) ?_
      rw [show wrap64 (4 + (i : Int)) = ((4 + i : Nat) : Int) from by rw [w64 (by omega) (by omega)]; omega]
      refine Ev.pos (by omega) (Ev.bindo (impl_lineOf_f s (4 + i) (by omega) (by omega)) (Ev.bind (impl_ReadRecord_ev _ hlz) ?_))
      unfold logF
      have nx : ∀ (x : Int × Int × Int × ByteArray) (b : Bool), b = true → Ev (fun k => impl_LogOf.p34 k s c.1 c.2.1 c.2.2.1 c.2.2.2 e out (i : Int) x.1 x.2.1 x.2.2.1 x.2.2.2 c.2.1 (i : Int) b) (outL (logF c s e d (i + 1) out)) := by
        intro x b hb
        refine Ev.step (fun k => by rw [impl_LogOf.p34]) ?_
        rw [w64s (i := i) (by omega)]
        exact Ev.pos hb (ih (i + 1) out (by omega) (by omega))
      cases hr : recO (lineB s (4 + i)) with
      | none =>
        simp only [outR]
        exact Ev.neg (by simp) (nx (0, 0, 0, ⟨#[]⟩) true rfl)
      | some r =>
        simp only [outR]
        refine Ev.pos trivial ?_
        by_cases g0 : r.1 < e
        · rw [if_pos g0]
          exact nx r _ (decide_eq_true g0)
        rw [if_neg g0]
        refine Ev.step (fun k => by rw [impl_LogOf.p34]) ?_
        refine Ev.neg (fun h => g0 (of_decide_eq_true h)) (Ev.bind (impl_twice_ev out r (by omega)) ?_)
        by_cases g1 : r.1 > e
        · rw [if_pos (show e < r.1 from g1)]
          exact Ev.pos g1 (bad out i r true rfl)
        rw [if_neg (show ¬ e < r.1 from g1)]
        refine Ev.neg g1 (Ev.bindo rfl ?_)
        by_cases g3 : (out.length : Int) = (i : Int)
        rotate_left
        · rw [if_neg (by rw [decide_eq_false (show ¬ out.length = i by omega)]; simp)]
          exact Ev.neg g3 (bad out i r true rfl)
        rw [decide_eq_true (show out.length = i by omega), Bool.true_and]
        refine Ev.pos g3 ?_
        by_cases g4 : r.2.1 = (i : Int)
        rotate_left
        · rw [if_neg (by rw [decide_eq_false g4]; simp)]
          exact Ev.neg g4 (bad out i r true rfl)
        rw [decide_eq_true g4, Bool.true_and]
        refine Ev.pos g4 (Ev.bindo (impl_canLog_f c hc _) ?_)
        by_cases g5 : canB c r.2.2.1 = true
        rotate_left
        · rw [if_neg (by rw [Bool.eq_false_iff.2 g5]; simp)]
          exact Ev.neg g5 (bad out i r true rfl)
        rw [g5, Bool.true_and]
        refine Ev.pos rfl ?_
        by_cases g6 : hasHalf out r.2.2.1 = true
        · rw [if_neg (by rw [g6]; simp)]
          exact bad out i r _ g6
        rw [Bool.eq_false_iff.2 g6, if_pos (by simp)]
        refine Ev.step (fun k => by rw [impl_LogOf.p42]) ?_
        rw [w64s (i := i) (by omega)]
        exact Ev.neg (by simp) (Ev.pos (by omega) (ih (i + 1) _ (by omega) (by simp; omega)))
  exact key _ 0 [] (Nat.zero_add _) (Nat.le_refl _)
/-- What holds of every current record. -/
theorem logF_all {c : Cfg} {s : ByteArray} {e : Int} (hz : ∀ i : Nat, (i : Int) < c.2.1 → (lineB s (4 + i)).size = 64) : ∀ (d i : Nat) (out : List Rec) {l : List Rec}, ((i + d : Nat) : Int) ≤ c.2.1 → (∀ x ∈ out, recOk x = true ∧ canB c x.2.2.1 = true) → out.length ≤ i → logF c s e d i out = some l → (∀ x ∈ l, recOk x = true ∧ canB c x.2.2.1 = true) ∧ l.length ≤ i + d
  | 0, i, out, l, _, ho, hle, h => by
    unfold logF at h
    injection h with h
    subst h
    exact ⟨ho, by omega⟩
  | d + 1, i, out, l, hi, ho, hle, h => by
    have hw : i + 1 + d = i + (d + 1) := by omega
    unfold logF at h
    split at h
    · have := logF_all hz d (i + 1) out (by omega) ho (by omega) h
      rwa [hw] at this
    · rename_i r hr
      split at h
      · have := logF_all hz d (i + 1) out (by omega) ho (by omega) h
        rwa [hw] at this
      · split at h
        · cases h
        · split at h
          · rename_i hk
            simp only [Bool.and_eq_true] at hk
            have := logF_all hz d (i + 1) (out ++ [r]) (by omega) (fun x hx => by
              rcases List.mem_append.1 hx with hx | hx
              · exact ho x hx
              · rw [List.mem_singleton.1 hx]
                exact ⟨recO_ok (hz i (by omega)) hr, hk.2.2.1⟩) (by simp; omega) h
            rwa [hw] at this
          · cases h
theorem logR_all {c : Cfg} {s : ByteArray} {l : List Rec} (h : logR c s = some l) : isImageB c s = true ∧ (∀ x ∈ l, recOk x = true ∧ canB c x.2.2.1 = true) ∧ l.length ≤ 32 := by
  unfold logR at h
  split at h
  · cases h
  · rename_i hn
    have him := epochR_image hn
    obtain ⟨hc, hz⟩ := isImageB_facts him
    have hf := configOk_facts hc
    obtain ⟨h1, h2⟩ := logF_all (fun i hi => lineB_size (by omega)) _ 0 [] (by omega) (fun x hx => by cases hx) (Nat.le_refl _) h
    exact ⟨him, h1, by omega⟩
end Go.Proofs.YtmciidoohbmipaaGreatDoor.Abs.Pu
namespace Go.Proofs.YtmciidoohbmipaaGreatDoor.Abs.Pu
open Go Go.RowKit
set_option linter.unusedVariables false
set_option linter.unusedSectionVars false
set_option linter.unusedSimpArgs false
theorem uniq_same : ∀ (a b : List Int), (a.Pairwise fun x y => x < y) → (b.Pairwise fun x y => x < y) → (∀ x, x ∈ a ↔ x ∈ b) → a = b
  | [], [], _, _, _ => rfl
  | [], y :: b, _, _, h => absurd ((h y).2 List.mem_cons_self) (by simp)
  | x :: a, [], _, _, h => absurd ((h x).1 List.mem_cons_self) (by simp)
  | x :: a, y :: b, ha, hb, h => by
    rw [List.pairwise_cons] at ha hb
    have e : x = y := by
      rcases List.mem_cons.1 ((h x).1 List.mem_cons_self) with e | e
      · exact e
      · rcases List.mem_cons.1 ((h y).2 List.mem_cons_self) with e' | e'
        · exact e'.symm
        · have := hb.1 x e
          have := ha.1 y e'
          omega
    subst e
    rw [uniq_same a b ha.2 hb.2 fun z => ?_]
    constructor
    · intro hz
      rcases List.mem_cons.1 ((h z).1 (List.mem_cons_of_mem _ hz)) with e | e
      · have := ha.1 z hz; omega
      · exact e
    · intro hz
      rcases List.mem_cons.1 ((h z).2 (List.mem_cons_of_mem _ hz)) with e | e
      · have := hb.1 z hz; omega
      · exact e
theorem arr_get (l : List Int) (j : Nat) (h : j < l.length) : l.toArray[j]! = l[j] := by
  rw [getElem!_pos _ j (by simpa using h)]
  simp
theorem keeps_iff (l : List Int) (j : Nat) (h : j < l.length) : Lib.keeps l.toArray j = true ↔ j = 0 ∨ l[j] ≠ l[j - 1]'(by omega) := by
  unfold Lib.keeps
  rw [arr_get l j h, arr_get l (j - 1) (by omega), decide_eq_true_eq]
theorem compact_mem (l : List Int) (x : Int) : x ∈ Lib.compact l ↔ x ∈ l := by
  unfold Lib.compact Lib.compactUpTo
  constructor
  · intro h
    obtain ⟨j, hj, rfl⟩ := List.mem_map.1 h
    have := List.mem_range.1 (List.mem_filter.1 hj).1
    rw [arr_get l j this]
    exact List.getElem_mem _
  · intro h
    obtain ⟨j, hj, rfl⟩ := List.getElem_of_mem h
    have key : ∀ (n j : Nat) (hj : j < l.length), j ≤ n → l[j] ∈ ((List.range l.length).filter (Lib.keeps l.toArray)).map (l.toArray[·]!) := by
      intro n
      induction n with
      | zero =>
        intro j hj hn
        obtain rfl : j = 0 := by omega
        exact List.mem_map.2 ⟨0, List.mem_filter.2 ⟨List.mem_range.2 hj, (keeps_iff l 0 hj).2 (.inl rfl)⟩, arr_get l 0 hj⟩
      | succ n ih =>
        intro j hj hn
        by_cases c : j = 0 ∨ l[j] ≠ l[j - 1]'(by omega)
        · exact List.mem_map.2 ⟨j, List.mem_filter.2 ⟨List.mem_range.2 hj, (keeps_iff l j hj).2 c⟩, arr_get l j hj⟩
        · have c1 : j ≠ 0 := fun e => c (.inl e)
          have c2 : l[j] = l[j - 1]'(by omega) := Classical.byContradiction fun e => c (.inr e)
          rw [c2]
          exact ih (j - 1) (by omega) (by omega)
    exact key j j hj (Nat.le_refl _)
theorem compact_sorted (l : List Int) (h : l.Pairwise fun x y => x ≤ y) : (Lib.compact l).Pairwise fun x y => x < y := by
  rw [List.pairwise_iff_getElem] at h
  unfold Lib.compact Lib.compactUpTo
  refine List.pairwise_map.2 ?_
  have h0 : ((List.range l.length).filter (Lib.keeps l.toArray)).Pairwise fun i j => i < j := List.Pairwise.filter _ List.pairwise_lt_range
  refine List.Pairwise.imp_of_mem (fun {i j} hi hj hij => ?_) h0
  have hi1 := List.mem_range.1 (List.mem_filter.1 hi).1
  have hj1 := List.mem_range.1 (List.mem_filter.1 hj).1
  have hk := (keeps_iff l j hj1).1 (List.mem_filter.1 hj).2
  rw [arr_get l i hi1, arr_get l j hj1]
  rcases hk with hk | hk
  · omega
  · have h1 := h (j - 1) j (by omega) hj1 (by omega)
    rcases Nat.lt_or_ge i (j - 1) with c | c
    · have := h i (j - 1) hi1 (by omega) c
      omega
    · obtain rfl : i = j - 1 := by omega
      omega
def ordS (l : List Int) : List Int := l.mergeSort fun x y => decide (x ≤ y)
theorem ordS_sorted (l : List Int) : (ordS l).Pairwise fun x y => x ≤ y := by
  have := List.pairwise_mergeSort (le := fun x y : Int => decide (x ≤ y)) (fun a b c h1 h2 => by simp at *; omega) (fun a b => by simp; omega) l
  exact this.imp fun h => of_decide_eq_true h
theorem ordS_mem (l : List Int) (x : Int) : x ∈ ordS l ↔ x ∈ l := List.mem_mergeSort
/-- Once each, in order. -/
theorem uniq_eq (l m : List Int) (hm : m.Pairwise fun x y => x < y) (h : ∀ x, x ∈ l ↔ x ∈ m) : Lib.compact (ordS l) = m :=
  uniq_same _ _ (compact_sorted _ (ordS_sorted l)) hm fun x => by rw [compact_mem, ordS_mem]; exact h x
end Go.Proofs.YtmciidoohbmipaaGreatDoor.Abs.Pu
namespace Go.Proofs.YtmciidoohbmipaaGreatDoor.Abs.Pu
open Go Go.RowKit
set_option linter.unusedVariables false
set_option linter.unusedSectionVars false
set_option linter.unusedSimpArgs false
abbrev rc0 : Rec := (0, (0, (0, ByteArray.empty)))
theorem spec_l2Seen_ev {n : Nat} {d : Dev} (h : DevP n d) : Ev (fun k => spec_l2Seen.f k d.1 d.2) (seenB d) := by
  have hn := h.hi
  have hln := h.len
  unfold spec_l2Seen.f seenB
  have key : ∀ i, i ≤ d.2.length → ∀ s : ByteArray, s.size = 64 * n → Ev (fun k => spec_l2Seen.p8 k d.1 d.2 (bytesOf s) (i : Int)) (pickF (d.2.drop i) (allTwo (d.2.drop i)) s) := by
    refine down ?_ ?_
    · intro s hs
      refine Ev.step (fun k => by rw [spec_l2Seen.p8]) ?_
      rw [List.drop_eq_nil_of_le (Nat.le_refl _)]
      exact Ev.neg (by omega) (Ev.eq (strOfNums_bytesOf s))
    · intro i hi ih s hs
      have hg : rdOf ln0 d.2 (i : Int) = d.2[i] := rdg hi
      have hx := h.lines _ (List.getElem_mem hi)
      have hfit := hx.fits hs
      have nx := ih (put64 s d.2[i].1 d.2[i].2.1) (put64_size hx hs (by have := hx.data; omega))
      refine Ev.step (fun k => by rw [spec_l2Seen.p8]) ?_
      rw [w64s (i := i) (by omega), hg, hx.w (by omega), bytesOf_length, Int.toNat_natCast, cpy_repl (by have := hx.data; omega), List.drop_eq_getElem_cons hi]
      show Ev _ (pickF (d.2.drop (i + 1)) (allTwo (d.2.drop (i + 1))) (picked d.2[i] 2 s))
      rw [show picked d.2[i] 2 s = put64 s d.2[i].1 d.2[i].2.1 from if_pos rfl]
      exact Ev.pos (by omega) (Ev.pos (by omega) (Ev.pos (by omega) (Ev.pos (by omega) (Ev.pos (by omega) (Ev.pos (by omega) (Ev.pos (by omega) nx))))))
  rw [numsOf_eq]
  have := key 0 (Nat.zero_le _) d.1 h.size
  rw [List.drop_zero] at this
  exact this
/-! ### Steps with power enough -/
theorem on_f (d : Dev) (st : Int) : spec_l5W_on.f d.1 d.2 (-1) st false = some (d.1, d.2, -1, wrap64 (st + 1), false, true) := by
  unfold spec_l5W_on.f
  rw [if_neg (by simp), if_neg (by omega), if_neg (by omega)]
theorem step_f (d : Dev) (cnt : Int) : impl_machine_step.f d.1 d.2 (-1) cnt = some (d.1, d.2, -1, wrap64 (cnt + 1)) := by
  unfold impl_machine_step.f
  rw [if_neg (by omega), if_neg (by rw [w64 (by omega) (by omega)]; omega)]
section
variable {n : Nat} {d : Dev}
theorem wstore_ev (h : DevP n d) (L p : Nat) (t : ByteArray) (hL : L < n) (hp : p + t.size ≤ 64) (hp2 : p < 64) (st : Int) : Ev (fun k => spec_l5W_store.f k d.1 d.2 (-1) st false ((64 * L + p : Nat) : Int) t) ((storeR d L p t).1, (storeR d L p t).2, -1, wrap64 (st + 1), false) := by
  unfold spec_l5W_store.f
  exact Ev.bindo (on_f d st) (Ev.pos rfl (Ev.bind (spec_l2Store_ev h L p t hL hp hp2) (Ev.eq rfl)))
theorem wflush_ev (h : DevP n d) (L : Int) (st : Int) : Ev (fun k => spec_l5W_flush.f k d.1 d.2 (-1) st false L) ((flushR d L).1, (flushR d L).2, -1, wrap64 (st + 1), false) := by
  unfold spec_l5W_flush.f
  exact Ev.bindo (on_f d st) (Ev.pos rfl (Ev.bind (spec_l2Flush_ev h L) (Ev.eq rfl)))
theorem wfence_ev (h : DevP n d) (st : Int) : Ev (fun k => spec_l5W_fence.f k d.1 d.2 (-1) st false) ((fenceR d).1, (fenceR d).2, -1, wrap64 (st + 1), false) := by
  unfold spec_l5W_fence.f
  exact Ev.bindo (on_f d st) (Ev.pos rfl (Ev.bind (spec_l2Fence_ev h) (Ev.eq rfl)))
theorem mstore_ev (h : DevP n d) (L p : Nat) (t : ByteArray) (hL : L < n) (hp : p + t.size ≤ 64) (hp2 : p < 64) (st : Int) : Ev (fun k => impl_machine_store.f k d.1 d.2 (-1) st ((64 * L + p : Nat) : Int) t) ((storeR d L p t).1, (storeR d L p t).2, -1, wrap64 (st + 1)) := by
  unfold impl_machine_store.f
  exact Ev.bindo (step_f d st) (Ev.bind (impl_store_ev h L p t hL hp hp2) (Ev.eq rfl))
theorem mflush_ev (h : DevP n d) (L : Int) (st : Int) : Ev (fun k => impl_machine_flush.f k d.1 d.2 (-1) st L) ((flushR d L).1, (flushR d L).2, -1, wrap64 (st + 1)) := by
  unfold impl_machine_flush.f
  exact Ev.bindo (step_f d st) (Ev.bind (impl_flush_ev h L) (Ev.eq rfl))
theorem mfence_ev (h : DevP n d) (st : Int) : Ev (fun k => impl_machine_fence.f k d.1 d.2 (-1) st) ((fenceR d).1, (fenceR d).2, -1, wrap64 (st + 1)) := by
  unfold impl_machine_fence.f
  exact Ev.bindo (step_f d st) (Ev.bind (impl_fence_ev h) (Ev.eq rfl))
/-- The epoch goes on by one. -/
def nextR (d : Dev) (e : Int) : Dev := fenceR (flushR (storeR d 1 0 (epochL (wrap64 (e + 1)))) 1)
theorem epochL_fits (e : Int) : 0 + (epochL e).size ≤ 64 := by
  rcases epochL_size e with h | h
  · omega
  · rw [h]; exact Nat.zero_le _
theorem nextR_ok (h : DevP n d) (h1 : 1 < n) (e : Int) : DevP n (nextR d e) := fenceR_ok (flushR_ok (storeR_ok h 1 0 _ h1 (epochL_fits _)) 1)
theorem wnext_ev (h : DevP n d) (h1 : 1 < n) (c : Cfg) (e st : Int) : ∃ st', Ev (fun k => spec_l5W_next.f k d.1 d.2 (-1) st false c.1 c.2.1 c.2.2.1 c.2.2.2 e) ((nextR d e).1, (nextR d e).2, -1, st', false) := by
  have s1 := storeR_ok h 1 0 (epochL (wrap64 (e + 1))) h1 (epochL_fits _)
  have a1 := wstore_ev h 1 0 (epochL (wrap64 (e + 1))) h1 (epochL_fits _) (by omega) st
  rw [show ((64 * 1 + 0 : Nat) : Int) = 64 from rfl] at a1
  refine ⟨wrap64 (wrap64 (wrap64 (st + 1) + 1) + 1), ?_⟩
  unfold spec_l5W_next.f
  exact Ev.bind (spec_EpochLine_ev _) (Ev.bind a1 (Ev.bind (wflush_ev s1 1 _) (Ev.bind (wfence_ev (flushR_ok s1 1) _) (Ev.eq rfl))))
theorem msync_ev (h : DevP n d) (h1 : 1 < n) (e st : Int) : ∃ st', Ev (fun k => impl_machine_sync.f k d.1 d.2 (-1) st 1 (epochL (wrap64 (e + 1)))) ((nextR d e).1, (nextR d e).2, -1, st') := by
  have s1 := storeR_ok h 1 0 (epochL (wrap64 (e + 1))) h1 (epochL_fits _)
  have a1 := mstore_ev h 1 0 (epochL (wrap64 (e + 1))) h1 (epochL_fits _) (by omega) st
  rw [show ((64 * 1 + 0 : Nat) : Int) = wrap64 (64 * 1) from by rw [w64 (by omega) (by omega)]; rfl] at a1
  refine ⟨wrap64 (wrap64 (wrap64 (st + 1) + 1) + 1), ?_⟩
  unfold impl_machine_sync.f
  exact Ev.bind a1 (Ev.bind (mflush_ev s1 1 _) (Ev.bind (mfence_ev (flushR_ok s1 1) _) (Ev.eq rfl)))
end
/-! ### Halves put back -/
def lineI (h : Int) : Nat := (h / 2).toNat
def partI (h : Int) : Nat := (32 * (h % 2)).toNat
theorem half_at {c : Cfg} (hc : configOk c = true) {h : Int} (hb : canB c h = true) : wrap64 (32 * h) = ((64 * lineI h + partI h : Nat) : Int) ∧ partI h + 32 ≤ 64 ∧ (lineI h : Int) < c.1 ∧ wrap64 (Int.tdiv h 2) = (lineI h : Int) ∧ (h = 2 * (lineI h : Int) ∨ h = 2 * (lineI h : Int) + 1) := by
  have hf := configOk_facts hc
  unfold canB at hb
  simp only [Bool.or_eq_true, Bool.and_eq_true, decide_eq_true_eq] at hb
  have h0 : 0 ≤ h := by omega
  unfold lineI partI
  rw [w64 (by omega) (by omega), Int.tdiv_eq_ediv_of_nonneg h0, w64 (by omega) (by omega)]
  omega
def backR (d : Dev) (r : Rec) : Dev := storeR d (lineI r.2.2.1) (partI r.2.2.1) r.2.2.2
def backsR (l : List Rec) (d : Dev) : Dev := l.foldr (fun r d => backR d r) d
theorem backs_snoc (l : List Rec) (j : Nat) (h : j < l.length) (d : Dev) : backsR (l.take (j + 1)) d = backsR (l.take j) (backR d l[j]) := by
  rw [take_snoc2 _ _ h]
  unfold backsR
  rw [List.foldr_append]
  rfl
def flushLs (ls : List Int) (d : Dev) : Dev := ls.foldl flushR d
theorem flushLs_ok {n : Nat} : ∀ (ls : List Int) {d : Dev}, DevP n d → DevP n (flushLs ls d)
  | [], _, h => h
  | L :: ls, _, h => flushLs_ok ls (flushR_ok h L)
def hasLine (l : List Rec) (L : Nat) : Bool := hasHalf l (2 * (L : Int)) || hasHalf l (2 * (L : Int) + 1)
def lineL (l : List Rec) (n i : Nat) : List Int := ((List.range' i (n - i)).filter (hasLine l)).map fun L : Nat => (L : Int)
def endR (ls : List Int) (d : Dev) (e : Int) : Dev := nextR (fenceR (flushLs ls d)) e
theorem lineL_end (l : List Rec) (n : Nat) : lineL l n n = [] := by
  unfold lineL
  rw [Nat.sub_self]
  rfl
theorem lineL_succ (l : List Rec) (n i : Nat) (h : i < n) : lineL l n i = if hasLine l i = true then (i : Int) :: lineL l n (i + 1) else lineL l n (i + 1) := by
  unfold lineL
  rw [show n - i = (n - (i + 1)) + 1 from by omega, List.range'_succ, List.filter_cons]
  split <;> rfl
section
variable {c : Cfg} {n : Nat} {l : List Rec}
theorem back_ok (hc : configOk c = true) (hn : (n : Int) = c.1) {r : Rec} (hr : recOk r = true ∧ canB c r.2.2.1 = true) {d : Dev} (h : DevP n d) : DevP n (backR d r) := by
  obtain ⟨a1, a2, a3, a4, a5⟩ := half_at hc hr.2
  have := (recOk_facts hr.1).2.2.2.2.2.2
  exact storeR_ok h _ _ _ (by omega) (by omega)
theorem backs_ok (hc : configOk c = true) (hn : (n : Int) = c.1) : ∀ (l : List Rec) {d : Dev}, (∀ r ∈ l, recOk r = true ∧ canB c r.2.2.1 = true) → DevP n d → DevP n (backsR l d)
  | [], _, _, h => h
  | r :: l, _, hl, h => back_ok hc hn (hl r List.mem_cons_self) (backs_ok hc hn l (fun x hx => hl x (List.mem_cons_of_mem _ hx)) h)
/-- The reference, the lines. -/
theorem spec_p31_ev (hc : configOk c = true) (hn : (n : Int) = c.1) (hlen : l.length ≤ 32) (hl : c.2.2.2.length ≤ 1048576) (ht : ∀ x ∈ c.2.2.2, x.size ≤ 1048576) (img : ByteArray) : ∀ i, i ≤ n → ∀ (d : Dev) (st : Int), DevP n d → ∃ st', Ev (fun k => spec_l5W_back.p31 k d.1 d.2 (-1) st false c.1 c.2.1 c.2.2.1 c.2.2.2 img l (i : Int)) ((endR (lineL l n i) d (epochR c img)).1, (endR (lineL l n i) d (epochR c img)).2, -1, st', false) := by
  have hf := configOk_facts hc
  refine down ?_ ?_
  · intro d st h
    obtain ⟨st', h3⟩ := wnext_ev (fenceR_ok h) (by omega) c (epochR c img) (wrap64 (st + 1))
    refine ⟨st', Ev.step (fun k => by rw [spec_l5W_back.p31]) ?_⟩
    rw [lineL_end]
    exact Ev.neg (by omega) (Ev.bind (wfence_ev h st) (Ev.bind (spec_EpochOf_ev c img hl ht) (Ev.bind h3 (Ev.eq rfl))))
  · intro i hi ih d st h
    obtain ⟨s1, n1⟩ := ih (flushR d (i : Int)) (wrap64 (st + 1)) (flushR_ok h _)
    obtain ⟨s2, n2⟩ := ih d st h
    have p1 := spec_l5Place_ev l (2 * (i : Int)) (by omega)
    have p2 := spec_l5Place_ev l (2 * (i : Int) + 1) (by omega)
    have q1 := placeF_has (2 * (i : Int)) l 0
    have q2 := placeF_has (2 * (i : Int) + 1) l 0
    have w1 : wrap64 (2 * (i : Int)) = 2 * (i : Int) := w64 (by omega) (by omega)
    have w2 : wrap64 (2 * (i : Int) + 1) = 2 * (i : Int) + 1 := w64 (by omega) (by omega)
    rw [lineL_succ l n i hi]
    by_cases c1 : placeF (2 * (i : Int)) 0 l ≥ 0
    · rw [decide_eq_true c1] at q1
      rw [if_pos (by unfold hasLine; rw [← q1]; rfl)]
      refine ⟨s1, Ev.step (fun k => by rw [spec_l5W_back.p31]) ?_⟩
      rw [w64s (i := i) (by omega), w1]
      exact Ev.pos (by omega) (Ev.bind p1 (Ev.pos c1 (Ev.bind (wflush_ev h _ st) n1)))
    · rw [decide_eq_false c1] at q1
      by_cases c2 : placeF (2 * (i : Int) + 1) 0 l ≥ 0
      · rw [decide_eq_true c2] at q2
        rw [if_pos (by unfold hasLine; rw [← q1, ← q2]; rfl)]
        refine ⟨s1, Ev.step (fun k => by rw [spec_l5W_back.p31]) ?_⟩
        rw [w64s (i := i) (by omega), w1, w2]
        exact Ev.pos (by omega) (Ev.bind p1 (Ev.neg c1 (Ev.bind p2 (Ev.pos c2 (Ev.bind (wflush_ev h _ st) n1)))))
      · rw [decide_eq_false c2] at q2
        rw [if_neg (by unfold hasLine; rw [← q1, ← q2]; simp)]
        refine ⟨s2, Ev.step (fun k => by rw [spec_l5W_back.p31]) ?_⟩
        rw [w64s (i := i) (by omega), w1, w2]
        exact Ev.pos (by omega) (Ev.bind p1 (Ev.neg c1 (Ev.bind p2 (Ev.neg c2 n2))))
/-- The reference, the halves. -/
theorem spec_p16_ev (hc : configOk c = true) (hn : (n : Int) = c.1) (hr : ∀ r ∈ l, recOk r = true ∧ canB c r.2.2.1 = true) (hlen : l.length ≤ 32) (hl : c.2.2.2.length ≤ 1048576) (ht : ∀ x ∈ c.2.2.2, x.size ≤ 1048576) (img : ByteArray) : ∀ j, j ≤ l.length → ∀ (d : Dev) (st : Int), DevP n d → ∃ st', Ev (fun k => spec_l5W_back.p16 k d.1 d.2 (-1) st false c.1 c.2.1 c.2.2.1 c.2.2.2 img l ((j : Int) - 1)) ((endR (lineL l n 0) (backsR (l.take j) d) (epochR c img)).1, (endR (lineL l n 0) (backsR (l.take j) d) (epochR c img)).2, -1, st', false) := by
  intro j
  induction j with
  | zero =>
    intro _ d st h
    obtain ⟨st', e⟩ := spec_p31_ev (l := l) hc hn hlen hl ht img 0 (Nat.zero_le _) d st h
    refine ⟨st', Ev.step (fun k => by rw [spec_l5W_back.p16]) ?_⟩
    exact Ev.neg (by omega) e
  | succ j ih =>
    intro hj d st h
    have hj : j < l.length := hj
    have hrj := hr _ (List.getElem_mem hj)
    obtain ⟨a1, a2, a3, a4, a5⟩ := half_at hc hrj.2
    have hz := (recOk_facts hrj.1).2.2.2.2.2.2
    have hg : rdOf rc0 l (j : Int) = l[j] := rdg hj
    obtain ⟨st', nx⟩ := ih (by omega) (backR d l[j]) (wrap64 (st + 1)) (back_ok hc hn hrj h)
    refine ⟨st', Ev.step (fun k => by rw [spec_l5W_back.p16]) ?_⟩
    rw [backs_snoc l j hj, show (((j + 1 : Nat) : Int) - 1) = (j : Int) from by omega, hg, a1, w64 (x := (j : Int) - 1) (by omega) (by omega)]
    exact Ev.pos (by omega) (Ev.pos (by omega) (Ev.pos (by omega) (Ev.pos (by omega) (Ev.pos (by omega) (Ev.bind (wstore_ev h _ _ _ (by omega) (by omega) (by omega) st) nx)))))
/-- The program, the lines. -/
theorem impl_p41_ev (h1 : 1 < n) (e : Int) (M : List Int) (hM : M.length ≤ 1048576) : ∀ i, i ≤ M.length → ∀ (d : Dev) (st : Int), DevP n d → ∃ st', Ev (fun k => impl_machine_rollBack.p41 k d.1 d.2 (-1) st e M (M.length : Int) (i : Int)) ((endR (M.drop i) d e).1, (endR (M.drop i) d e).2, -1, st', 0) := by
  refine down ?_ ?_
  · intro d st h
    obtain ⟨st', h3⟩ := msync_ev (fenceR_ok h) h1 e (wrap64 (st + 1))
    refine ⟨st', Ev.step (fun k => by rw [impl_machine_rollBack.p41]) ?_⟩
    rw [List.drop_eq_nil_of_le (Nat.le_refl _)]
    exact Ev.neg (by omega) (Ev.bind (mfence_ev h st) (Ev.bind (impl_EpochLine_ev _) (Ev.bind h3 (Ev.eq rfl))))
  · intro i hi ih d st h
    obtain ⟨s1, n1⟩ := ih (flushR d M[i]) (wrap64 (st + 1)) (flushR_ok h _)
    refine ⟨s1, Ev.step (fun k => by rw [impl_machine_rollBack.p41]) ?_⟩
    rw [w64s (i := i) (by omega), rdk hi, List.drop_eq_getElem_cons hi]
    exact Ev.pos (by omega) (Ev.pos (by omega) (Ev.pos (by omega) (Ev.bind (mflush_ev h _ st) n1)))
theorem lines_eq (hc : configOk c = true) (hn : (n : Int) = c.1) (hr : ∀ r ∈ l, recOk r = true ∧ canB c r.2.2.1 = true) : Lib.compact (ordS ((l.map fun r => (lineI r.2.2.1 : Int)).reverse)) = lineL l n 0 := by
  refine uniq_eq _ _ ?_ fun x => ?_
  · unfold lineL
    refine List.pairwise_map.2 ((List.Pairwise.filter _ List.pairwise_lt_range').imp fun {a b} h => by omega)
  · unfold lineL
    rw [List.mem_reverse, List.mem_map, List.mem_map]
    constructor
    · rintro ⟨r, hm, rfl⟩
      obtain ⟨a1, a2, a3, a4, a5⟩ := half_at hc (hr r hm).2
      refine ⟨lineI r.2.2.1, List.mem_filter.2 ⟨List.mem_range'_1.2 (by omega), ?_⟩, rfl⟩
      unfold hasLine hasHalf
      rw [Bool.or_eq_true, List.any_eq_true, List.any_eq_true]
      rcases a5 with a5 | a5
      · exact .inl ⟨r, hm, decide_eq_true a5⟩
      · exact .inr ⟨r, hm, decide_eq_true a5⟩
    · rintro ⟨L, hm, rfl⟩
      have hh := (List.mem_filter.1 hm).2
      unfold hasLine hasHalf at hh
      rw [Bool.or_eq_true, List.any_eq_true, List.any_eq_true] at hh
      rcases hh with ⟨r, hm, e⟩ | ⟨r, hm, e⟩
      · have e := of_decide_eq_true e
        exact ⟨r, hm, by unfold lineI; omega⟩
      · have e := of_decide_eq_true e
        exact ⟨r, hm, by unfold lineI; omega⟩
/-- The program, the halves. -/
theorem impl_p22_ev (hc : configOk c = true) (hn : (n : Int) = c.1) (hr : ∀ r ∈ l, recOk r = true ∧ canB c r.2.2.1 = true) (hlen : l.length ≤ 32) (h0 : 0 < l.length) (e : Int) : ∀ j, j ≤ l.length → ∀ (d : Dev) (st : Int), DevP n d → ∃ st', Ev (fun k => impl_machine_rollBack.p22 k d.1 d.2 (-1) st l e (((l.drop j).map fun r => (lineI r.2.2.1 : Int)).reverse) ((j : Int) - 1)) ((endR (lineL l n 0) (backsR (l.take j) d) e).1, (endR (lineL l n 0) (backsR (l.take j) d) e).2, -1, st', 0) := by
  have hf := configOk_facts hc
  intro j
  induction j with
  | zero =>
    intro _ d st h
    have hle := lines_eq hc hn hr
    have hml : (lineL l n 0).length ≤ 1048576 := by
      unfold lineL
      rw [List.length_map]
      refine Nat.le_trans (List.length_filter_le _ _) ?_
      rw [List.length_range']
      omega
    obtain ⟨st', ev⟩ := impl_p41_ev (n := n) (by omega) e (lineL l n 0) hml 0 (Nat.zero_le _) d st h
    have hxl : ((l.map fun r => (lineI r.2.2.1 : Int)).reverse).length = l.length := by rw [List.length_reverse, List.length_map]
    have hs : slices_Sort_int64.f ((l.map fun r => (lineI r.2.2.1 : Int)).reverse) = some (ordS ((l.map fun r => (lineI r.2.2.1 : Int)).reverse)) := by
      unfold slices_Sort_int64.f
      rw [if_pos (by omega), if_pos (by omega)]
      rfl
    have hol : (ordS ((l.map fun r => (lineI r.2.2.1 : Int)).reverse)).length = l.length := by
      rw [← hxl]
      exact List.length_mergeSort ..
    have hcp : slices_Compact_int64.f (ordS ((l.map fun r => (lineI r.2.2.1 : Int)).reverse)) = some (lineL l n 0) := by
      unfold slices_Compact_int64.f
      rw [if_pos (by omega), hle]
    refine ⟨st', Ev.step (fun k => by rw [impl_machine_rollBack.p22]) ?_⟩
    rw [List.drop_zero]
    exact Ev.neg (by omega) (Ev.bindo hs (Ev.bindo hcp ev))
  | succ j ih =>
    intro hj d st h
    have hj : j < l.length := hj
    have hrj := hr _ (List.getElem_mem hj)
    obtain ⟨a1, a2, a3, a4, a5⟩ := half_at hc hrj.2
    have hz := (recOk_facts hrj.1).2.2.2.2.2.2
    have hg : rdOf rc0 l (j : Int) = l[j] := rdg hj
    obtain ⟨st', nx⟩ := ih (by omega) (backR d l[j]) (wrap64 (st + 1)) (back_ok hc hn hrj h)
    rw [List.drop_eq_getElem_cons hj, List.map_cons, List.reverse_cons] at nx
    refine ⟨st', Ev.step (fun k => by rw [impl_machine_rollBack.p22]) ?_⟩
    rw [backs_snoc l j hj, show (((j + 1 : Nat) : Int) - 1) = (j : Int) from by omega, hg, a1, a4, w64 (x := (j : Int) - 1) (by omega) (by omega)]
    exact Ev.pos (by omega) (Ev.pos (by omega) (Ev.pos (by omega) (Ev.pos (by omega) (Ev.pos (by omega) (Ev.bind (mstore_ev h _ _ _ (by omega) (by omega) (by omega) st) (Ev.pos (by omega) (Ev.pos (by omega) (Ev.pos (by simp; omega) nx))))))))
end
end Go.Proofs.YtmciidoohbmipaaGreatDoor.Abs.Pu
namespace Go.Proofs.YtmciidoohbmipaaGreatDoor.Abs
open Go Go.RowKit
set_option linter.unusedVariables false
set_option linter.unusedSectionVars false
set_option linter.unusedSimpArgs false
theorem eqStringS_ev (l : List ByteArray) (hl : l.length ≤ 1048576) : Ev (fun k => laws_eqStringS.f k l l) true := by
  unfold laws_eqStringS.f
  refine Ev.pos rfl ?_
  refine each_ev (n := l.length) (g := fun k i => laws_eqStringS.p14 k l l i) (fun i hi hr => ?_) ?_
  · refine Ev.step (fun k => by rw [laws_eqStringS.p14]) ?_
    rw [w64s (by omega)]
    exact Ev.pos (by omega) (Ev.pos (by omega) (Ev.pos (by omega) (Ev.pos (by omega) (Ev.pos (by omega) (Ev.pos rfl hr)))))
  · refine Ev.step (fun k => by rw [laws_eqStringS.p14]) ?_
    exact Ev.neg (by omega) (Ev.eq rfl)
end Go.Proofs.YtmciidoohbmipaaGreatDoor.Abs
namespace Go.Proofs.YtmciidoohbmipaaGreatDoor.Abs
open Go Go.RowKit
set_option linter.unusedVariables false
set_option linter.unusedSectionVars false
set_option linter.unusedSimpArgs false
theorem szStringS_ev (l : List ByteArray) (hl : l.length ≤ maxLen) (hs : ∀ x ∈ l, x.size ≤ maxLen) (left : Int) (h0 : 0 ≤ left) (h1 : left ≤ 1048576) : ∃ r, Ev (fun k => laws_szStringS.f k l left) r ∧ (0 ≤ r → r ≤ left ∧ l.length ≤ 1048576 ∧ ∀ x ∈ l, x.size ≤ 1048576) := by
  unfold maxLen at hl hs
  unfold laws_szStringS.f
  rw [w64 (x := left - (l.length : Int)) (by omega) (by omega)]
  by_cases c : left - (l.length : Int) < 0
  · exact ⟨-1, Ev.pos c (Ev.eq rfl), fun h => by omega⟩
  · have key : ∀ left : Int, 0 ≤ left → left ≤ 1048576 → ∃ r, Ev (fun k => laws_szStringS.p16 k l left 0) r ∧ (0 ≤ r → r ≤ left ∧ ∀ x ∈ l, (fun x => x.size ≤ 1048576) x) := by
      refine sz_loop (g := fun k left i => laws_szStringS.p16 k l left i) (by omega) (fun i hi left h0 h1 => ?_) (fun left => ?_)
      · have hx := hs _ (List.getElem_mem hi)
        have hg : rdOf ByteArray.empty l (i : Int) = l[i] := rdg hi
        generalize l[i] = x at *
        by_cases c2 : left - (x.size : Int) < 0
        · refine .inl ⟨-1, by omega, Ev.step (fun k => by rw [laws_szStringS.p16]) ?_⟩
          rw [hg, w64 (x := left - (x.size : Int)) (by omega) (by omega)]
          exact Ev.pos (by omega) (Ev.pos (by omega) (Ev.pos (by omega) (Ev.pos c2 (Ev.eq rfl))))
        · refine .inr ⟨left - (x.size : Int), by omega, by omega, by omega, fun r hr => Ev.step (fun k => by rw [laws_szStringS.p16]) ?_⟩
          rw [hg, w64 (x := left - (x.size : Int)) (by omega) (by omega), w64s (by omega)]
          exact Ev.pos (by omega) (Ev.pos (by omega) (Ev.pos (by omega) (Ev.neg c2 hr)))
      · refine Ev.step (fun k => by rw [laws_szStringS.p16]) ?_
        exact Ev.neg (by omega) (Ev.eq rfl)
    obtain ⟨r, hr, hp⟩ := key (left - (l.length : Int)) (by omega) (by omega)
    exact ⟨r, Ev.neg c hr, fun h => ⟨by have := (hp h).1; omega, by omega, (hp h).2⟩⟩
theorem toStringS_ev (l : List ByteArray) (hl : l.length ≤ 1048576) : Ev (fun k => laws_toStringS.f k l) l := by
  unfold laws_toStringS.f
  refine Ev.pos (by omega) (Ev.pos (by omega) ?_)
  rw [Int.toNat_natCast]
  refine fill_ev (g := fun k out i => laws_toStringS.p8 k l out i) _ (fun i hi out ho r hr => ?_) (fun out ho => ?_)
  · refine Ev.step (fun k => by rw [laws_toStringS.p8]) ?_
    rw [rdg hi, w64s (by omega), Int.toNat_natCast]
    exact Ev.pos (by omega) (Ev.pos (by omega) (Ev.pos (by omega) (Ev.pos (by omega) (Ev.pos (by omega) hr))))
  · refine Ev.step (fun k => by rw [laws_toStringS.p8]) ?_
    exact Ev.neg (by omega) (Ev.eq rfl)
end Go.Proofs.YtmciidoohbmipaaGreatDoor.Abs
namespace Go.Proofs.YtmciidoohbmipaaGreatDoor.Abs.Pu
open Go Go.RowKit
set_option linter.unusedVariables false
set_option linter.unusedSectionVars false
set_option linter.unusedSimpArgs false
theorem markText_ev (n : Int) (h0 : 1 ≤ n) (h1 : n ≤ 1099511627776) : ∃ s, Ev (fun k => laws_markText.f k n) s := by
  have lp : ∀ (d : Nat) (x : Int) (acc : ByteArray), x.toNat ≤ d → 0 ≤ x → (acc.size : Int) + x ≤ 1099511627776 → ∃ s, Ev (fun k => laws_markText.p14 k x acc) s := by
    intro d
    induction d with
    | zero =>
      intro x acc hd hx ha
      refine ⟨_, Ev.step (fun k => by rw [laws_markText.p14]) (Ev.neg (by omega) (Ev.pos ?_ (Ev.eq rfl)))⟩
      show 1 + acc.size ≤ _
      omega
    | succ d ih =>
      intro x acc hd hx ha
      by_cases c : x > 0
      · have hz : (strOf [(wrap64 (48 + (Int.tmod x 10))) % 256]).size = 1 := by rw [strOf_eq, strOfNums_size]; rfl
        have e : wrap64 (Int.tdiv x 10) = x / 10 := by rw [Int.tdiv_eq_ediv_of_nonneg (by omega), w64 (by omega) (by omega)]
        obtain ⟨s, hs⟩ := ih (x / 10) (strOf [(wrap64 (48 + (Int.tmod x 10))) % 256] ++ acc) (by omega) (by omega) (by rw [ByteArray.size_append, hz]; omega)
        refine ⟨s, Ev.step (fun k => by rw [laws_markText.p14]) ?_⟩
        rw [e]
        exact Ev.pos c (Ev.pos (by rw [hz]; omega) hs)
      · refine ⟨_, Ev.step (fun k => by rw [laws_markText.p14]) (Ev.neg c (Ev.pos ?_ (Ev.eq rfl)))⟩
        show 1 + acc.size ≤ _
        omega
  obtain ⟨s, hs⟩ := lp n.toNat n ⟨#[]⟩ (Nat.le_refl _) (by omega) (by show ((0 : Nat) : Int) + n ≤ _; omega)
  refine ⟨s, ?_⟩
  unfold laws_markText.f
  exact Ev.neg (by omega) hs
theorem markStringS_ev (l : List ByteArray) (m : Int) (h0 : 1 ≤ m) (h1 : m ≤ 1048577) (hl : l.length ≤ 1048576) : ∃ l', Ev (fun k => laws_markStringS.f k l m) (l', m + (l.length : Int)) := by
  have key : ∀ i, i ≤ l.length → ∀ x : List ByteArray, x.length = l.length → ∃ l', Ev (fun k => laws_markStringS.p6 k x (m + (i : Int)) (i : Int)) (l', m + (l.length : Int)) := by
    refine down ?_ ?_
    · intro x hx
      exact ⟨x, Ev.step (fun k => by rw [laws_markStringS.p6]) (Ev.neg (by omega) (Ev.eq rfl))⟩
    · intro i hi ih x hx
      obtain ⟨s, hs⟩ := markText_ev (m + (i : Int)) (by omega) (by omega)
      obtain ⟨l', h⟩ := ih (x.set i s) (by rw [List.length_set]; exact hx)
      refine ⟨l', Ev.step (fun k => by rw [laws_markStringS.p6]) ?_⟩
      rw [w64s (i := i) (by omega), show wrap64 (m + (i : Int) + 1) = m + ((i + 1 : Nat) : Int) from by rw [w64 (by omega) (by omega)]; omega, Int.toNat_natCast]
      exact Ev.pos (by omega) (Ev.bind hs (Ev.pos (by omega) (Ev.pos (by omega) h)))
  unfold laws_markStringS.f
  have := key 0 (Nat.zero_le _) l rfl
  rwa [show m + ((0 : Nat) : Int) = m from by omega] at this
end Go.Proofs.YtmciidoohbmipaaGreatDoor.Abs.Pu
namespace Go.Proofs.YtmciidoohbmipaaGreatDoor.Abs.Pu
open Go Go.RowKit
set_option linter.unusedVariables false
set_option linter.unusedSectionVars false
set_option linter.unusedSimpArgs false
theorem szConfig_ev (c : Cfg) (hl : c.2.2.2.length ≤ maxLen) (hs : ∀ x ∈ c.2.2.2, x.size ≤ maxLen) (left : Int) (h0 : 0 ≤ left) (h1 : left ≤ 1048576) : ∃ r, Ev (fun k => laws_szConfig.f k c.1 c.2.1 c.2.2.1 c.2.2.2 left) r ∧ (0 ≤ r → r ≤ left ∧ c.2.2.2.length ≤ 1048576 ∧ ∀ x ∈ c.2.2.2, x.size ≤ 1048576) := by
  unfold laws_szConfig.f
  obtain ⟨r, e, hr⟩ := szStringS_ev c.2.2.2 hl hs left h0 h1
  by_cases h : r < 0
  · exact ⟨-1, Ev.bind e (Ev.pos h (Ev.eq rfl)), fun h => by omega⟩
  · exact ⟨r, Ev.bind e (Ev.neg h (Ev.eq rfl)), hr⟩
theorem toConfig_ev (c : Cfg) (hl : c.2.2.2.length ≤ 1048576) : Ev (fun k => laws_toConfig.f k c.1 c.2.1 c.2.2.1 c.2.2.2) c := by
  unfold laws_toConfig.f
  exact Ev.bind (toStringS_ev _ hl) (Ev.eq rfl)
theorem eqConfig_ev (c : Cfg) (hl : c.2.2.2.length ≤ 1048576) : Ev (fun k => laws_eqConfig.f k c.1 c.2.1 c.2.2.1 c.2.2.2 c.1 c.2.1 c.2.2.1 c.2.2.2) true := by
  unfold laws_eqConfig.f
  exact Ev.pos rfl (Ev.pos rfl (Ev.pos rfl (Ev.bind (eqStringS_ev _ hl) (Ev.pos rfl (Ev.eq rfl)))))
end Go.Proofs.YtmciidoohbmipaaGreatDoor.Abs.Pu
namespace Go.Proofs.YtmciidoohbmipaaGreatDoor.Abs.Pu
open Go Go.RowKit
set_option linter.unusedVariables false
set_option linter.unusedSectionVars false
set_option linter.unusedSimpArgs false
theorem szDevice_ev (d : Dev) (h1 : d.1.size ≤ maxLen) (h2 : d.2.length ≤ maxLen) (h3 : ∀ x ∈ d.2, x.2.1.size ≤ maxLen ∧ x.2.2.size ≤ maxLen) (left : Int) (h0 : 0 ≤ left) (hL : left ≤ 1048576) : ∃ r, Ev (fun k => laws_szDevice.f k d.1 d.2 left) r ∧ (0 ≤ r → d.1.size ≤ 1048576 ∧ d.2.length ≤ 1048576) := by
  unfold maxLen at h1 h2 h3
  unfold laws_szDevice.f
  rw [w64 (x := left - (d.1.size : Int)) (by omega) (by omega)]
  by_cases c : left - (d.1.size : Int) < 0
  · exact ⟨-1, Ev.pos c (Ev.eq rfl), fun h => by omega⟩
  have main : ∃ r, Ev (fun k => laws_szLineS.f k d.2 (left - (d.1.size : Int))) r ∧ (0 ≤ r → d.2.length ≤ 1048576) := by
    unfold laws_szLineS.f
    rw [w64 (x := left - (d.1.size : Int) - (d.2.length : Int)) (by omega) (by omega)]
    by_cases c1 : left - (d.1.size : Int) - (d.2.length : Int) < 0
    · exact ⟨-1, Ev.pos c1 (Ev.eq rfl), fun h => by omega⟩
    have key : ∀ left : Int, 0 ≤ left → left ≤ 1048576 → ∃ r, Ev (fun k => laws_szLineS.p16 k d.2 left 0) r ∧ (0 ≤ r → r ≤ left ∧ ∀ x ∈ d.2, (fun _ => True) x) := by
      refine sz_loop (g := fun k left i => laws_szLineS.p16 k d.2 left i) (by omega) (fun i hi left h0 h1 => ?_) (fun left => ?_)
      · have hx := h3 _ (List.getElem_mem hi)
        have hg : rdOf ln0 d.2 (i : Int) = d.2[i] := rdg hi
        generalize d.2[i] = x at *
        by_cases c2 : left - (x.2.1.size : Int) < 0
        · refine .inl ⟨-1, by omega, Ev.step (fun k => by rw [laws_szLineS.p16]) ?_⟩
          have e : laws_szLine.f x.1 x.2.1 x.2.2 left = some (-1) := by
            unfold laws_szLine.f
            rw [w64 (x := left - (x.2.1.size : Int)) (by omega) (by omega), if_pos c2]
          rw [hg]
          exact Ev.pos (by omega) (Ev.pos (by omega) (Ev.pos (by omega) (Ev.bindo e (Ev.pos (by omega) (Ev.eq rfl)))))
        · by_cases c3 : left - (x.2.1.size : Int) - (x.2.2.size : Int) < 0
          · refine .inl ⟨-1, by omega, Ev.step (fun k => by rw [laws_szLineS.p16]) ?_⟩
            have e : laws_szLine.f x.1 x.2.1 x.2.2 left = some (-1) := by
              unfold laws_szLine.f
              rw [w64 (x := left - (x.2.1.size : Int)) (by omega) (by omega), if_neg c2, w64 (x := left - (x.2.1.size : Int) - (x.2.2.size : Int)) (by omega) (by omega), if_pos c3]
            rw [hg]
            exact Ev.pos (by omega) (Ev.pos (by omega) (Ev.pos (by omega) (Ev.bindo e (Ev.pos (by omega) (Ev.eq rfl)))))
          · refine .inr ⟨left - (x.2.1.size : Int) - (x.2.2.size : Int), by omega, by omega, trivial, fun r hr => Ev.step (fun k => by rw [laws_szLineS.p16]) ?_⟩
            have e : laws_szLine.f x.1 x.2.1 x.2.2 left = some (left - (x.2.1.size : Int) - (x.2.2.size : Int)) := by
              unfold laws_szLine.f
              rw [w64 (x := left - (x.2.1.size : Int)) (by omega) (by omega), if_neg c2, w64 (x := left - (x.2.1.size : Int) - (x.2.2.size : Int)) (by omega) (by omega), if_neg c3]
            rw [hg, w64s (by omega)]
            exact Ev.pos (by omega) (Ev.pos (by omega) (Ev.pos (by omega) (Ev.bindo e (Ev.neg c3 hr))))
      · refine Ev.step (fun k => by rw [laws_szLineS.p16]) ?_
        exact Ev.neg (by omega) (Ev.eq rfl)
    obtain ⟨r, hr, hp⟩ := key (left - (d.1.size : Int) - (d.2.length : Int)) (by omega) (by omega)
    exact ⟨r, Ev.neg c1 hr, fun h => by omega⟩
  obtain ⟨r, hr, hp⟩ := main
  by_cases c1 : r < 0
  · exact ⟨-1, Ev.neg c (Ev.bind hr (Ev.pos c1 (Ev.eq rfl))), fun h => by omega⟩
  · exact ⟨r, Ev.neg c (Ev.bind hr (Ev.neg c1 (Ev.eq rfl))), fun h => ⟨by omega, hp (by omega)⟩⟩
theorem toDevice_ev (d : Dev) (hl : d.2.length ≤ 1048576) : Ev (fun k => laws_toDevice.f k d.1 d.2) d := by
  unfold laws_toDevice.f
  refine Ev.bind (a := d.2) ?_ (Ev.eq rfl)
  unfold laws_toLineS.f
  refine Ev.pos (by omega) (Ev.pos (by omega) ?_)
  rw [Int.toNat_natCast]
  refine fill_ev (g := fun k out i => laws_toLineS.p8 k d.2 out i) _ (fun i hi out ho r hr => ?_) (fun out ho => ?_)
  · have hg : rdOf ln0 d.2 (i : Int) = d.2[i] := rdg hi
    refine Ev.step (fun k => by rw [laws_toLineS.p8]) ?_
    rw [hg, w64s (by omega), Int.toNat_natCast]
    exact Ev.pos (by omega) (Ev.pos (by omega) (Ev.pos (by omega) (Ev.bindo (a := d.2[i]) rfl (Ev.pos (by omega) (Ev.pos (by omega) hr)))))
  · refine Ev.step (fun k => by rw [laws_toLineS.p8]) ?_
    exact Ev.neg (by omega) (Ev.eq rfl)
theorem eqLine_f (x : Line) : laws_eqLine.f x.1 x.2.1 x.2.2 x.1 x.2.1 x.2.2 = some true := by
  unfold laws_eqLine.f
  rw [if_pos rfl, if_pos rfl, if_pos rfl]
theorem eqDevice_ev (d : Dev) (hl : d.2.length ≤ 1048576) : Ev (fun k => laws_eqDevice.f k d.1 d.2 d.1 d.2) true := by
  unfold laws_eqDevice.f
  refine Ev.pos rfl (Ev.bind (a := true) ?_ (Ev.pos rfl (Ev.eq rfl)))
  unfold laws_eqLineS.f
  refine Ev.pos rfl ?_
  refine each_ev (n := d.2.length) (g := fun k i => laws_eqLineS.p14 k d.2 d.2 i) (fun i hi hr => ?_) ?_
  · refine Ev.step (fun k => by rw [laws_eqLineS.p14]) ?_
    rw [w64s (by omega)]
    exact Ev.pos (by omega) (Ev.pos (by omega) (Ev.pos (by omega) (Ev.pos (by omega) (Ev.pos (by omega) (Ev.bindo (eqLine_f _) (Ev.pos rfl hr))))))
  · refine Ev.step (fun k => by rw [laws_eqLineS.p14]) ?_
    exact Ev.neg (by omega) (Ev.eq rfl)
/-! ### Marks -/
noncomputable def mt (n : Int) : ByteArray := by
  classical
  exact if h : ∃ s, Ev (fun k => laws_markText.f k n) s then Classical.choose h else ⟨#[]⟩
theorem mt_ev (n : Int) (h0 : 1 ≤ n) (h1 : n ≤ 1099511627776) : Ev (fun k => laws_markText.f k n) (mt n) := by
  have h := markText_ev n h0 h1
  unfold mt
  rw [dif_pos h]
  exact Classical.choose_spec h
noncomputable def mkX (m : Int) (i : Nat) : Line := (m + 3 * (i : Int), (mt (m + 3 * (i : Int) + 1), mt (m + 3 * (i : Int) + 2)))
noncomputable def mkL (m : Int) (n : Nat) : List Line := (List.range n).map (mkX m)
theorem mkL_length (m : Int) (n : Nat) : (mkL m n).length = n := by simp [mkL]
theorem mkL_succ (m : Int) (n : Nat) : mkL m (n + 1) = mkL m n ++ [mkX m n] := by
  unfold mkL
  rw [List.range_succ, List.map_append]
  rfl
theorem rd_set {H : List Line} {i : Nat} (h : i < H.length) (v : Line) : rdOf ln0 (H.set i v) (i : Int) = v := by
  rw [rdg (by rw [List.length_set]; exact h), List.getElem_set_self]
theorem markDevice_ev (d : Dev) (m : Int) (h0 : 1 ≤ m) (h1 : m ≤ 1048577) (hl : d.2.length ≤ 1048576) : Ev (fun k => laws_markDevice.f k d.1 d.2 m) (mkL m d.2.length, m + 3 * (d.2.length : Int)) := by
  unfold laws_markDevice.f
  refine Ev.bind (a := (mkL m d.2.length, m + 3 * (d.2.length : Int))) ?_ (Ev.eq rfl)
  unfold laws_markLineS.f
  have key : ∀ i, i ≤ d.2.length → Ev (fun k => laws_markLineS.p6 k (mkL m i ++ d.2.drop i) (m + 3 * (i : Int)) (i : Int)) (mkL m d.2.length, m + 3 * (d.2.length : Int)) := by
    refine down ?_ ?_
    · refine Ev.step (fun k => by rw [laws_markLineS.p6]) ?_
      rw [List.drop_eq_nil_of_le (Nat.le_refl _), List.append_nil]
      exact Ev.neg (by rw [mkL_length]; omega) (Ev.eq rfl)
    · intro i hi ih
      obtain ⟨H, hH⟩ : ∃ H, H = mkL m i ++ d.2.drop i := ⟨_, rfl⟩
      have hlen : H.length = d.2.length := by rw [hH, List.length_append, mkL_length, List.length_drop]; omega
      have hset : H.set i (mkX m i) = mkL m (i + 1) ++ d.2.drop (i + 1) := by
        rw [hH, List.set_append_right _ _ (by rw [mkL_length]; omega), mkL_length, Nat.sub_self, List.drop_eq_getElem_cons hi, List.set_cons_zero, mkL_succ, List.append_assoc]
        rfl
      have e1 : wrap64 (m + 3 * (i : Int) + 1) = m + 3 * (i : Int) + 1 := w64 (by omega) (by omega)
      have e2 : wrap64 (m + 3 * (i : Int) + 1 + 1) = m + 3 * (i : Int) + 2 := by rw [w64 (by omega) (by omega)]; omega
      have e3 : wrap64 (m + 3 * (i : Int) + 2 + 1) = m + 3 * ((i + 1 : Nat) : Int) := by rw [w64 (by omega) (by omega)]; omega
      rw [← hset] at ih
      rw [← hH]
      have hlt : i < H.length := by omega
      refine Ev.step (fun k => by rw [laws_markLineS.p6]) ?_
      simp only [Int.toNat_natCast, List.length_set, List.set_set, rd_set hlt, e1, e2, e3, w64s (i := i) (by omega)]
      exact Ev.pos (by omega) (Ev.pos (by omega) (Ev.pos (by omega) (Ev.bind (mt_ev _ (by omega) (by omega)) (Ev.pos (by omega) (Ev.pos (by omega) (Ev.bind (mt_ev _ (by omega) (by omega)) (Ev.pos (by omega) (Ev.pos (by omega) ih))))))))
  have := key 0 (Nat.zero_le _)
  rw [List.drop_zero, show m + 3 * ((0 : Nat) : Int) = m from by omega] at this
  exact this
theorem heldDevice_ev (s : ByteArray) (m : Int) (n : Nat) (h0 : 1 ≤ m) (h1 : m ≤ 1048577) (hn : n ≤ 1048576) : Ev (fun k => laws_heldDevice.f k s (mkL m n) m) (m + 3 * (n : Int)) := by
  unfold laws_heldDevice.f
  refine Ev.bind (a := m + 3 * (n : Int)) ?_ (Ev.neg (by omega) (Ev.eq rfl))
  unfold laws_heldLineS.f
  have key : ∀ i, i ≤ n → Ev (fun k => laws_heldLineS.p6 k (mkL m n) (m + 3 * (i : Int)) (i : Int)) (m + 3 * (n : Int)) := by
    refine down ?_ ?_
    · refine Ev.step (fun k => by rw [laws_heldLineS.p6]) ?_
      exact Ev.neg (by rw [mkL_length]; omega) (Ev.eq rfl)
    · intro i hi ih
      have hlt : i < (mkL m n).length := by rw [mkL_length]; exact hi
      have hg : rdOf ln0 (mkL m n) (i : Int) = mkX m i := by
        rw [rdg hlt]
        simp [mkL]
      have e1 : wrap64 (m + 3 * (i : Int) + 1) = m + 3 * (i : Int) + 1 := w64 (by omega) (by omega)
      have e2 : wrap64 (m + 3 * (i : Int) + 1 + 1) = m + 3 * (i : Int) + 2 := by rw [w64 (by omega) (by omega)]; omega
      have e3 : wrap64 (m + 3 * (i : Int) + 2 + 1) = m + 3 * ((i + 1 : Nat) : Int) := by rw [w64 (by omega) (by omega)]; omega
      have hl := mkL_length m n
      refine Ev.step (fun k => by rw [laws_heldLineS.p6]) ?_
      simp only [hg, hl, e1, e2, e3, w64s (i := i) (by omega)]
      exact Ev.pos (by omega) (Ev.pos (by omega) (Ev.pos (by omega) (Ev.pos rfl (Ev.pos (by omega) (Ev.pos (by omega) (Ev.bind (mt_ev _ (by omega) (by omega)) (Ev.pos rfl (Ev.pos (by omega) (Ev.pos (by omega) (Ev.bind (mt_ev _ (by omega) (by omega)) (Ev.pos rfl ih)))))))))))
  have := key 0 (Nat.zero_le _)
  rw [show m + 3 * ((0 : Nat) : Int) = m from by omega] at this
  exact this
end Go.Proofs.YtmciidoohbmipaaGreatDoor.Abs.Pu
namespace Go.Proofs.YtmciidoohbmipaaGreatDoor.Abs.Pu
open Go Go.RowKit
set_option linter.unusedVariables false
set_option linter.unusedSectionVars false
set_option linter.unusedSimpArgs false
def rollR (c : Cfg) (d : Dev) (l : List Rec) : Dev := if l.length = 0 then d else endR (lineL l c.1.toNat 0) (backsR l d) (epochR c (seenB d))
def rolledO (c : Cfg) (d : Dev) : Option Dev := if devB d = true then (match logR c (seenB d) with
  | none => none
  | some l => some (rollR c d l)) else none
def outD : Option Dev → ByteArray × List Line × Int
  | some D => (D.1, D.2, 0)
  | none => ((⟨#[]⟩ : ByteArray), [], 1)
theorem spec_Seen_ev (d : Dev) (h : d.1.size ≤ 1099511627776) (hl : d.2.length ≤ 1048576) : Ev (fun k => spec_Seen.f k d.1 d.2) (seenR d) := by
  unfold spec_Seen.f seenR
  refine Ev.bind (spec_DeviceOk_ev d h hl) (Ev.cases (fun h0 => ?_) (fun h0 => by rw [if_neg h0]; exact Ev.eq rfl))
  obtain ⟨n, hd⟩ := (devB_iff d).1 h0
  rw [if_pos h0]
  exact Ev.bind (spec_l2Seen_ev hd) (Ev.eq rfl)
theorem spec_l5Bad_ev (c : Cfg) (d : Dev) (hl : c.2.2.2.length ≤ 1048576) (ht : ∀ x ∈ c.2.2.2, x.size ≤ 1048576) (h : d.1.size ≤ 1099511627776) (hd : d.2.length ≤ 1048576) : Ev (fun k => spec_l5Bad.f k c.1 c.2.1 c.2.2.1 c.2.2.2 d.1 d.2) (!(outL (logR c (seenR d))).2) := by
  unfold spec_l5Bad.f
  exact Ev.bind (spec_Seen_ev d h hd) (Ev.bind (spec_LogOf_ev c _ hl ht) (Ev.eq rfl))
theorem logR_empty (c : Cfg) : logR c (⟨#[]⟩ : ByteArray) = none := by
  cases h : logR c (⟨#[]⟩ : ByteArray) with
  | none => rfl
  | some l =>
    obtain ⟨hc, hz⟩ := isImageB_facts (logR_all h).1
    have hf := configOk_facts hc
    have hz : ((0 : Nat) : Int) = 64 * c.1 := hz
    omega
theorem rolled_facts {c : Cfg} {d : Dev} {n : Nat} {l : List Rec} (hd : DevP n d) (h : logR c (seenB d) = some l) : configOk c = true ∧ (n : Int) = c.1 ∧ c.1.toNat = n ∧ (∀ r ∈ l, recOk r = true ∧ canB c r.2.2.1 = true) ∧ l.length ≤ 32 := by
  obtain ⟨h1, h2, h3⟩ := logR_all h
  obtain ⟨hc, hz⟩ := isImageB_facts h1
  have hs := seen_size hd
  exact ⟨hc, by omega, by omega, h2, h3⟩
theorem spec_RolledBack_ev (c : Cfg) (d : Dev) (hl : c.2.2.2.length ≤ 1048576) (ht : ∀ x ∈ c.2.2.2, x.size ≤ 1048576) (h : d.1.size ≤ 1099511627776) (hdl : d.2.length ≤ 1048576) : Ev (fun k => spec_RolledBack.f k c.1 c.2.1 c.2.2.1 c.2.2.2 d.1 d.2) (outD (rolledO c d)) := by
  have hb := spec_l5Bad_ev c d hl ht h hdl
  unfold spec_RolledBack.f rolledO
  refine Ev.bind hb ?_
  unfold seenR
  by_cases h0 : devB d = true
  · obtain ⟨n, hd⟩ := (devB_iff d).1 h0
    rw [if_pos h0, if_pos h0]
    cases hlog : logR c (seenB d) with
    | none => exact Ev.pos rfl (Ev.eq rfl)
    | some l =>
      obtain ⟨hc, hn, hn2, hr, hlen⟩ := rolled_facts hd hlog
      have hcp : spec_l2Copy.f d.1 d.2 = some (d.1, d.2) := by
        unfold spec_l2Copy.f
        rw [if_pos (by omega)]
        rfl
      have hlo := spec_LogOf_ev c (seenB d) hl ht
      rw [hlog] at hlo
      refine Ev.neg (by simp [outL]) (Ev.bindo hcp ?_)
      show Ev _ ((rollR c d l).1, (rollR c d l).2, 0)
      have main : ∃ st', Ev (fun k => spec_l5W_back.f k d.1 d.2 (-1) 0 false c.1 c.2.1 c.2.2.1 c.2.2.2) ((rollR c d l).1, (rollR c d l).2, -1, st', false) := by
        unfold spec_l5W_back.f rollR
        by_cases k0 : l.length = 0
        · rw [if_pos k0]
          exact ⟨0, Ev.bind (spec_l2Seen_ev hd) (Ev.bind hlo (Ev.pos (by show ((l.length : Nat) : Int) = 0; omega) (Ev.eq rfl)))⟩
        · rw [if_neg k0]
          obtain ⟨st', e⟩ := spec_p16_ev (n := n) hc hn hr hlen hl ht (seenB d) l.length (Nat.le_refl _) d 0 hd
          rw [List.take_length] at e
          rw [hn2]
          refine ⟨st', Ev.bind (spec_l2Seen_ev hd) (Ev.bind hlo (Ev.neg (by show ¬ ((l.length : Nat) : Int) = 0; omega) ?_))⟩
          show Ev (fun k => spec_l5W_back.p16 k d.1 d.2 (-1) 0 false c.1 c.2.1 c.2.2.1 c.2.2.2 (seenB d) l (wrap64 ((l.length : Int) - 1))) _
          rw [w64 (x := (l.length : Int) - 1) (by omega) (by omega)]
          exact e
      obtain ⟨st', e⟩ := main
      exact Ev.bind e (Ev.eq rfl)
  · rw [if_neg h0, if_neg h0, logR_empty]
    exact Ev.pos rfl (Ev.eq rfl)
theorem newMachine_f (d : Dev) (hdl : d.2.length ≤ 1048576) : impl_newMachine.f d.1 d.2 (-1) = some (d.1, d.2, -1, 0) := by
  unfold impl_newMachine.f _impl_Device_own.f slices_Clone_implLine.f
  rw [if_pos (by omega)]
  rfl
theorem impl_loggedOn_ev (c : Cfg) (d : Dev) (ht : ∀ x ∈ c.2.2.2, x.size ≤ 1048576) (h : d.1.size ≤ 1099511627776) (hdl : d.2.length ≤ 1048576) : Ev (fun k => impl_loggedOn.f k c.1 c.2.1 c.2.2.1 c.2.2.2 d.1 d.2) (if configOk c = true ∧ devB d = true then ((outL (logR c (seenB d))).1, epochR c (seenB d), (outL (logR c (seenB d))).2) else (([] : List Rec), 0, false)) := by
  unfold impl_loggedOn.f
  have no : Ev (fun k => impl_loggedOn.p5 k c.1 c.2.1 c.2.2.1 c.2.2.2 d.1 d.2 true) (([] : List Rec), 0, false) := by
    refine Ev.step (fun k => by rw [impl_loggedOn.p5]) ?_
    exact Ev.pos rfl (Ev.eq rfl)
  refine Ev.bind (impl_ConfigOk_ev c ht) (Ev.cases (fun hc => ?_) (fun hc => by rw [if_neg (fun e => hc e.1)]; exact no))
  refine Ev.bind (impl_DeviceOk_ev d h hdl) ?_
  by_cases h0 : devB d = true
  · obtain ⟨n, hd⟩ := (devB_iff d).1 h0
    rw [if_pos ⟨hc, h0⟩, h0]
    refine Ev.step (fun k => by rw [impl_loggedOn.p5]) ?_
    exact Ev.neg (by simp) (Ev.bind (seen_ev hd hdl) (Ev.bind (impl_LogOf_ev c _ ht) (Ev.bind (impl_EpochOf_ev c _ ht) (Ev.eq rfl))))
  · rw [if_neg (fun e => h0 e.2), Bool.eq_false_iff.2 h0]
    exact no
theorem impl_RolledBack_ev (c : Cfg) (d : Dev) (ht : ∀ x ∈ c.2.2.2, x.size ≤ 1048576) (h : d.1.size ≤ 1099511627776) (hdl : d.2.length ≤ 1048576) : Ev (fun k => impl_RolledBack.f k c.1 c.2.1 c.2.2.1 c.2.2.2 d.1 d.2) (outD (rolledO c d)) := by
  have hlo := impl_loggedOn_ev c d ht h hdl
  unfold impl_RolledBack.f
  refine Ev.bindo (newMachine_f d hdl) ?_
  have bad : (impl_answered.f d.1 d.2 (-1) 0 1) = some (d.1, -1, 0, (⟨#[]⟩ : ByteArray), ([] : List Line), 1) := rfl
  have good : ∀ (D : Dev) (st : Int), (impl_answered.f D.1 D.2 (-1) st 0) = some (D.1, -1, st, D.1, D.2, 0) := fun D st => rfl
  unfold rolledO
  by_cases h0 : devB d = true
  · obtain ⟨n, hd⟩ := (devB_iff d).1 h0
    rw [if_pos h0]
    cases hlog : logR c (seenB d) with
    | none =>
      refine Ev.bind (a := (d.1, d.2, -1, 0, 1)) ?_ (Ev.bindo bad (Ev.eq rfl))
      unfold impl_machine_rollBack.f
      refine Ev.bind hlo (Ev.neg ?_ (Ev.eq rfl))
      rw [hlog]
      split <;> simp [outL]
    | some l =>
      obtain ⟨hc, hn, hn2, hr, hlen⟩ := rolled_facts hd hlog
      rw [if_pos ⟨hc, h0⟩, hlog] at hlo
      have main : ∃ st', Ev (fun k => impl_machine_rollBack.f k d.1 d.2 (-1) 0 c.1 c.2.1 c.2.2.1 c.2.2.2) ((rollR c d l).1, (rollR c d l).2, -1, st', 0) := by
        unfold impl_machine_rollBack.f rollR
        by_cases k0 : l.length = 0
        · rw [if_pos k0]
          exact ⟨0, Ev.bind hlo (Ev.pos rfl (Ev.neg (by show ¬ ((l.length : Nat) : Int) > 0; omega) (Ev.eq rfl)))⟩
        · rw [if_neg k0]
          obtain ⟨st', e⟩ := impl_p22_ev (n := n) hc hn hr hlen (by omega) (epochR c (seenB d)) l.length (Nat.le_refl _) d 0 hd
          rw [List.take_length, List.drop_eq_nil_of_le (Nat.le_refl _)] at e
          rw [hn2]
          refine ⟨st', Ev.bind hlo (Ev.pos rfl (Ev.pos (by show ((l.length : Nat) : Int) > 0; omega) ?_))⟩
          show Ev (fun k => impl_machine_rollBack.p22 k d.1 d.2 (-1) 0 l (epochR c (seenB d)) ([] : List Int) (wrap64 ((l.length : Int) - 1))) _
          rw [w64 (x := (l.length : Int) - 1) (by omega) (by omega)]
          exact e
      obtain ⟨st', e⟩ := main
      exact Ev.bind e (Ev.bindo (good (rollR c d l) st') (Ev.eq rfl))
  · rw [if_neg h0]
    refine Ev.bind (a := (d.1, d.2, -1, 0, 1)) ?_ (Ev.bindo bad (Ev.eq rfl))
    unfold impl_machine_rollBack.f
    refine Ev.bind hlo (Ev.neg ?_ (Ev.eq rfl))
    rw [if_neg (fun e => h0 e.2)]
    simp
theorem rolled_len (c : Cfg) (d : Dev) (hdl : d.2.length ≤ 1048576) : (outD (rolledO c d)).2.1.length ≤ 1048576 := by
  unfold rolledO
  by_cases h0 : devB d = true
  · obtain ⟨n, hd⟩ := (devB_iff d).1 h0
    rw [if_pos h0]
    cases hlog : logR c (seenB d) with
    | none => exact Nat.zero_le _
    | some l =>
      obtain ⟨hc, hn, hn2, hr, hlen⟩ := rolled_facts hd hlog
      have hf := configOk_facts hc
      show (rollR c d l).2.length ≤ _
      unfold rollR endR
      split
      · exact hdl
      · have := (nextR_ok (fenceR_ok (flushLs_ok (lineL l c.1.toNat 0) (backs_ok hc hn l hr hd))) (by omega) (epochR c (seenB d)))
        have h1 := this.len
        have h2 := this.hi
        omega
  · rw [if_neg h0]
    exact Nat.zero_le _
theorem FnExactRolledBack : laws_FnExactRolledBack.Pure := by
  intro c d oc od
  obtain ⟨_, _, _, tl, ts⟩ := oc
  obtain ⟨d1, d2, d3⟩ := od
  refine Ev.rounds ?_
  unfold laws_FnExactRolledBack.f
  obtain ⟨r, e, hr⟩ := szConfig_ev c tl ts 1048576 (by omega) (by omega)
  refine Ev.bind e (Ev.cases (fun _ => Ev.eq rfl) (fun c1 => ?_))
  obtain ⟨hrl, hl, hs⟩ := hr (by omega)
  obtain ⟨r2, e2, hr2⟩ := szDevice_ev d d1 d2 (fun x hx => (d3 x hx).2) r (by omega) hrl
  refine Ev.bind e2 (Ev.cases (fun _ => Ev.eq rfl) (fun c2 => ?_))
  obtain ⟨hz, hdl⟩ := hr2 (by omega)
  have t1 := toConfig_ev c hl
  have t2 := toDevice_ev d hdl
  have g1 := spec_RolledBack_ev c d hl hs (by omega) hdl
  have g2 := impl_RolledBack_ev c d hs (by omega) hdl
  have hlen := rolled_len c d hdl
  generalize outD (rolledO c d) = R at *
  obtain ⟨R1, R2, R3⟩ := R
  have q := eqDevice_ev (R1, R2) hlen
  obtain ⟨l', m1⟩ := markStringS_ev c.2.2.2 1 (by omega) (by omega) hl
  have m0 := markDevice_ev d (1 + (c.2.2.2.length : Int)) (by omega) (by omega) hdl
  have m2 := markDevice_ev (R1, R2) 1 (by omega) (by omega) hlen
  have m3 := heldDevice_ev R1 1 R2.length (by omega) (by omega) hlen
  refine Ev.bind t1 (Ev.bind t2 (Ev.bind g1 (Ev.bind t1 (Ev.bind t2 (Ev.bind g2 (Ev.bind q (Ev.pos rfl ?_)))))))
  simp only [decide_true, Bool.not_true]
  refine Ev.step (fun k => by rw [laws_FnExactRolledBack.p35]) ?_
  refine Ev.neg (by simp) (Ev.bind t1 (Ev.bind (eqConfig_ev c hl) (Ev.pos rfl (Ev.bind t2 (Ev.bind (eqDevice_ev d hdl) (Ev.pos rfl ?_))))))
  refine Ev.bind (a := (l', 1 + (c.2.2.2.length : Int))) ?_ ?_
  · unfold laws_markConfig.f
    exact Ev.bind m1 (Ev.eq rfl)
  refine Ev.bind m0 (Ev.neg (by simp only []; omega) (Ev.bind q (Ev.pos rfl ?_)))
  simp only [decide_true, Bool.not_true]
  refine Ev.step (fun k => by rw [laws_FnExactRolledBack.p65]) ?_
  refine Ev.neg (by simp) (Ev.bind m2 (Ev.bind m3 (Ev.neg (by omega) (Ev.pos rfl ?_))))
  exact Ev.bind t1 (Ev.bind t2 (Ev.bind g2 (Ev.bind q (Ev.pos rfl (Ev.pos rfl (Ev.bind m3 (Ev.neg (by omega) (Ev.pos rfl (Ev.eq rfl)))))))))
end Go.Proofs.YtmciidoohbmipaaGreatDoor.Abs.Pu
namespace Go.Proofs.YtmciidoohbmipaaGreatDoor.Abs
open Go Go.RowKit
set_option linter.unusedVariables false
set_option linter.unusedSectionVars false
set_option linter.unusedSimpArgs false

/-- Laid aside: for the walks, which look through what stands ahead of them. -/
structure Aside0 (p : Prop) : Prop where
  out : p

theorem run_copy_wide {P : Program} (w : World) (dT sT ty elem : TypeId) (sz : Nat) (b o dLen dCap : Nat) (a : Addr) (sLen sCap : Nat) (n : Nat) (cs : List Value)
    (hu : P.underlying dT = some (.slice elem)) (hs : (P.info? elem).map (·.size) = some sz) (hm : Nat.min sLen dLen = n) (hn : cs.length = n * sz)
    (hsrc : ∀ j v, cs[j]? = some v → w.cell? (a.add j) = some v) (hc : ∀ j, j < cs.length → (w.cell? ⟨b, o + j, none⟩).isSome = true) (hf : ∀ j, j < cs.length → w.frozen? ⟨b, o + j, none⟩ = false) (h1 : ∀ v ∈ cs, v.oneCell' = true) :
    (Builtin.copy_ #[dT, sT] ty #[.slice (some ⟨b, o, none⟩) dLen dCap, .slice (some a) sLen sCap]).run P w = .ok (goInt n) (w.setCells b o cs) := by
  have hl := run_loadCells_list (P := P) w a cs hsrc
  have hst := run_storeCells_cells (P := P) b o cs 0 w (by simpa using hc) (by simpa using hf) h1
  cases hq : P.info? elem with
  | none => simp [hq] at hs
  | some i =>
    have hi : i.size = sz := by simpa [hq] using hs
    simp [Builtin.copy_, run_underlying hu, Builtin.lenOf, Builtin.firstCells, sizeOf, typeInfo, hq, hi, hm, ← hn, hl, hst]

theorem cells_row {w : World} {g : Nat} {e : TypeId} {cur : Array Value} {k : Nat} {xs : List Value} (hg : w.heap[g]? = some (.cells cur e (0, 0))) (ht : cur.toList.take k = xs) : ∀ (j : Nat) (u : Value), xs[j]? = some u → w.cell? ⟨g, j, none⟩ = some u := by
  intro j u hj
  have e : cur.toList[j]? = some u := by
    rw [← ht, List.getElem?_take] at hj
    split at hj
    · exact hj
    · cases hj
  simp only [World.cell?, hg]
  simpa using e

theorem ins_list1 (L C V : List Value) (i m n : Nat) (hC : L.take n = C) (hCl : C.length = n) (hi : i ≤ n) (hV : V.length = m) (hL : n + m ≤ L.length) :
    (((L.take (i + m) ++ C.drop i ++ L.drop (i + m + (C.drop i).length)).take i ++ V ++ (L.take (i + m) ++ C.drop i ++ L.drop (i + m + (C.drop i).length)).drop (i + V.length))).take (n + m) = C.take i ++ (V ++ C.drop i) := by
  have h1 : (L.take (i + m) ++ C.drop i ++ L.drop (i + m + (C.drop i).length)).take i = C.take i := by
    rw [List.append_assoc, List.take_append_of_le_length (by rw [List.length_take]; omega), List.take_take, Nat.min_eq_left (by omega), ← hC, List.take_take, Nat.min_eq_left hi]
  have h2 : (L.take (i + m) ++ C.drop i ++ L.drop (i + m + (C.drop i).length)).drop (i + V.length) = C.drop i ++ L.drop (i + m + (C.drop i).length) := by
    rw [hV, List.append_assoc, List.drop_append_of_le_length (by rw [List.length_take]; omega), List.drop_eq_nil_of_le (by rw [List.length_take]; omega), List.nil_append]
  rw [h1, h2, List.append_assoc, ← List.append_assoc V, ← List.append_assoc (C.take i)]
  exact List.take_left' (by simp; omega)
theorem ins_list2 (R C V more : List Value) (i m n : Nat) (hR : R = C.take i ++ more) (hCl : C.length = n) (hi : i ≤ n) (hV : V.length = m) (hL : n + m ≤ R.length) :
    (((R.take i ++ V ++ R.drop (i + V.length)).take (i + m) ++ C.drop i ++ (R.take i ++ V ++ R.drop (i + V.length)).drop (i + m + (C.drop i).length))).take (n + m) = C.take i ++ (V ++ C.drop i) := by
  have h0 : R.take i = C.take i := by
    rw [hR, List.take_append_of_le_length (by rw [List.length_take]; omega), List.take_take, Nat.min_self]
  have h1 : (R.take i ++ V ++ R.drop (i + V.length)).take (i + m) = C.take i ++ V := by
    rw [h0]
    exact List.take_left' (by simp; omega)
  rw [h1, ← List.append_assoc]
  exact List.take_left' (by simp; omega)

theorem Els.split {α : Type} {K : α → List Value → Prop} {sz : Nat} (hK : ∀ x cs, K x cs → cs.length = sz) : (i : Nat) → {l : List α} → {xs : List Value} → Els K l xs → i ≤ l.length → Els K (l.take i) (xs.take (i * sz)) ∧ Els K (l.drop i) (xs.drop (i * sz))
  | 0, l, xs, h, _ => by
    simp only [List.take_zero, Nat.zero_mul, List.drop_zero]
    exact ⟨rfl, h⟩
  | i + 1, [], xs, h, hi => absurd hi (by simp)
  | i + 1, x :: l, xs, ⟨c, r, e, hc, hr⟩, hi => by
    have hi : i ≤ l.length := by simpa using hi
    obtain ⟨h1, h2⟩ := Els.split hK i hr hi
    have hl := hK _ _ hc
    have ek : (i + 1) * sz = c.length + i * sz := by rw [hl, Nat.succ_mul, Nat.add_comm]
    rw [e, ek, List.take_length_add_append, List.drop_length_add_append, List.take_succ_cons, List.drop_succ_cons]
    exact ⟨⟨c, _, rfl, hc, h1⟩, h2⟩

section
variable {P : Program} {f : FuncId} {e : TypeId} {t : Ty}

/-- A row as the walk of slices.Clone needs it. -/
theorem clone_calls {M : Nat → Prop} {w : World} (l : List t.den) (A : Option Addr) (c : Nat) (hr : RowR M w (t.KR M w) t.sz A l) (by_ : Nat) (hl : l.length ≤ by_)
    (hnil : ∀ n c w, Calls P f #[.slice none n c] w fun e w' => e = .returned (.slice none 0 0) ∧ w' = w)
    (hsome : ∀ (a : Addr) n c (xs : List Value) w, n ≤ by_ → xs.length = n * t.sz → (∀ u ∈ xs, u.oneCell' = true) → (∀ j u, xs[j]? = some u → w.cell? (a.add j) = some u) → Calls P f #[.slice (some a) n c] w fun en w' => ∃ v', en = .returned v' ∧ w'.ownsRow w.heap.size e t.sz v' n xs ∧ Below w.heap.size w w') :
    Calls P f (List.toArray [.slice A l.length c]) w fun en w' => ∃ v xs, en = .returned v ∧ Below w.heap.size w w' ∧ w'.ownsRow w.heap.size e t.sz v l.length xs ∧ Els (t.KR M w) l xs := by
  rcases con_cells hr with ⟨rfl, rfl⟩ | ⟨a, ys, rfl, hy, hcell⟩
  · refine (hnil 0 c w).mono ?_
    rintro en w' ⟨rfl, rfl⟩
    exact ⟨_, [], rfl, Below.refl _ _, World.ownsRow_nil _ _ _ _, rfl⟩
  · refine (hsome a l.length c ys w hl (Els.len (fun _ _ h => KR_len t h) hy) (Els.one (sz := t.sz) (fun _ _ h => KR_one t h) hy) (fun j u hj => hcell j u hj)).mono ?_
    rintro en w' ⟨v', rfl, h1, h2⟩
    exact ⟨_, _, rfl, h2, h1, hy⟩

def insX (e : TypeId) (t : Ty) (r : List t.den) : AV × List HE := (.own 2, [.gone, .gone, .row e t r])

theorem sound_insert {B : Nat} {pat : Nat → List AV → List HE → Option (Option (List t.den))}
    (hpat : ∀ k avs H o x, pat k avs H = some o → o = some x → ∃ (l : List t.den) (i : Nat) (m : List t.den), avs = [.own 0, .v (.int .i64 i), .own 1] ∧ H = [.row e t l, .row e t m] ∧ i ≤ l.length ∧ 0 < m.length ∧ l.length + m.length ≤ B ∧ x = l.take i ++ (m ++ l.drop i))
    (h : ∀ (v u : Value) (n i m : Nat) (xs ys : List Value) (w : World), w.ownsRow 0 e t.sz v n xs → w.ownsRow 0 e t.sz u m ys → (∀ b, v.ownBlock = some b → u.ownBlock ≠ some b) → (∀ y ∈ xs, y.oneCell' = true) → (∀ y ∈ ys, y.oneCell' = true) → i ≤ n → 0 < m → n + m ≤ B →
      Calls P f #[v, .int .i64 i, u] w fun en w' => ∃ v', en = .returned v' ∧ w'.ownsRow 0 e t.sz v' (n + m) (xs.take (i * t.sz) ++ (ys ++ xs.drop (i * t.sz))) ∧ w.grownBy w' v.ownBlock ∧ (v'.ownBlock = v.ownBlock ∨ ∀ g, v'.ownBlock = some g → w.heap.size ≤ g)) :
    Sound P f (mkS [.row e t, .val, .row e t] pat (insX e t)) := by
  intro k avs H c x hc hx MX w ρ vals hst
  unfold mkS at hc
  simp only at hc
  split at hc
  case h_2 => cases hc
  rename_i o ho
  injection hc with hc
  subst hc
  obtain ⟨l, i, m, rfl, rfl, hil, hm0, hlm, rfl⟩ := hpat k avs H o x ho hx
  obtain ⟨y0, q0, rfl, ⟨_, rfl, A0, n0, c0, hv0⟩, y1, q1, rfl, hy1, y2, q2, rfl, ⟨_, rfl, A1, n1, c1, hv1⟩, hq2⟩ := hst.args
  obtain rfl : q2 = [] := hq2
  obtain rfl : y1 = .int .i64 i := hy1
  obtain ⟨xs, b1, b2⟩ := (show HEok _ w ρ _ 0 (.row e t l) from hst.rel.ok 0)
  obtain ⟨ys, d1, d2⟩ := (show HEok _ w ρ _ 1 (.row e t m) from hst.rel.ok 1)
  have live0 : live (hpOf [.row e t l, .row e t m] 0) := trivial
  have live1 : live (hpOf [.row e t l, .row e t m] 1) := trivial
  have blk0 : blk (ρ 0) = (ρ 0).ownBlock := blk_own ⟨A0, n0, c0, hv0⟩
  have blk1 : blk (ρ 1) = (ρ 1).ownBlock := blk_own ⟨A1, n1, c1, hv1⟩
  have hne : ∀ b, (ρ 0).ownBlock = some b → (ρ 1).ownBlock ≠ some b := fun b e1 e2 => by
    have := hst.rel.sep 0 1 b live0 live1 (by rw [blk0]; exact e1) (by rw [blk1]; exact e2)
    omega
  refine (h (ρ 0) (ρ 1) l.length i m.length xs ys w b1 d1 hne (Els.one (sz := t.sz) (fun _ _ h => KR_one t h) b2) (Els.one (sz := t.sz) (fun _ _ h => KR_one t h) d2) hil hm0 hlm).mono ?_
  rintro en w' ⟨v', rfl, e1, e2, e3⟩
  have hv' : ∃ A n c, v' = .slice A n c := by
    rcases e1.2 with ⟨h2, _⟩ | ⟨g2, cap, cur, h2, _⟩
    · exact ⟨_, _, _, h2⟩
    · exact ⟨_, _, _, h2⟩
  have blk2 : blk v' = v'.ownBlock := blk_own hv'
  have hoff : Off (fun g => (ρ 0).ownBlock = some g) w w' := Off.grown e2
  have cl : ∀ j, live (hpOf (insX e t (l.take i ++ (m ++ l.drop i))).2 j) → j = 2 ∧ blk (upd ρ 2 v' j) = v'.ownBlock := by
    intro j hj
    cases j with
    | zero => exact hj.elim
    | succ j => cases j with
      | zero => exact hj.elim
      | succ j => cases j with
        | zero => exact ⟨rfl, by rw [show (0 + 1 + 1) = 2 from rfl, upd_same]; exact blk2⟩
        | succ j => simp [insX, hpOf, live] at hj
  have hnew : ∀ b, v'.ownBlock = some b → b < w.heap.size → (ρ 0).ownBlock = some b := by
    intro b hb hlt
    rcases e3 with h4 | h4
    · rw [← h4]; exact hb
    · have := h4 b hb; omega
  have hM : ∀ b, b < w.heap.size → Mut MX (hpOf (insX e t (l.take i ++ (m ++ l.drop i))).2) (upd ρ 2 v') b → Mut MX (hpOf [.row e t l, .row e t m]) ρ b := by
    rintro b hb (h | ⟨j, hj, hbj⟩)
    · exact .inl h
    · obtain ⟨rfl, h1⟩ := cl j hj
      rw [h1] at hbj
      exact .inr ⟨0, live0, by rw [blk0]; exact hnew b hbj hb⟩
  have hD : ∀ b, b < w.heap.size → (ρ 0).ownBlock = some b → Mut MX (hpOf [.row e t l, .row e t m]) ρ b := fun b _ h => .inr ⟨0, live0, by rw [blk0]; exact h⟩
  obtain ⟨s1, s2⟩ := Els.split (fun _ _ h => KR_len t h) i b2 hil
  have hels := Els.append s1 (Els.append d2 s2)
  refine ⟨_, upd ρ 2 v', rfl, ⟨fun j => ?_, fun i j b hi hj hbi hbj => ?_, fun i b hi hbi hm => ?_, fun b hb => Nat.lt_of_lt_of_le (hst.rel.mx b hb) hoff.size⟩, ?_, fun j hj => ?_, ?_, fun b hb ⟨i, hi, hbi⟩ => ?_, fun i cs hi => ?_⟩
  · cases j with
    | zero => trivial
    | succ j => cases j with
      | zero => trivial
      | succ j => cases j with
        | zero =>
          refine ⟨_, ?_, Els.imp (fun y cs h => KR_step hoff hD hM t h) hels⟩
          rw [show (0 + 1 + 1) = 2 from rfl, upd_same]
          have e5 : (l.take i ++ (m ++ l.drop i)).length = l.length + m.length := by
            simp only [List.length_append, List.length_take, List.length_drop]; omega
          rw [e5]
          exact e1
        | succ j => simp [insX, hpOf, HEok]
  · obtain ⟨rfl, _⟩ := cl i hi
    obtain ⟨rfl, _⟩ := cl j hj
    rfl
  · obtain ⟨rfl, h1⟩ := cl i hi
    rw [h1] at hbi
    exact hst.rel.ext 0 b live0 (by rw [blk0]; exact hnew b hbi (hst.rel.mx b hm)) hm
  · exact ⟨by simp [insX, hpOf], by rw [upd_same], hv'⟩
  · have : j = 0 ∨ j = 1 := by simp at hj; omega
    rw [upd_ne _ _ (by omega)]
  · exact hoff.mono fun b _ hb => ⟨0, live0, by rw [blk0]; exact hb⟩
  · obtain ⟨rfl, h1⟩ := cl i hi
    rw [h1] at hbi
    exact ⟨0, live0, by rw [blk0]; exact hnew b hbi hb⟩
  · cases i with
    | zero => cases hi
    | succ i => cases i with
      | zero => cases hi
      | succ i => simp [hpOf] at hi
end
end Go.Proofs.YtmciidoohbmipaaGreatDoor.Abs
namespace Go.Proofs
open Go.Shelf
def Tryz.lays231_ren : Go.Shelf.Ren := ⟨fun | 231 => 196 | n => n, fun | 9 => 9 | 5 => 5 | 3 => 3 | 4 => 4 | n => n, fun | n => n⟩
theorem Tryz.lays231 : Go.Proofs.Lays.n231 Tryz.prog Tryz.lays231_ren := {
  mixed := by kernel_rfl
  f231 := Tryz.func196.trans (congrArg some (by kernel_rfl))
  t3 := Tryz.underlying3
  a3 := Tryz.isAgg3
  z3 := Tryz.sizeOf3
  v3 := Tryz.zeroValue3
  t4 := Tryz.underlying4
  a4 := Tryz.isAgg4
  z4 := Tryz.sizeOf4
  v4 := Tryz.zeroValue4
  t5 := Tryz.underlying5
  a5 := Tryz.isAgg5
  z5 := Tryz.sizeOf5
  v5 := Tryz.zeroValue5
  t9 := Tryz.underlying9
  a9 := Tryz.isAgg9
  z9 := Tryz.sizeOf9
  v9 := Tryz.zeroValue9 }
open Go.RowKit in
/-- strings.trimLeftByte (no doc; what TrimLeft and Trim call at a cutset of one ASCII byte): the leading bytes that are c are cut off. The world is as it was. (LAID: no walk: one application.) -/
theorem Tryz.strings_trimLeftByte (s : ByteArray) (c : UInt8) (w : World) :
    Calls Tryz.prog 196 #[.string s, .int .u8 c.toNat] w fun e w' => e = .returned (.string ⟨(Lib.trimLeftB s.data.toList c).toArray⟩) ∧ w' = w := Any.strings_trimLeftByte Tryz.lays231 s c w
def Tryz.lays232_ren : Go.Shelf.Ren := ⟨fun | 232 => 197 | n => n, fun | 9 => 9 | 5 => 5 | 3 => 3 | 4 => 4 | n => n, fun | n => n⟩
theorem Tryz.lays232 : Go.Proofs.Lays.n232 Tryz.prog Tryz.lays232_ren := {
  mixed := by kernel_rfl
  f232 := Tryz.func197.trans (congrArg some (by kernel_rfl))
  t3 := Tryz.underlying3
  a3 := Tryz.isAgg3
  z3 := Tryz.sizeOf3
  v3 := Tryz.zeroValue3
  t4 := Tryz.underlying4
  a4 := Tryz.isAgg4
  z4 := Tryz.sizeOf4
  v4 := Tryz.zeroValue4
  t5 := Tryz.underlying5
  a5 := Tryz.isAgg5
  z5 := Tryz.sizeOf5
  v5 := Tryz.zeroValue5
  t9 := Tryz.underlying9
  a9 := Tryz.isAgg9
  z9 := Tryz.sizeOf9
  v9 := Tryz.zeroValue9 }
open Go.RowKit in
/-- strings.trimRightByte (no doc; what TrimRight and Trim call at a cutset of one ASCII byte): the trailing bytes that are c are cut off. The world is as it was. ('hs': a string's length is a number that an int holds.) (LAID: no walk: one application.) -/
theorem Tryz.strings_trimRightByte (s : ByteArray) (c : UInt8) (w : World) (hs : s.size ≤ 9223372036854775807) :
    Calls Tryz.prog 197 #[.string s, .int .u8 c.toNat] w fun e w' => e = .returned (.string ⟨(Lib.trimRightB s.data.toList c).toArray⟩) ∧ w' = w := Any.strings_trimRightByte Tryz.lays232 s c w hs
def Tryz.lays160_ren : Go.Shelf.Ren := ⟨fun | 160 => 186 | 232 => 197 | 231 => 196 | 227 => 198 | 234 => 200 | 233 => 199 | 236 => 202 | 235 => 201 | 228 => 209 | 271 => 212 | 151 => 211 | 197 => 210 | 120 => 220 | 152 => 219 | 260 => 218 | 137 => 222 | 119 => 223 | 224 => 224 | 225 => 225 | 217 => 226 | 266 => 227 | n => n, fun | 9 => 9 | 4 => 4 | 3 => 3 | 5 => 5 | 117 => 196 | 116 => 195 | 0 => 0 | 124 => 199 | 21 => 21 | 105 => 208 | 46 => 153 | 119 => 218 | 139 => 221 | 138 => 220 | n => n, fun | 3 => 0 | 4 => 1 | n => n⟩
theorem Tryz.lays160 : Go.Proofs.Lays.n160 Tryz.prog Tryz.lays160_ren := {
  mixed := by kernel_rfl
  f119 := Tryz.func223.trans (congrArg some (by kernel_rfl))
  f120 := Tryz.func220.trans (congrArg some (by kernel_rfl))
  f137 := Tryz.func222.trans (congrArg some (by kernel_rfl))
  f151 := Tryz.func211.trans (congrArg some (by kernel_rfl))
  f152 := Tryz.func219.trans (congrArg some (by kernel_rfl))
  f160 := Tryz.func186.trans (congrArg some (by kernel_rfl))
  f197 := Tryz.func210.trans (congrArg some (by kernel_rfl))
  f217 := Tryz.func226.trans (congrArg some (by kernel_rfl))
  f224 := Tryz.func224.trans (congrArg some (by kernel_rfl))
  f225 := Tryz.func225.trans (congrArg some (by kernel_rfl))
  f227 := Tryz.func198.trans (congrArg some (by kernel_rfl))
  f228 := Tryz.func209.trans (congrArg some (by kernel_rfl))
  f231 := Tryz.func196.trans (congrArg some (by kernel_rfl))
  f232 := Tryz.func197.trans (congrArg some (by kernel_rfl))
  f233 := Tryz.func199.trans (congrArg some (by kernel_rfl))
  f234 := Tryz.func200.trans (congrArg some (by kernel_rfl))
  f235 := Tryz.func201.trans (congrArg some (by kernel_rfl))
  f236 := Tryz.func202.trans (congrArg some (by kernel_rfl))
  f260 := Tryz.func218.trans (congrArg some (by kernel_rfl))
  f266 := Tryz.func227.trans (congrArg some (by kernel_rfl))
  f271 := Tryz.func212.trans (congrArg some (by kernel_rfl))
  t0 := Tryz.underlying0
  a0 := Tryz.isAgg0
  z0 := Tryz.sizeOf0
  v0 := Tryz.zeroValue0
  t3 := Tryz.underlying3
  a3 := Tryz.isAgg3
  z3 := Tryz.sizeOf3
  v3 := Tryz.zeroValue3
  t4 := Tryz.underlying4
  a4 := Tryz.isAgg4
  z4 := Tryz.sizeOf4
  v4 := Tryz.zeroValue4
  t5 := Tryz.underlying5
  a5 := Tryz.isAgg5
  z5 := Tryz.sizeOf5
  v5 := Tryz.zeroValue5
  t9 := Tryz.underlying9
  a9 := Tryz.isAgg9
  z9 := Tryz.sizeOf9
  v9 := Tryz.zeroValue9
  t21 := Tryz.underlying21
  a21 := Tryz.isAgg21
  z21 := Tryz.sizeOf21
  v21 := Tryz.zeroValue21
  t46 := Tryz.underlying153
  a46 := Tryz.isAgg153
  z46 := Tryz.sizeOf153
  v46 := Tryz.zeroValue153
  t105 := Tryz.underlying208
  a105 := Tryz.isAgg208
  z105 := Tryz.sizeOf208
  v105 := Tryz.zeroValue208
  t116 := Tryz.underlying195
  a116 := Tryz.isAgg195
  z116 := Tryz.sizeOf195
  t117 := Tryz.underlying196
  a117 := Tryz.isAgg196
  z117 := Tryz.sizeOf196
  v117 := Tryz.zeroValue196
  t119 := Tryz.underlying218
  a119 := Tryz.isAgg218
  z119 := Tryz.sizeOf218
  t124 := Tryz.underlying199
  a124 := Tryz.isAgg199
  z124 := Tryz.sizeOf199
  v124 := Tryz.zeroValue199
  t138 := Tryz.underlying220
  a138 := Tryz.isAgg220
  z138 := Tryz.sizeOf220
  v138 := Tryz.zeroValue220
  t139 := Tryz.underlying221
  a139 := Tryz.isAgg221
  z139 := Tryz.sizeOf221
  v139 := Tryz.zeroValue221
  g3 := by kernel_rfl
  g4 := by kernel_rfl }
open Go.RowKit in
/-- strings.Trim: "Trim returns a slice of the string s with all leading and trailing Unicode code points contained in cutset removed.": AT A cutset OF ONE ASCII BYTE. THE WORLD BEHIND IT: as it was, or (where s is not empty) with ONE DRAW MORE off the tape: the statement 'return trimLeftByte(trimRightByte(s, c), c)' draws its order of evaluation. (LAID: no walk: one application.) -/
theorem Tryz.strings_Trim_one (s : ByteArray) (c : UInt8) (hc : c.toNat < 128) (w : World) (hs : s.size ≤ 9223372036854775807) :
    Calls Tryz.prog 186 #[.string s, .string ⟨#[c]⟩] w fun e w' => e = .returned (.string ⟨(Lib.trimB s.data.toList c).toArray⟩) ∧ (w' = w ∨ w' = w.drew) := Any.strings_Trim_one Tryz.lays160 s c hc w hs
def Tryz.lays119_ren : Go.Shelf.Ren := ⟨fun | 119 => 223 | n => n, fun | 21 => 21 | 4 => 4 | n => n, fun | n => n⟩
theorem Tryz.lays119 : Go.Proofs.Lays.n119 Tryz.prog Tryz.lays119_ren := {
  mixed := by kernel_rfl
  f119 := Tryz.func223.trans (congrArg some (by kernel_rfl))
  t4 := Tryz.underlying4
  a4 := Tryz.isAgg4
  z4 := Tryz.sizeOf4
  v4 := Tryz.zeroValue4
  t21 := Tryz.underlying21
  a21 := Tryz.isAgg21
  z21 := Tryz.sizeOf21
  v21 := Tryz.zeroValue21 }
/-- utf8.ValidRune: "ValidRune reports whether r can be legally encoded as UTF-8. Code points that are out of range or a surrogate half are illegal.": IT RETURNS 'Lib.validRune r'; the world is as it was. (LAID: no walk: one application.) -/
theorem Tryz.utf8_ValidRune (r : Int) (w : World) :
    Calls Tryz.prog 223 #[.int .i32 r] w fun e w' => e = .returned (.bool (Lib.validRune r)) ∧ w' = w := Any.utf8_ValidRune Tryz.lays119 r w
def Tryz.lays120_ren : Go.Shelf.Ren := ⟨fun | 120 => 220 | n => n, fun | 5 => 5 | 4 => 4 | n => n, fun | n => n⟩
theorem Tryz.lays120 : Go.Proofs.Lays.n120 Tryz.prog Tryz.lays120_ren := {
  mixed := by kernel_rfl
  f120 := Tryz.func220.trans (congrArg some (by kernel_rfl))
  t4 := Tryz.underlying4
  a4 := Tryz.isAgg4
  z4 := Tryz.sizeOf4
  v4 := Tryz.zeroValue4
  t5 := Tryz.underlying5
  a5 := Tryz.isAgg5
  z5 := Tryz.sizeOf5
  v5 := Tryz.zeroValue5 }
/-- utf8.RuneStart: "RuneStart reports whether the byte could be the first byte of an encoded, possibly invalid rune. Second and subsequent bytes always have the top two bits set to 10.": IT RETURNS 'Lib.runeStart b'; the world is as it was. ('h0', 'h1': b is a byte: a caller has it of every byte that it was handed.) (LAID: no walk: one application.) -/
theorem Tryz.utf8_RuneStart (b : Int) (w : World) (h0 : 0 ≤ b) (h1 : b < 256) :
    Calls Tryz.prog 220 #[.int .u8 b] w fun e w' => e = .returned (.bool (Lib.runeStart b)) ∧ w' = w := Any.utf8_RuneStart Tryz.lays120 b w h0 h1
def Tryz.lays128_ren : Go.Shelf.Ren := ⟨fun | 128 => 183 | n => n, fun | 51 => 173 | 3 => 3 | 4 => 4 | 46 => 153 | 5 => 5 | 9 => 9 | n => n, fun | n => n⟩
theorem Tryz.lays128 : Go.Proofs.Lays.n128 Tryz.prog Tryz.lays128_ren := {
  mixed := by kernel_rfl
  f128 := Tryz.func183.trans (congrArg some (by kernel_rfl))
  t3 := Tryz.underlying3
  a3 := Tryz.isAgg3
  z3 := Tryz.sizeOf3
  v3 := Tryz.zeroValue3
  t4 := Tryz.underlying4
  a4 := Tryz.isAgg4
  z4 := Tryz.sizeOf4
  v4 := Tryz.zeroValue4
  t5 := Tryz.underlying5
  a5 := Tryz.isAgg5
  z5 := Tryz.sizeOf5
  v5 := Tryz.zeroValue5
  t9 := Tryz.underlying9
  a9 := Tryz.isAgg9
  z9 := Tryz.sizeOf9
  v9 := Tryz.zeroValue9
  t46 := Tryz.underlying153
  a46 := Tryz.isAgg153
  z46 := Tryz.sizeOf153
  v46 := Tryz.zeroValue153
  t51 := Tryz.underlying173
  a51 := Tryz.isAgg173
  z51 := Tryz.sizeOf173
  v51 := Tryz.zeroValue173 }
/-- bits.Len32: "Len32 returns the minimum number of bits required to represent x; the result is 0 for x == 0.": IT RETURNS 'Lib.bitLen x'; the world is as it was. ('h0', 'h1': x is a uint32.) (LAID: no walk: one application.) -/
theorem Tryz.bits_Len32 (x : Int) (w : World) (h0 : 0 ≤ x) (h1 : x ≤ 4294967295) :
    Calls Tryz.prog 183 #[.int .u32 x] w fun e w' => e = .returned (.int .i64 (Lib.bitLen x.toNat)) ∧ w' = w := Any.bits_Len32 Tryz.lays128 x w h0 h1
def Tryz.lays125_ren : Go.Shelf.Ren := ⟨fun | 125 => 160 | 128 => 183 | 129 => 184 | n => n, fun | 46 => 153 | 3 => 3 | 51 => 173 | 53 => 151 | 4 => 4 | 5 => 5 | 9 => 9 | n => n, fun | n => n⟩
theorem Tryz.lays125 : Go.Proofs.Lays.n125 Tryz.prog Tryz.lays125_ren := {
  mixed := by kernel_rfl
  f125 := Tryz.func160.trans (congrArg some (by kernel_rfl))
  f128 := Tryz.func183.trans (congrArg some (by kernel_rfl))
  f129 := Tryz.func184.trans (congrArg some (by kernel_rfl))
  t3 := Tryz.underlying3
  a3 := Tryz.isAgg3
  z3 := Tryz.sizeOf3
  v3 := Tryz.zeroValue3
  t4 := Tryz.underlying4
  a4 := Tryz.isAgg4
  z4 := Tryz.sizeOf4
  v4 := Tryz.zeroValue4
  t5 := Tryz.underlying5
  a5 := Tryz.isAgg5
  z5 := Tryz.sizeOf5
  v5 := Tryz.zeroValue5
  t9 := Tryz.underlying9
  a9 := Tryz.isAgg9
  z9 := Tryz.sizeOf9
  v9 := Tryz.zeroValue9
  t46 := Tryz.underlying153
  a46 := Tryz.isAgg153
  z46 := Tryz.sizeOf153
  v46 := Tryz.zeroValue153
  t51 := Tryz.underlying173
  a51 := Tryz.isAgg173
  z51 := Tryz.sizeOf173
  v51 := Tryz.zeroValue173
  t53 := Tryz.underlying151
  a53 := Tryz.isAgg151
  z53 := Tryz.sizeOf151
  v53 := Tryz.zeroValue151 }
/-- bits.Len: "Len returns the minimum number of bits required to represent x; the result is 0 for x == 0.": IT RETURNS 'Lib.bitLen x'; the world is as it was. (A uint has 64 bits in the model.) ITS CALLEE bits.Len64 IS MET BY ITS OWN CONTRACT OFF THE SHELF (lay that first). (LAID: no walk: one application.) -/
theorem Tryz.bits_Len (x : Int) (w : World) (h0 : 0 ≤ x) (h1 : x ≤ 18446744073709551615) :
    Calls Tryz.prog 160 #[.int .u64 x] w fun e w' => e = .returned (.int .i64 (Lib.bitLen x.toNat)) ∧ w' = w := Any.bits_Len Tryz.lays125 x w h0 h1
def Tryz.lays137_ren : Go.Shelf.Ren := ⟨fun | 137 => 222 | 217 => 226 | 266 => 227 | n => n, fun | 9 => 9 | 5 => 5 | 3 => 3 | n => n, fun | n => n⟩
theorem Tryz.lays137 : Go.Proofs.Lays.n137 Tryz.prog Tryz.lays137_ren := {
  mixed := by kernel_rfl
  f137 := Tryz.func222.trans (congrArg some (by kernel_rfl))
  f217 := Tryz.func226.trans (congrArg some (by kernel_rfl))
  f266 := Tryz.func227.trans (congrArg some (by kernel_rfl))
  t3 := Tryz.underlying3
  a3 := Tryz.isAgg3
  z3 := Tryz.sizeOf3
  v3 := Tryz.zeroValue3
  t5 := Tryz.underlying5
  a5 := Tryz.isAgg5
  z5 := Tryz.sizeOf5
  v5 := Tryz.zeroValue5
  t9 := Tryz.underlying9
  a9 := Tryz.isAgg9
  z9 := Tryz.sizeOf9
  v9 := Tryz.zeroValue9 }
open Go.RowKit in
/-- strings.IndexByte: "IndexByte returns the index of the first instance of c in s, or -1 if c is not present in s.": IT RETURNS 'Lib.indexByte s c'; the world is as it was. (LAID: no walk: one application.) -/
theorem Tryz.strings_IndexByte (s : ByteArray) (c : Int) (w : World) :
    Calls Tryz.prog 222 #[.string s, .int .u8 c] w fun e w' => e = .returned (.int .i64 (Lib.indexByte s.data.toList c.toNat.toUInt8)) ∧ w' = w := Any.strings_IndexByte Tryz.lays137 s c w
def Tryz.lays129_ren : Go.Shelf.Ren := ⟨fun | 129 => 184 | n => n, fun | 53 => 151 | 3 => 3 | 4 => 4 | 46 => 153 | 5 => 5 | 9 => 9 | n => n, fun | n => n⟩
theorem Tryz.lays129 : Go.Proofs.Lays.n129 Tryz.prog Tryz.lays129_ren := {
  mixed := by kernel_rfl
  f129 := Tryz.func184.trans (congrArg some (by kernel_rfl))
  t3 := Tryz.underlying3
  a3 := Tryz.isAgg3
  z3 := Tryz.sizeOf3
  v3 := Tryz.zeroValue3
  t4 := Tryz.underlying4
  a4 := Tryz.isAgg4
  z4 := Tryz.sizeOf4
  v4 := Tryz.zeroValue4
  t5 := Tryz.underlying5
  a5 := Tryz.isAgg5
  z5 := Tryz.sizeOf5
  v5 := Tryz.zeroValue5
  t9 := Tryz.underlying9
  a9 := Tryz.isAgg9
  z9 := Tryz.sizeOf9
  v9 := Tryz.zeroValue9
  t46 := Tryz.underlying153
  a46 := Tryz.isAgg153
  z46 := Tryz.sizeOf153
  v46 := Tryz.zeroValue153
  t53 := Tryz.underlying151
  a53 := Tryz.isAgg151
  z53 := Tryz.sizeOf151
  v53 := Tryz.zeroValue151 }
/-- bits.Len64: "Len64 returns the minimum number of bits required to represent x; the result is 0 for x == 0.": IT RETURNS 'Lib.bitLen x'; the world is as it was. ('h0', 'h1': x is a uint64.) (LAID: no walk: one application.) -/
theorem Tryz.bits_Len64 (x : Int) (w : World) (h0 : 0 ≤ x) (h1 : x ≤ 18446744073709551615) :
    Calls Tryz.prog 184 #[.int .u64 x] w fun e w' => e = .returned (.int .i64 (Lib.bitLen x.toNat)) ∧ w' = w := Any.bits_Len64 Tryz.lays129 x w h0 h1
def Tryz.lays217_ren : Go.Shelf.Ren := ⟨fun | 217 => 226 | 266 => 227 | n => n, fun | 9 => 9 | 5 => 5 | 3 => 3 | n => n, fun | n => n⟩
theorem Tryz.lays217 : Go.Proofs.Lays.n217 Tryz.prog Tryz.lays217_ren := {
  mixed := by kernel_rfl
  f217 := Tryz.func226.trans (congrArg some (by kernel_rfl))
  f266 := Tryz.func227.trans (congrArg some (by kernel_rfl))
  t3 := Tryz.underlying3
  a3 := Tryz.isAgg3
  z3 := Tryz.sizeOf3
  v3 := Tryz.zeroValue3
  t5 := Tryz.underlying5
  a5 := Tryz.isAgg5
  z5 := Tryz.sizeOf5
  v5 := Tryz.zeroValue5
  t9 := Tryz.underlying9
  a9 := Tryz.isAgg9
  z9 := Tryz.sizeOf9
  v9 := Tryz.zeroValue9 }
open Go.RowKit Go.Lib in
/-- internal/stringslite.IndexByte (what strings.IndexByte calls): IT RETURNS 'Lib.indexByte s c'; the world is as it was. (LAID: no walk: one application.) -/
theorem Tryz.stringslite_IndexByte (s : ByteArray) (c : Int) (w : World) :
    Calls Tryz.prog 226 #[.string s, .int .u8 c] w fun e w' => e = .returned (.int .i64 (Lib.indexByte s.data.toList c.toNat.toUInt8)) ∧ w' = w := Any.stringslite_IndexByte Tryz.lays217 s c w
def Tryz.lays224_ren : Go.Shelf.Ren := ⟨fun | 224 => 224 | n => n, fun | 3 => 3 | n => n, fun | n => n⟩
theorem Tryz.lays224 : Go.Proofs.Lays.n224 Tryz.prog Tryz.lays224_ren := {
  mixed := by kernel_rfl
  f224 := Tryz.func224.trans (congrArg some (by kernel_rfl))
  t3 := Tryz.underlying3
  a3 := Tryz.isAgg3
  z3 := Tryz.sizeOf3
  v3 := Tryz.zeroValue3 }
open Go.RowKit Go.Lib in
/-- internal/bytealg.Cutover: "Cutover reports the number of failures of IndexByte we should tolerate before switching over to Index. n is the number of bytes processed so far.": on amd64: (n + 16) / 8. (LAID: no walk: one application.) -/
theorem Tryz.bytealg_Cutover (n : Int) (h0 : 0 ≤ n) (h1 : n < 4611686018427387904) (w : World) :
    Calls Tryz.prog 224 #[.int .i64 n] w fun e w' => e = .returned (.int .i64 ((n + 16) / 8)) ∧ w' = w := Any.bytealg_Cutover Tryz.lays224 n h0 h1 w
def Tryz.lays206_ren : Go.Shelf.Ren := ⟨fun | 206 => 216 | n => n, fun | 9 => 9 | 4 => 4 | 3 => 3 | n => n, fun | n => n⟩
theorem Tryz.lays206 : Go.Proofs.Lays.n206 Tryz.prog Tryz.lays206_ren := {
  mixed := by kernel_rfl
  f206 := Tryz.func216.trans (congrArg some (by kernel_rfl))
  t3 := Tryz.underlying3
  a3 := Tryz.isAgg3
  z3 := Tryz.sizeOf3
  v3 := Tryz.zeroValue3
  t4 := Tryz.underlying4
  a4 := Tryz.isAgg4
  z4 := Tryz.sizeOf4
  v4 := Tryz.zeroValue4
  t9 := Tryz.underlying9
  a9 := Tryz.isAgg9
  z9 := Tryz.sizeOf9
  v9 := Tryz.zeroValue9 }
open Go.RowKit Go.Lib in
/-- internal/stringslite.HasPrefix (what strings.HasPrefix calls). (LAID: no walk: one application.) -/
theorem Tryz.stringslite_HasPrefix (s p : ByteArray) (w : World) :
    Calls Tryz.prog 216 #[.string s, .string p] w fun e w' => e = .returned (.bool (Lib.hasPrefix s.data.toList p.data.toList)) ∧ w' = w := Any.stringslite_HasPrefix Tryz.lays206 s p w
def Tryz.lays99_ren : Go.Shelf.Ren := ⟨fun | 99 => 205 | 206 => 216 | n => n, fun | 9 => 9 | 4 => 4 | 3 => 3 | n => n, fun | n => n⟩
theorem Tryz.lays99 : Go.Proofs.Lays.n99 Tryz.prog Tryz.lays99_ren := {
  mixed := by kernel_rfl
  f99 := Tryz.func205.trans (congrArg some (by kernel_rfl))
  f206 := Tryz.func216.trans (congrArg some (by kernel_rfl))
  t3 := Tryz.underlying3
  a3 := Tryz.isAgg3
  z3 := Tryz.sizeOf3
  v3 := Tryz.zeroValue3
  t4 := Tryz.underlying4
  a4 := Tryz.isAgg4
  z4 := Tryz.sizeOf4
  v4 := Tryz.zeroValue4
  t9 := Tryz.underlying9
  a9 := Tryz.isAgg9
  z9 := Tryz.sizeOf9
  v9 := Tryz.zeroValue9 }
open Go.RowKit Go.Lib in
/-- strings.HasPrefix: "HasPrefix reports whether the string s begins with prefix.": IT RETURNS 'Lib.hasPrefix s prefix'; the world is as it was. (LAID: no walk: one application.) -/
theorem Tryz.strings_HasPrefix (s p : ByteArray) (w : World) :
    Calls Tryz.prog 205 #[.string s, .string p] w fun e w' => e = .returned (.bool (Lib.hasPrefix s.data.toList p.data.toList)) ∧ w' = w := Any.strings_HasPrefix Tryz.lays99 s p w
def Tryz.lays197_ren : Go.Shelf.Ren := ⟨fun | 197 => 210 | 260 => 218 | n => n, fun | 9 => 9 | 21 => 21 | 3 => 3 | 4 => 4 | 5 => 5 | 105 => 208 | 119 => 218 | 0 => 0 | 46 => 153 | 139 => 221 | 138 => 220 | n => n, fun | 3 => 0 | 4 => 1 | n => n⟩
theorem Tryz.lays197 : Go.Proofs.Lays.n197 Tryz.prog Tryz.lays197_ren := {
  mixed := by kernel_rfl
  f197 := Tryz.func210.trans (congrArg some (by kernel_rfl))
  f260 := Tryz.func218.trans (congrArg some (by kernel_rfl))
  t0 := Tryz.underlying0
  a0 := Tryz.isAgg0
  z0 := Tryz.sizeOf0
  v0 := Tryz.zeroValue0
  t3 := Tryz.underlying3
  a3 := Tryz.isAgg3
  z3 := Tryz.sizeOf3
  v3 := Tryz.zeroValue3
  t4 := Tryz.underlying4
  a4 := Tryz.isAgg4
  z4 := Tryz.sizeOf4
  v4 := Tryz.zeroValue4
  t5 := Tryz.underlying5
  a5 := Tryz.isAgg5
  z5 := Tryz.sizeOf5
  v5 := Tryz.zeroValue5
  t9 := Tryz.underlying9
  a9 := Tryz.isAgg9
  z9 := Tryz.sizeOf9
  v9 := Tryz.zeroValue9
  t21 := Tryz.underlying21
  a21 := Tryz.isAgg21
  z21 := Tryz.sizeOf21
  v21 := Tryz.zeroValue21
  t46 := Tryz.underlying153
  a46 := Tryz.isAgg153
  z46 := Tryz.sizeOf153
  v46 := Tryz.zeroValue153
  t105 := Tryz.underlying208
  a105 := Tryz.isAgg208
  z105 := Tryz.sizeOf208
  v105 := Tryz.zeroValue208
  t119 := Tryz.underlying218
  a119 := Tryz.isAgg218
  z119 := Tryz.sizeOf218
  t138 := Tryz.underlying220
  a138 := Tryz.isAgg220
  z138 := Tryz.sizeOf220
  v138 := Tryz.zeroValue220
  t139 := Tryz.underlying221
  a139 := Tryz.isAgg221
  z139 := Tryz.sizeOf221
  v139 := Tryz.zeroValue221
  g3 := by kernel_rfl
  g4 := by kernel_rfl }
open Go.RowKit Go.Lib in
/-- unicode/utf8.DecodeRuneInString: "DecodeRuneInString is like DecodeRune but its input is a string.": ("DecodeRune unpacks the first UTF-8 encoding in p and returns the rune and its width in bytes."): WHERE s BEGINS WITH AN ASCII BYTE x: (x, 1). (LAID: no walk: one application.) -/
theorem Tryz.utf8_DecodeRuneInString_ascii (s : ByteArray) (x : UInt8) (w : World) (h0 : s.data.toList[0]? = some x) (hx : x.toNat < 128) :
    Calls Tryz.prog 210 #[.string s] w fun e w' => e = .returned (.tuple #[.int .i32 x.toNat, .int .i64 1]) ∧ w' = w := Any.utf8_DecodeRuneInString_ascii Tryz.lays197 s x w h0 hx
def Tryz.lays152_ren : Go.Shelf.Ren := ⟨fun | 152 => 219 | 137 => 222 | 119 => 223 | 224 => 224 | 225 => 225 | 217 => 226 | 266 => 227 | n => n, fun | 9 => 9 | 21 => 21 | 3 => 3 | 4 => 4 | 5 => 5 | 0 => 0 | 46 => 153 | n => n, fun | n => n⟩
theorem Tryz.lays152 : Go.Proofs.Lays.n152 Tryz.prog Tryz.lays152_ren := {
  mixed := by kernel_rfl
  f119 := Tryz.func223.trans (congrArg some (by kernel_rfl))
  f137 := Tryz.func222.trans (congrArg some (by kernel_rfl))
  f152 := Tryz.func219.trans (congrArg some (by kernel_rfl))
  f217 := Tryz.func226.trans (congrArg some (by kernel_rfl))
  f224 := Tryz.func224.trans (congrArg some (by kernel_rfl))
  f225 := Tryz.func225.trans (congrArg some (by kernel_rfl))
  f266 := Tryz.func227.trans (congrArg some (by kernel_rfl))
  t0 := Tryz.underlying0
  a0 := Tryz.isAgg0
  z0 := Tryz.sizeOf0
  v0 := Tryz.zeroValue0
  t3 := Tryz.underlying3
  a3 := Tryz.isAgg3
  z3 := Tryz.sizeOf3
  v3 := Tryz.zeroValue3
  t4 := Tryz.underlying4
  a4 := Tryz.isAgg4
  z4 := Tryz.sizeOf4
  v4 := Tryz.zeroValue4
  t5 := Tryz.underlying5
  a5 := Tryz.isAgg5
  z5 := Tryz.sizeOf5
  v5 := Tryz.zeroValue5
  t9 := Tryz.underlying9
  a9 := Tryz.isAgg9
  z9 := Tryz.sizeOf9
  v9 := Tryz.zeroValue9
  t21 := Tryz.underlying21
  a21 := Tryz.isAgg21
  z21 := Tryz.sizeOf21
  v21 := Tryz.zeroValue21
  t46 := Tryz.underlying153
  a46 := Tryz.isAgg153
  z46 := Tryz.sizeOf153
  v46 := Tryz.zeroValue153 }
open Go.RowKit Go.Lib in
theorem Tryz.strings_IndexRune_ascii (s : ByteArray) (r : Int) (w : World) (h0 : 0 ≤ r) (h1 : r < 128) :
    Calls Tryz.prog 219 #[.string s, .int .i32 r] w fun e w' => e = .returned (.int .i64 (Lib.indexByte s.data.toList r.toNat.toUInt8)) ∧ w' = w := Any.strings_IndexRune_ascii Tryz.lays152 s r w h0 h1
def Tryz.lays151_ren : Go.Shelf.Ren := ⟨fun | 151 => 211 | 152 => 219 | 137 => 222 | 119 => 223 | 224 => 224 | 225 => 225 | 217 => 226 | 266 => 227 | n => n, fun | 9 => 9 | 21 => 21 | 4 => 4 | 3 => 3 | 5 => 5 | 0 => 0 | 46 => 153 | n => n, fun | n => n⟩
theorem Tryz.lays151 : Go.Proofs.Lays.n151 Tryz.prog Tryz.lays151_ren := {
  mixed := by kernel_rfl
  f119 := Tryz.func223.trans (congrArg some (by kernel_rfl))
  f137 := Tryz.func222.trans (congrArg some (by kernel_rfl))
  f151 := Tryz.func211.trans (congrArg some (by kernel_rfl))
  f152 := Tryz.func219.trans (congrArg some (by kernel_rfl))
  f217 := Tryz.func226.trans (congrArg some (by kernel_rfl))
  f224 := Tryz.func224.trans (congrArg some (by kernel_rfl))
  f225 := Tryz.func225.trans (congrArg some (by kernel_rfl))
  f266 := Tryz.func227.trans (congrArg some (by kernel_rfl))
  t0 := Tryz.underlying0
  a0 := Tryz.isAgg0
  z0 := Tryz.sizeOf0
  v0 := Tryz.zeroValue0
  t3 := Tryz.underlying3
  a3 := Tryz.isAgg3
  z3 := Tryz.sizeOf3
  v3 := Tryz.zeroValue3
  t4 := Tryz.underlying4
  a4 := Tryz.isAgg4
  z4 := Tryz.sizeOf4
  v4 := Tryz.zeroValue4
  t5 := Tryz.underlying5
  a5 := Tryz.isAgg5
  z5 := Tryz.sizeOf5
  v5 := Tryz.zeroValue5
  t9 := Tryz.underlying9
  a9 := Tryz.isAgg9
  z9 := Tryz.sizeOf9
  v9 := Tryz.zeroValue9
  t21 := Tryz.underlying21
  a21 := Tryz.isAgg21
  z21 := Tryz.sizeOf21
  v21 := Tryz.zeroValue21
  t46 := Tryz.underlying153
  a46 := Tryz.isAgg153
  z46 := Tryz.sizeOf153
  v46 := Tryz.zeroValue153 }
open Go.RowKit Go.Lib in
theorem Tryz.strings_ContainsRune_ascii (s : ByteArray) (r : Int) (w : World) (h0 : 0 ≤ r) (h1 : r < 128) :
    Calls Tryz.prog 211 #[.string s, .int .i32 r] w fun e w' => e = .returned (.bool (decide (0 ≤ Lib.indexByte s.data.toList r.toNat.toUInt8))) ∧ w' = w := Any.strings_ContainsRune_ascii Tryz.lays151 s r w h0 h1
def Tryz.lays227_ren : Go.Shelf.Ren := ⟨fun | 227 => 198 | n => n, fun | 9 => 9 | 116 => 195 | 4 => 4 | 0 => 0 | 3 => 3 | 5 => 5 | n => n, fun | n => n⟩
theorem Tryz.lays227 : Go.Proofs.Lays.n227 Tryz.prog Tryz.lays227_ren := {
  mixed := by kernel_rfl
  f227 := Tryz.func198.trans (congrArg some (by kernel_rfl))
  t0 := Tryz.underlying0
  a0 := Tryz.isAgg0
  z0 := Tryz.sizeOf0
  v0 := Tryz.zeroValue0
  t3 := Tryz.underlying3
  a3 := Tryz.isAgg3
  z3 := Tryz.sizeOf3
  v3 := Tryz.zeroValue3
  t4 := Tryz.underlying4
  a4 := Tryz.isAgg4
  z4 := Tryz.sizeOf4
  v4 := Tryz.zeroValue4
  t5 := Tryz.underlying5
  a5 := Tryz.isAgg5
  z5 := Tryz.sizeOf5
  v5 := Tryz.zeroValue5
  t9 := Tryz.underlying9
  a9 := Tryz.isAgg9
  z9 := Tryz.sizeOf9
  v9 := Tryz.zeroValue9
  t116 := Tryz.underlying195
  a116 := Tryz.isAgg195
  z116 := Tryz.sizeOf195 }
open Go.RowKit Go.Lib in
theorem Tryz.strings_makeASCIISet (hv116 : ∀ w, (zeroValue 195).run Tryz.prog w = .ok (.agg (Array.replicate 256 (.bool false))) w) (chars : ByteArray) (w : World) (hs : chars.size < 4294967281) (hascii : ∀ (j : Nat) b, chars.data.toList[j]? = some b → b.toNat < 128) :
    Calls Tryz.prog 198 #[.string chars] w fun e w' => e = .returned (.tuple #[.agg (Lib.setCells chars.data.toList), .bool true]) ∧ w' = w.alloc (.cells (Lib.setCells chars.data.toList) 195) := Any.strings_makeASCIISet Tryz.lays227 hv116 (by kernel_rfl) chars w hs hascii
def Tryz.lays228_ren : Go.Shelf.Ren := ⟨fun | 228 => 209 | n => n, fun | 124 => 199 | 5 => 5 | 4 => 4 | 0 => 0 | 116 => 195 | n => n, fun | n => n⟩
theorem Tryz.lays228 : Go.Proofs.Lays.n228 Tryz.prog Tryz.lays228_ren := {
  mixed := by kernel_rfl
  f228 := Tryz.func209.trans (congrArg some (by kernel_rfl))
  t0 := Tryz.underlying0
  a0 := Tryz.isAgg0
  z0 := Tryz.sizeOf0
  v0 := Tryz.zeroValue0
  t4 := Tryz.underlying4
  a4 := Tryz.isAgg4
  z4 := Tryz.sizeOf4
  v4 := Tryz.zeroValue4
  t5 := Tryz.underlying5
  a5 := Tryz.isAgg5
  z5 := Tryz.sizeOf5
  v5 := Tryz.zeroValue5
  t116 := Tryz.underlying195
  a116 := Tryz.isAgg195
  z116 := Tryz.sizeOf195
  t124 := Tryz.underlying199
  a124 := Tryz.isAgg199
  z124 := Tryz.sizeOf199
  v124 := Tryz.zeroValue199 }
open Go.RowKit Go.Lib in
/-- '(as *asciiSet) contains(c)': 'as[c]': the set lies at block b, whole. (LAID: no walk: one application.) -/
theorem Tryz.asciiSet_contains (b : Nat) (x : UInt8) (v : Bool) (w : World) (hc : w.cell? ⟨b, x.toNat, none⟩ = some (.bool v)) :
    Calls Tryz.prog 209 #[.pointer (some ⟨b, 0, none⟩), .int .u8 x.toNat] w fun e w' => e = .returned (.bool v) ∧ w' = w := Any.asciiSet_contains Tryz.lays228 b x v w hc
def Tryz.lays264_ren : Go.Shelf.Ren := ⟨fun | 264 => 215 | n => n, fun | 53 => 151 | 46 => 153 | n => n, fun | n => n⟩
theorem Tryz.lays264 : Go.Proofs.Lays.n264 Tryz.prog Tryz.lays264_ren := {
  mixed := by kernel_rfl
  f264 := Tryz.func215.trans (congrArg some (by kernel_rfl))
  t46 := Tryz.underlying153
  a46 := Tryz.isAgg153
  z46 := Tryz.sizeOf153
  v46 := Tryz.zeroValue153
  t53 := Tryz.underlying151
  a53 := Tryz.isAgg151
  z53 := Tryz.sizeOf151
  v53 := Tryz.zeroValue151 }
open Go.RowKit Go.Lib in
theorem Tryz.bits_Mul64 (x y : Nat) (hx : x < 18446744073709551616) (hy : y < 18446744073709551616) (w : World) :
    Calls Tryz.prog 215 #[.int .u64 x, .int .u64 y] w fun e w' => e = .returned (.tuple #[.int .u64 ((x * y / 18446744073709551616 : Nat) : Int), .int .u64 ((x * y % 18446744073709551616 : Nat) : Int)]) ∧ w' = w := Any.bits_Mul64 Tryz.lays264 x y hx hy w
def Tryz.lays212_ren : Go.Shelf.Ren := ⟨fun | 212 => 204 | 263 => 214 | 264 => 215 | n => n, fun | 46 => 153 | 51 => 173 | 146 => 212 | 53 => 151 | 148 => 214 | n => n, fun | n => n⟩
theorem Tryz.lays212 : Go.Proofs.Lays.n212 Tryz.prog Tryz.lays212_ren := {
  mixed := by kernel_rfl
  f212 := Tryz.func204.trans (congrArg some (by kernel_rfl))
  f263 := Tryz.func214.trans (congrArg some (by kernel_rfl))
  f264 := Tryz.func215.trans (congrArg some (by kernel_rfl))
  t46 := Tryz.underlying153
  a46 := Tryz.isAgg153
  z46 := Tryz.sizeOf153
  v46 := Tryz.zeroValue153
  t51 := Tryz.underlying173
  a51 := Tryz.isAgg173
  z51 := Tryz.sizeOf173
  v51 := Tryz.zeroValue173
  t53 := Tryz.underlying151
  a53 := Tryz.isAgg151
  z53 := Tryz.sizeOf151
  v53 := Tryz.zeroValue151
  t146 := Tryz.underlying212
  a146 := Tryz.isAgg212
  z146 := Tryz.sizeOf212
  v146 := Tryz.zeroValue212
  t148 := Tryz.underlying214
  a148 := Tryz.isAgg214
  z148 := Tryz.sizeOf214
  v148 := Tryz.zeroValue214 }
open Go.RowKit Go.Lib in
/-- math/bits.Mul: "Mul returns the full-width product of x and y": on a machine of 64 bits: Mul64's. (LAID: no walk: one application.) -/
theorem Tryz.bits_Mul (x y : Nat) (hx : x < 18446744073709551616) (hy : y < 18446744073709551616) (w : World) :
    Calls Tryz.prog 204 #[.int .u64 x, .int .u64 y] w fun e w' => e = .returned (.tuple #[.int .u64 ((x * y / 18446744073709551616 : Nat) : Int), .int .u64 ((x * y % 18446744073709551616 : Nat) : Int)]) ∧ w' = w := Any.bits_Mul Tryz.lays212 x y hx hy w
def Tryz.lays105_ren : Go.Shelf.Ren := ⟨fun | 105 => 190 | 212 => 204 | 99 => 205 | 165 => 206 | 166 => 113 | 170 => 207 | 169 => 115 | 263 => 214 | 264 => 215 | 206 => 216 | 240 => 149 | 241 => 217 | 276 => 167 | 277 => 221 | n => n, fun | 9 => 9 | 3 => 3 | 4 => 4 | 20 => 20 | 0 => 0 | 46 => 153 | 109 => 200 | 5 => 5 | 72 => 134 | 76 => 137 | 51 => 173 | 146 => 212 | 53 => 151 | 148 => 214 | 70 => 132 | 37 => 22 | 75 => 136 | 127 => 157 | 164 => 167 | 80 => 91 | n => n, fun | n => n⟩
theorem Tryz.lays105 : Go.Proofs.Lays.n105 Tryz.prog Tryz.lays105_ren := {
  mixed := by kernel_rfl
  f99 := Tryz.func205.trans (congrArg some (by kernel_rfl))
  f105 := Tryz.func190.trans (congrArg some (by kernel_rfl))
  f165 := Tryz.func206.trans (congrArg some (by kernel_rfl))
  f166 := Tryz.func113.trans (congrArg some (by kernel_rfl))
  f169 := Tryz.func115.trans (congrArg some (by kernel_rfl))
  f170 := Tryz.func207.trans (congrArg some (by kernel_rfl))
  f206 := Tryz.func216.trans (congrArg some (by kernel_rfl))
  f212 := Tryz.func204.trans (congrArg some (by kernel_rfl))
  f240 := Tryz.func149.trans (congrArg some (by kernel_rfl))
  f241 := Tryz.func217.trans (congrArg some (by kernel_rfl))
  f263 := Tryz.func214.trans (congrArg some (by kernel_rfl))
  f264 := Tryz.func215.trans (congrArg some (by kernel_rfl))
  f276 := Tryz.func167.trans (congrArg some (by kernel_rfl))
  f277 := Tryz.func221.trans (congrArg some (by kernel_rfl))
  t0 := Tryz.underlying0
  a0 := Tryz.isAgg0
  z0 := Tryz.sizeOf0
  v0 := Tryz.zeroValue0
  t3 := Tryz.underlying3
  a3 := Tryz.isAgg3
  z3 := Tryz.sizeOf3
  v3 := Tryz.zeroValue3
  t4 := Tryz.underlying4
  a4 := Tryz.isAgg4
  z4 := Tryz.sizeOf4
  v4 := Tryz.zeroValue4
  t5 := Tryz.underlying5
  a5 := Tryz.isAgg5
  z5 := Tryz.sizeOf5
  v5 := Tryz.zeroValue5
  t9 := Tryz.underlying9
  a9 := Tryz.isAgg9
  z9 := Tryz.sizeOf9
  v9 := Tryz.zeroValue9
  t20 := Tryz.underlying20
  a20 := Tryz.isAgg20
  z20 := Tryz.sizeOf20
  v20 := Tryz.zeroValue20
  t37 := Tryz.underlying22
  a37 := Tryz.isAgg22
  z37 := Tryz.sizeOf22
  v37 := Tryz.zeroValue22
  t46 := Tryz.underlying153
  a46 := Tryz.isAgg153
  z46 := Tryz.sizeOf153
  v46 := Tryz.zeroValue153
  t51 := Tryz.underlying173
  a51 := Tryz.isAgg173
  z51 := Tryz.sizeOf173
  v51 := Tryz.zeroValue173
  t53 := Tryz.underlying151
  a53 := Tryz.isAgg151
  z53 := Tryz.sizeOf151
  v53 := Tryz.zeroValue151
  t70 := Tryz.underlying132
  a70 := Tryz.isAgg132
  z70 := Tryz.sizeOf132
  v70 := Tryz.zeroValue132
  t72 := Tryz.underlying134
  a72 := Tryz.isAgg134
  z72 := Tryz.sizeOf134
  v72 := Tryz.zeroValue134
  t75 := Tryz.underlying136
  a75 := Tryz.isAgg136
  z75 := Tryz.sizeOf136
  v75 := Tryz.zeroValue136
  t76 := Tryz.underlying137
  a76 := Tryz.isAgg137
  z76 := Tryz.sizeOf137
  v76 := Tryz.zeroValue137
  t109 := Tryz.underlying200
  a109 := Tryz.isAgg200
  z109 := Tryz.sizeOf200
  v109 := Tryz.zeroValue200
  t127 := Tryz.underlying157
  a127 := Tryz.isAgg157
  z127 := Tryz.sizeOf157
  v127 := Tryz.zeroValue157
  t146 := Tryz.underlying212
  a146 := Tryz.isAgg212
  z146 := Tryz.sizeOf212
  v146 := Tryz.zeroValue212
  t148 := Tryz.underlying214
  a148 := Tryz.isAgg214
  z148 := Tryz.sizeOf214
  v148 := Tryz.zeroValue214
  t164 := Tryz.underlying167
  a164 := Tryz.isAgg167
  z164 := Tryz.sizeOf167
  v164 := Tryz.zeroValue167 }
theorem Tryz.Builder_Extra_105 : Builder.Extra Tryz.prog Tryz.lays105_ren := {
  sizeBuilder := by kernel_rfl
  liesBuilder := by kernel_rfl
  t5 := Tryz.underlying5
  a5 := Tryz.isAgg5
  z5 := Tryz.sizeOf5
  v5 := Tryz.zeroValue5
  infoByte := by kernel_rfl
  cellsByte := by kernel_rfl
  sizeByte := by kernel_rfl
  neB5 := by decide }
open Go.RowKit Go.Lib in
/-- THE MAIN CASE: at least two copies of a string that is not empty. (LAID: no walk: one application.) -/
theorem Tryz.strings_Repeat_main (s : ByteArray) (c : Nat) (w : World) (hc2 : 2 ≤ c) (hc : c ≤ 9223372036854775807) (hlen : s.size * c ≤ 140737488355328) (h0 : 0 < s.size) :
    Calls Tryz.prog 190 #[.string s, .int .i64 c] w fun e w' => e = .returned (.string ⟨(Lib.repeatL s.data.toList c).toArray⟩) ∧ Below w.heap.size w w' := Any.strings_Repeat_main Tryz.lays105 Tryz.Builder_Extra_105 s c w hc2 hc hlen h0
open Go.RowKit Go.Lib in
theorem Tryz.strings_Repeat_zero (s : ByteArray) (w : World) :
    Calls Tryz.prog 190 #[.string s, .int .i64 0] w fun e w' => e = .returned (.string ⟨#[]⟩) ∧ w' = w := Any.strings_Repeat_zero Tryz.lays105 s w
open Go.RowKit Go.Lib in
theorem Tryz.strings_Repeat_one (s : ByteArray) (w : World) :
    Calls Tryz.prog 190 #[.string s, .int .i64 1] w fun e w' => e = .returned (.string s) ∧ w' = w := Any.strings_Repeat_one Tryz.lays105 s w
open Go.RowKit Go.Lib in
/-- Copies of the empty string. (LAID: no walk: one application.) -/
theorem Tryz.strings_Repeat_empty (s : ByteArray) (c : Nat) (w : World) (hc2 : 2 ≤ c) (hc : c ≤ 9223372036854775807) (h0 : s.size = 0) :
    Calls Tryz.prog 190 #[.string s, .int .i64 c] w fun e w' => e = .returned (.string ⟨#[]⟩) ∧ w' = w := Any.strings_Repeat_empty Tryz.lays105 s c w hc2 hc h0
open Go.RowKit Go.Lib in
/-- count < 0: "It panics if count is negative". (LAID: no walk: one application.) -/
theorem Tryz.strings_Repeat_negative (s : ByteArray) (c : Int) (w : World) (hc : c < 0) :
    Calls Tryz.prog 190 #[.string s, .int .i64 c] w fun e w' => e = .panicked [{ v := repeatPanic Tryz.lays105_ren "strings: negative Repeat count", recovered := false }] ∧ w' = w := Any.strings_Repeat_negative Tryz.lays105 s c w hc
open Go.RowKit Go.Lib in
/-- len(s) * count is no int: ".. or if the result of (len(s) * count) overflows". (LAID: no walk: one application.) -/
theorem Tryz.strings_Repeat_overflow (s : ByteArray) (c : Nat) (w : World) (hc : c ≤ 9223372036854775807) (hs : s.size ≤ 9223372036854775807) (hbig : 9223372036854775807 < s.size * c) :
    Calls Tryz.prog 190 #[.string s, .int .i64 c] w fun e w' => e = .panicked [{ v := repeatPanic Tryz.lays105_ren "strings: Repeat output length overflow", recovered := false }] ∧ w' = w := Any.strings_Repeat_overflow Tryz.lays105 s c w hc hs hbig
open Go.RowKit Go.Lib in
/-- **strings.Repeat: count ≥ 0, the result within one allocation: count copies of s.** (LAID: no walk: one application.) -/
theorem Tryz.strings_Repeat (s : ByteArray) (c : Nat) (w : World) (hc : c ≤ 9223372036854775807) (hlen : s.size * c ≤ 140737488355328) :
    Calls Tryz.prog 190 #[.string s, .int .i64 c] w fun e w' => e = .returned (.string ⟨(Lib.repeatL s.data.toList c).toArray⟩) ∧ Below w.heap.size w w' := Any.strings_Repeat Tryz.lays105 Tryz.Builder_Extra_105 s c w hc hlen
def Tryz.lays260_ren : Go.Shelf.Ren := ⟨fun | 260 => 218 | n => n, fun | 9 => 9 | 21 => 21 | 3 => 3 | 4 => 4 | 5 => 5 | 119 => 218 | 0 => 0 | 46 => 153 | 139 => 221 | 138 => 220 | n => n, fun | 3 => 0 | 4 => 1 | n => n⟩
theorem Tryz.lays260 : Go.Proofs.Lays.n260 Tryz.prog Tryz.lays260_ren := {
  mixed := by kernel_rfl
  f260 := Tryz.func218.trans (congrArg some (by kernel_rfl))
  t0 := Tryz.underlying0
  a0 := Tryz.isAgg0
  z0 := Tryz.sizeOf0
  v0 := Tryz.zeroValue0
  t3 := Tryz.underlying3
  a3 := Tryz.isAgg3
  z3 := Tryz.sizeOf3
  v3 := Tryz.zeroValue3
  t4 := Tryz.underlying4
  a4 := Tryz.isAgg4
  z4 := Tryz.sizeOf4
  v4 := Tryz.zeroValue4
  t5 := Tryz.underlying5
  a5 := Tryz.isAgg5
  z5 := Tryz.sizeOf5
  v5 := Tryz.zeroValue5
  t9 := Tryz.underlying9
  a9 := Tryz.isAgg9
  z9 := Tryz.sizeOf9
  v9 := Tryz.zeroValue9
  t21 := Tryz.underlying21
  a21 := Tryz.isAgg21
  z21 := Tryz.sizeOf21
  v21 := Tryz.zeroValue21
  t46 := Tryz.underlying153
  a46 := Tryz.isAgg153
  z46 := Tryz.sizeOf153
  v46 := Tryz.zeroValue153
  t119 := Tryz.underlying218
  a119 := Tryz.isAgg218
  z119 := Tryz.sizeOf218
  t138 := Tryz.underlying220
  a138 := Tryz.isAgg220
  z138 := Tryz.sizeOf220
  v138 := Tryz.zeroValue220
  t139 := Tryz.underlying221
  a139 := Tryz.isAgg221
  z139 := Tryz.sizeOf221
  v139 := Tryz.zeroValue221
  g3 := by kernel_rfl
  g4 := by kernel_rfl }
open Go.RowKit Go.Lib in
theorem Tryz.utf8_decodeRuneInStringSlow (s : ByteArray) (w : World) (hT : Lib.Utf8Tabs 0 1 w) :
    Calls Tryz.prog 218 #[.string s] w fun e w' => e = .returned (.tuple #[.int .i32 (Lib.decodeGo s).1, .int .i64 (Lib.decodeGo s).2]) ∧ Below w.heap.size w w' := Any.utf8_decodeRuneInStringSlow Tryz.lays260 s w hT
open Go.RowKit Go.Lib in
/-- **unicode/utf8.DecodeRuneInString AT EVERY STRING.** (LAID: no walk: one application.) -/
theorem Tryz.utf8_DecodeRuneInString (s : ByteArray) (w : World) (hT : Lib.Utf8Tabs 0 1 w) :
    Calls Tryz.prog 210 #[.string s] w fun e w' => e = .returned (.tuple #[.int .i32 (Lib.decodeGo s).1, .int .i64 (Lib.decodeGo s).2]) ∧ Below w.heap.size w w' := Any.utf8_DecodeRuneInString Tryz.lays197 s w hT
def Tryz.lays271_ren : Go.Shelf.Ren := ⟨fun | 271 => 212 | 120 => 220 | 197 => 210 | 260 => 218 | n => n, fun | 9 => 9 | 21 => 21 | 3 => 3 | 4 => 4 | 5 => 5 | 105 => 208 | 119 => 218 | 0 => 0 | 46 => 153 | 139 => 221 | 138 => 220 | n => n, fun | 3 => 0 | 4 => 1 | n => n⟩
theorem Tryz.lays271 : Go.Proofs.Lays.n271 Tryz.prog Tryz.lays271_ren := {
  mixed := by kernel_rfl
  f120 := Tryz.func220.trans (congrArg some (by kernel_rfl))
  f197 := Tryz.func210.trans (congrArg some (by kernel_rfl))
  f260 := Tryz.func218.trans (congrArg some (by kernel_rfl))
  f271 := Tryz.func212.trans (congrArg some (by kernel_rfl))
  t0 := Tryz.underlying0
  a0 := Tryz.isAgg0
  z0 := Tryz.sizeOf0
  v0 := Tryz.zeroValue0
  t3 := Tryz.underlying3
  a3 := Tryz.isAgg3
  z3 := Tryz.sizeOf3
  v3 := Tryz.zeroValue3
  t4 := Tryz.underlying4
  a4 := Tryz.isAgg4
  z4 := Tryz.sizeOf4
  v4 := Tryz.zeroValue4
  t5 := Tryz.underlying5
  a5 := Tryz.isAgg5
  z5 := Tryz.sizeOf5
  v5 := Tryz.zeroValue5
  t9 := Tryz.underlying9
  a9 := Tryz.isAgg9
  z9 := Tryz.sizeOf9
  v9 := Tryz.zeroValue9
  t21 := Tryz.underlying21
  a21 := Tryz.isAgg21
  z21 := Tryz.sizeOf21
  v21 := Tryz.zeroValue21
  t46 := Tryz.underlying153
  a46 := Tryz.isAgg153
  z46 := Tryz.sizeOf153
  v46 := Tryz.zeroValue153
  t105 := Tryz.underlying208
  a105 := Tryz.isAgg208
  z105 := Tryz.sizeOf208
  v105 := Tryz.zeroValue208
  t119 := Tryz.underlying218
  a119 := Tryz.isAgg218
  z119 := Tryz.sizeOf218
  t138 := Tryz.underlying220
  a138 := Tryz.isAgg220
  z138 := Tryz.sizeOf220
  v138 := Tryz.zeroValue220
  t139 := Tryz.underlying221
  a139 := Tryz.isAgg221
  z139 := Tryz.sizeOf221
  v139 := Tryz.zeroValue221
  g3 := by kernel_rfl
  g4 := by kernel_rfl }
open Go.RowKit Go.Lib in
/-- **unicode/utf8.DecodeLastRuneInString AT EVERY STRING.** (LAID: no walk: one application.) -/
theorem Tryz.utf8_DecodeLastRuneInString (s : ByteArray) (w : World) (hs : s.size ≤ 9223372036854775807) (hT : Lib.Utf8Tabs 0 1 w) :
    Calls Tryz.prog 212 #[.string s] w fun e w' => e = .returned (.tuple #[.int .i32 (Lib.decodeLastL s.data.toList).1, .int .i64 (Lib.decodeLastL s.data.toList).2]) ∧ Below w.heap.size w w' := Any.utf8_DecodeLastRuneInString Tryz.lays271 s w hs hT
end Go.Proofs
namespace Go.Proofs.YtmciidoohbmipaaGreatDoor.Abs
open Go Go.RowKit
set_option linter.unusedVariables false
set_option linter.unusedSectionVars false
set_option linter.unusedSimpArgs false

/-- The operation, for the walk. -/
theorem wpList_append_str {P : Program} {w : World} {ops : Array Oper} {rest : List Oper} {o : Oper} {a : Act} {Q : Exit → Act → World → Prop} (hgd : o.guard = none) (sl x : Operand) (t u : TypeId)
    (ho : o.op = .call { callee := .builtin .append, args := #[sl, x], argTypes := #[t, u] })
    (e : TypeId) (i : TypeInfo) (ht : P.underlying t = some (.slice e)) (hu : P.underlying u = some .string) (hi : P.info? e = some i) (hz : i.zero = some (.int .u8 0)) (hsize : i.size = 1) (hby : i.bytes = 1)
    (v : Value) (n : Nat) (xs : List Value) (hs : a.eval sl = v) (hown : w.ownsRow 0 e 1 v n xs) (s : ByteArray) (hx : a.eval x = .string s) (hbytes : n + s.size ≤ 140737488355328)
    (h : ∀ v' w', w'.ownsRow 0 e 1 v' (n + s.size) (xs ++ Lib.strCells s) → w.grownBy w' v.ownBlock → (v'.ownBlock = v.ownBlock ∨ ∀ g, v'.ownBlock = some g → w.heap.size ≤ g) → wpList P ops Q rest (a.put o.dst v') w') : wpList P ops Q (o :: rest) a w := by
  refine wpList_plain hgd fun K hK => ?_
  obtain ⟨v', w', hr, h2, h3, h4⟩ := run_append_str (P := P) (w := w) t u o.type e i ht hu hi hz hsize hby v n xs hown s hbytes
  unfold Oper.wp execOp
  simp only [ho, resolve, invoke, builtin, Sem.run_bind, Sem.run_pure, Result.andThen_ok, List.map_toArray, List.map_cons, List.map_nil, hs, hx, hr]
  exact hK _ _ (h v' w' h2 h3 h4)

def bytesU (l : List Int) : List UInt8 := l.map fun n => UInt8.ofNat n.toNat
theorem bytesU_back : (l : List Int) → okB l = true → (bytesU l).map (fun b => (b.toNat : Int)) = l
  | [], _ => rfl
  | x :: l, h => by
    unfold okB at h
    simp only [List.all_cons, Bool.and_eq_true, decide_eq_true_eq] at h
    have ih := bytesU_back l h.2
    have hx : x.toNat < 256 := by omega
    unfold bytesU at ih ⊢
    simp only [List.map_cons, ih]
    congr 1
    rw [UInt8.toNat_ofNat', Nat.mod_eq_of_lt hx]
    omega
theorem els_u8 {M : Nat → Prop} {w : World} : {l : List Int} → {xs : List Value} → Els (Ty.KR M w (.int .u8)) l xs → xs = l.map (Value.int .u8)
  | [], _, h => h
  | x :: l, _, ⟨c, r, e, hc, hr⟩ => by
    have hc : c = [.int .u8 x] := hc
    rw [e, hc, els_u8 hr]
    rfl

section
variable {P : Program} {f : FuncId} {T e : TypeId}

def writeX (T e : TypeId) (r : List Int × Int) : AV × List HE := (.tup [.v (.int .i64 r.2), .v .nilIface], [.bld T (.own 2), .gone, .row e (.int .u8) r.1])

theorem sound_write {pat : Nat → List AV → List HE → Option (Option (List Int × Int))}
    (hpat : ∀ k avs H o x, pat k avs H = some o → o = some x → ∃ (l : List Int) (s : ByteArray), avs = [.box 0 0, .v (.string s)] ∧ H = [.bld T (.own 1), .row e (.int .u8) l] ∧ l.length + s.size ≤ 140737488355328 ∧ x = (l ++ numsOf s, (s.size : Int)))
    (h : ∀ (b : Nat) (p v : Value) (n : Nat) (xs : List Value) (s : ByteArray) (w : World), w.heap[b]? = some (.cells #[p, v] T (0, 0)) → (p = .pointer none ∨ p = .pointer (some ⟨b, 0, none⟩)) → w.ownsRow 0 e 1 v n xs → v.ownBlock ≠ some b → n + s.size ≤ 140737488355328 →
      Calls P f #[.pointer (some ⟨b, 0, none⟩), .string s] w fun en w' => en = .returned (.tuple #[.int .i64 s.size, .nilIface]) ∧ ∃ v', w'.heap[b]? = some (.cells #[.pointer (some ⟨b, 0, none⟩), v'] T (0, 0)) ∧ w'.ownsRow 0 e 1 v' (n + s.size) (xs ++ Lib.strCells s) ∧ Off (fun x => x = b ∨ v.ownBlock = some x) w w' ∧ (v'.ownBlock = v.ownBlock ∨ ∀ g, v'.ownBlock = some g → w.heap.size ≤ g)) :
    Sound P f (mkS [.bld T (.row e (.int .u8)), .val] pat (writeX T e)) := by
  intro k avs H c x hc hx MX w ρ vals hst
  unfold mkS at hc
  simp only at hc
  split at hc
  case h_2 => cases hc
  rename_i o ho
  injection hc with hc
  subst hc
  obtain ⟨l, s, rfl, rfl, hl, rfl⟩ := hpat k avs H o x ho hx
  obtain ⟨y0, q0, rfl, ⟨_, g, o0, hr0, rfl⟩, y1, q1, rfl, hy1, hq1⟩ := hst.args
  obtain rfl : q1 = [] := hq1
  obtain rfl : y1 = .string s := hy1
  have ok0 := hst.rel.ok 0
  have ok1 := hst.rel.ok 1
  obtain ⟨g', p, v, a1, a2, a3, ⟨_, rfl, A0, n0, c0, hv⟩⟩ := (show HEok _ w ρ _ 0 (.bld T (.own 1)) from ok0)
  obtain ⟨xs, b1, b2⟩ := (show HEok _ w ρ _ 1 (.row e (.int .u8) l) from ok1)
  rw [hr0] at a1
  injection a1 with a1
  injection a1 with a1
  injection a1 with e1 e2
  subst e1 e2
  have live0 : live (hpOf [.bld T (.own 1), .row e (.int .u8) l] 0) := trivial
  have live1 : live (hpOf [.bld T (.own 1), .row e (.int .u8) l] 1) := trivial
  have blk0 : blk (ρ 0) = some g := by rw [hr0]; rfl
  have blk1 : blk (ρ 1) = (ρ 1).ownBlock := blk_own ⟨A0, n0, c0, hv⟩
  have hne : (ρ 1).ownBlock ≠ some g := fun e => by
    have := hst.rel.sep 0 1 g live0 live1 blk0 (by rw [blk1]; exact e)
    omega
  have hglt : g < w.heap.size := (Array.getElem?_eq_some_iff.1 a2).1
  refine (h g p (ρ 1) l.length xs s w a2 a3 b1 hne hl).mono ?_
  rintro en w' ⟨rfl, v', d1, d2, d3, d4⟩
  have hv' : ∃ A n c, v' = .slice A n c := by
    rcases d2.2 with ⟨h2, _⟩ | ⟨g2, cap, cur, h2, _⟩
    · exact ⟨_, _, _, h2⟩
    · exact ⟨_, _, _, h2⟩
  have blk2 : blk v' = v'.ownBlock := blk_own hv'
  have hnl := numsOf_length s
  have cl : ∀ i, live (hpOf (writeX T e (l ++ numsOf s, (s.size : Int))).2 i) → (i = 0 ∧ blk (upd ρ 2 v' i) = some g) ∨ (i = 2 ∧ blk (upd ρ 2 v' i) = v'.ownBlock) := by
    intro i hi
    cases i with
    | zero => exact .inl ⟨rfl, by rw [upd_ne _ _ (by decide)]; exact blk0⟩
    | succ i => cases i with
      | zero => exact hi.elim
      | succ i => cases i with
        | zero => exact .inr ⟨rfl, by rw [show (0 + 1 + 1) = 2 from rfl, upd_same]; exact blk2⟩
        | succ i => simp [writeX, hpOf, live] at hi
  have hnew : ∀ b, v'.ownBlock = some b → b < w.heap.size → (ρ 1).ownBlock = some b := by
    intro b hb hlt
    rcases d4 with h4 | h4
    · rw [← h4]; exact hb
    · have := h4 b hb; omega
  refine ⟨_, upd ρ 2 v', rfl, ⟨fun i => ?_, fun i j b hi hj hbi hbj => ?_, fun i b hi hbi hm => ?_, fun b hb => Nat.lt_of_lt_of_le (hst.rel.mx b hb) d3.size⟩, ?_, fun i hi => ?_, ?_, fun b hb ⟨i, hi, hbi⟩ => ?_, fun i cs hi => ?_⟩
  · cases i with
    | zero => exact ⟨g, _, v', by rw [upd_ne _ _ (by decide)]; exact hr0, d1, .inr rfl, by simp [writeX, hpOf], by rw [upd_same], hv'⟩
    | succ i => cases i with
      | zero => trivial
      | succ i => cases i with
        | zero =>
          refine ⟨xs ++ Lib.strCells s, ?_, Els.append (Els.imp (fun _ _ h => h) b2) (strCells_els s)⟩
          rw [show (0 + 1 + 1) = 2 from rfl, upd_same]
          have e1 : (l ++ numsOf s).length = l.length + s.size := by rw [List.length_append, hnl]
          show w'.ownsRow 0 e 1 v' (l ++ numsOf s).length _
          rw [e1]
          exact d2
        | succ i => simp [writeX, hpOf, HEok]
  · rcases cl i hi with ⟨rfl, h1⟩ | ⟨rfl, h1⟩ <;> rcases cl j hj with ⟨rfl, h2⟩ | ⟨rfl, h2⟩
    · rfl
    · rw [h1] at hbi
      injection hbi with hbi
      subst hbi
      rw [h2] at hbj
      exact absurd (hnew g hbj hglt) hne
    · rw [h2] at hbj
      injection hbj with hbj
      subst hbj
      rw [h1] at hbi
      exact absurd (hnew g hbi hglt) hne
    · rfl
  · rcases cl i hi with ⟨rfl, h1⟩ | ⟨rfl, h1⟩
    · rw [h1] at hbi
      exact hst.rel.ext 0 b live0 (by rw [blk0]; exact hbi) hm
    · rw [h1] at hbi
      exact hst.rel.ext 1 b live1 (by rw [blk1]; exact hnew b hbi (hst.rel.mx b hm)) hm
  · exact ⟨[.int .i64 s.size, .nilIface], rfl, _, _, rfl, rfl, _, _, rfl, rfl, rfl⟩
  · have : i = 0 ∨ i = 1 := by simp at hi; omega
    rw [upd_ne _ _ (by omega)]
  · exact d3.mono fun b _ hb => hb.elim (fun h => h ▸ ⟨0, live0, blk0⟩) (fun h => ⟨1, live1, by rw [blk1]; exact h⟩)
  · rcases cl i hi with ⟨rfl, h1⟩ | ⟨rfl, h1⟩
    · rw [h1] at hbi
      exact ⟨0, live0, by rw [blk0]; exact hbi⟩
    · rw [h1] at hbi
      exact ⟨1, live1, by rw [blk1]; exact hnew b hbi hb⟩
  · cases i with
    | zero => cases hi
    | succ i => cases i with
      | zero => cases hi
      | succ i => simp [hpOf] at hi

theorem Off.freeze (w : World) (g n : Nat) : Off (fun x => x = g) w (w.freeze ⟨g, 0, none⟩ n) := by
  unfold World.freeze
  split
  · exact Off.refl _ _
  · exact ⟨rfl, rfl, rfl, by simp, fun k _ hk => by
      simp only [Array.getElem?_modify]
      rw [if_neg (fun e => hk e.symm)]⟩

theorem sound_str {pat : Nat → List AV → List HE → Option (Option ByteArray)}
    (hpat : ∀ k avs H o x, pat k avs H = some o → o = some x → ∃ l : List Int, avs = [.box 0 0] ∧ H = [.bld T (.own 1), .row e (.int .u8) l] ∧ okB l = true ∧ x = strOf l)
    (h : ∀ (b : Nat) (p v : Value) (l : List UInt8) (w : World), w.heap[b]? = some (.cells #[p, v] T (0, 0)) → w.ownsRow 0 e 1 v l.length (Lib.byteCells l) →
      Calls P f #[.pointer (some ⟨b, 0, none⟩)] w fun en w' => en = .returned (.string ⟨l.toArray⟩) ∧ Off (fun x => v.ownBlock = some x) w w') :
    Sound P f (mkS [.bld T (.row e (.int .u8))] pat fun r => (.v (.string r), [.gone, .gone])) := by
  intro k avs H c x hc hx MX w ρ vals hst
  unfold mkS at hc
  simp only at hc
  split at hc
  case h_2 => cases hc
  rename_i o ho
  injection hc with hc
  subst hc
  obtain ⟨l, rfl, rfl, hl, rfl⟩ := hpat k avs H o x ho hx
  obtain ⟨y0, q0, rfl, ⟨_, g, o0, hr0, rfl⟩, hq1⟩ := hst.args
  obtain rfl : q0 = [] := hq1
  obtain ⟨g', p, v, a1, a2, a3, ⟨_, rfl, A0, n0, c0, hv⟩⟩ := (show HEok _ w ρ _ 0 (.bld T (.own 1)) from hst.rel.ok 0)
  obtain ⟨xs, b1, b2⟩ := (show HEok _ w ρ _ 1 (.row e (.int .u8) l) from hst.rel.ok 1)
  rw [hr0] at a1
  injection a1 with a1
  injection a1 with a1
  injection a1 with e1 e2
  subst e1 e2
  have live1 : live (hpOf [.bld T (.own 1), .row e (.int .u8) l] 1) := trivial
  have blk1 : blk (ρ 1) = (ρ 1).ownBlock := blk_own ⟨A0, n0, c0, hv⟩
  have hbk := bytesU_back l hl
  have hlen : (bytesU l).length = l.length := by simp [bytesU]
  have hxs : xs = Lib.byteCells (bytesU l) := by
    rw [els_u8 b2]
    have h2 := congrArg (List.map (Value.int .u8)) hbk
    rw [List.map_map] at h2
    exact h2.symm
  rw [hxs] at b1
  refine (h g p (ρ 1) (bytesU l) w a2 (by rw [hlen]; exact b1)).mono ?_
  rintro en w' ⟨rfl, d3⟩
  have nol : ∀ i, ¬ live (hpOf [.gone, .gone] i) := by
    intro i hi
    cases i with
    | zero => exact hi
    | succ i => cases i with
      | zero => exact hi
      | succ i => simp [hpOf, live] at hi
  refine ⟨_, ρ, rfl, ⟨fun i => ?_, fun i j b hi => (nol i hi).elim, fun i b hi => (nol i hi).elim, fun b hb => Nat.lt_of_lt_of_le (hst.rel.mx b hb) d3.size⟩, rfl, fun i hi => rfl, ?_, fun b hb ⟨i, hi, _⟩ => (nol i hi).elim, fun i cs hi => ?_⟩
  · cases i with
    | zero => trivial
    | succ i => cases i with
      | zero => trivial
      | succ i => simp [hpOf, HEok]
  · exact d3.mono fun b _ hb => ⟨1, live1, by rw [blk1]; exact hb⟩
  · cases i with
    | zero => cases hi
    | succ i => cases i with
      | zero => cases hi
      | succ i => simp [hpOf] at hi
end
end Go.Proofs.YtmciidoohbmipaaGreatDoor.Abs
namespace Go.Proofs
open Go.Shelf
def Tryz.lays170_ren : Go.Shelf.Ren := ⟨fun | 170 => 207 | n => n, fun | 70 => 132 | 3 => 3 | 0 => 0 | 72 => 134 | 37 => 22 | 5 => 5 | n => n, fun | n => n⟩
theorem Tryz.lays170 : Go.Proofs.Lays.n170 Tryz.prog Tryz.lays170_ren := {
  mixed := by kernel_rfl
  f170 := Tryz.func207.trans (congrArg some (by kernel_rfl))
  t0 := Tryz.underlying0
  a0 := Tryz.isAgg0
  z0 := Tryz.sizeOf0
  v0 := Tryz.zeroValue0
  t3 := Tryz.underlying3
  a3 := Tryz.isAgg3
  z3 := Tryz.sizeOf3
  v3 := Tryz.zeroValue3
  t37 := Tryz.underlying22
  a37 := Tryz.isAgg22
  z37 := Tryz.sizeOf22
  v37 := Tryz.zeroValue22
  t70 := Tryz.underlying132
  a70 := Tryz.isAgg132
  z70 := Tryz.sizeOf132
  v70 := Tryz.zeroValue132
  t72 := Tryz.underlying134
  a72 := Tryz.isAgg134
  z72 := Tryz.sizeOf134
  v72 := Tryz.zeroValue134 }
open Go.RowKit in
/-- (*strings.Builder).Len: "Len returns the number of accumulated bytes; b.Len() == len(b.String()).": the world is as it was. (LAID: no walk: one application.) -/
theorem Tryz.Builder_Len (B b : Nat) (bs : List Value) (w : World) (h : Lib.IsBuilder 134 5 B b bs w) :
    Calls Tryz.prog 207 #[.pointer (some ⟨b, 0, none⟩)] w fun e w' => e = .returned (.int .i64 bs.length) ∧ w' = w := Any.Builder_Len Tryz.lays170 B b bs w h
def Tryz.lays169_ren : Go.Shelf.Ren := ⟨fun | 169 => 115 | n => n, fun | 70 => 132 | 9 => 9 | 0 => 0 | 72 => 134 | 37 => 22 | 127 => 157 | 3 => 3 | 5 => 5 | n => n, fun | n => n⟩
theorem Tryz.lays169 : Go.Proofs.Lays.n169 Tryz.prog Tryz.lays169_ren := {
  mixed := by kernel_rfl
  f169 := Tryz.func115.trans (congrArg some (by kernel_rfl))
  t0 := Tryz.underlying0
  a0 := Tryz.isAgg0
  z0 := Tryz.sizeOf0
  v0 := Tryz.zeroValue0
  t3 := Tryz.underlying3
  a3 := Tryz.isAgg3
  z3 := Tryz.sizeOf3
  v3 := Tryz.zeroValue3
  t9 := Tryz.underlying9
  a9 := Tryz.isAgg9
  z9 := Tryz.sizeOf9
  v9 := Tryz.zeroValue9
  t37 := Tryz.underlying22
  a37 := Tryz.isAgg22
  z37 := Tryz.sizeOf22
  v37 := Tryz.zeroValue22
  t70 := Tryz.underlying132
  a70 := Tryz.isAgg132
  z70 := Tryz.sizeOf132
  v70 := Tryz.zeroValue132
  t72 := Tryz.underlying134
  a72 := Tryz.isAgg134
  z72 := Tryz.sizeOf134
  v72 := Tryz.zeroValue134
  t127 := Tryz.underlying157
  a127 := Tryz.isAgg157
  z127 := Tryz.sizeOf157
  v127 := Tryz.zeroValue157 }
theorem Tryz.Builder_Extra_169 : Builder.Extra Tryz.prog Tryz.lays169_ren := {
  sizeBuilder := by kernel_rfl
  liesBuilder := by kernel_rfl
  t5 := Tryz.underlying5
  a5 := Tryz.isAgg5
  z5 := Tryz.sizeOf5
  v5 := Tryz.zeroValue5
  infoByte := by kernel_rfl
  cellsByte := by kernel_rfl
  sizeByte := by kernel_rfl
  neB5 := by decide }
open Go.RowKit in
/-- (*strings.Builder).String: "String returns the accumulated string.": OF A BUILDER THAT HOLDS AT LEAST ONE BYTE. ✋ THE MODEL FREEZES THOSE BYTES IN THE BUFFER (unsafe.String): a later write INTO them ends the model's run without an answer; a later append BEHIND them goes on. The statement's order of evaluation is drawn: one draw. (LAID: no walk: one application.) -/
theorem Tryz.Builder_String (B b : Nat) (l : List UInt8) (w : World) (h : Lib.IsBuilder 134 5 B b (Lib.byteCells l) w) (h0 : l ≠ []) :
    Calls Tryz.prog 115 #[.pointer (some ⟨b, 0, none⟩)] w fun e w' => e = .returned (.string ⟨l.toArray⟩) ∧ Below B w w' := Any.Builder_String Tryz.lays169 Tryz.Builder_Extra_169 B b l w h h0
open Go.RowKit in
/-- (*strings.Builder).String OF A BUILDER THAT HOLDS NO BYTE: the empty string. (Its buffer is nil, or a row of which it has taken nothing yet; where that row has NO capacity the model lays one new block for unsafe.SliceData's 'some address'.) One draw. (LAID: no walk: one application.) -/
theorem Tryz.Builder_String_empty (B b : Nat) (w : World) (h : Lib.IsBuilder 134 5 B b [] w) (hBw : B ≤ w.heap.size) :
    Calls Tryz.prog 115 #[.pointer (some ⟨b, 0, none⟩)] w fun e w' => e = .returned (.string ⟨#[]⟩) ∧ Below B w w' := Any.Builder_String_empty Tryz.lays169 Tryz.Builder_Extra_169 B b w h hBw
open Go.RowKit in
/-- (*strings.Builder).String: "String returns the accumulated string.": WHATEVER THE BUILDER HOLDS. (LAID: no walk: one application.) -/
theorem Tryz.Builder_String_any (B b : Nat) (l : List UInt8) (w : World) (h : Lib.IsBuilder 134 5 B b (Lib.byteCells l) w) (hBw : B ≤ w.heap.size) :
    Calls Tryz.prog 115 #[.pointer (some ⟨b, 0, none⟩)] w fun e w' => e = .returned (.string ⟨l.toArray⟩) ∧ Below B w w' := Any.Builder_String_any Tryz.lays169 Tryz.Builder_Extra_169 B b l w h hBw
def Tryz.lays241_ren : Go.Shelf.Ren := ⟨fun | 241 => 217 | 277 => 221 | n => n, fun | 70 => 132 | 3 => 3 | 0 => 0 | 72 => 134 | 37 => 22 | 5 => 5 | n => n, fun | n => n⟩
theorem Tryz.lays241 : Go.Proofs.Lays.n241 Tryz.prog Tryz.lays241_ren := {
  mixed := by kernel_rfl
  f241 := Tryz.func217.trans (congrArg some (by kernel_rfl))
  f277 := Tryz.func221.trans (congrArg some (by kernel_rfl))
  t0 := Tryz.underlying0
  a0 := Tryz.isAgg0
  z0 := Tryz.sizeOf0
  v0 := Tryz.zeroValue0
  t3 := Tryz.underlying3
  a3 := Tryz.isAgg3
  z3 := Tryz.sizeOf3
  v3 := Tryz.zeroValue3
  t37 := Tryz.underlying22
  a37 := Tryz.isAgg22
  z37 := Tryz.sizeOf22
  v37 := Tryz.zeroValue22
  t70 := Tryz.underlying132
  a70 := Tryz.isAgg132
  z70 := Tryz.sizeOf132
  v70 := Tryz.zeroValue132
  t72 := Tryz.underlying134
  a72 := Tryz.isAgg134
  z72 := Tryz.sizeOf134
  v72 := Tryz.zeroValue134 }
theorem Tryz.Builder_Extra_241 : Builder.Extra Tryz.prog Tryz.lays241_ren := {
  sizeBuilder := by kernel_rfl
  liesBuilder := by kernel_rfl
  t5 := Tryz.underlying5
  a5 := Tryz.isAgg5
  z5 := Tryz.sizeOf5
  v5 := Tryz.zeroValue5
  infoByte := by kernel_rfl
  cellsByte := by kernel_rfl
  sizeByte := by kernel_rfl
  neB5 := by decide }
open Go.RowKit in
/-- (*strings.Builder).grow (no doc but "grow copies the buffer to a new, larger buffer so that there are at least n bytes of capacity beyond len(b.buf)."): AT A BUILDER WITHOUT A BUFFER: a new row of whatever bytes for its buffer, none of them its own yet. Three draws. (LAID: no walk: one application.) -/
theorem Tryz.Builder_grow_fresh (B b n : Nat) (w : World) (hB : B ≤ b) (hbk : w.heap[b]? = some (.cells #[.pointer (some ⟨b, 0, none⟩), .slice none 0 0] 134 (0, 0))) (hBw : B ≤ w.heap.size) (hn : n ≤ 281474976710656) :
    Calls Tryz.prog 217 #[.pointer (some ⟨b, 0, none⟩), .int .i64 n] w fun e w' => e = .returned (.tuple #[]) ∧ (Lib.BuilderAt 134 5 B b (.pointer (some ⟨b, 0, none⟩)) [] w' ∧ Below B w w') := Any.Builder_grow_fresh Tryz.lays241 Tryz.Builder_Extra_241 B b n w hB hbk hBw hn
def Tryz.lays165_ren : Go.Shelf.Ren := ⟨fun | 165 => 206 | 240 => 149 | 241 => 217 | 276 => 167 | 277 => 221 | n => n, fun | 70 => 132 | 3 => 3 | 0 => 0 | 4 => 4 | 9 => 9 | 20 => 20 | 72 => 134 | 37 => 22 | 164 => 167 | 5 => 5 | n => n, fun | n => n⟩
theorem Tryz.lays165 : Go.Proofs.Lays.n165 Tryz.prog Tryz.lays165_ren := {
  mixed := by kernel_rfl
  f165 := Tryz.func206.trans (congrArg some (by kernel_rfl))
  f240 := Tryz.func149.trans (congrArg some (by kernel_rfl))
  f241 := Tryz.func217.trans (congrArg some (by kernel_rfl))
  f276 := Tryz.func167.trans (congrArg some (by kernel_rfl))
  f277 := Tryz.func221.trans (congrArg some (by kernel_rfl))
  t0 := Tryz.underlying0
  a0 := Tryz.isAgg0
  z0 := Tryz.sizeOf0
  v0 := Tryz.zeroValue0
  t3 := Tryz.underlying3
  a3 := Tryz.isAgg3
  z3 := Tryz.sizeOf3
  v3 := Tryz.zeroValue3
  t4 := Tryz.underlying4
  a4 := Tryz.isAgg4
  z4 := Tryz.sizeOf4
  v4 := Tryz.zeroValue4
  t9 := Tryz.underlying9
  a9 := Tryz.isAgg9
  z9 := Tryz.sizeOf9
  v9 := Tryz.zeroValue9
  t20 := Tryz.underlying20
  a20 := Tryz.isAgg20
  z20 := Tryz.sizeOf20
  v20 := Tryz.zeroValue20
  t37 := Tryz.underlying22
  a37 := Tryz.isAgg22
  z37 := Tryz.sizeOf22
  v37 := Tryz.zeroValue22
  t70 := Tryz.underlying132
  a70 := Tryz.isAgg132
  z70 := Tryz.sizeOf132
  v70 := Tryz.zeroValue132
  t72 := Tryz.underlying134
  a72 := Tryz.isAgg134
  z72 := Tryz.sizeOf134
  v72 := Tryz.zeroValue134
  t164 := Tryz.underlying167
  a164 := Tryz.isAgg167
  z164 := Tryz.sizeOf167
  v164 := Tryz.zeroValue167 }
theorem Tryz.Builder_Extra_165 : Builder.Extra Tryz.prog Tryz.lays165_ren := {
  sizeBuilder := by kernel_rfl
  liesBuilder := by kernel_rfl
  t5 := Tryz.underlying5
  a5 := Tryz.isAgg5
  z5 := Tryz.sizeOf5
  v5 := Tryz.zeroValue5
  infoByte := by kernel_rfl
  cellsByte := by kernel_rfl
  sizeByte := by kernel_rfl
  neB5 := by decide }
open Go.RowKit in
/-- (*strings.Builder).Grow AT A BUILDER THAT HAS NOT BEEN WRITTEN ('var b strings.Builder; b.Grow(n)'): "Grow grows b's capacity, if necessary, to guarantee space for another n bytes.": it holds no byte behind it as before it. (LAID: no walk: one application.) -/
theorem Tryz.Builder_Grow_fresh (B b n : Nat) (w : World) (hB : B ≤ b) (hbk : w.heap[b]? = some (.cells #[.pointer none, .slice none 0 0] 134 (0, 0))) (hBw : B ≤ w.heap.size) (hn : n ≤ 281474976710656) :
    Calls Tryz.prog 206 #[.pointer (some ⟨b, 0, none⟩), .int .i64 n] w fun e w' => e = .returned (.tuple #[]) ∧ (Lib.BuilderAt 134 5 B b (.pointer (some ⟨b, 0, none⟩)) [] w' ∧ Below B w w') := Any.Builder_Grow_fresh Tryz.lays165 Tryz.Builder_Extra_165 B b n w hB hbk hBw hn
open Go.RowKit in
/-- (*strings.Builder).Len: "Len returns the number of accumulated bytes; b.Len() == len(b.String()).": the world is as it was. (THE FORM '_f': 'Lib.IsBuilderF'.) (LAID: no walk: one application.) -/
theorem Tryz.Builder_Len_f (B b : Nat) (bs : List Value) (w : World) (h : Lib.IsBuilderF 134 5 B b bs w) :
    Calls Tryz.prog 207 #[.pointer (some ⟨b, 0, none⟩)] w fun e w' => e = .returned (.int .i64 bs.length) ∧ w' = w := Any.Builder_Len_f Tryz.lays170 B b bs w h
open Go.RowKit in
/-- (*strings.Builder).String: "String returns the accumulated string.": OF A BUILDER THAT HOLDS AT LEAST ONE BYTE. ✋ THE MODEL FREEZES THOSE BYTES IN THE BUFFER (unsafe.String): a later write INTO them ends the model's run without an answer; a later append BEHIND them goes on. The statement's order of evaluation is drawn: one draw. THE FORM '_f': IT SAYS BESIDES THAT THE BUILDER IS A BUILDER STILL ('Lib.IsBuilderF', the same bytes): SO IT CAN BE WRITTEN ON: 'b.WriteString(b.String()[:k])'. (LAID: no walk: one application.) -/
theorem Tryz.Builder_String_f (B b : Nat) (l : List UInt8) (w : World) (h : Lib.IsBuilderF 134 5 B b (Lib.byteCells l) w) (h0 : l ≠ []) :
    Calls Tryz.prog 115 #[.pointer (some ⟨b, 0, none⟩)] w fun e w' => e = .returned (.string ⟨l.toArray⟩) ∧ (Lib.IsBuilderF 134 5 B b (Lib.byteCells l) w' ∧ Below B w w') := Any.Builder_String_f Tryz.lays169 Tryz.Builder_Extra_169 B b l w h h0
open Go.RowKit in
/-- (*strings.Builder).String OF A BUILDER THAT HOLDS NO BYTE: the empty string; THE FORM '_f': a builder still. (LAID: no walk: one application.) -/
theorem Tryz.Builder_String_empty_f (B b : Nat) (w : World) (h : Lib.IsBuilderF 134 5 B b [] w) (hBw : B ≤ w.heap.size) :
    Calls Tryz.prog 115 #[.pointer (some ⟨b, 0, none⟩)] w fun e w' => e = .returned (.string ⟨#[]⟩) ∧ (Lib.IsBuilderF 134 5 B b [] w' ∧ Below B w w') := Any.Builder_String_empty_f Tryz.lays169 Tryz.Builder_Extra_169 B b w h hBw
open Go.RowKit in
/-- (*strings.Builder).String: "String returns the accumulated string.": WHATEVER THE BUILDER HOLDS; THE FORM '_f': OF A BUILDER THAT MAY HAVE BEEN READ BEFORE; AND IT IS A BUILDER STILL, holding the same bytes: it can be written on. (LAID: no walk: one application.) -/
theorem Tryz.Builder_String_any_f (B b : Nat) (l : List UInt8) (w : World) (h : Lib.IsBuilderF 134 5 B b (Lib.byteCells l) w) (hBw : B ≤ w.heap.size) :
    Calls Tryz.prog 115 #[.pointer (some ⟨b, 0, none⟩)] w fun e w' => e = .returned (.string ⟨l.toArray⟩) ∧ (Lib.IsBuilderF 134 5 B b (Lib.byteCells l) w' ∧ Below B w w') := Any.Builder_String_any_f Tryz.lays169 Tryz.Builder_Extra_169 B b l w h hBw
open Go.RowKit in
/-- (*strings.Builder).String: "String returns the accumulated string.": OF A BUILDER THAT HOLDS AT LEAST ONE BYTE. ✋ THE MODEL FREEZES THOSE BYTES IN THE BUFFER (unsafe.String): a later write INTO them ends the model's run without an answer; a later append BEHIND them goes on. The statement's order of evaluation is drawn: one draw. THE FORM '_k': OVER 'Lib.IsBuilderF' (a builder that 'String()' may have read), AND WITH THE FRAME THAT REACHES ABOVE THE BUILDER: 'Lib.OthersKept': every block that is not b and is no row of uint8's stands as it stood: the iterator of a range among them. (LAID: no walk: one application.) -/
theorem Tryz.Builder_String_k (B b : Nat) (l : List UInt8) (w : World) (h : Lib.IsBuilderF 134 5 B b (Lib.byteCells l) w) (h0 : l ≠ []) :
    Calls Tryz.prog 115 #[.pointer (some ⟨b, 0, none⟩)] w fun e w' => e = .returned (.string ⟨l.toArray⟩) ∧ (Lib.IsBuilderF 134 5 B b (Lib.byteCells l) w' ∧ Below B w w' ∧ Lib.OthersKept 5 (some b) w w') := Any.Builder_String_k Tryz.lays169 Tryz.Builder_Extra_169 B b l w h h0
open Go.RowKit in
/-- (*strings.Builder).String OF A BUILDER THAT HOLDS NO BYTE: the empty string; THE FORM '_k': OVER 'Lib.IsBuilderF' (a builder that 'String()' may have read), AND WITH THE FRAME THAT REACHES ABOVE THE BUILDER: 'Lib.OthersKept': every block that is not b and is no row of uint8's stands as it stood: the iterator of a range among them. (LAID: no walk: one application.) -/
theorem Tryz.Builder_String_empty_k (B b : Nat) (w : World) (h : Lib.IsBuilderF 134 5 B b [] w) (hBw : B ≤ w.heap.size) :
    Calls Tryz.prog 115 #[.pointer (some ⟨b, 0, none⟩)] w fun e w' => e = .returned (.string ⟨#[]⟩) ∧ (Lib.IsBuilderF 134 5 B b [] w' ∧ Below B w w' ∧ Lib.OthersKept 5 (some b) w w') := Any.Builder_String_empty_k Tryz.lays169 Tryz.Builder_Extra_169 B b w h hBw
open Go.RowKit in
/-- (*strings.Builder).String: "String returns the accumulated string.": WHATEVER THE BUILDER HOLDS; THE FORM '_k': OVER 'Lib.IsBuilderF' (a builder that 'String()' may have read), AND WITH THE FRAME THAT REACHES ABOVE THE BUILDER: 'Lib.OthersKept': every block that is not b and is no row of uint8's stands as it stood: the iterator of a range among them. (LAID: no walk: one application.) -/
theorem Tryz.Builder_String_any_k (B b : Nat) (l : List UInt8) (w : World) (h : Lib.IsBuilderF 134 5 B b (Lib.byteCells l) w) (hBw : B ≤ w.heap.size) :
    Calls Tryz.prog 115 #[.pointer (some ⟨b, 0, none⟩)] w fun e w' => e = .returned (.string ⟨l.toArray⟩) ∧ (Lib.IsBuilderF 134 5 B b (Lib.byteCells l) w' ∧ Below B w w' ∧ Lib.OthersKept 5 (some b) w w') := Any.Builder_String_any_k Tryz.lays169 Tryz.Builder_Extra_169 B b l w h hBw
open Go.RowKit in
/-- (*strings.Builder).grow (no doc but "grow copies the buffer to a new, larger buffer so that there are at least n bytes of capacity beyond len(b.buf)."): AT A BUILDER WITHOUT A BUFFER: a new row of whatever bytes for its buffer, none of them its own yet. Three draws. (LAID: no walk: one application.) -/
theorem Tryz.Builder_grow_fresh_cap (B b n : Nat) (w : World) (hB : B ≤ b) (hbk : w.heap[b]? = some (.cells #[.pointer (some ⟨b, 0, none⟩), .slice none 0 0] 134 (0, 0))) (hBw : B ≤ w.heap.size) (hn : n ≤ 281474976710656) :
    Calls Tryz.prog 217 #[.pointer (some ⟨b, 0, none⟩), .int .i64 n] w fun e w' => e = .returned (.tuple #[]) ∧ (Lib.BuilderAt 134 5 B b (.pointer (some ⟨b, 0, none⟩)) [] w' ∧ Below B w w') ∧ ∃ p cap, w'.cell? ⟨b, 1, none⟩ = some (.slice p 0 cap) ∧ n ≤ cap := Any.Builder_grow_fresh_cap Tryz.lays241 Tryz.Builder_Extra_241 B b n w hB hbk hBw hn
open Go.RowKit in
/-- (*strings.Builder).Grow AT A BUILDER THAT HAS NOT BEEN WRITTEN ('var b strings.Builder; b.Grow(n)'): "Grow grows b's capacity, if necessary, to guarantee space for another n bytes.": it holds no byte behind it as before it. (LAID: no walk: one application.) -/
theorem Tryz.Builder_Grow_fresh_cap (B b n : Nat) (w : World) (hB : B ≤ b) (hbk : w.heap[b]? = some (.cells #[.pointer none, .slice none 0 0] 134 (0, 0))) (hBw : B ≤ w.heap.size) (hn : n ≤ 281474976710656) :
    Calls Tryz.prog 206 #[.pointer (some ⟨b, 0, none⟩), .int .i64 n] w fun e w' => e = .returned (.tuple #[]) ∧ (Lib.BuilderAt 134 5 B b (.pointer (some ⟨b, 0, none⟩)) [] w' ∧ Below B w w') ∧ ∃ p cap, w'.cell? ⟨b, 1, none⟩ = some (.slice p 0 cap) ∧ n ≤ cap := Any.Builder_Grow_fresh_cap Tryz.lays165 Tryz.Builder_Extra_165 B b n w hB hbk hBw hn
end Go.Proofs
namespace Go.Proofs.YtmciidoohbmipaaGreatDoor.Abs
open Go Go.RowKit
set_option linter.unusedVariables false
set_option linter.unusedSectionVars false
set_option linter.unusedSimpArgs false

def newW (w : World) (n g : Nat) (d : List Int) (os : Array Obj) : World := Sort.grow (Sort.putRow (Value.int .i64) (Sort.ahead w n) g 0 d.toArray) os

theorem newW_at {w : World} {g : Nat} {e : TypeId} {cur : Array Value} (hg : w.heap[g]? = some (.cells cur e (0, 0))) (n : Nat) (d : List Int) (hd : d.length ≤ cur.size) (os : Array Obj) :
    ∃ cur', (newW w n g d os).heap[g]? = some (.cells cur' e (0, 0)) ∧ cur'.size = cur.size ∧ ∀ k, k ≤ d.length → cur'.toList.take k = (d.take k).map (Value.int .i64) := by
  have hlt : g < w.heap.size := (Array.getElem?_eq_some_iff.1 hg).1
  refine ⟨Sort.putCells (Value.int .i64) 0 d.toArray cur, ?_, by simp [Sort.putCells], fun k hk => ?_⟩
  · unfold newW
    rw [Sort.heap_grow_old _ _ (by rw [Sort.size_putRow]; exact hlt)]
    simp only [Sort.putRow, Sort.mapBlock, Sort.ahead, Array.getElem?_modify, if_true, hg, Option.map_some, Sort.onCells]
  · apply List.ext_getElem?
    intro j
    rw [List.getElem?_take, List.getElem?_map, List.getElem?_take]
    by_cases hj : j < k
    · rw [if_pos hj, if_pos hj, Array.getElem?_toList, Sort.putCells, Array.getElem?_mapIdx, Array.getElem?_eq_getElem (by omega), Option.map_some, if_pos ⟨Nat.zero_le _, by simp; omega⟩, List.getElem?_eq_getElem (by omega), Option.map_some]
      congr 2
      rw [Nat.sub_zero, getElem!_pos _ j (by simp; omega)]
      simp
    · rw [if_neg hj, if_neg hj]
      rfl

theorem newW_off (w : World) (n g : Nat) (d : List Int) (os : Array Obj) : Off (fun b => b = g) w (newW w n g d os) := by
  refine ⟨rfl, rfl, rfl, by simp [newW, Sort.ahead], fun b hb hn => ?_⟩
  unfold newW
  rw [Sort.heap_grow_old _ _ (by rw [Sort.size_putRow]; exact hb)]
  have : g ≠ b := fun e => hn e.symm
  simp only [Sort.putRow, Sort.mapBlock, Sort.ahead, Array.getElem?_modify, if_neg this]

theorem holds_row {w : World} {g : Nat} {e : TypeId} {cur : Array Value} (hg : w.heap[g]? = some (.cells cur e (0, 0))) {l : List Int} (ht : cur.toList.take l.length = l.map (Value.int .i64)) : Sort.Holds (Value.int .i64) w g 0 l.toArray := by
  intro j hj
  have hj : j < l.length := by simpa using hj
  refine ⟨?_, by simp [World.frozen?, hg]⟩
  have e1 : cur.toList[j]? = some (Value.int .i64 l[j]) := by
    have := congrArg (·[j]?) ht
    simp only [List.getElem?_take, if_pos hj, List.getElem?_map, List.getElem?_eq_getElem hj, Option.map_some] at this
    exact this
  rw [Nat.zero_add, getElem!_pos _ j (by simpa using hj)]
  simp only [World.cell?, hg, List.getElem_toArray]
  simpa using e1

theorem els_i64 {M : Nat → Prop} {w : World} : {l : List Int} → {xs : List Value} → Els (Ty.KR M w (.int .i64)) l xs → xs = l.map (Value.int .i64)
  | [], _, h => h
  | x :: l, _, ⟨c, r, e, hc, hr⟩ => by
    have hc : c = [.int .i64 x] := hc
    rw [e, hc, els_i64 hr]
    rfl

section
variable {P : Program} {f : FuncId} {e : TypeId}

/-- What the row's variable is, where there are elements. -/
theorem row_some {w : World} {v : Value} {l : List Int} {xs : List Value} (h : w.ownsRow 0 e 1 v l.length xs) (hx : xs = l.map (Value.int .i64)) (h0 : 0 < l.length) : ∃ g cap cur, v = .slice (some ⟨g, 0, none⟩) l.length cap ∧ w.heap[g]? = some (.cells cur e (0, 0)) ∧ l.length ≤ cap ∧ cap ≤ maxLen ∧ cur.size = cap ∧ cur.toList.take l.length = l.map (Value.int .i64) := by
  rcases h.2 with ⟨_, hn⟩ | ⟨g, cap, cur, h1, _, h2, h3, h4, h5, h6⟩
  · omega
  · exact ⟨g, cap, cur, h1, h2, h3, h4, by simpa using h5, by rw [← hx]; simpa using h6⟩

theorem sound_sort {pat : Nat → List AV → List HE → Option (Option (List Int))}
    (hpat : ∀ k avs H o x, pat k avs H = some o → o = some x → ∃ l : List Int, avs = [.own 0] ∧ H = [.row e (.int .i64) l] ∧ 0 < l.length ∧ l.length < 4611686018427387904 ∧ x = l.mergeSort fun x y => decide (x ≤ y))
    (h : ∀ (blk off cap : Nat) (zs : List Int) (w : World), Sort.Holds (Value.int .i64) w blk off zs.toArray → blk < w.heap.size → zs.length < 4611686018427387904 →
      Calls P f #[.slice (some ⟨blk, off, none⟩) zs.length cap] w fun en w' => en = .returned (.tuple #[]) ∧ ∃ n os, w' = Sort.grow (Sort.putRow (Value.int .i64) (Sort.ahead w n) blk off (zs.mergeSort fun x y => decide (x ≤ y)).toArray) os) :
    Sound P f (mkS [.row e (.int .i64)] pat fun r => (.tup [], [.row e (.int .i64) r])) := by
  intro k avs H c x hc hx MX w ρ vals hst
  unfold mkS at hc
  simp only at hc
  split at hc
  case h_2 => cases hc
  rename_i o ho
  injection hc with hc
  subst hc
  obtain ⟨l, rfl, rfl, h0, hl, hxx⟩ := hpat k avs H o x ho hx
  obtain ⟨y0, q0, rfl, ⟨_, rfl, A0, n0, c0, hv0⟩, hq⟩ := hst.args
  obtain rfl : q0 = [] := hq
  obtain ⟨xs, b1, b2⟩ := (show HEok _ w ρ _ 0 (.row e (.int .i64) l) from hst.rel.ok 0)
  obtain ⟨g, cap, cur, e1, e2, e3, e4, e5, e6⟩ := row_some b1 (els_i64 b2) h0
  have live0 : live (hpOf [.row e (.int .i64) l] 0) := trivial
  have blk0 : blk (ρ 0) = some g := by rw [e1]; rfl
  have hlt : g < w.heap.size := (Array.getElem?_eq_some_iff.1 e2).1
  have hrun := h g 0 cap l w (holds_row e2 e6) hlt hl
  rw [← hxx] at hrun
  rw [e1]
  refine hrun.mono ?_
  rintro en w' ⟨rfl, n, os, rfl⟩
  have hms : x.length = l.length := by rw [hxx]; exact List.length_mergeSort ..
  obtain ⟨cur', f1, f2, f3⟩ := newW_at e2 n x (by omega) os
  have hoff := newW_off w n g x os
  have cl : ∀ j, live (hpOf [HE.row e (.int .i64) x] j) → j = 0 := by
    intro j hj
    cases j with
    | zero => rfl
    | succ j => simp [hpOf, live] at hj
  have f4 := f3 l.length (by omega)
  rw [List.take_of_length_le (l := x) (by omega)] at f4
  refine ⟨_, ρ, rfl, ⟨fun j => ?_, fun i j b hi hj hbi hbj => ?_, fun i b hi hbi hm => ?_, fun b hb => Nat.lt_of_lt_of_le (hst.rel.mx b hb) hoff.size⟩, ?_, fun j hj => rfl, ?_, fun b hb ⟨i, hi, hbi⟩ => ?_, fun i cs hi => ?_⟩
  · cases j with
    | zero =>
      refine ⟨_, ?_, ints_els _⟩
      show (newW w n g x os).ownsRow 0 e 1 (ρ 0) (List.length (α := Int) x) _
      rw [hms, e1]
      exact ⟨by rw [List.length_map]; show List.length (α := Int) x = _; rw [hms, Nat.mul_one], .inr ⟨g, cap, cur', rfl, Nat.zero_le _, f1, e3, e4, by rw [f2, e5, Nat.mul_one], by rw [Nat.mul_one]; exact f4⟩⟩
    | succ j => simp [hpOf, HEok]
  · rw [cl i hi, cl j hj]
  · rw [cl i hi] at hbi
    exact hst.rel.ext 0 b live0 hbi hm
  · exact ⟨[], rfl, rfl⟩
  · exact hoff.mono fun b _ hb => ⟨0, live0, by rw [blk0, hb]⟩
  · rw [cl i hi] at hbi
    exact ⟨0, live0, hbi⟩
  · cases i with
    | zero => cases hi
    | succ i => simp [hpOf] at hi

theorem sound_compact {pat : Nat → List AV → List HE → Option (Option (List Int))}
    (hpat : ∀ k avs H o x, pat k avs H = some o → o = some x → ∃ l : List Int, avs = [.own 0] ∧ H = [.row e (.int .i64) l] ∧ 0 < l.length ∧ x = Lib.compact l)
    (h : ∀ (blk off cap : Nat) (zs : List Int) (w : World), Sort.Holds (Value.int .i64) w blk off zs.toArray → zs.length ≤ 9223372036854775807 → zs.length ≤ cap →
      Calls P f #[.slice (some ⟨blk, off, none⟩) zs.length cap] w fun en w' => en = .returned (.slice (some ⟨blk, off, none⟩) (Lib.compact zs).length cap) ∧ ∃ q, w' = Sort.putRow (Value.int .i64) (Sort.ahead w q) blk off (Lib.compact zs ++ List.replicate (zs.length - (Lib.compact zs).length) 0).toArray) :
    Sound P f (mkS [.row e (.int .i64)] pat fun r => (.own 1, [.gone, .row e (.int .i64) r])) := by
  intro k avs H c x hc hx MX w ρ vals hst
  unfold mkS at hc
  simp only at hc
  split at hc
  case h_2 => cases hc
  rename_i o ho
  injection hc with hc
  subst hc
  obtain ⟨l, rfl, rfl, h0, hxx⟩ := hpat k avs H o x ho hx
  obtain ⟨y0, q0, rfl, ⟨_, rfl, A0, n0, c0, hv0⟩, hq⟩ := hst.args
  obtain rfl : q0 = [] := hq
  obtain ⟨xs, b1, b2⟩ := (show HEok _ w ρ _ 0 (.row e (.int .i64) l) from hst.rel.ok 0)
  obtain ⟨g, cap, cur, e1, e2, e3, e4, e5, e6⟩ := row_some b1 (els_i64 b2) h0
  have live0 : live (hpOf [.row e (.int .i64) l] 0) := trivial
  have blk0 : blk (ρ 0) = some g := by rw [e1]; rfl
  have hlt : g < w.heap.size := (Array.getElem?_eq_some_iff.1 e2).1
  have hcl : x.length ≤ l.length := by rw [hxx]; exact Lib.compact_length_le l
  have hrun := h g 0 cap l w (holds_row e2 e6) (Nat.le_trans e3 e4) e3
  rw [← hxx] at hrun
  rw [e1]
  refine hrun.mono ?_
  rintro en w' ⟨rfl, n, hw'⟩
  have hll : (x ++ List.replicate (l.length - x.length) 0).length = l.length := by rw [List.length_append, List.length_replicate]; omega
  have hw' : w' = newW w n g (x ++ List.replicate (l.length - x.length) 0) #[] := by rw [hw', newW, Sort.grow_empty]
  subst hw'
  obtain ⟨cur', f1, f2, f3⟩ := newW_at e2 n (x ++ List.replicate (l.length - x.length) 0) (by omega) #[]
  have hoff := newW_off w n g (x ++ List.replicate (l.length - x.length) 0) #[]
  have f4 := f3 x.length (by omega)
  rw [List.take_left] at f4
  generalize newW w n g (x ++ List.replicate (l.length - x.length) 0) #[] = w' at *
  have cl : ∀ j, live (hpOf [HE.gone, HE.row e (.int .i64) x] j) → j = 1 := by
    intro j hj
    cases j with
    | zero => exact hj.elim
    | succ j => cases j with
      | zero => rfl
      | succ j => simp [hpOf, live] at hj
  have blk1 : blk (upd ρ 1 (.slice (some ⟨g, 0, none⟩) x.length cap) 1) = some g := by rw [upd_same]; rfl
  refine ⟨_, upd ρ 1 (.slice (some ⟨g, 0, none⟩) x.length cap), rfl, ⟨fun j => ?_, fun i j b hi hj hbi hbj => ?_, fun i b hi hbi hm => ?_, fun b hb => Nat.lt_of_lt_of_le (hst.rel.mx b hb) hoff.size⟩, ?_, fun j hj => ?_, ?_, fun b hb ⟨i, hi, hbi⟩ => ?_, fun i cs hi => ?_⟩
  · cases j with
    | zero => trivial
    | succ j => cases j with
      | zero =>
        refine ⟨_, ?_, ints_els _⟩
        rw [show (0 + 1) = 1 from rfl, upd_same]
        show w'.ownsRow 0 e 1 _ (List.length (α := Int) x) _
        exact ⟨by rw [List.length_map, Nat.mul_one], .inr ⟨g, cap, cur', rfl, Nat.zero_le _, f1, by omega, e4, by rw [f2, e5, Nat.mul_one], by rw [Nat.mul_one]; exact f4⟩⟩
      | succ j => simp [hpOf, HEok]
  · rw [cl i hi, cl j hj]
  · rw [cl i hi, blk1] at hbi
    exact hst.rel.ext 0 b live0 (by rw [blk0]; exact hbi) hm
  · exact ⟨by simp [hpOf], by rw [upd_same], ⟨_, _, _, rfl⟩⟩
  · have : j = 0 := by simpa using hj
    rw [upd_ne _ _ (by omega)]
  · exact hoff.mono fun b _ hb => ⟨0, live0, by rw [blk0, hb]⟩
  · rw [cl i hi, blk1] at hbi
    exact ⟨0, live0, by rw [blk0]; exact hbi⟩
  · cases i with
    | zero => cases hi
    | succ i => simp [hpOf] at hi
end
end Go.Proofs.YtmciidoohbmipaaGreatDoor.Abs
namespace Go.Proofs
open Go.Shelf
def Tryz.laysSlN43_f135_ren : Go.Shelf.Ren := ⟨fun | 43 => 135 | n => n, fun | 22 => 44 | 23 => 2 | 3 => 3 | 4 => 4 | 0 => 0 | n => n, fun | n => n⟩
theorem Tryz.laysSlN43_f135 : Go.Proofs.SlLaysN.n43 Tryz.prog Tryz.laysSlN43_f135_ren := {
  mixed := by kernel_rfl
  f43 := ⟨Tryz.f135.name, by decide, Tryz.func135.trans (congrArg some (by kernel_rfl))⟩
  t0 := Tryz.underlying0
  a0 := Tryz.isAgg0
  z0 := Tryz.sizeOf0
  v0 := Tryz.zeroValue0
  t3 := Tryz.underlying3
  a3 := Tryz.isAgg3
  z3 := Tryz.sizeOf3
  v3 := Tryz.zeroValue3
  t4 := Tryz.underlying4
  a4 := Tryz.isAgg4
  z4 := Tryz.sizeOf4
  v4 := Tryz.zeroValue4
  t22 := Tryz.underlying44
  a22 := Tryz.isAgg44
  z22 := Tryz.sizeOf44
  v22 := Tryz.zeroValue44
  t23 := Tryz.underlying2
  a23 := Tryz.isAgg2
  z23 := Tryz.sizeOf2
  v23 := Tryz.zeroValue2
  i23 := by kernel_rfl }
open Go.RowKit Go.Lib Go.Sort in
/-- slices.Compact at []int, over an array: the library's two loops are walked. (LAID AT THE INSTANCE 'slices.Compact[[]int64,int64]': no walk: one application.) -/
theorem Tryz.slices_Compact_int_arr (blk off cap : Nat) (d : Array Int) (w : World) (hH : Holds encI w blk off d) (hsz : d.size ≤ 9223372036854775807) (hcap : d.size ≤ cap) :
    Calls Tryz.prog 135 #[.slice (some ⟨blk, off, none⟩) d.size cap] w fun e w' => e = .returned (.slice (some ⟨blk, off, none⟩) (compactUpTo d d.size).length cap) ∧ ∃ q, w' = putRow encI (Sort.ahead w q) blk off (compactUpTo d d.size ++ List.replicate (d.size - (compactUpTo d d.size).length) 0).toArray := AnyG.slices_Compact_int_arr Tryz.laysSlN43_f135 blk off cap d w hH hsz hcap
open Go.RowKit Go.Lib Go.Sort in
/-- slices.Compact at []int: "Compact replaces consecutive runs of equal elements with a single copy. This is like the uniq command found on Unix. Compact modifies the contents of the slice s and returns the modified slice, which may have a smaller length. Compact zeroes the elements between the new length and the original length. The result preserves the nilness of s.": IT RETURNS THE SLICE CUT TO 'Lib.compact zs'; ITS CELLS HOLD 'Lib.compact zs', THEN ZERO VALUES up to the old length; all else is as it was, but for the count of draws. IN THE WORDS OF slices.Sort's CONTRACT ('Holds', 'putRow'): so the everyday 'slices.Sort(xs); xs = slices.Compact(xs)' goes from the one contract to the other. It asks 'zs.length ≤ cap' (every slice's: the reslicing 's[:k]' looks at it). Length 0, nil: '.._empty'. (LAID AT THE INSTANCE 'slices.Compact[[]int64,int64]': no walk: one application.) -/
theorem Tryz.slices_Compact_int (blk off cap : Nat) (zs : List Int) (w : World) (hH : Holds (Value.int .i64) w blk off zs.toArray) (hsz : zs.length ≤ 9223372036854775807) (hcap : zs.length ≤ cap) :
    Calls Tryz.prog 135 #[.slice (some ⟨blk, off, none⟩) zs.length cap] w fun e w' => e = .returned (.slice (some ⟨blk, off, none⟩) (Lib.compact zs).length cap) ∧ ∃ q, w' = putRow (Value.int .i64) (Sort.ahead w q) blk off (Lib.compact zs ++ List.replicate (zs.length - (Lib.compact zs).length) 0).toArray := AnyG.slices_Compact_int Tryz.laysSlN43_f135 blk off cap zs w hH hsz hcap
open Go.RowKit Go.Lib Go.Sort in
/-- The same at a slice of length 0, a nil one too: it comes back as it is. (LAID AT THE INSTANCE 'slices.Compact[[]int64,int64]': no walk: one application.) -/
theorem Tryz.slices_Compact_int_empty (a : Option Addr) (cap : Nat) (w : World) :
    Calls Tryz.prog 135 #[.slice a 0 cap] w fun e w' => e = .returned (.slice a 0 cap) ∧ w' = w := AnyG.slices_Compact_int_empty Tryz.laysSlN43_f135 a cap w
def Tryz.laysSlN68_f189_ren : Go.Shelf.Ren := ⟨fun | 68 => 189 | n => n, fun | 23 => 2 | 4 => 4 | n => n, fun | n => n⟩
theorem Tryz.laysSlN68_f189 : Go.Proofs.SlLaysN.n68 Tryz.prog Tryz.laysSlN68_f189_ren := {
  mixed := by kernel_rfl
  f68 := ⟨Tryz.f189.name, by decide, Tryz.func189.trans (congrArg some (by kernel_rfl))⟩
  t4 := Tryz.underlying4
  a4 := Tryz.isAgg4
  z4 := Tryz.sizeOf4
  v4 := Tryz.zeroValue4
  t23 := Tryz.underlying2
  a23 := Tryz.isAgg2
  z23 := Tryz.sizeOf2
  v23 := Tryz.zeroValue2 }
open Go.RowKit Go.Lib in
/-- cmp.isNaN[int]: 'x != x': false. (LAID AT THE INSTANCE 'cmp.isNaN[int64]': no walk: one application.) -/
theorem Tryz.cmp_isNaN_int2 (x : Int) (w : World) :
    Calls Tryz.prog 189 #[.int .i64 x] w fun e w' => e = .returned (.bool false) ∧ w' = w := AnyG.cmp_isNaN_int2 Tryz.laysSlN68_f189 x w
def Tryz.laysSlN59_f180_ren : Go.Shelf.Ren := ⟨fun | 59 => 180 | 68 => 189 | n => n, fun | 23 => 2 | 4 => 4 | n => n, fun | n => n⟩
theorem Tryz.laysSlN59_f180 : Go.Proofs.SlLaysN.n59 Tryz.prog Tryz.laysSlN59_f180_ren := {
  mixed := by kernel_rfl
  f59 := ⟨Tryz.f180.name, by decide, Tryz.func180.trans (congrArg some (by kernel_rfl))⟩
  f68 := ⟨Tryz.f189.name, by decide, Tryz.func189.trans (congrArg some (by kernel_rfl))⟩
  t4 := Tryz.underlying4
  a4 := Tryz.isAgg4
  z4 := Tryz.sizeOf4
  v4 := Tryz.zeroValue4
  t23 := Tryz.underlying2
  a23 := Tryz.isAgg2
  z23 := Tryz.sizeOf2
  v23 := Tryz.zeroValue2 }
open Go.RowKit Go.Lib in
/-- cmp.Less[int]: "Less reports whether x is less than y.": 'x < y'; the world is as it was. (LAID AT THE INSTANCE 'cmp.Less[int64]': no walk: one application.) -/
theorem Tryz.cmp_Less_int2 (x y : Int) (w : World) :
    Calls Tryz.prog 180 #[.int .i64 x, .int .i64 y] w fun e w' => e = .returned (.bool (decide (x < y))) ∧ w' = w := AnyG.cmp_Less_int2 Tryz.laysSlN59_f180 x y w
open Go.RowKit Go.Lib Go.Sort in
/-- slices.Compact at []int, of an argument: the slice cut to 'Lib.compact (elements)'; the n cells hold that, then zeros. (LAID AT THE INSTANCE 'slices.Compact[[]int64,int64]': no walk: one application.) -/
theorem Tryz.slices_Compact_int_cells (b off n c : Nat) (zs : List Int) (w : World) (hz : n ≤ zs.length) (hbig : n ≤ 9223372036854775807) (hcap : n ≤ c) (hc : ∀ j, j < zs.length → w.cell? ⟨b, off + j, none⟩ = some (.int .i64 (zs.getD j 0))) (hf : ∀ j, j < n → w.frozen? ⟨b, off + j, none⟩ = false) :
    Calls Tryz.prog 135 #[.slice (some ⟨b, off, none⟩) n c] w fun e w' => e = .returned (.slice (some ⟨b, off, none⟩) (Lib.compact (zs.take n)).length c) ∧ ∃ q, w' = (w.drewN q).setCells b off ((Lib.compact (zs.take n) ++ List.replicate (n - (Lib.compact (zs.take n)).length) 0).map (Value.int .i64)) := AnyG.slices_Compact_int_cells Tryz.laysSlN43_f135 b off n c zs w hz hbig hcap hc hf
def Tryz.laysSlE43_f135_ren : Go.Shelf.Ren := ⟨fun | 43 => 135 | n => n, fun | 22 => 44 | 23 => 2 | 3 => 3 | 4 => 4 | 0 => 0 | n => n, fun | n => n⟩
theorem Tryz.laysSlE43_f135 : Go.Proofs.SlLaysE.n43 Tryz.prog Tryz.laysSlE43_f135_ren := {
  mixed := by kernel_rfl
  f43 := ⟨Tryz.f135.name, by decide, Tryz.func135.trans (congrArg some (by kernel_rfl))⟩
  t0 := Tryz.underlying0
  a0 := Tryz.isAgg0
  z0 := Tryz.sizeOf0
  v0 := Tryz.zeroValue0
  t3 := Tryz.underlying3
  a3 := Tryz.isAgg3
  z3 := Tryz.sizeOf3
  v3 := Tryz.zeroValue3
  t4 := Tryz.underlying4
  a4 := Tryz.isAgg4
  z4 := Tryz.sizeOf4
  v4 := Tryz.zeroValue4
  t22 := Tryz.underlying44
  a22 := Tryz.isAgg44
  z22 := Tryz.sizeOf44
  v22 := Tryz.zeroValue44
  a23 := Tryz.isAgg2
  z23 := Tryz.sizeOf2 }
open Go.RowKit Go.Lib Go.Sort in
/-- slices.Compact: "Compact replaces consecutive runs of equal elements with a single copy. .. Compact zeroes the elements between the new length and the original length.": IT RETURNS THE SLICE CUT TO 'compactUpTo d d.size'; ITS CELLS HOLD THAT, THEN ZERO VALUES up to the old length; the library's two loops are walked. (LAID AT THE INSTANCE 'slices.Compact[[]int64,int64]': no walk: one application.) -/
theorem Tryz.slices_Compact {α : Type} [Inhabited α] [DecidableEq α] (enc : α → Value) (hO : OneCell enc) (heq : EqlAt Tryz.prog 2 enc (fun x y => decide (x = y))) (hne : NeqAt Tryz.prog 2 enc (fun x y => decide (x = y))) (zr : α) (v23 : ∀ w, (zeroValue 2).run Tryz.prog w = .ok (enc zr) w) (blk off cap : Nat) (d : Array α) (w : World) (hH : Holds enc w blk off d) (hsz : d.size ≤ 9223372036854775807) (hcap : d.size ≤ cap) :
    Calls Tryz.prog 135 #[.slice (some ⟨blk, off, none⟩) d.size cap] w fun e w' => e = .returned (.slice (some ⟨blk, off, none⟩) (compactUpTo d d.size).length cap) ∧ ∃ q, w' = putRow enc (Sort.ahead w q) blk off (compactUpTo d d.size ++ List.replicate (d.size - (compactUpTo d d.size).length) zr).toArray := AnyE.slices_Compact Tryz.laysSlE43_f135 enc hO heq hne zr v23 blk off cap d w hH hsz hcap
def Tryz.laysSlH6_f185_ren : Go.Shelf.Ren := ⟨fun | 6 => 185 | n => n, fun | 22 => 24 | 23 => 9 | 25 => 162 | 3 => 3 | 0 => 0 | 4 => 4 | n => n, fun | n => n⟩
theorem Tryz.laysSlH6_f185 : Go.Proofs.SlLaysH.n6 Tryz.prog Tryz.laysSlH6_f185_ren := {
  mixed := by kernel_rfl
  f6 := ⟨Tryz.f185.name, by decide, Tryz.func185.trans (congrArg some (by kernel_rfl))⟩
  t0 := Tryz.underlying0
  a0 := Tryz.isAgg0
  z0 := Tryz.sizeOf0
  v0 := Tryz.zeroValue0
  t3 := Tryz.underlying3
  a3 := Tryz.isAgg3
  z3 := Tryz.sizeOf3
  v3 := Tryz.zeroValue3
  t4 := Tryz.underlying4
  a4 := Tryz.isAgg4
  z4 := Tryz.sizeOf4
  v4 := Tryz.zeroValue4
  t22 := Tryz.underlying24
  a22 := Tryz.isAgg24
  z22 := Tryz.sizeOf24
  v22 := Tryz.zeroValue24
  a23 := Tryz.isAgg9
  z23 := Tryz.sizeOf9
  t25 := Tryz.underlying162
  a25 := Tryz.isAgg162
  z25 := Tryz.sizeOf162
  v25 := Tryz.zeroValue162 }
open Go.RowKit Go.Lib in
/-- slices.IndexFunc: "IndexFunc returns the first index i satisfying f(s[i]), or -1 if none do." (LAID AT THE INSTANCE 'slices.IndexFunc[[]string,string]': no walk: one application.) -/
theorem Tryz.slices_IndexFunc {α : Type} [Inhabited α] (enc : α → Value) (p : α → Bool) (g : Nat) (lb : Array Value) (eg : ∀ args w, (callFunc g args).run Tryz.prog w = .ok (.enter g args) w) (b off n c : Nat) (zs : List α) (w : World) (hp : PredAt Tryz.prog g lb enc p w) (hz : n ≤ zs.length) (hbig : n ≤ 9223372036854775807) (hc : ∀ j, j < zs.length → w.cell? ⟨b, off + j, none⟩ = some (enc zs[j]!)) :
    Calls Tryz.prog 185 #[.slice (some ⟨b, off, none⟩) n c, .func (.func g) #[] lb] w fun e w' => e = .returned (.int .i64 (Lib.idxBy (fun _ y => p y) (zs.take n) default)) ∧ ∃ q, w' = w.drewN q := AnyE.slices_IndexFunc Tryz.laysSlH6_f185 enc p g lb eg b off n c zs w hp hz hbig hc
open Go.RowKit Go.Lib in
/-- The same at a slice of length 0, a nil one too: the predicate is not called: nothing is asked of it. (LAID AT THE INSTANCE 'slices.IndexFunc[[]string,string]': no walk: one application.) -/
theorem Tryz.slices_IndexFunc_empty {α : Type} [Inhabited α] (a : Option Addr) (c : Nat) (fv : Value) (w : World) :
    Calls Tryz.prog 185 #[.slice a 0 c, fv] w fun e w' => e = .returned (.int .i64 (-1)) ∧ w' = w := AnyE.slices_IndexFunc_empty Tryz.laysSlH6_f185 a c fv w
def Tryz.laysSlH8_f163_ren : Go.Shelf.Ren := ⟨fun | 8 => 163 | 6 => 185 | n => n, fun | 22 => 24 | 23 => 9 | 25 => 162 | 4 => 4 | 3 => 3 | 0 => 0 | n => n, fun | n => n⟩
theorem Tryz.laysSlH8_f163 : Go.Proofs.SlLaysH.n8 Tryz.prog Tryz.laysSlH8_f163_ren := {
  mixed := by kernel_rfl
  f6 := ⟨Tryz.f185.name, by decide, Tryz.func185.trans (congrArg some (by kernel_rfl))⟩
  f8 := ⟨Tryz.f163.name, by decide, Tryz.func163.trans (congrArg some (by kernel_rfl))⟩
  t0 := Tryz.underlying0
  a0 := Tryz.isAgg0
  z0 := Tryz.sizeOf0
  v0 := Tryz.zeroValue0
  t3 := Tryz.underlying3
  a3 := Tryz.isAgg3
  z3 := Tryz.sizeOf3
  v3 := Tryz.zeroValue3
  t4 := Tryz.underlying4
  a4 := Tryz.isAgg4
  z4 := Tryz.sizeOf4
  v4 := Tryz.zeroValue4
  t22 := Tryz.underlying24
  a22 := Tryz.isAgg24
  z22 := Tryz.sizeOf24
  v22 := Tryz.zeroValue24
  a23 := Tryz.isAgg9
  z23 := Tryz.sizeOf9
  t25 := Tryz.underlying162
  a25 := Tryz.isAgg162
  z25 := Tryz.sizeOf162
  v25 := Tryz.zeroValue162 }
open Go.RowKit Go.Lib in
/-- slices.ContainsFunc: "ContainsFunc reports whether at least one element e of s satisfies f(e).": ITS CALLEE slices.IndexFunc IS MET BY ITS OWN CONTRACT. (LAID AT THE INSTANCE 'slices.ContainsFunc[[]string,string]': no walk: one application.) -/
theorem Tryz.slices_ContainsFunc {α : Type} [Inhabited α] (enc : α → Value) (p : α → Bool) (g : Nat) (lb : Array Value) (eg : ∀ args w, (callFunc g args).run Tryz.prog w = .ok (.enter g args) w) (b off n c : Nat) (zs : List α) (w : World) (hp : PredAt Tryz.prog g lb enc p w) (hz : n ≤ zs.length) (hbig : n ≤ 9223372036854775807) (hc : ∀ j, j < zs.length → w.cell? ⟨b, off + j, none⟩ = some (enc zs[j]!)) :
    Calls Tryz.prog 163 #[.slice (some ⟨b, off, none⟩) n c, .func (.func g) #[] lb] w fun e w' => e = .returned (.bool ((zs.take n).any p)) ∧ ∃ q, w' = w.drewN q := AnyE.slices_ContainsFunc Tryz.laysSlH8_f163 enc p g lb eg b off n c zs w hp hz hbig hc
open Go.RowKit Go.Lib in
/-- The same at a slice of length 0, a nil one too. (LAID AT THE INSTANCE 'slices.ContainsFunc[[]string,string]': no walk: one application.) -/
theorem Tryz.slices_ContainsFunc_empty {α : Type} [Inhabited α] (a : Option Addr) (c : Nat) (fv : Value) (w : World) :
    Calls Tryz.prog 163 #[.slice a 0 c, fv] w fun e w' => e = .returned (.bool false) ∧ w' = w := AnyE.slices_ContainsFunc_empty Tryz.laysSlH8_f163 a c fv w
def Tryz.laysSlN53_f134_ren : Go.Shelf.Ren := ⟨fun | 53 => 134 | 64 => 160 | 63 => 159 | 78 => 183 | 79 => 184 | 70 => 174 | 71 => 175 | 72 => 176 | 73 => 177 | 74 => 178 | 75 => 179 | 59 => 180 | 76 => 181 | 77 => 182 | 88 => 191 | 89 => 192 | 90 => 193 | 91 => 194 | 92 => 195 | 68 => 189 | 96 => 208 | n => n, fun | 22 => 44 | 23 => 2 | 3 => 3 | 51 => 153 | 0 => 0 | 67 => 173 | 69 => 151 | 4 => 4 | 61 => 176 | 60 => 175 | 44 => 155 | 5 => 5 | 9 => 9 | 75 => 188 | 79 => 191 | 83 => 204 | 84 => 205 | n => n, fun | n => n⟩
theorem Tryz.laysSlN53_f134 : Go.Proofs.SlLaysN.n53 Tryz.prog Tryz.laysSlN53_f134_ren := {
  mixed := by kernel_rfl
  f53 := ⟨Tryz.f134.name, by decide, Tryz.func134.trans (congrArg some (by kernel_rfl))⟩
  f59 := ⟨Tryz.f180.name, by decide, Tryz.func180.trans (congrArg some (by kernel_rfl))⟩
  f63 := ⟨Tryz.f159.name, by decide, Tryz.func159.trans (congrArg some (by kernel_rfl))⟩
  f64 := Tryz.func160.trans (congrArg some (by kernel_rfl))
  f68 := ⟨Tryz.f189.name, by decide, Tryz.func189.trans (congrArg some (by kernel_rfl))⟩
  f70 := ⟨Tryz.f174.name, by decide, Tryz.func174.trans (congrArg some (by kernel_rfl))⟩
  f71 := ⟨Tryz.f175.name, by decide, Tryz.func175.trans (congrArg some (by kernel_rfl))⟩
  f72 := ⟨Tryz.f176.name, by decide, Tryz.func176.trans (congrArg some (by kernel_rfl))⟩
  f73 := ⟨Tryz.f177.name, by decide, Tryz.func177.trans (congrArg some (by kernel_rfl))⟩
  f74 := ⟨Tryz.f178.name, by decide, Tryz.func178.trans (congrArg some (by kernel_rfl))⟩
  f75 := ⟨Tryz.f179.name, by decide, Tryz.func179.trans (congrArg some (by kernel_rfl))⟩
  f76 := ⟨Tryz.f181.name, by decide, Tryz.func181.trans (congrArg some (by kernel_rfl))⟩
  f77 := ⟨Tryz.f182.name, by decide, Tryz.func182.trans (congrArg some (by kernel_rfl))⟩
  f78 := Tryz.func183.trans (congrArg some (by kernel_rfl))
  f79 := Tryz.func184.trans (congrArg some (by kernel_rfl))
  f88 := ⟨Tryz.f191.name, by decide, Tryz.func191.trans (congrArg some (by kernel_rfl))⟩
  f89 := Tryz.func192.trans (congrArg some (by kernel_rfl))
  f90 := Tryz.func193.trans (congrArg some (by kernel_rfl))
  f91 := ⟨Tryz.f194.name, by decide, Tryz.func194.trans (congrArg some (by kernel_rfl))⟩
  f92 := ⟨Tryz.f195.name, by decide, Tryz.func195.trans (congrArg some (by kernel_rfl))⟩
  f96 := ⟨Tryz.f208.name, by decide, Tryz.func208.trans (congrArg some (by kernel_rfl))⟩
  t0 := Tryz.underlying0
  a0 := Tryz.isAgg0
  z0 := Tryz.sizeOf0
  v0 := Tryz.zeroValue0
  t3 := Tryz.underlying3
  a3 := Tryz.isAgg3
  z3 := Tryz.sizeOf3
  v3 := Tryz.zeroValue3
  t4 := Tryz.underlying4
  a4 := Tryz.isAgg4
  z4 := Tryz.sizeOf4
  v4 := Tryz.zeroValue4
  t5 := Tryz.underlying5
  a5 := Tryz.isAgg5
  z5 := Tryz.sizeOf5
  v5 := Tryz.zeroValue5
  t9 := Tryz.underlying9
  a9 := Tryz.isAgg9
  z9 := Tryz.sizeOf9
  v9 := Tryz.zeroValue9
  t22 := Tryz.underlying44
  a22 := Tryz.isAgg44
  z22 := Tryz.sizeOf44
  v22 := Tryz.zeroValue44
  t23 := Tryz.underlying2
  a23 := Tryz.isAgg2
  z23 := Tryz.sizeOf2
  v23 := Tryz.zeroValue2
  t44 := Tryz.underlying155
  a44 := Tryz.isAgg155
  z44 := Tryz.sizeOf155
  v44 := Tryz.zeroValue155
  t51 := Tryz.underlying153
  a51 := Tryz.isAgg153
  z51 := Tryz.sizeOf153
  v51 := Tryz.zeroValue153
  t60 := Tryz.underlying175
  a60 := Tryz.isAgg175
  z60 := Tryz.sizeOf175
  v60 := Tryz.zeroValue175
  t61 := Tryz.underlying176
  a61 := Tryz.isAgg176
  z61 := Tryz.sizeOf176
  v61 := Tryz.zeroValue176
  t67 := Tryz.underlying173
  a67 := Tryz.isAgg173
  z67 := Tryz.sizeOf173
  v67 := Tryz.zeroValue173
  t69 := Tryz.underlying151
  a69 := Tryz.isAgg151
  z69 := Tryz.sizeOf151
  v69 := Tryz.zeroValue151
  t75 := Tryz.underlying188
  a75 := Tryz.isAgg188
  z75 := Tryz.sizeOf188
  v75 := Tryz.zeroValue188
  t79 := Tryz.underlying191
  a79 := Tryz.isAgg191
  z79 := Tryz.sizeOf191
  v79 := Tryz.zeroValue191
  t83 := Tryz.underlying204
  a83 := Tryz.isAgg204
  z83 := Tryz.sizeOf204
  v83 := Tryz.zeroValue204
  t84 := Tryz.underlying205
  a84 := Tryz.isAgg205
  z84 := Tryz.sizeOf205
  v84 := Tryz.zeroValue205 }
open Go.RowKit Go.Lib Go.Sort in
/-- slices.Sort at []int. -/
theorem Tryz.slices_Sort_int (blk off cap : Nat) (zs : List Int) (w : World) (hH : Holds (Value.int .i64) w blk off zs.toArray) (hblk : blk < w.heap.size) (hsz : zs.length < 4611686018427387904) :
    Calls Tryz.prog 134 #[.slice (some ⟨blk, off, none⟩) zs.length cap] w fun e w' => e = .returned (.tuple #[]) ∧ ∃ n os, w' = grow (putRow (Value.int .i64) (Sort.ahead w n) blk off (zs.mergeSort fun x y => decide (x ≤ y)).toArray) os := AnyG.slices_Sort_int Tryz.laysSlN53_f134 blk off cap zs w hH hblk hsz

end Go.Proofs
