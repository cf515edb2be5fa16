/- FnExactGaps: the program's Gaps answers as the reference's, for every map and range, and hands back memory of its own. No condition. (Merged out of this claim's own texts.) -/
import Derived.Test.YtpeimlpipopeoaaBFnExactGaps2
import Derived.Test.YtpeimlpipopeoaaRows
import Derived.WalkKit
import Derived.ProofKit
import Derived.OpenShut
import Derived.ShutString
import Derived.ChangeOld
import Derived.Below
import Derived.SizedLaws
namespace Go.Proofs.Ytpeimlpipopeoaa.Pure
open Go.RowKit Go.Proofs.Ytpeimlpipopeoaa.X Go.Proofs.YtpeimlpipopeoaaW.PrintWords Go.Proofs.YtpeimlpipopeoaaW.PrintLast Go.Proofs.YtpeimlpipopeoaaW.PrintMore
set_option linter.unusedVariables false
set_option linter.unusedSimpArgs false

theorem rdT_get (g : List S61) (i : Nat) (h : i < g.length) : rd_T61 g (i : Int) = g[i] := by
  unfold rd_T61
  rw [Int.toNat_natCast, List.getD_eq_getElem?_getD, List.getElem?_eq_getElem h]
  rfl
def sumLen (g : List S61) : Int := (g.map fun x => x.f1).sum
theorem sumLen_append (g h : List S61) : sumLen (g ++ h) = sumLen g + sumLen h := by simp [sumLen]
theorem sumLen_addGap (g : List S61) (i : Int) : sumLen (addGap g i) = sumLen g + 1 := by
  unfold addGap
  rcases snoc_cases g with rfl | ⟨l, x, rfl⟩
  · simp [sumLen]
  · rw [getD_snoc, set_snoc]
    split
    · simp [sumLen]; omega
    · simp [sumLen]; omega
theorem sumLen_go (t : Int → Bool) : ∀ (d : Nat) (g : List S61) (i : Int), sumLen (gapsGo t d g i) = sumLen g + freeFrom t i d
  | 0, g, i => by simp [gapsGo, freeFrom]
  | d + 1, g, i => by
    simp only [gapsGo, freeFrom]
    split
    · rw [sumLen_go t d]; omega
    · rw [sumLen_go t d, sumLen_addGap]; omega
theorem sumLen_take (g : List S61) (b : Int) (hb : b ≤ 128) (a : Int) (ha : 0 ≤ a) (h : ∀ x ∈ g, a ≤ x.f0 ∧ 1 ≤ x.f1 ∧ x.f0 + x.f1 ≤ b) : ∀ i, i ≤ g.length → 0 ≤ sumLen (g.take i) ∧ sumLen (g.take i) ≤ 128 * i := by
  intro i
  induction i with
  | zero => intro _; simp [sumLen]
  | succ i ih =>
    intro hi
    have ih := ih (by omega)
    have hx := h _ (List.getElem_mem (show i < g.length by omega))
    rw [take_snoc2 g i (by omega), sumLen_append]
    simp only [sumLen, List.map_cons, List.map_nil, List.sum_cons, List.sum_nil] at ih ⊢
    omega
theorem impl_FreeOf_ev (s : ByteArray) (a b : Int) : Ev (fun k => impl_FreeOf.f k s a b) (if areaOk s a b then freeFrom (tk s) a (b - a).toNat else -1) := by
  unfold impl_FreeOf.f
  refine Ev.bindo (impl_isArea_f s a b) (Ev.cases (fun c => ?_) (fun c => Ev.eq ?_))
  · have c : areaOk s a b := by simpa using c
    rw [if_pos c]
    obtain ⟨hm, h0, h1, h2⟩ := c
    have hg := gapsOf_gap s a b h1
    have hl := hg.length h1
    refine Ev.bind (impl_gaps_ev s a b hm h0 h1 h2) ?_
    have l : ∀ (d i : Nat), (gapsOf s a b).length - i = d → i ≤ (gapsOf s a b).length → Ev (fun k => impl_FreeOf.l0 k (sumLen ((gapsOf s a b).take i)) (gapsOf s a b) ((gapsOf s a b).length : Int) (i : Int)) (sumLen (gapsOf s a b)) := by
      intro d
      induction d with
      | zero =>
        intro i hd hi
        refine Ev.step (fun k => by first | (rw [impl_FreeOf.l0]; done) | (rw [impl_FreeOf.l0]; rfl)) (Ev.neg (by omega) (Ev.eq ?_))
        rw [List.take_of_length_le (by omega)]
      | succ d ih =>
        intro i hd hi
        have hlt : i < (gapsOf s a b).length := by omega
        refine Ev.step (fun k => by first | (rw [impl_FreeOf.l0]; done) | (rw [impl_FreeOf.l0]; rfl)) (Ev.pos (by omega) (Ev.pos (by omega) (Ev.pos (by omega) ?_)))
        have hs := sumLen_take (gapsOf s a b) b h2 a h0 hg.each i hi
        have hx := hg.each _ (List.getElem_mem hlt)
        have e : sumLen ((gapsOf s a b).take (i + 1)) = sumLen ((gapsOf s a b).take i) + (gapsOf s a b)[i].f1 := by
          rw [take_snoc2 _ i hlt, sumLen_append]
          simp [sumLen]
        rw [rdT_get _ i hlt, w64 (x := (i : Int) + 1) (by omega) (by omega), w64 (by omega) (by omega), ← e]
        exact ih (i + 1) (by omega) (by omega)
    refine Ev.val (l _ 0 rfl (by omega)) ?_
    rw [gapsOf, sumLen_go]
    simp [sumLen]
  · rw [if_neg (by simpa using c)]

/-! ### FindRun -/
def allFree (t : Int → Bool) (i n : Int) : Prop := ∀ j, i ≤ j → j < i + n → t j = false
theorem allFree_dec (t : Int → Bool) (i n : Int) : allFree t i n ∨ ¬ allFree t i n := Classical.em _
/-- The least line of a .. at which n free ones begin that end at b at the latest; -1, if there is none. -/
def IsFirst (t : Int → Bool) (a b n x : Int) : Prop :=
  (x = -1 ∧ ∀ y, a ≤ y → y + n ≤ b → ¬ allFree t y n) ∨ (a ≤ x ∧ x + n ≤ b ∧ allFree t x n ∧ ∀ y, a ≤ y → y < x → ¬ allFree t y n)
theorem IsFirst.unique {t : Int → Bool} {a b n x y : Int} (ha : 0 ≤ a) (h : IsFirst t a b n x) (k : IsFirst t a b n y) : x = y := by
  rcases h with ⟨rfl, h⟩ | ⟨h0, h1, h2, h3⟩ <;> rcases k with ⟨rfl, k⟩ | ⟨k0, k1, k2, k3⟩
  · rfl
  · exact absurd k2 (h y k0 k1)
  · exact absurd h2 (k x h0 h1)
  · by_cases e : x < y
    · exact absurd h2 (k3 x h0 e)
    · by_cases e2 : y < x
      · exact absurd k2 (h3 y k0 e2)
      · omega
def firstGap : List S61 → Int → Int
  | [], _ => -1
  | x :: g, n => if x.f1 ≥ n then x.f0 else firstGap g n
theorem firstGap_isFirst {t : Int → Bool} {a b n : Int} (hn : 1 ≤ n) {g : List S61} (h : Gap t a b g) : IsFirst t a b n (firstGap g n) := by
  -- every run of free lines lies in a gap
  have run : ∀ y, a ≤ y → y + n ≤ b → allFree t y n → ∃ x ∈ g, x.f0 ≤ y ∧ y + n ≤ x.f0 + x.f1 := by
    intro y hy hb hf
    obtain ⟨x, hx, h1, h2⟩ := h.all y hy (by omega) (hf y (by omega) (by omega))
    refine ⟨x, hx, h1, ?_⟩
    by_cases e : y + n ≤ x.f0 + x.f1
    · exact e
    · have := h.stop x hx (by omega)
      rw [hf (x.f0 + x.f1) (by omega) (by omega)] at this
      cases this
  have key : ∀ (l r : List S61), g = l ++ r → (∀ x ∈ l, ¬ x.f1 ≥ n) → IsFirst t a b n (firstGap r n) := by
    intro l r
    induction r generalizing l with
    | nil =>
      intro e hl
      refine .inl ⟨rfl, fun y hy hb hf => ?_⟩
      obtain ⟨x, hx, h1, h2⟩ := run y hy hb hf
      exact hl x (by rw [e] at hx; simpa using hx) (by omega)
    | cons x r ih =>
      intro e hl
      have hxg : x ∈ g := by rw [e]; simp
      have hx := h.each x hxg
      simp only [firstGap]
      split
      · rename_i c
        refine .inr ⟨hx.1, by omega, fun j h0 h1 => h.free x hxg j h0 (by omega), fun y hy hlt hf => ?_⟩
        obtain ⟨z, hz, h1, h2⟩ := run y hy (by omega) hf
        have hs := h.sorted
        rw [e] at hs hz
        have hs := List.pairwise_append.1 hs
        rcases List.mem_append.1 hz with hz | hz
        · exact hl z hz (by omega)
        · rcases List.mem_cons.1 hz with rfl | hz
          · omega
          · have := (List.pairwise_cons.1 hs.2.1).1 z hz
            omega
      · rename_i c
        refine ih (l ++ [x]) (by rw [e]; simp) (fun z hz => ?_)
        rcases List.mem_append.1 hz with hz | hz
        · exact hl z hz
        · simp at hz; subst hz; exact c
  exact key [] g rfl (by simp)
theorem spec_l6Free_ev (s : ByteArray) (i n : Int) (hm : mapOk s) (h0 : 0 ≤ i) (hn : 0 ≤ n) (h2 : i + n ≤ 128) : ∃ b : Bool, Ev (fun k => spec_l6Free.f k s i n) b ∧ (b = true ↔ allFree (tk s) i n) := by
  have l : ∀ (d : Nat) (j : Int), (i + n - j).toNat = d → i ≤ j → j ≤ i + n → (∀ q, i ≤ q → q < j → tk s q = false) → ∃ b : Bool, Ev (fun k => spec_l6Free.l0 k s i n j) b ∧ (b = true ↔ allFree (tk s) i n) := by
    intro d
    induction d with
    | zero =>
      intro j hd hj hj2 hf
      refine ⟨true, Ev.step (fun k => by rw [spec_l6Free.l0]) ?_, by simp; exact fun q h0 h1 => hf q h0 (by omega)⟩
      rw [w64 (x := i + n) (by omega) (by omega)]
      exact Ev.neg (by omega) (Ev.eq rfl)
    | succ d ih =>
      intro j hd hj hj2 hf
      by_cases e : tk s j = true
      · refine ⟨false, Ev.step (fun k => by rw [spec_l6Free.l0]) ?_, by simp; exact fun h => by rw [h j hj (by omega)] at e; cases e⟩
        rw [w64 (x := i + n) (by omega) (by omega)]
        exact Ev.pos (by omega) (Ev.bindo (spec_bit s j hm (by omega) (by omega)) (Ev.pos e (Ev.eq rfl)))
      · obtain ⟨b, hb, hi⟩ := ih (j + 1) (by omega) (by omega) (by omega) (fun q h0 h1 => by
          by_cases e2 : q = j
          · subst e2; simpa using e
          · exact hf q h0 (by omega))
        refine ⟨b, Ev.step (fun k => by rw [spec_l6Free.l0]) ?_, hi⟩
        rw [w64 (x := i + n) (by omega) (by omega), w64 (x := j + 1) (by omega) (by omega)]
        exact Ev.pos (by omega) (Ev.bindo (spec_bit s j hm (by omega) (by omega)) (Ev.neg e hb))
  unfold spec_l6Free.f
  exact l _ i rfl (by omega) (by omega) (fun q h0 h1 => by omega)
def findOk (s : ByteArray) (a b n : Int) : Prop := areaOk s a b ∧ 1 ≤ n ∧ n ≤ 128
def findRun (s : ByteArray) (a b n : Int) : Int := if areaOk s a b then (if 1 ≤ n ∧ n ≤ 128 then firstGap (gapsOf s a b) n else -1) else -1
theorem spec_FindRun_ev (s : ByteArray) (a b n : Int) : Ev (fun k => spec_FindRun.f k s a b n) (findRun s a b n) := by
  unfold spec_FindRun.f findRun
  refine Ev.bindo (spec_l6Range_f s a b) (Ev.cases (fun c => ?_) (fun c => ?_))
  · have c : areaOk s a b := by simpa using c
    rw [if_pos c]
    obtain ⟨hm, h0, h1, h2⟩ := c
    refine Ev.bindo (l1In_f _ _ _) (Ev.step (fun k => by rw [spec_FindRun.j0]) ?_)
    refine Ev.cases (fun e => Ev.eq ?_) (fun e => ?_)
    · rw [if_neg (fun q => by simp [q.1, q.2] at e)]
    · have hn : 1 ≤ n ∧ n ≤ 128 := by simpa using e
      rw [if_pos hn]
      have l : ∀ (d : Nat) (i : Int), (b + 1 - i).toNat = d → a ≤ i → i ≤ b + 1 → (∀ y, a ≤ y → y < i → y + n ≤ b → ¬ allFree (tk s) y n) → ∃ x, Ev (fun k => spec_FindRun.l0 k s b n i) x ∧ IsFirst (tk s) a b n x := by
        intro d
        induction d with
        | zero =>
          intro i hd hi hb hf
          refine ⟨-1, Ev.step (fun k => by rw [spec_FindRun.l0]) ?_, .inl ⟨rfl, fun y hy hyb => hf y hy (by omega) hyb⟩⟩
          rw [w64 (x := i + n) (by omega) (by omega)]
          exact Ev.neg (by omega) (Ev.eq rfl)
        | succ d ih =>
          intro i hd hi hb hf
          by_cases hin : i + n ≤ b
          · obtain ⟨q, hq, hqf⟩ := spec_l6Free_ev s i n hm (by omega) (by omega) (by omega)
            by_cases e : q = true
            · refine ⟨i, Ev.step (fun k => by rw [spec_FindRun.l0]) ?_, .inr ⟨hi, hin, hqf.1 e, fun y hy hlt => hf y hy hlt (by omega)⟩⟩
              rw [w64 (x := i + n) (by omega) (by omega)]
              exact Ev.pos hin (Ev.bind hq (Ev.pos e (Ev.eq rfl)))
            · obtain ⟨x, hx, hfx⟩ := ih (i + 1) (by omega) (by omega) (by omega) (fun y hy hlt hyb => by
                by_cases e2 : y = i
                · subst e2; exact fun h => e (hqf.2 h)
                · exact hf y hy (by omega) hyb)
              refine ⟨x, Ev.step (fun k => by rw [spec_FindRun.l0]) ?_, hfx⟩
              rw [w64 (x := i + n) (by omega) (by omega), w64 (x := i + 1) (by omega) (by omega)]
              exact Ev.pos hin (Ev.bind hq (Ev.neg e hx))
          · refine ⟨-1, Ev.step (fun k => by rw [spec_FindRun.l0]) ?_, .inl ⟨rfl, fun y hy hyb => hf y hy (by omega) hyb⟩⟩
            rw [w64 (x := i + n) (by omega) (by omega)]
            exact Ev.neg (by omega) (Ev.eq rfl)
      obtain ⟨x, hx, hfx⟩ := l _ a rfl (by omega) (by omega) (fun y hy hlt => by omega)
      exact Ev.val hx (hfx.unique h0 (firstGap_isFirst hn.1 (gapsOf_gap s a b h1)))
  · rw [if_neg (by simpa using c)]
    exact Ev.step (fun k => by rw [spec_FindRun.j0]) (Ev.pos rfl (Ev.eq rfl))
theorem impl_FindRun_ev (s : ByteArray) (a b n : Int) : Ev (fun k => impl_FindRun.f k s a b n) (findRun s a b n) := by
  unfold impl_FindRun.f findRun
  refine Ev.bindo (impl_isArea_f s a b) (Ev.cases (fun c => ?_) (fun c => ?_))
  · have c : areaOk s a b := by simpa using c
    rw [if_pos c]
    obtain ⟨hm, h0, h1, h2⟩ := c
    refine Ev.bindo (within_f _ _ _) (Ev.step (fun k => by rw [impl_FindRun.j0]) ?_)
    refine Ev.cases (fun e => Ev.eq ?_) (fun e => ?_)
    · rw [if_neg (fun q => by simp [q.1, q.2] at e)]
    · have hn : 1 ≤ n ∧ n ≤ 128 := by simpa using e
      rw [if_pos hn]
      refine Ev.bind (impl_gaps_ev s a b hm h0 h1 h2) ?_
      have hl := (gapsOf_gap s a b h1).length h1
      have l : ∀ (d i : Nat), (gapsOf s a b).length - i = d → i ≤ (gapsOf s a b).length → Ev (fun k => impl_FindRun.l0 k n (gapsOf s a b) ((gapsOf s a b).length : Int) (i : Int)) (firstGap ((gapsOf s a b).drop i) n) := by
        intro d
        induction d with
        | zero =>
          intro i hd hi
          refine Ev.step (fun k => by first | (rw [impl_FindRun.l0]; done) | (rw [impl_FindRun.l0]; rfl)) (Ev.neg (by omega) (Ev.eq ?_))
          rw [List.drop_eq_nil_of_le (by omega)]; rfl
        | succ d ih =>
          intro i hd hi
          have hlt : i < (gapsOf s a b).length := by omega
          refine Ev.step (fun k => by first | (rw [impl_FindRun.l0]; done) | (rw [impl_FindRun.l0]; rfl)) (Ev.pos (by omega) (Ev.pos (by omega) (Ev.pos (by omega) ?_)))
          rw [rdT_get _ i hlt, List.drop_eq_getElem_cons hlt, firstGap, show wrap64 ((i : Int) + 1) = ((i + 1 : Nat) : Int) from by rw [w64 (by omega) (by omega)]; omega]
          refine Ev.cases (fun e => Ev.eq (by rw [if_pos e])) (fun e => ?_)
          rw [if_neg e]
          exact ih (i + 1) (by omega) (by omega)
      exact Ev.val (l _ 0 rfl (by omega)) (by rw [List.drop_zero])
  · rw [if_neg (by simpa using c)]
    exact Ev.step (fun k => by rw [impl_FindRun.j0]) (Ev.pos rfl (Ev.eq rfl))
end Go.Proofs.Ytpeimlpipopeoaa.Pure
namespace Go.Proofs.Ytpeimlpipopeoaa.Pure
open Go.RowKit Go.Proofs.Ytpeimlpipopeoaa.X Go.Proofs.YtpeimlpipopeoaaW.PrintWords Go.Proofs.YtpeimlpipopeoaaW.PrintLast
set_option linter.unusedVariables false
set_option linter.unusedSimpArgs false

theorem eqSpanS_same (a : List S61) (hl : a.length ≤ 1073741824) : Ev (fun k => laws_eqSpanS.f k a a) true := by
  have l : ∀ (d i : Nat), a.length - i = d → i ≤ a.length → Ev (fun k => laws_eqSpanS.l0 k a a (i : Int)) true := by
    intro d
    induction d with
    | zero =>
      intro i hd hi
      refine Ev.step (fun k => by first | (rw [laws_eqSpanS.l0]; done) | (rw [laws_eqSpanS.l0]; rfl)) (Ev.neg (by omega) (Ev.eq rfl))
    | succ d ih =>
      intro i hd hi
      refine Ev.step (fun k => by first | (rw [laws_eqSpanS.l0]; done) | (rw [laws_eqSpanS.l0]; rfl)) (Ev.pos (by omega) (Ev.pos (by omega) (Ev.pos (by omega) ?_)))
      refine Ev.bindo (by unfold laws_eqSpan.f; rw [if_pos rfl, if_pos rfl]) (Ev.pos rfl ?_)
      rw [show wrap64 ((i : Int) + 1) = ((i + 1 : Nat) : Int) from by rw [w64 (by omega) (by omega)]; omega]
      exact ih (i + 1) (by omega) (by omega)
  unfold laws_eqSpanS.f
  exact Ev.pos rfl (l _ 0 rfl (by omega))
def spanMarks (k : Int) (n : Nat) : List S61 := (List.range n).map fun i : Nat => ⟨k + 2 * (i : Int), k + 2 * (i : Int) + 1⟩
theorem spanMarks_length (k : Int) (n : Nat) : (spanMarks k n).length = n := by simp [spanMarks]
theorem markSpanS_ev (g : List S61) (k0 : Int) (h0 : 0 ≤ k0) (h1 : k0 ≤ 1073741824) (hl : g.length ≤ 1073741824) : Ev (fun k => laws_markSpanS.f k g k0) (k0 + 2 * g.length, spanMarks k0 g.length) := by
  have l : ∀ (d i : Nat) (x : List S61), g.length - i = d → i ≤ g.length → x.length = g.length → (∀ m (h : m < x.length), m < i → x[m] = ⟨k0 + 2 * (m : Int), k0 + 2 * (m : Int) + 1⟩) →
      Ev (fun k => laws_markSpanS.l0 k x (k0 + 2 * (i : Int)) (i : Int)) (k0 + 2 * g.length, spanMarks k0 g.length) := by
    intro d
    induction d with
    | zero =>
      intro i x hd hi hx hm
      refine Ev.step (fun k => by first | (rw [laws_markSpanS.l0]; done) | (rw [laws_markSpanS.l0]; rfl)) (Ev.neg (by omega) (Ev.eq ?_))
      obtain rfl : i = g.length := by omega
      refine congrArg (Prod.mk _) (List.ext_getElem (by rw [hx, spanMarks_length]) (fun m h1 h2 => ?_))
      rw [hm m h1 (by omega)]
      simp [spanMarks]
    | succ d ih =>
      intro i x hd hi hx hm
      have hlt : i < x.length := by omega
      refine Ev.step (fun k => by first | (rw [laws_markSpanS.l0]; done) | (rw [laws_markSpanS.l0]; rfl)) (Ev.pos (by omega) (Ev.pos (by omega) (Ev.bindo rfl ?_)))
      rw [rdT_get x i hlt, Int.toNat_natCast, w64 (x := k0 + 2 * (i : Int) + 1) (by omega) (by omega), w64 (x := k0 + 2 * (i : Int) + 1 + 1) (by omega) (by omega), show wrap64 ((i : Int) + 1) = ((i + 1 : Nat) : Int) from by rw [w64 (by omega) (by omega)]; omega]
      rw [rdT_get _ i (by simpa using hlt), show k0 + 2 * (i : Int) + 1 + 1 = k0 + 2 * ((i + 1 : Nat) : Int) from by omega]
      refine ih (i + 1) _ (by omega) (by omega) (by simp [hx]) (fun m h3 h4 => ?_)
      simp only [List.getElem_set]
      split
      · rename_i e; subst e; simp
      · rename_i e
        exact hm m (by simpa using h3) (by omega)
  unfold laws_markSpanS.f
  have h := l _ 0 g rfl (by omega) rfl (fun m _ h => by omega)
  simpa using h
theorem heldSpanS_ev (k0 : Int) (n : Nat) (h0 : 0 ≤ k0) (h1 : k0 ≤ 1073741824) (hn : n ≤ 1073741824) : Ev (fun k => laws_heldSpanS.f k (spanMarks k0 n) k0) (k0 + 2 * n) := by
  have l : ∀ (d i : Nat), n - i = d → i ≤ n → Ev (fun k => laws_heldSpanS.l0 k (spanMarks k0 n) (k0 + 2 * (i : Int)) (i : Int)) (k0 + 2 * n) := by
    intro d
    induction d with
    | zero =>
      intro i hd hi
      refine Ev.step (fun k => by first | (rw [laws_heldSpanS.l0]; done) | (rw [laws_heldSpanS.l0]; rfl)) ?_
      rw [spanMarks_length]
      exact Ev.neg (by omega) (Ev.eq (by omega))
    | succ d ih =>
      intro i hd hi
      refine Ev.step (fun k => by first | (rw [laws_heldSpanS.l0]; done) | (rw [laws_heldSpanS.l0]; rfl)) ?_
      have hlt : i < (spanMarks k0 n).length := by rw [spanMarks_length]; omega
      rw [rdT_get _ i hlt, spanMarks_length, w64 (x := k0 + 2 * (i : Int) + 1) (by omega) (by omega), w64 (x := k0 + 2 * (i : Int) + 1 + 1) (by omega) (by omega), show wrap64 ((i : Int) + 1) = ((i + 1 : Nat) : Int) from by rw [w64 (by omega) (by omega)]; omega]
      refine Ev.pos (by omega) (Ev.pos (by omega) (Ev.pos (by simp [spanMarks]) (Ev.pos (by simp [spanMarks]) ?_)))
      rw [show k0 + 2 * (i : Int) + 1 + 1 = k0 + 2 * ((i + 1 : Nat) : Int) from by omega]
      exact ih (i + 1) (by omega) (by omega)
  unfold laws_heldSpanS.f
  have h := l _ 0 rfl (by omega)
  simpa using h
end Go.Proofs.Ytpeimlpipopeoaa.Pure
namespace Go.Proofs.Ytpeimlpipopeoaa.Pure
open Go.RowKit Go.Proofs.Ytpeimlpipopeoaa.X Go.Proofs.YtpeimlpipopeoaaW.PrintWords Go.Proofs.YtpeimlpipopeoaaW.PrintLast
theorem FnExactGaps : laws_FnExactGaps.Pure := by
  intro s a b _ _ _
  have e1 := spec_Gaps_ev s a b
  have e2 := impl_Gaps_ev s a b
  have hn : (if areaOk s a b then gapsOf s a b else []).length ≤ 1073741824 := by
    split
    · rename_i c
      have h := (gapsOf_gap s a b c.2.2.1).length c.2.2.1
      have := c.2
      omega
    · simp
  generalize (if areaOk s a b then gapsOf s a b else []) = g at *
  refine Ev.rounds ?_
  unfold laws_FnExactGaps.f
  refine Ev.cases (fun _ => Ev.eq rfl) (fun _ => ?_)
  refine Ev.bind e1 (Ev.bind e2 (Ev.bind (eqSpanS_same _ hn) (Ev.pos rfl ?_)))
  refine Ev.bind (markSpanS_ev _ 1 (by omega) (by omega) hn) (Ev.bind (heldSpanS_ev 1 _ (by omega) (by omega) hn) (Ev.neg (by omega) (Ev.pos rfl ?_)))
  refine Ev.bind e2 (Ev.bind (eqSpanS_same _ hn) (Ev.pos rfl ?_))
  exact Ev.bind (heldSpanS_ev 1 _ (by omega) (by omega) hn) (Ev.neg (by omega) (Ev.pos rfl (Ev.eq rfl)))
end Go.Proofs.Ytpeimlpipopeoaa.Pure
namespace Go.Proofs.Ytpeimlpipopeoaa.fnExactGaps
open Go.ChangeShapes Go.WideShapes Go.ChangeAt Go.RowKit
open Go.ChangeMaps (open_string shut_string)
set_option linter.unusedVariables false
theorem own : ownKnob Try.prog.godebug = none := by kernel_rfl
set_option maxRecDepth 100000 in
theorem lifted (os : Os) (started : os.Started) (H : Type) (enc : TypeId × Value → H) :
    ReturnsInHanded {} Try.checked os 14 .any (Rows.fnExactGapsSpec.pre6 enc Try.prog Try.f14 Rows.fnExactGapsRow.domain false) (Rows.fnExactGapsSpec.post enc Try.prog Try.f14 false true false false) := by
  refine returnsInHanded_of_change_sized (C := Try.checked) own started (by kernel_rfl) Try.func14
    (ChangeSpec.witness6 (enc := enc) (C := Try.checked) false ⟨#[], #[.string ByteArray.empty, .int .i64 0, .int .i64 0], []⟩ 8 (by kernel_rfl) (by kernel_rfl) (by kernel_rfl) (by kernel_rfl)) ?_
  intro W base args ds gs before hval0 hW hcnd hsz0 _
  have hsz : (DataW.weightsEach Try.prog (Try.f14.params.toList ++ Rows.fnExactGapsSpec.plain.varTypes Try.prog) (ds ++ gs)).all (· ≤ reachBytes) = true := hsz0
  have hval : ∀ (j : Nat) t v, Try.f14.params[j]? = some t → args[j]? = some v → Value.okWide Try.prog W .any base t v := hval0
  have hW' := hW
  obtain ⟨p, q, hA0, hV, rfl, hfz, hnd⟩ := hW
  have hA : DataW.TrodAll enc Try.prog W 0 (fun _ => true) true Try.f14.params.toList args.toList ds p := hA0
  rw [Try.params14] at hA hval hsz
  obtain ⟨v0, vs0, d0, ds0, p0, q0, hargs, rfl, rfl, h0, r0⟩ := trodAll_cons hA
  obtain ⟨v1, vs1, d1, ds1, p1, q1, rfl, rfl, rfl, h1, r1⟩ := trodAll_cons r0
  obtain ⟨v2, vs2, d2, ds2, p2, q2, rfl, rfl, rfl, h2, r2⟩ := trodAll_cons r1
  obtain ⟨rfl, rfl, rfl⟩ := trodAll_nil r2
  obtain rfl : args = #[v0, v1, v2] := by cases args; simp_all
  obtain ⟨rfl, rfl⟩ := trodVars_none hV
  obtain ⟨a0, rfl, rfl, rfl, y0⟩ := open_string Try.underlying9 (hval 0 9 v0 rfl rfl) h0
  have w0 : a0.size ≤ 140737488351232 := by
    have z := sized_string hsz (j := 0) (t := 9) rfl rfl
    rw [Array.length_toList] at z
    exact z
  obtain ⟨a1, rfl, rfl, rfl, w1⟩ := open_int Try.underlying2 (hval 1 2 v1 rfl rfl) h1
  obtain ⟨a2, rfl, rfl, rfl, w2⟩ := open_int Try.underlying2 (hval 2 2 v2 rfl rfl) h2
  clear hA0 hval0 hsz0 hsz
  refine (X.laws_FnExactGaps.walk Pure.FnExactGaps a0 a1 a2 W w0 w1 w2).mono fun e W' ⟨he, bel⟩ => ?_
  subst he
  exact ⟨_, rfl, _, _, _, [], _, [], hW', trodAll_mk1 (shut_bool Try.underlying4 _), (trodAll_cons_mk (shut_string Try.underlying9 y0) (trodAll_cons_mk (shut_int Try.underlying2 w1) (trodAll_cons_mk (shut_int Try.underlying2 w2) trodAll_mk0))), rfl, bel.frame _, fun h => by cases h⟩
theorem over : Rows.fnExactGapsRow.holds Try.pinned (OpenSpec.ofChange Rows.fnExactGapsSpec) :=
  OpenClaim.holds_of_wide 14 Try.f14 rfl rfl rfl rfl rfl rfl rfl ⟨rfl, rfl, rfl, rfl, rfl⟩ rfl rfl rfl rfl rfl (by kernel_rfl) Try.func14 (by kernel_rfl)
    (of_decide_eq_true (by kernel_rfl)) (by unfold Func.isWrapper; first | (rw [if_pos (by decide +kernel)]; kernel_rfl) | (rw [if_neg (by decide +kernel)]; exact ⟨rfl, rfl⟩))
    (fun os started H enc _ => lifted os started H enc)
theorem proved : Rows.FnExactGapsSaid := over
#print axioms proved
end Go.Proofs.Ytpeimlpipopeoaa.fnExactGaps
namespace Go.Proofs.Ytpeimlpipopeoaa
/-- The row, under a short name, for the claim. -/
theorem fnExactGaps_holds : Rows.FnExactGapsSaid := fnExactGaps.proved
end Go.Proofs.Ytpeimlpipopeoaa
