/- What the laws' helpers on slices of int64 come to: a copy is the list itself, the comparison tells equality, marks are read back. For lists of at most 2^40 numbers. -/
import Derived.Test.YtnhladaobcnmhaaQLib
import Derived.Test.YtnhladaobcnmhaaXLawsqtoInt64S
import Derived.Test.YtnhladaobcnmhaaXLawsqeqInt64S
import Derived.Test.YtnhladaobcnmhaaXLawsqmarkInt64S
import Derived.Test.YtnhladaobcnmhaaXLawsqheldInt64S
namespace Go.Proofs.Ytnhladaobcnmhaa.Pure
open Go.RowKit Go.Proofs.Ytnhladaobcnmhaa.X Go.Proofs.YtnhladaobcnmhaaW.PrintWords Go.Proofs.YtnhladaobcnmhaaW.PrintLast
set_option linter.unusedVariables false
set_option linter.unusedSimpArgs false

theorem toInt64S_l (l : List Int) (hl : l.length ≤ 1099511627776) (d : Nat) : ∀ (i : Nat) (x : List Int), l.length - i = d → i ≤ l.length → x.length = l.length → (∀ m (h : m < x.length) (h' : m < l.length), m < i → x[m] = l[m]) →
    Ev (fun k => laws_toInt64S.l0 k l x (i : Int)) l := by
  induction d with
  | zero =>
    intro i x hd hi hx hm
    refine Ev.step (fun k => by rw [laws_toInt64S.l0]) ?_
    refine Ev.neg (by omega) (Ev.eq ?_)
    exact List.ext_getElem hx (fun m h1 h2 => hm m h1 h2 (by omega))
  | succ d ih =>
    intro i x hd hi hx hm
    have hlt : i < l.length := by omega
    refine Ev.step (fun k => by rw [laws_toInt64S.l0]) ?_
    refine Ev.pos (by omega) (Ev.pos (by omega) (Ev.pos (by omega) ?_))
    rw [show wrap64 ((i : Int) + 1) = ((i + 1 : Nat) : Int) from by rw [w64 (by omega) (by omega)]; omega, rd_get hlt]
    refine ih (i + 1) _ (by omega) (by omega) (by simp [hx]) (fun m h1 h2 h3 => ?_)
    rw [List.getElem_set]
    simp only [Int.toNat_natCast]
    split
    · rename_i e; subst e; rfl
    · exact hm m (by simpa using h1) h2 (by omega)
theorem toInt64S_ev (l : List Int) (hl : l.length ≤ 1099511627776) : Ev (fun k => laws_toInt64S.f k l) l := by
  unfold laws_toInt64S.f
  refine Ev.pos (by omega) (Ev.pos (by omega) ?_)
  exact toInt64S_l l hl _ 0 _ rfl (by omega) (by simp) (fun m _ _ h => by omega)

theorem eqInt64S_l (a b : List Int) (hl : a.length ≤ 1099511627776) (he : a.length = b.length) (d : Nat) : ∀ (i : Nat), a.length - i = d → i ≤ a.length → (∀ m (h : m < a.length) (h' : m < b.length), m < i → a[m] = b[m]) →
    Ev (fun k => laws_eqInt64S.l0 k a b (i : Int)) (decide (a = b)) := by
  induction d with
  | zero =>
    intro i hd hi hm
    refine Ev.step (fun k => by rw [laws_eqInt64S.l0]) ?_
    refine Ev.neg (by omega) (Ev.eq ?_)
    exact (decide_eq_true (List.ext_getElem he (fun m h1 h2 => hm m h1 h2 (by omega)))).symm
  | succ d ih =>
    intro i hd hi hm
    have hlt : i < a.length := by omega
    have hlt2 : i < b.length := by omega
    refine Ev.step (fun k => by rw [laws_eqInt64S.l0]) ?_
    refine Ev.pos (by omega) (Ev.pos (by omega) (Ev.pos (by omega) ?_))
    rw [show wrap64 ((i : Int) + 1) = ((i + 1 : Nat) : Int) from by rw [w64 (by omega) (by omega)]; omega, rd_get hlt, rd_get hlt2]
    refine Ev.cases (fun e => ?_) (fun e => Ev.eq ?_)
    · exact ih (i + 1) (by omega) (by omega) (fun m h1 h2 h3 => by
        by_cases h : m = i
        · subst h; exact e
        · exact hm m h1 h2 (by omega))
    · exact (decide_eq_false (fun h => e (by subst h; rfl))).symm
theorem eqInt64S_ev (a b : List Int) (hl : a.length ≤ 1099511627776) : Ev (fun k => laws_eqInt64S.f k a b) (decide (a = b)) := by
  unfold laws_eqInt64S.f
  refine Ev.cases (fun e => ?_) (fun e => Ev.eq ?_)
  · exact eqInt64S_l a b hl (by omega) _ 0 rfl (by omega) (fun m _ _ h => by omega)
  · exact (decide_eq_false (fun h => e (by rw [h]))).symm
theorem eqInt64S_same (a : List Int) (hl : a.length ≤ 1099511627776) : Ev (fun k => laws_eqInt64S.f k a a) true := Ev.val (eqInt64S_ev a a hl) (by simp)

theorem markInt64S_l (k0 : Int) (h0 : 0 ≤ k0) (h1 : k0 ≤ 1099511627776) (n : Nat) (hn : n ≤ 1099511627776) (d : Nat) : ∀ (i : Nat) (x : List Int), n - i = d → i ≤ n → x.length = n → (∀ m (h : m < x.length), m < i → x[m] = k0 + m) →
    Ev (fun k => laws_markInt64S.l0 k x (k0 + i) (i : Int)) (k0 + n, marks k0 n) := by
  induction d with
  | zero =>
    intro i x hd hi hx hm
    refine Ev.step (fun k => by rw [laws_markInt64S.l0]) ?_
    refine Ev.neg (by omega) (Ev.eq ?_)
    obtain rfl : i = n := by omega
    refine congrArg (Prod.mk _) (List.ext_getElem (by rw [hx, marks_length]) (fun m h1 h2 => ?_))
    rw [hm m h1 (by omega)]
    simp [marks]
  | succ d ih =>
    intro i x hd hi hx hm
    have hlt : i < n := by omega
    refine Ev.step (fun k => by rw [laws_markInt64S.l0]) ?_
    refine Ev.pos (by omega) (Ev.pos (by omega) ?_)
    rw [show wrap64 ((i : Int) + 1) = ((i + 1 : Nat) : Int) from by rw [w64 (by omega) (by omega)]; omega, show wrap64 (k0 + (i : Int) + 1) = k0 + ((i + 1 : Nat) : Int) from by rw [w64 (by omega) (by omega)]; omega]
    refine ih (i + 1) _ (by omega) (by omega) (by simp [hx]) (fun m h1 h3 => ?_)
    rw [List.getElem_set]
    simp only [Int.toNat_natCast]
    split
    · rename_i e; subst e; rfl
    · exact hm m (by simpa using h1) (by omega)
theorem markInt64S_ev (l : List Int) (k0 : Int) (h0 : 0 ≤ k0) (h1 : k0 ≤ 1099511627776) (hl : l.length ≤ 1099511627776) : Ev (fun k => laws_markInt64S.f k l k0) (k0 + l.length, marks k0 l.length) := by
  unfold laws_markInt64S.f
  have h := markInt64S_l k0 h0 h1 l.length hl _ 0 l rfl (by omega) rfl (fun m _ h => by omega)
  simpa using h

theorem heldInt64S_l (k0 : Int) (h0 : 0 ≤ k0) (h1 : k0 ≤ 1099511627776) (n : Nat) (hn : n ≤ 1099511627776) (d : Nat) : ∀ (i : Nat), n - i = d → i ≤ n →
    Ev (fun k => laws_heldInt64S.l0 k (marks k0 n) (k0 + i) (i : Int)) (k0 + n) := by
  induction d with
  | zero =>
    intro i hd hi
    refine Ev.step (fun k => by rw [laws_heldInt64S.l0]) ?_
    rw [marks_length]
    exact Ev.neg (by omega) (Ev.eq (by omega))
  | succ d ih =>
    intro i hd hi
    refine Ev.step (fun k => by rw [laws_heldInt64S.l0]) ?_
    rw [marks_length]
    refine Ev.pos (by omega) (Ev.pos (by omega) ?_)
    refine Ev.pos (marks_get k0 n i (by omega)) ?_
    rw [show wrap64 ((i : Int) + 1) = ((i + 1 : Nat) : Int) from by rw [w64 (by omega) (by omega)]; omega, show wrap64 (k0 + (i : Int) + 1) = k0 + ((i + 1 : Nat) : Int) from by rw [w64 (by omega) (by omega)]; omega]
    exact ih (i + 1) (by omega) (by omega)
theorem heldInt64S_ev (k0 : Int) (n : Nat) (h0 : 0 ≤ k0) (h1 : k0 ≤ 1099511627776) (hn : n ≤ 1099511627776) : Ev (fun k => laws_heldInt64S.f k (marks k0 n) k0) (k0 + n) := by
  unfold laws_heldInt64S.f
  have h := heldInt64S_l k0 h0 h1 n hn _ 0 rfl (by omega)
  simpa using h
end Go.Proofs.Ytnhladaobcnmhaa.Pure
