/- Rows that are put in order: slices.Sort and slices.Compact at whole numbers. -/
import Derived.Test.YtommgpkeicpokaaDoorAbsPrim
import Derived.Sort.Grow
import Derived.Lib.SlicesCompact
import Derived.Lib.RowBridge
namespace Go.Proofs.YtommgpkeicpokaaDoor.Abs
open Go Go.RowKit
set_option linter.unusedVariables false
set_option linter.unusedSectionVars false
set_option linter.unusedSimpArgs false

def newW (w : World) (n g : Nat) (d : List Int) (os : Array Obj) : World := Sort.grow (Sort.putRow (Value.int .i64) (Sort.ahead w n) g 0 d.toArray) os

theorem newW_at {w : World} {g : Nat} {e : TypeId} {cur : Array Value} (hg : w.heap[g]? = some (.cells cur e (0, 0))) (n : Nat) (d : List Int) (hd : d.length ≤ cur.size) (os : Array Obj) :
    ∃ cur', (newW w n g d os).heap[g]? = some (.cells cur' e (0, 0)) ∧ cur'.size = cur.size ∧ ∀ k, k ≤ d.length → cur'.toList.take k = (d.take k).map (Value.int .i64) := by
  have hlt : g < w.heap.size := (Array.getElem?_eq_some_iff.1 hg).1
  refine ⟨Sort.putCells (Value.int .i64) 0 d.toArray cur, ?_, by simp [Sort.putCells], fun k hk => ?_⟩
  · unfold newW
    rw [Sort.heap_grow_old _ _ (by rw [Sort.size_putRow]; exact hlt)]
    simp only [Sort.putRow, Sort.mapBlock, Sort.ahead, Array.getElem?_modify, if_true, hg, Option.map_some, Sort.onCells]
  · apply List.ext_getElem?
    intro j
    rw [List.getElem?_take, List.getElem?_map, List.getElem?_take]
    by_cases hj : j < k
    · rw [if_pos hj, if_pos hj, Array.getElem?_toList, Sort.putCells, Array.getElem?_mapIdx, Array.getElem?_eq_getElem (by omega), Option.map_some, if_pos ⟨Nat.zero_le _, by simp; omega⟩, List.getElem?_eq_getElem (by omega), Option.map_some]
      congr 2
      rw [Nat.sub_zero, getElem!_pos _ j (by simp; omega)]
      simp
    · rw [if_neg hj, if_neg hj]
      rfl

theorem newW_off (w : World) (n g : Nat) (d : List Int) (os : Array Obj) : Off (fun b => b = g) w (newW w n g d os) := by
  refine ⟨rfl, rfl, rfl, by simp [newW, Sort.ahead], fun b hb hn => ?_⟩
  unfold newW
  rw [Sort.heap_grow_old _ _ (by rw [Sort.size_putRow]; exact hb)]
  have : g ≠ b := fun e => hn e.symm
  simp only [Sort.putRow, Sort.mapBlock, Sort.ahead, Array.getElem?_modify, if_neg this]

theorem holds_row {w : World} {g : Nat} {e : TypeId} {cur : Array Value} (hg : w.heap[g]? = some (.cells cur e (0, 0))) {l : List Int} (ht : cur.toList.take l.length = l.map (Value.int .i64)) : Sort.Holds (Value.int .i64) w g 0 l.toArray := by
  intro j hj
  have hj : j < l.length := by simpa using hj
  refine ⟨?_, by simp [World.frozen?, hg]⟩
  have e1 : cur.toList[j]? = some (Value.int .i64 l[j]) := by
    have := congrArg (·[j]?) ht
    simp only [List.getElem?_take, if_pos hj, List.getElem?_map, List.getElem?_eq_getElem hj, Option.map_some] at this
    exact this
  rw [Nat.zero_add, getElem!_pos _ j (by simpa using hj)]
  simp only [World.cell?, hg, List.getElem_toArray]
  simpa using e1

theorem els_i64 {M : Nat → Prop} {w : World} : {l : List Int} → {xs : List Value} → Els (Ty.KR M w (.int .i64)) l xs → xs = l.map (Value.int .i64)
  | [], _, h => h
  | x :: l, _, ⟨c, r, e, hc, hr⟩ => by
    have hc : c = [.int .i64 x] := hc
    rw [e, hc, els_i64 hr]
    rfl

section
variable {P : Program} {f : FuncId} {e : TypeId}

/-- What the row's variable is, where there are elements. -/
theorem row_some {w : World} {v : Value} {l : List Int} {xs : List Value} (h : w.ownsRow 0 e 1 v l.length xs) (hx : xs = l.map (Value.int .i64)) (h0 : 0 < l.length) : ∃ g cap cur, v = .slice (some ⟨g, 0, none⟩) l.length cap ∧ w.heap[g]? = some (.cells cur e (0, 0)) ∧ l.length ≤ cap ∧ cap ≤ maxLen ∧ cur.size = cap ∧ cur.toList.take l.length = l.map (Value.int .i64) := by
  rcases h.2 with ⟨_, hn⟩ | ⟨g, cap, cur, h1, _, h2, h3, h4, h5, h6⟩
  · omega
  · exact ⟨g, cap, cur, h1, h2, h3, h4, by simpa using h5, by rw [← hx]; simpa using h6⟩

theorem sound_sort {pat : Nat → List AV → List HE → Option (Option (List Int))}
    (hpat : ∀ k avs H o x, pat k avs H = some o → o = some x → ∃ l : List Int, avs = [.own 0] ∧ H = [.row e (.int .i64) l] ∧ l.length < 4611686018427387904 ∧ x = l.mergeSort fun x y => decide (x ≤ y))
    (h : ∀ (blk off cap : Nat) (zs : List Int) (w : World), Sort.Holds (Value.int .i64) w blk off zs.toArray → blk < w.heap.size → zs.length < 4611686018427387904 →
      Calls P f #[.slice (some ⟨blk, off, none⟩) zs.length cap] w fun en w' => en = .returned (.tuple #[]) ∧ ∃ n os, w' = Sort.grow (Sort.putRow (Value.int .i64) (Sort.ahead w n) blk off (zs.mergeSort fun x y => decide (x ≤ y)).toArray) os)
    (hnone : ∀ (A : Option Addr) (cap : Nat) (w : World), Calls P f #[.slice A 0 cap] w fun en w' => en = .returned (.tuple #[]) ∧ w' = w) :
    Sound P f (mkS [.row e (.int .i64)] pat fun r => (.tup [], [.row e (.int .i64) r])) := by
  intro k avs H c x hc hx MX w ρ vals hst
  unfold mkS at hc
  simp only at hc
  split at hc
  case h_2 => cases hc
  rename_i o ho
  injection hc with hc
  subst hc
  obtain ⟨l, rfl, rfl, hl, hxx⟩ := hpat k avs H o x ho hx
  obtain ⟨y0, q0, rfl, ⟨_, rfl, A0, n0, c0, hv0⟩, hq⟩ := hst.args
  obtain rfl : q0 = [] := hq
  obtain ⟨xs, b1, b2⟩ := (show HEok _ w ρ _ 0 (.row e (.int .i64) l) from hst.rel.ok 0)
  by_cases h0 : 0 < l.length
  rotate_left
  · have hl0 : l = [] := List.eq_nil_of_length_eq_zero (by omega)
    subst hl0
    have hx0 : x = [] := by rw [hxx]; simp
    obtain ⟨A, cap, hv⟩ : ∃ A cap, ρ 0 = .slice A 0 cap := by
      rcases b1.2 with ⟨h, _⟩ | ⟨g, cap, cur, h, _⟩
      · exact ⟨none, 0, h⟩
      · exact ⟨_, cap, h⟩
    rw [hd_own b1, hv]
    refine (hnone A cap w).mono ?_
    rintro en w' ⟨rfl, rfl⟩
    refine ⟨_, ρ, rfl, ?_, ⟨[], rfl, rfl⟩, fun _ _ => Old.refl _, Off.refl _ _, fun b _ hb => ?_, fun i cs hi => ?_⟩
    · rw [hx0]; exact hst.rel
    · rw [hx0] at hb; exact hb
    · cases i with
      | zero => cases hi
      | succ i => simp [hpOf] at hi
  obtain ⟨g, cap, cur, e1, e2, e3, e4, e5, e6⟩ := row_some b1 (els_i64 b2) h0
  have live0 : live (hpOf [.row e (.int .i64) l] 0) := trivial
  have blk0 : At (ρ 0) = fun b => (some g : Option Nat) = some b := by rw [e1]; rfl
  have hlt : g < w.heap.size := (Array.getElem?_eq_some_iff.1 e2).1
  have hrun := h g 0 cap l w (holds_row e2 e6) hlt hl
  rw [← hxx] at hrun
  rw [e1]
  refine hrun.mono ?_
  rintro en w' ⟨rfl, n, os, rfl⟩
  have hms : x.length = l.length := by rw [hxx]; exact List.length_mergeSort ..
  obtain ⟨cur', f1, f2, f3⟩ := newW_at e2 n x (by omega) os
  have hoff := newW_off w n g x os
  have cl : ∀ j, live (hpOf [HE.row e (.int .i64) x] j) → j = 0 := by
    intro j hj
    cases j with
    | zero => rfl
    | succ j => simp [hpOf, live] at hj
  have f4 := f3 l.length (by omega)
  rw [List.take_of_length_le (l := x) (by omega)] at f4
  refine ⟨_, ρ, rfl, Left.of hst (fun j => ?_) (fun i j b hi hj hbi hbj => ?_) (fun i b hi hbi hm => ?_) ?_ (fun j hj => Old.refl _) ?_ (fun b hb ⟨i, hi, hbi⟩ => ?_) (fun i cs hi => ?_)⟩
  · cases j with
    | zero =>
      refine ⟨_, ?_, ints_els _⟩
      show (newW w n g x os).ownsRow 0 e 1 (ρ 0) (List.length (α := Int) x) _
      rw [hms, e1]
      exact ⟨by rw [List.length_map]; show List.length (α := Int) x = _; rw [hms, Nat.mul_one], .inr ⟨g, cap, cur', rfl, Nat.zero_le _, f1, e3, e4, by rw [f2, e5, Nat.mul_one], by rw [Nat.mul_one]; exact f4⟩⟩
    | succ j => simp [hpOf, HEok]
  · rw [cl i hi, cl j hj]
  · rw [cl i hi] at hbi
    exact hst.rel.ext 0 b live0 hbi hm
  · exact ⟨[], rfl, rfl⟩
  · exact hoff.mono fun b _ hb => ⟨0, live0, by rw [blk0, hb]⟩
  · rw [cl i hi] at hbi
    exact ⟨0, live0, hbi⟩
  · cases i with
    | zero => cases hi
    | succ i => simp [hpOf] at hi

theorem sound_compact {pat : Nat → List AV → List HE → Option (Option (List Int))}
    (hpat : ∀ k avs H o x, pat k avs H = some o → o = some x → ∃ l : List Int, avs = [.own 0] ∧ H = [.row e (.int .i64) l] ∧ 0 < l.length ∧ x = Lib.compact l)
    (h : ∀ (blk off cap : Nat) (zs : List Int) (w : World), Sort.Holds (Value.int .i64) w blk off zs.toArray → zs.length ≤ 9223372036854775807 → zs.length ≤ cap →
      Calls P f #[.slice (some ⟨blk, off, none⟩) zs.length cap] w fun en w' => en = .returned (.slice (some ⟨blk, off, none⟩) (Lib.compact zs).length cap) ∧ ∃ q, w' = Sort.putRow (Value.int .i64) (Sort.ahead w q) blk off (Lib.compact zs ++ List.replicate (zs.length - (Lib.compact zs).length) 0).toArray) :
    Sound P f (mkS [.row e (.int .i64)] pat fun r => (.own 1, [.gone, .row e (.int .i64) r])) := by
  intro k avs H c x hc hx MX w ρ vals hst
  unfold mkS at hc
  simp only at hc
  split at hc
  case h_2 => cases hc
  rename_i o ho
  injection hc with hc
  subst hc
  obtain ⟨l, rfl, rfl, h0, hxx⟩ := hpat k avs H o x ho hx
  obtain ⟨y0, q0, rfl, ⟨_, rfl, A0, n0, c0, hv0⟩, hq⟩ := hst.args
  obtain rfl : q0 = [] := hq
  obtain ⟨xs, b1, b2⟩ := (show HEok _ w ρ _ 0 (.row e (.int .i64) l) from hst.rel.ok 0)
  obtain ⟨g, cap, cur, e1, e2, e3, e4, e5, e6⟩ := row_some b1 (els_i64 b2) h0
  have live0 : live (hpOf [.row e (.int .i64) l] 0) := trivial
  have blk0 : At (ρ 0) = fun b => (some g : Option Nat) = some b := by rw [e1]; rfl
  have hlt : g < w.heap.size := (Array.getElem?_eq_some_iff.1 e2).1
  have hcl : x.length ≤ l.length := by rw [hxx]; exact Lib.compact_length_le l
  have hrun := h g 0 cap l w (holds_row e2 e6) (Nat.le_trans e3 e4) e3
  rw [← hxx] at hrun
  rw [e1]
  refine hrun.mono ?_
  rintro en w' ⟨rfl, n, hw'⟩
  have hll : (x ++ List.replicate (l.length - x.length) 0).length = l.length := by rw [List.length_append, List.length_replicate]; omega
  have hw' : w' = newW w n g (x ++ List.replicate (l.length - x.length) 0) #[] := by rw [hw', newW, Sort.grow_empty]
  subst hw'
  obtain ⟨cur', f1, f2, f3⟩ := newW_at e2 n (x ++ List.replicate (l.length - x.length) 0) (by omega) #[]
  have hoff := newW_off w n g (x ++ List.replicate (l.length - x.length) 0) #[]
  have f4 := f3 x.length (by omega)
  rw [List.take_left] at f4
  generalize newW w n g (x ++ List.replicate (l.length - x.length) 0) #[] = w' at *
  have cl : ∀ j, live (hpOf [HE.gone, HE.row e (.int .i64) x] j) → j = 1 := by
    intro j hj
    cases j with
    | zero => exact hj.elim
    | succ j => cases j with
      | zero => rfl
      | succ j => simp [hpOf, live] at hj
  have blk1 : At (upd ρ 1 (.slice (some ⟨g, 0, none⟩) x.length cap) 1) = fun b => (some g : Option Nat) = some b := by rw [upd_same]; rfl
  refine ⟨_, upd ρ 1 (.slice (some ⟨g, 0, none⟩) x.length cap), rfl, Left.of hst (fun j => ?_) (fun i j b hi hj hbi hbj => ?_) (fun i b hi hbi hm => ?_) ?_ (fun j hj => ?_) ?_ (fun b hb ⟨i, hi, hbi⟩ => ?_) (fun i cs hi => ?_)⟩
  · cases j with
    | zero => trivial
    | succ j => cases j with
      | zero =>
        refine ⟨_, ?_, ints_els _⟩
        rw [show (0 + 1) = 1 from rfl, upd_same]
        show w'.ownsRow 0 e 1 _ (List.length (α := Int) x) _
        exact ⟨by rw [List.length_map, Nat.mul_one], .inr ⟨g, cap, cur', rfl, Nat.zero_le _, f1, by omega, e4, by rw [f2, e5, Nat.mul_one], by rw [Nat.mul_one]; exact f4⟩⟩
      | succ j => simp [hpOf, HEok]
  · rw [cl i hi, cl j hj]
  · rw [cl i hi, blk1] at hbi
    exact hst.rel.ext 0 b live0 (by rw [blk0]; exact hbi) hm
  · exact ⟨by simp [hpOf], by rw [upd_same]; rfl, ⟨_, _, _, rfl⟩⟩
  · have : j = 0 := by simpa using hj
    rw [upd_ne _ _ (by omega)]
    exact Old.refl _
  · exact hoff.mono fun b _ hb => ⟨0, live0, by rw [blk0, hb]⟩
  · rw [cl i hi, blk1] at hbi
    exact ⟨0, live0, by rw [blk0]; exact hbi⟩
  · cases i with
    | zero => cases hi
    | succ i => simp [hpOf] at hi
end
end Go.Proofs.YtommgpkeicpokaaDoor.Abs
