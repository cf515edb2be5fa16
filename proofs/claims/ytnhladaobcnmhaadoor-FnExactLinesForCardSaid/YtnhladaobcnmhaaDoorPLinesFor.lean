/- LinesFor: the reference and the program come to the same. For at most 2^20 types of at most 2^20 bytes. -/
import Derived.Test.YtnhladaobcnmhaaDoorPDisc
import Derived.Test.YtnhladaobcnmhaaDoorPRunOf
namespace Go.Proofs.YtnhladaobcnmhaaDoor.Abs.Pu
open Go Go.RowKit
set_option linter.unusedVariables false
set_option linter.unusedSectionVars false
set_option linter.unusedSimpArgs false
theorem type_at {types : List ByteArray} (ht : typesOk types = true) {t : Int} (h0 : 0 ≤ t) (h1 : t < (types.length : Int)) : typeOk (rdOf ByteArray.empty types t) = true := by
  unfold typesOk at ht
  rw [Bool.and_eq_true, List.all_eq_true] at ht
  unfold rdOf
  rw [List.getD_eq_getElem?_getD, List.getElem?_eq_getElem (by omega)]
  exact ht.2 _ (List.getElem_mem _)
theorem runL_range {types : List ByteArray} (ht : typesOk types = true) (t : Int) : 1 ≤ runL (rdOf ByteArray.empty types t) ∧ runL (rdOf ByteArray.empty types t) ≤ 3 := by
  have := type_size ht t
  unfold runL
  omega
def sumL (types : List ByteArray) (nodes : List (Int × List Int)) (l : List Int) (acc : Int) : Int := l.foldl (fun a x => a + runL (rdOf ByteArray.empty types (rdOf (0, []) nodes x).1)) acc
def linesR (types : List ByteArray) (g : List Int × List (Int × List Int)) : Int := if graphOk types g = true then sumL types g.2 (discG types g) 0 else -1
theorem node_ty {types : List ByteArray} {g : List Int × List (Int × List Int)} (hg : GOk types g) {x : Int} (h0 : 0 ≤ x) (h1 : x < (g.2.length : Int)) : 0 ≤ (rdOf (0, []) g.2 x).1 ∧ (rdOf (0, []) g.2 x).1 < (types.length : Int) := by
  have hm : rdOf (0, []) g.2 x ∈ g.2 := by
    unfold rdOf
    rw [List.getD_eq_getElem?_getD, List.getElem?_eq_getElem (by omega)]
    exact List.getElem_mem _
  have ho := hg.nodes _ hm
  unfold objW at ho
  simp only [Bool.and_eq_true, decide_eq_true_eq] at ho
  omega
theorem impl_LinesFor_ev (types : List ByteArray) (g : List Int × List (Int × List Int)) (hs : ∀ x ∈ types, x.size ≤ 1048576) : Ev (fun k => impl_LinesFor.f k types g.1 g.2) (linesR types g) := by
  unfold impl_LinesFor.f linesR
  refine Ev.bind (impl_GraphOk_ev types g hs) (Ev.cases (fun c => ?_) (fun c => by rw [if_neg c]; exact Ev.eq rfl))
  rw [if_pos c]
  have hg := GOk.of c
  have hd := discG_ok hg
  have hn := hg.nl
  refine Ev.bind (impl_discovered_ev hg) ?_
  generalize discG types g = out at *
  have lp : ∀ i, i ≤ out.length → ∀ acc : Int, 0 ≤ acc → acc ≤ 3 * (i : Int) → Ev (fun k => impl_LinesFor.p16 k types g.1 g.2 acc out (out.length : Int) (i : Int)) (sumL types g.2 (out.drop i) acc) := by
    refine down ?_ ?_
    · intro acc _ _
      rw [List.drop_eq_nil_of_le (Nat.le_refl _)]
      refine Ev.step (fun k => by rw [impl_LinesFor.p16]) ?_
      exact Ev.neg (by omega) (Ev.eq rfl)
    · intro i hi ih acc h0 h1
      have hx := hd.2 _ (List.getElem_mem hi)
      have hL := hd.1
      rw [List.drop_eq_getElem_cons hi]
      refine Ev.step (fun k => by rw [impl_LinesFor.p16]) ?_
      rw [rd_get hi, w64s (i := i) (by omega)]
      generalize out[i] = x at *
      have ht := node_ty hg hx.1 hx.2
      have hr := runL_range hg.ty (rdOf (0, []) g.2 x).1
      have hts := type_size hg.ty (rdOf (0, []) g.2 x).1
      have hih := ih (acc + runL (rdOf ByteArray.empty types (rdOf (0, []) g.2 x).1)) (by omega) (by omega)
      refine Ev.pos (by omega) (Ev.pos (by omega) (Ev.pos (by omega) (Ev.pos hx.1 (Ev.pos hx.2 (Ev.pos ht.1 (Ev.pos ht.2 (Ev.bindo (impl_runOf_f _ (by omega)) ?_)))))))
      rw [w64 (x := acc + runL (rdOf ByteArray.empty types (rdOf (0, []) g.2 x).1)) (by omega) (by omega)]
      exact hih
  have := lp 0 (Nat.zero_le _) 0 (by omega) (by omega)
  rw [List.drop_zero] at this
  exact this
theorem spec_LinesFor_ev (types : List ByteArray) (g : List Int × List (Int × List Int)) (hl : types.length ≤ 1048576) (hs : ∀ x ∈ types, x.size ≤ 1048576) : Ev (fun k => spec_LinesFor.f k types g.1 g.2) (linesR types g) := by
  unfold spec_LinesFor.f linesR
  refine Ev.bind (spec_GraphOk_ev types g hl hs) (Ev.cases (fun c => ?_) (fun c => by rw [if_neg c]; exact Ev.eq rfl))
  rw [if_pos c]
  have hg := GOk.of c
  have hd := discG_ok hg
  have hn := hg.nl
  refine Ev.bind (spec_l7Found_ev hg) ?_
  generalize discG types g = out at *
  have lp : ∀ i, i ≤ out.length → ∀ acc : Int, 0 ≤ acc → acc ≤ 3 * (i : Int) → Ev (fun k => spec_LinesFor.p18 k types g.1 g.2 out acc (i : Int)) (sumL types g.2 (out.drop i) acc) := by
    refine down ?_ ?_
    · intro acc _ _
      rw [List.drop_eq_nil_of_le (Nat.le_refl _)]
      refine Ev.step (fun k => by rw [spec_LinesFor.p18]) ?_
      exact Ev.neg (by omega) (Ev.eq rfl)
    · intro i hi ih acc h0 h1
      have hx := hd.2 _ (List.getElem_mem hi)
      have hL := hd.1
      rw [List.drop_eq_getElem_cons hi]
      refine Ev.step (fun k => by rw [spec_LinesFor.p18]) ?_
      rw [rd_get hi, w64s (i := i) (by omega)]
      generalize out[i] = x at *
      have ht := node_ty hg hx.1 hx.2
      have hr := runL_range hg.ty (rdOf (0, []) g.2 x).1
      have hts := type_size hg.ty (rdOf (0, []) g.2 x).1
      have hok := type_at hg.ty ht.1 ht.2
      have hih := ih (acc + runL (rdOf ByteArray.empty types (rdOf (0, []) g.2 x).1)) (by omega) (by omega)
      have hro := spec_RunOf_ev (rdOf ByteArray.empty types (rdOf (0, []) g.2 x).1) (by omega)
      rw [if_pos hok] at hro
      refine Ev.pos (by omega) (Ev.pos (by omega) (Ev.pos (by omega) (Ev.pos hx.1 (Ev.pos hx.2 (Ev.pos ht.1 (Ev.pos ht.2 (Ev.bind hro ?_)))))))
      rw [w64 (x := acc + runL (rdOf ByteArray.empty types (rdOf (0, []) g.2 x).1)) (by omega) (by omega)]
      exact hih
  have := lp 0 (Nat.zero_le _) 0 (by omega) (by omega)
  rw [List.drop_zero] at this
  exact this
end Go.Proofs.YtnhladaobcnmhaaDoor.Abs.Pu
