/- Forwarded: the reference and the program come to the same. For at most 2^20 types of at most 2^20 bytes, lists of at most 2^40 numbers. -/
import Derived.Test.YtnhladaobcnmhaaDoorPObjOk
import Derived.Test.YtnhladaobcnmhaaDoorPAny
import Derived.Test.YtnhladaobcnmhaaDoorPFwd
namespace Go.Proofs.YtnhladaobcnmhaaDoor.Abs.Pu
open Go Go.RowKit
set_option linter.unusedVariables false
set_option linter.unusedSectionVars false
set_option linter.unusedSimpArgs false
theorem refsB_fwd {p : Int → Bool} {t : ByteArray} {f to : List Int} (h : ∀ v, p v = true → p (fwd1 v f to) = true) : ∀ (l : List Int) (i : Nat), refsB p t i l = true → refsB p t i (fwdV t f to i l) = true
  | [], _, _ => rfl
  | v :: l, i, hr => by
    rw [fwdV]
    unfold refsB at hr ⊢
    by_cases c : bt t (i : Int) = 114
    · rw [if_pos c] at hr ⊢
      rw [if_pos c]
      rw [Bool.and_eq_true] at hr ⊢
      exact ⟨h v hr.1, refsB_fwd h l (i + 1) hr.2⟩
    · rw [if_neg c] at hr ⊢
      exact refsB_fwd h l (i + 1) hr
def fwdR (types : List ByteArray) (o : Int × List Int) (f to : List Int) : Int × List Int :=
  if objOkB types o = true then (if f.length = to.length then (if to.length ≤ 400 then (if to.all okRef = true then (o.1, fwdV (rdOf ByteArray.empty types o.1) f to 0 o.2) else (0, [])) else (0, [])) else (0, [])) else (0, [])
/-- The first place of x, or -1. -/
theorem indexInt_ev (x : Int) (f to : List Int) (h : f.length = to.length) (hl : to.length ≤ 400) : ∃ r, Ev (fun k => slices_Index_int64.f k f x) r ∧ ((r = -1 ∧ fwd1 x f to = x) ∨ ∃ j : Nat, r = (j : Int) ∧ j < to.length ∧ fwd1 x f to = rd to (j : Int)) := by
  have key : ∀ i, i ≤ f.length → ∃ r, Ev (fun k => slices_Index_int64.p6 k f x (f.length : Int) (i : Int)) r ∧ ((r = -1 ∧ fwd1 x (f.drop i) (to.drop i) = x) ∨ ∃ j : Nat, r = (j : Int) ∧ j < to.length ∧ fwd1 x (f.drop i) (to.drop i) = rd to (j : Int)) := by
    refine down ?_ ?_
    · refine ⟨-1, Ev.step (fun k => by rw [slices_Index_int64.p6]) ?_, Or.inl ⟨rfl, ?_⟩⟩
      · exact Ev.neg (by omega) (Ev.eq rfl)
      · rw [List.drop_eq_nil_of_le (Nat.le_refl _)]
        unfold fwd1; rfl
    · intro i hi ih
      have hi2 : i < to.length := by omega
      obtain ⟨r, e, hr⟩ := ih
      rw [List.drop_eq_getElem_cons hi, List.drop_eq_getElem_cons hi2, fwd1]
      by_cases c : f[i] = x
      · rw [if_pos c]
        refine ⟨(i : Int), Ev.step (fun k => by rw [slices_Index_int64.p6]) ?_, Or.inr ⟨i, rfl, hi2, (rd_get hi2).symm⟩⟩
        rw [rd_get hi]
        exact Ev.pos (by omega) (Ev.pos (by omega) (Ev.pos (by omega) (Ev.pos c.symm (Ev.eq rfl))))
      · rw [if_neg c]
        refine ⟨r, Ev.step (fun k => by rw [slices_Index_int64.p6]) ?_, hr⟩
        rw [rd_get hi, w64s (i := i) (by omega)]
        exact Ev.pos (by omega) (Ev.pos (by omega) (Ev.pos (by omega) (Ev.neg (fun h => c h.symm) e)))
  unfold slices_Index_int64.f
  exact key 0 (Nat.zero_le _)
theorem objOk_facts {types : List ByteArray} {o : Int × List Int} (h : objOkB types o = true) : typesOk types = true ∧ 0 ≤ o.1 ∧ o.1 < types.length ∧ o.2.length = (rdOf ByteArray.empty types o.1).size ∧ refsB okRef (rdOf ByteArray.empty types o.1) 0 o.2 = true ∧ o.2.length ≤ 23 := by
  unfold objOkB objW at h
  simp only [Bool.and_eq_true, decide_eq_true_eq] at h
  have := type_size h.1 o.1
  exact ⟨h.1, h.2.1.1, by omega, h.2.2.1, h.2.2.2, by omega⟩
theorem spec_Forwarded_ev (types : List ByteArray) (o : Int × List Int) (f to : List Int) (hl : types.length ≤ 1048576) (hs : ∀ x ∈ types, x.size ≤ 1048576) : Ev (fun k => spec_Forwarded.f k types o.1 o.2 f to) (fwdR types o f to) := by
  unfold spec_Forwarded.f fwdR
  refine Ev.bind (spec_ObjOk_ev types o hl hs) ?_
  by_cases ho : objOkB types o = true
  rotate_left
  · rw [if_neg ho]; exact Ev.neg ho (Ev.eq rfl)
  rw [if_pos ho]
  refine Ev.pos ho ?_
  by_cases h : f.length = to.length
  rotate_left
  · rw [if_neg h]; exact Ev.neg (by omega) (Ev.eq rfl)
  rw [if_pos h]
  refine Ev.pos (by omega) ?_
  by_cases h4 : to.length ≤ 400
  rotate_left
  · rw [if_neg h4]; exact Ev.pos (by omega) (Ev.eq rfl)
  rw [if_pos h4]
  refine Ev.neg (by omega) ?_
  obtain ⟨ht, h0, h1, h2, h3, hv⟩ := objOk_facts ho
  have e := l4Forward_ev types o f to h0 h1 h2 (by omega) h h4
  have key : ∀ i, i ≤ to.length → Ev (fun k => spec_Forwarded.p14 k types f to o.1 o.2 0 (i : Int)) (if (to.drop i).all okRef = true then (o.1, fwdV (rdOf ByteArray.empty types o.1) f to 0 o.2) else (0, [])) := by
    refine down ?_ ?_
    · refine Ev.step (fun k => by rw [spec_Forwarded.p14]) ?_
      rw [List.drop_eq_nil_of_le (Nat.le_refl _)]
      exact Ev.neg (by omega) (Ev.bind e (Ev.eq rfl))
    · intro i hi ih
      refine Ev.step (fun k => by rw [spec_Forwarded.p14]) ?_
      rw [rd_get hi, w64s (i := i) (by omega), List.drop_eq_getElem_cons hi, List.all_cons]
      refine Ev.pos (by omega) (Ev.pos (by omega) (Ev.pos (by omega) (Ev.bindo (spec_RefKind_f _) ?_)))
      by_cases c4 : refk to[i] < 0
      · rw [show okRef to[i] = false from decide_eq_false (by omega), Bool.false_and]
        exact Ev.pos c4 (Ev.eq rfl)
      · rw [show okRef to[i] = true from decide_eq_true (by omega), Bool.true_and]
        exact Ev.neg c4 ih
  exact key 0 (Nat.zero_le _)
/-- A list changed place by place. -/
theorem turn_ev {α β : Type} {l l' : List α} (hl : l'.length = l.length) {g : Nat → List α → Int → Option β} {r : β}
    (hs : ∀ i (h : i < l.length) (h' : i < l'.length) (out : List α), out.length = l.length → (ho : i < out.length) → out[i] = l[i] → Ev (fun k => g k (out.set i l'[i]) ((i + 1 : Nat) : Int)) r → Ev (fun k => g k out (i : Int)) r)
    (hf : Ev (fun k => g k l' (l.length : Int)) r) : Ev (fun k => g k l 0) r := by
  have key : ∀ i, i ≤ l.length → ∀ out : List α, out.length = l.length → (∀ j : Nat, j < i → out[j]? = l'[j]?) → (∀ j : Nat, i ≤ j → out[j]? = l[j]?) → Ev (fun k => g k out (i : Int)) r := by
    refine down ?_ ?_
    · intro out ho ht _
      have : out = l' := List.ext_getElem? fun j => by
        by_cases h : j < l.length
        · exact ht j h
        · rw [List.getElem?_eq_none (by omega), List.getElem?_eq_none (by omega)]
      subst this
      exact hf
    · intro i hi ih out ho ht hr
      refine hs i hi (by omega) out ho (by omega) ?_ (ih _ (by rw [List.length_set]; exact ho) (fun j hj => ?_) (fun j hj => ?_))
      · have := hr i (Nat.le_refl _)
        rw [List.getElem?_eq_getElem (by omega), List.getElem?_eq_getElem hi] at this
        exact Option.some.inj this
      · by_cases e : j = i
        · subst e; rw [List.getElem?_set_self (by omega), List.getElem?_eq_getElem (by omega)]
        · rw [List.getElem?_set_ne (fun h => e h.symm)]; exact ht j (by omega)
      · rw [List.getElem?_set_ne (by omega)]; exact hr j (by omega)
  exact key 0 (Nat.zero_le _) _ rfl (fun j hj => by omega) (fun _ _ => rfl)
theorem impl_Forwarded_ev (types : List ByteArray) (o : Int × List Int) (f to : List Int) (hs : ∀ x ∈ types, x.size ≤ 1048576) (hto : to.length ≤ 1099511627776) : Ev (fun k => impl_Forwarded.f k types o.1 o.2 f to) (fwdR types o f to) := by
  unfold impl_Forwarded.f fwdR
  refine Ev.bind (impl_ObjOk_ev types o hs) ?_
  by_cases ho : objOkB types o = true
  rotate_left
  · rw [if_neg ho]; exact Ev.neg ho (Ev.eq rfl)
  rw [if_pos ho]
  refine Ev.pos ho ?_
  by_cases h : f.length = to.length
  rotate_left
  · rw [if_neg h]; exact Ev.neg (by omega) (Ev.eq rfl)
  rw [if_pos h]
  refine Ev.pos (by omega) ?_
  by_cases h4 : to.length ≤ 400
  rotate_left
  · rw [if_neg h4]; exact Ev.pos (by omega) (Ev.eq rfl)
  rw [if_pos h4]
  refine Ev.neg (by omega) ?_
  have hany : Ev (fun k => slices_ContainsFunc_int64_at_impl_Forwarded_1.f k to) (to.any fun x => !okRef x) := by
    unfold slices_ContainsFunc_int64_at_impl_Forwarded_1.f slices_IndexFunc_int64_at_impl_Forwarded_1.f
    refine contains_ev (d := 0) (l := to) hto (g := fun k i => slices_IndexFunc_int64_at_impl_Forwarded_1.p6 k to (to.length : Int) i) (t := fun _ x => impl_Forwarded_1.f x) (f := fun x => !okRef x) (fun k i => by rw [slices_IndexFunc_int64_at_impl_Forwarded_1.p6]; rfl) (fun x hx => ?_)
    unfold impl_Forwarded_1.f
    refine Ev.bindo (impl_RefKind_f x) (Ev.eq ?_)
    unfold okRef
    by_cases c : refk x < 0
    · rw [decide_eq_true c, decide_eq_false (by omega)]; rfl
    · rw [decide_eq_false c, decide_eq_true (by omega)]; rfl
  refine Ev.bind hany ?_
  by_cases h2 : to.all okRef = true
  rotate_left
  · rw [if_neg h2]
    refine Ev.pos ?_ (Ev.eq rfl)
    rw [List.all_eq_not_any_not] at h2
    simpa using h2
  rw [if_pos h2]
  refine Ev.neg (by rw [List.all_eq_not_any_not] at h2; simpa using h2) ?_
  obtain ⟨ht, h0, h1, hz, h3, hv⟩ := objOk_facts ho
  obtain ⟨tp, vals⟩ := o
  simp only [] at *
  have hlen := fwdV_length (rdOf ByteArray.empty types tp) f to vals 0
  have hget := fwdV_get (rdOf ByteArray.empty types tp) f to vals 0
  generalize fwdV (rdOf ByteArray.empty types tp) f to 0 vals = R at *
  refine Ev.bindo (a := vals) (by unfold slices_Clone_int64.f; rw [if_pos (by omega)]) ?_
  refine turn_ev (g := fun k out i => impl_Forwarded.p16 k types f to tp vals 0 tp out vals (vals.length : Int) i) hlen ?_ ?_
  · intro i hi hi' out hol hio hoe ih
    refine Ev.step (fun k => by rw [impl_Forwarded.p16]) ?_
    rw [rd_get hi]
    rw [hget i hi hi', Nat.zero_add] at ih
    have same : out.set i vals[i] = out := by rw [← hoe]; exact List.set_getElem_self hio
    obtain ⟨r, er, hr⟩ := indexInt_ev vals[i] f to h h4
    refine Ev.pos (by omega) (Ev.pos (by omega) (Ev.pos (by omega) (Ev.bind er ?_)))
    have off : out.set i (if bt (rdOf ByteArray.empty types tp) (i : Int) = 114 then fwd1 vals[i] f to else vals[i]) = out → Ev (fun k => impl_Forwarded.p31 k types f to tp vals 0 tp out (i : Int) r vals (vals.length : Int) (i : Int) false) (tp, R) := by
      intro e
      rw [e] at ih
      refine Ev.step (fun k => by rw [impl_Forwarded.p31]) ?_
      rw [w64s (i := i) (by omega)]
      exact Ev.neg (by simp) ih
    rcases hr with ⟨rfl, hr⟩ | ⟨j, rfl, hj, hr⟩
    · refine Ev.neg (by omega) (off ?_)
      rw [hr, ite_self, same]
    · refine Ev.pos (by omega) (Ev.pos h0 (Ev.pos h1 (Ev.pos (by omega) (Ev.pos (by omega) ?_))))
      by_cases c : bt (rdOf ByteArray.empty types tp) (i : Int) = 114
      · rw [if_pos c, hr] at ih
        rw [byteAt_eq, decide_eq_true c]
        refine Ev.step (fun k => by rw [impl_Forwarded.p31]) ?_
        rw [w64s (i := i) (by omega), Int.toNat_natCast]
        exact Ev.pos rfl (Ev.pos (by omega) (Ev.pos (by omega) (Ev.pos (by omega) (Ev.pos (by omega) ih))))
      · rw [byteAt_eq, decide_eq_false c]
        exact off (by rw [if_neg c, same])
  · refine Ev.step (fun k => by rw [impl_Forwarded.p16]) ?_
    exact Ev.neg (by omega) (Ev.eq rfl)
theorem fwdR_length (types : List ByteArray) (o : Int × List Int) (f to : List Int) : (fwdR types o f to).2.length ≤ 23 := by
  unfold fwdR
  repeat' split
  all_goals first
    | exact Nat.zero_le _
    | skip
  rename_i ho _ _ _
  rw [fwdV_length]
  exact (objOk_facts ho).2.2.2.2.2
end Go.Proofs.YtnhladaobcnmhaaDoor.Abs.Pu
