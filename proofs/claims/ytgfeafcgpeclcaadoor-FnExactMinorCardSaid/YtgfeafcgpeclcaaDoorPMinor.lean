/- Minor: the reference and the program come to the same. For at most 2^20 types of at most 2^20 bytes. -/
import Derived.Test.YtgfeafcgpeclcaaDoorPSum
import Derived.Test.YtgfeafcgpeclcaaDoorPFwd
namespace Go.Proofs.YtgfeafcgpeclcaaDoor.Abs.Pu
open Go Go.RowKit
set_option linter.unusedVariables false
set_option linter.unusedSectionVars false
set_option linter.unusedSimpArgs false
/-- The new references, packed from a word on. -/
def tos (w : Int → Nat) : Nat → List Int → List Int
  | _, [] => []
  | p, x :: l => (2 * (p : Int) + 1) :: tos w (p + w x) l
theorem tos_length (w : Int → Nat) : ∀ (l : List Int) (p : Nat), (tos w p l).length = l.length
  | [], _ => rfl
  | x :: l, p => by rw [tos, List.length_cons, tos_length w l, List.length_cons]
/-- A header, one age older. -/
def ageUp (h : Int) : Int := 4 * (h / 4) + (if h % 4 + 1 < 3 then h % 4 + 1 else 3)
def newW (types : List ByteArray) (words f to : List Int) : List Int → List Int
  | [] => []
  | x :: l => (ageUp (rd words (x / 2)) :: fwdV (kindsAt types (rd words (x / 2))) f to 0 (valsAt types words (x / 2).toNat)) ++ newW types words f to l
def toP (types : List ByteArray) (words out : List Int) : List Int := tos (wr types words) 0 out
def minorR (types : List ByteArray) (sz : Int) (words roots : List Int) : Int × List Int × List Int × Bool :=
  if (closR types sz words roots).2 = true then (sz, newW types words (closR types sz words roots).1 (toP types words (closR types sz words roots).1) (closR types sz words roots).1, roots.map (fun x => fwd1 x (closR types sz words roots).1 (toP types words (closR types sz words roots).1)), true) else (0, [], [], false)
/-- One found object: all that the loops ask. -/
theorem CloF.at_ {types : List ByteArray} {words roots out : List Int} (C : CloF types words roots out) {x : Int} (hx : x ∈ out) : ∃ m : Nat, x / 2 = m ∧ wrap64 (Int.tdiv x 2) = m ∧ m < words.length ∧ 0 ≤ rd words m ∧ rd words m ≤ 9223372036854775807 ∧ rd words m / 4 < types.length ∧ types.length ≤ 12 ∧ Fits types words (m : Int) ∧ (valsAt types words m).length = (kindsAt types (rd words m)).size ∧ (kindsAt types (rd words m)).size ≤ 23 ∧ wr types words x = 1 + (kindsAt types (rd words m)).size := by
  obtain ⟨_, m, e0, e1, e2, hf⟩ := C.young x hx
  have hv := vals_length hf
  have hk := parse_size C.ht (rd words m)
  obtain ⟨m', e', h1, h2, h3, h4⟩ := id hf
  obtain rfl : m' = m := by omega
  have hr := rd_range C.ints h1
  exact ⟨m', e1, e2, h1, h2, hr.2, h3, (types_length C.ht).2, hf, hv, hk, by unfold wr wt; rw [e1]⟩
theorem newW_length {types : List ByteArray} {words roots out : List Int} (C : CloF types words roots out) (f to : List Int) : ∀ l : List Int, (∀ x ∈ l, x ∈ out) → (newW types words f to l).length = (l.map (wr types words)).sum
  | [], _ => rfl
  | x :: l, h => by
    obtain ⟨m, e1, _, _, _, _, _, _, _, hv, _, hw⟩ := C.at_ (h x (by simp))
    rw [newW, List.length_append, List.length_cons, fwdV_length, newW_length C f to l (fun y hy => h y (List.mem_cons_of_mem _ hy)), List.map_cons, List.sum_cons, hw, e1, Int.toNat_natCast, hv]
    omega
/-! ### the reference -/
theorem spec_header (h t : Int) (h0 : 0 ≤ h) (h1 : h ≤ 9223372036854775807) : wrap64 (wrap64 (4 * (h / 4)) + (if 3 < wrap64 (Int.tmod h 4 + 1) then 3 else wrap64 (Int.tmod h 4 + 1))) = ageUp h := by
  unfold ageUp
  rw [Int.tmod_eq_emod_of_nonneg h0, w64 (x := h % 4 + 1) (by omega) (by omega), w64 (x := 4 * (h / 4)) (by omega) (by omega)]
  by_cases c : 3 < h % 4 + 1
  · rw [if_pos c, if_neg (by omega), w64 (by omega) (by omega)]
  · rw [if_neg c]
    by_cases c2 : h % 4 + 1 < 3
    · rw [if_pos c2, w64 (by omega) (by omega)]
    · rw [if_neg c2, w64 (by omega) (by omega)]
      omega
theorem impl_header (h t : Int) (h0 : 0 ≤ h) (h1 : h ≤ 9223372036854775807) : wrap64 (wrap64 (4 * (h / 4)) + (if wrap64 (Int.tmod h 4 + 1) < 3 then wrap64 (Int.tmod h 4 + 1) else 3)) = ageUp h := by
  unfold ageUp
  rw [Int.tmod_eq_emod_of_nonneg h0, w64 (x := h % 4 + 1) (by omega) (by omega), w64 (x := 4 * (h / 4)) (by omega) (by omega)]
  by_cases c : h % 4 + 1 < 3
  · rw [if_pos c, w64 (by omega) (by omega)]
  · rw [if_neg c, w64 (by omega) (by omega)]
theorem mid_get {out pre : List Int} {x : Int} {l : List Int} (h : out = pre ++ x :: l) : pre.length < out.length ∧ rd out (pre.length : Int) = x ∧ out = (pre ++ [x]) ++ l ∧ (pre ++ [x]).length = pre.length + 1 := by
  subst h
  have hl : pre.length < (pre ++ x :: l).length := by simp
  refine ⟨hl, ?_, by simp, by simp⟩
  rw [rd_get hl, List.getElem_append_right (Nat.le_refl _)]
  simp
theorem spec_l8Minor_ev {types : List ByteArray} {sz : Int} {words roots st : List Int} (hst : headsR types sz words = some st) (hi : ∀ x ∈ words, -9223372036854775808 ≤ x ∧ x ≤ 9223372036854775807) (hro : ∀ x ∈ roots, refOk st x = true) (hrl : roots.length ≤ 400) :
    Ev (fun k => spec_l8Minor.f k types sz words roots) (sz, newW types words (closureP types words roots) (toP types words (closureP types words roots)) (closureP types words roots), roots.map (fun x => fwd1 x (closureP types words roots) (toP types words (closureP types words roots)))) := by
  have C := cloF_of hst hi hro
  unfold spec_l8Minor.f
  refine Ev.bind (spec_l8Closure_ev hst hi hro (by omega)) ?_
  clear hst hro
  generalize closureP types words roots = out at *
  have hol := C.ol
  have hwl := C.wl
  have hsum := C.sum
  have hto : (toP types words out).length = out.length := tos_length _ _ _
  generalize hT : toP types words out = to at *
  -- the roots
  have l3 : Ev (fun k => spec_l8Minor.p52 k roots 0 out to sz (newW types words out to out) [] 0) (sz, newW types words out to out, roots.map (fun x => fwd1 x out to)) := by
    generalize newW types words out to out = W
    have key : ∀ i, i ≤ roots.length → Ev (fun k => spec_l8Minor.p52 k roots 0 out to sz W ((roots.map (fun x => fwd1 x out to)).take i) (i : Int)) (sz, W, roots.map (fun x => fwd1 x out to)) := by
      have hml : (roots.map (fun x => fwd1 x out to)).length = roots.length := by simp
      refine down ?_ ?_
      · refine Ev.step (fun k => by rw [spec_l8Minor.p52]) ?_
        rw [List.take_of_length_le (by omega)]
        exact Ev.neg (by omega) (Ev.eq rfl)
      · intro i hi2 ih
        refine Ev.step (fun k => by rw [spec_l8Minor.p52]) ?_
        rw [rd_get hi2, w64s (i := i) (by omega)]
        rw [take_snoc2 _ i (by omega), List.getElem_map] at ih
        exact Ev.pos (by omega) (Ev.pos (by omega) (Ev.pos (by omega) (Ev.bind (l4To_ev _ out to (by omega) (by omega)) (Ev.pos (by rw [List.length_take]; omega) ih))))
    exact key 0 (Nat.zero_le _)
  -- the words
  have l2 : ∀ (l pre acc : List Int), out = pre ++ l → acc.length + (l.map (wr types words)).sum ≤ 400 → acc ++ newW types words out to l = newW types words out to out → Ev (fun k => spec_l8Minor.p31 k types roots sz words 0 out to sz acc (pre.length : Int)) (sz, newW types words out to out, roots.map (fun x => fwd1 x out to)) := by
    intro l
    induction l with
    | nil =>
      intro pre acc he ha hn
      refine Ev.step (fun k => by rw [spec_l8Minor.p31]) ?_
      have : out.length = pre.length := by rw [he]; simp
      rw [newW, List.append_nil] at hn
      rw [hn]
      exact Ev.neg (by omega) l3
    | cons x l ih =>
      intro pre acc he ha hn
      obtain ⟨p1, p2, p3, p4⟩ := mid_get he
      obtain ⟨m, e1, e2, h1, h2, h3, h4, h5, hf, hv, hk, hw⟩ := C.at_ (x := x) (by rw [he]; simp)
      rw [List.map_cons, List.sum_cons, hw] at ha
      rw [newW, e1, Int.toNat_natCast] at hn
      have hfl := fwdV_length (kindsAt types (rd words m)) out to (valsAt types words m) 0
      have ih := ih (pre ++ [x]) (acc ++ [ageUp (rd words m)] ++ fwdV (kindsAt types (rd words m)) out to 0 (valsAt types words m)) p3 (by simp only [List.length_append, List.length_cons, List.length_nil]; omega) (by rw [← hn]; simp)
      refine Ev.step (fun k => by rw [spec_l8Minor.p31]) ?_
      rw [p2, e2, w64s (i := pre.length) (by omega)]
      rw [p4] at ih
      have ho := l8Obj_f types words sz m C.ht C.wl C.ints hf
      have hF := l4Forward_ev types (rd words m / 4, valsAt types words m) out to (by simp only []; omega) h4 hv (by simp only []; omega) (by omega) (by omega)
      have hh := spec_header (rd words m) 0 h2 h3
      refine Ev.pos (by omega) (Ev.pos (by omega) (Ev.pos (by omega) (Ev.pos (by omega) (Ev.pos (by omega) (Ev.pos (by omega) (Ev.pos (by omega) (Ev.bindo ho (Ev.bind hF ?_))))))))
      simp only []
      rw [hh]
      refine Ev.pos (by omega) (Ev.pos ?_ ih)
      show (acc ++ [ageUp (rd words m)]).length + (fwdV (kindsAt types (rd words m)) out to 0 (valsAt types words m)).length ≤ _
      simp only [List.length_append, List.length_cons, List.length_nil]
      omega
  -- the new references
  have l1 : ∀ (l pre acc : List Int) (p : Nat), out = pre ++ l → acc.length = pre.length → p + (l.map (wr types words)).sum ≤ 400 → acc ++ tos (wr types words) p l = to → Ev (fun k => spec_l8Minor.p12 k types roots sz words 0 out acc (p : Int) (pre.length : Int)) (sz, newW types words out to out, roots.map (fun x => fwd1 x out to)) := by
    intro l
    induction l with
    | nil =>
      intro pre acc p he ha hp hn
      refine Ev.step (fun k => by rw [spec_l8Minor.p12]) ?_
      have : out.length = pre.length := by rw [he]; simp
      rw [tos, List.append_nil] at hn
      rw [hn]
      exact Ev.neg (by omega) (l2 out [] [] rfl (by simp only [List.length_nil]; omega) rfl)
    | cons x l ih =>
      intro pre acc p he ha hp hn
      obtain ⟨p1, p2, p3, p4⟩ := mid_get he
      obtain ⟨m, e1, e2, h1, h2, h3, h4, h5, hf, hv, hk, hw⟩ := C.at_ (x := x) (by rw [he]; simp)
      rw [List.map_cons, List.sum_cons] at hp
      rw [tos] at hn
      have ih := ih (pre ++ [x]) (acc ++ [2 * (p : Int) + 1]) (p + wr types words x) p3 (by simp only [List.length_append, List.length_cons, List.length_nil]; omega) (by omega) (by rw [← hn]; simp)
      have ho := l8Obj_f types words sz m C.ht C.wl C.ints hf
      refine Ev.step (fun k => by rw [spec_l8Minor.p12]) ?_
      rw [p2, e2, w64s (i := pre.length) (by omega)]
      rw [p4] at ih
      refine Ev.pos (by omega) (Ev.pos (by omega) (Ev.pos (by omega) (Ev.pos (by omega) (Ev.bindo ho ?_))))
      simp only []
      rw [w64 (x := 2 * (p : Int)) (by omega) (by omega), w64 (x := 2 * (p : Int) + 1) (by omega) (by omega), w64 (x := (p : Int) + 1) (by omega) (by omega), w64 (x := (p : Int) + 1 + ((valsAt types words m).length : Int)) (by omega) (by omega)]
      rw [show (p : Int) + 1 + ((valsAt types words m).length : Int) = ((p + wr types words x : Nat) : Int) from by omega]
      exact ih
  exact l1 out [] [] 0 rfl rfl (by omega) hT
theorem spec_Minor_ev (types : List ByteArray) (sz : Int) (words roots : List Int) (hl : types.length ≤ 1048576) (hs : ∀ x ∈ types, x.size ≤ 1048576) (hw : ∀ x ∈ words, -9223372036854775808 ≤ x ∧ x ≤ 9223372036854775807) : Ev (fun k => spec_Minor.f k types sz words roots) (minorR types sz words roots) := by
  unfold spec_Minor.f minorR
  have e := spec_l8Roots_ev types sz words roots hl hs hw
  by_cases c : (closR types sz words roots).2 = true
  · rw [if_pos c]
    obtain ⟨st, hst, hrl, hro, e2⟩ := closR_yes c
    rw [e2]
    have e3 := spec_l8Minor_ev hst hw hro hrl
    refine Ev.bind e ?_
    rw [hst]
    refine Ev.pos ?_ (Ev.bind e3 (Ev.eq rfl))
    simp only [Bool.and_eq_true, decide_eq_true_eq]
    exact ⟨hrl, List.all_eq_true.2 hro⟩
  · rw [if_neg c]
    refine Ev.bind e ?_
    unfold closR at c
    cases h : headsR types sz words with
    | none => exact Ev.neg (by simp) (Ev.eq rfl)
    | some st =>
      rw [h] at c
      refine Ev.neg (fun hc => ?_) (Ev.eq rfl)
      simp only [Bool.and_eq_true, decide_eq_true_eq] at hc
      simp only [if_pos hc.1, if_pos hc.2] at c
      exact c trivial
/-! ### the program -/
def mapOf (w : Int → Nat) : Nat → (Int → Option Int) → List Int → (Int → Option Int)
  | _, m, [] => m
  | p, m, x :: l => mapOf w (p + w x) (mput m x (2 * (p : Int) + 1)) l
theorem mapOf_not (w : Int → Nat) {x : Int} : ∀ (l : List Int) (p : Nat) (m : Int → Option Int), x ∉ l → mapOf w p m l x = m x
  | [], _, _, _ => rfl
  | y :: l, p, m, h => by
    rw [mapOf, mapOf_not w l _ _ (fun hm => h (List.mem_cons_of_mem _ hm))]
    unfold mput
    rw [if_neg (fun e => h (by simp [e]))]
theorem mapOf_get (w : Int → Nat) {x : Int} : ∀ (l : List Int) (p : Nat) (m : Int → Option Int), l.Nodup → x ∈ l → (mapOf w p m l x).getD 0 = fwd1 x l (tos w p l)
  | y :: l, p, m, hn, h => by
    rw [List.nodup_cons] at hn
    rw [mapOf, tos, fwd1]
    by_cases c : y = x
    · subst c
      rw [if_pos rfl, mapOf_not w l _ _ hn.1]
      unfold mput
      rw [if_pos rfl]
      rfl
    · rw [if_neg c]
      exact mapOf_get w l _ _ hn.2 (by rcases List.mem_cons.1 h with h | h; exact absurd h.symm c; exact h)
theorem youngRef_f (p : Nat) (h : p ≤ 399) : impl_YoungRef.f (p : Int) = some (2 * (p : Int) + 1) := by
  unfold impl_YoungRef.f
  rw [within_f, Option.bind_some, if_pos (by simp; omega), w64 (x := 2 * (p : Int)) (by omega) (by omega), w64 (by omega) (by omega)]
theorem minor1_f {types : List ByteArray} {words roots out : List Int} (C : CloF types words roots out) (x : Int) (hx : refk x = 2 → x ∈ out) : impl_Minor_1.f x (mapOf (wr types words) 0 (fun _ => none) out) = some (mapOf (wr types words) 0 (fun _ => none) out, fwd1 x out (toP types words out)) := by
  unfold impl_Minor_1.f
  rw [impl_isYoung_f, Option.bind_some]
  by_cases c : refk x = 2
  · rw [if_pos (by simpa using c), mapOf_get _ _ _ _ C.nd (hx c)]
    rfl
  · rw [if_neg (by simpa using c), fwd1_not (fun hm => c (C.young x hm).1)]
theorem impl_Minor_ev (types : List ByteArray) (sz : Int) (words roots : List Int) (hs : ∀ x ∈ types, x.size ≤ 1048576) (hi : ∀ x ∈ words, -9223372036854775808 ≤ x ∧ x ≤ 9223372036854775807) : Ev (fun k => impl_Minor.f k types sz words roots) (minorR types sz words roots) := by
  unfold impl_Minor.f minorR
  refine Ev.bind (impl_YoungClosure_ev types sz words roots hs hi) ?_
  by_cases c : (closR types sz words roots).2 = true
  rotate_left
  · rw [if_neg c]
    exact Ev.neg c (Ev.eq rfl)
  rw [if_pos c]
  refine Ev.pos c ?_
  obtain ⟨st, hst, hrl, hro, e2⟩ := closR_yes c
  rw [e2]
  have C := cloF_of hst hi hro
  clear hst hro e2 c
  simp only []
  generalize closureP types words roots = out at *
  have hol := C.ol
  have hwl := C.wl
  have hsum := C.sum
  have hM := fun x hx => minor1_f C x hx
  have hto : (toP types words out).length = out.length := tos_length _ _ _
  generalize hT : toP types words out = to at *
  generalize hMM : mapOf (wr types words) 0 (fun _ => none) out = M at *
  -- the roots
  have l3 : Ev (fun k => impl_Minor.p89 k 0 M sz (newW types words out to out) [] roots (roots.length : Int) 0) (sz, newW types words out to out, roots.map (fun x => fwd1 x out to), true) := by
    generalize newW types words out to out = W
    have key : ∀ i, i ≤ roots.length → Ev (fun k => impl_Minor.p89 k 0 M sz W ((roots.map (fun x => fwd1 x out to)).take i) roots (roots.length : Int) (i : Int)) (sz, W, roots.map (fun x => fwd1 x out to), true) := by
      have hml : (roots.map (fun x => fwd1 x out to)).length = roots.length := by simp
      refine down ?_ ?_
      · refine Ev.step (fun k => by rw [impl_Minor.p89]) ?_
        rw [List.take_of_length_le (by omega)]
        exact Ev.neg (by omega) (Ev.eq rfl)
      · intro i hi2 ih
        have hm := hM roots[i] (C.rin _ (List.getElem_mem hi2))
        refine Ev.step (fun k => by rw [impl_Minor.p89]) ?_
        rw [rd_get hi2, w64s (i := i) (by omega)]
        rw [take_snoc2 _ i (by omega), List.getElem_map] at ih
        exact Ev.pos (by omega) (Ev.pos (by omega) (Ev.pos (by omega) (Ev.bindo hm (Ev.pos (by rw [List.length_take]; omega) ih))))
    exact key 0 (Nat.zero_le _)
  -- the words
  have l2 : ∀ (l pre acc : List Int), out = pre ++ l → acc.length + (l.map (wr types words)).sum ≤ 400 → acc ++ newW types words out to l = newW types words out to out → Ev (fun k => impl_Minor.p43 k types roots sz words 0 M sz acc out (out.length : Int) (pre.length : Int)) (sz, newW types words out to out, roots.map (fun x => fwd1 x out to), true) := by
    intro l
    induction l with
    | nil =>
      intro pre acc he ha hn
      refine Ev.step (fun k => by rw [impl_Minor.p43]) ?_
      have : out.length = pre.length := by rw [he]; simp
      rw [newW, List.append_nil] at hn
      rw [hn]
      exact Ev.neg (by omega) l3
    | cons x l ih =>
      intro pre acc he ha hn
      have hxo : x ∈ out := by rw [he]; simp
      obtain ⟨p1, p2, p3, p4⟩ := mid_get he
      obtain ⟨m, e1, e2, h1, h2, h3, h4, h5, hf, hv, hk, hw⟩ := C.at_ (x := x) hxo
      have hcl := C.closed x hxo
      rw [e1, Int.toNat_natCast] at hcl
      rw [List.map_cons, List.sum_cons, hw] at ha
      rw [newW, e1, Int.toNat_natCast] at hn
      have hfl := fwdV_length (kindsAt types (rd words m)) out to (valsAt types words m) 0
      have hfg := fwdV_get (kindsAt types (rd words m)) out to (valsAt types words m) 0
      have ih := ih (pre ++ [x]) (acc ++ [ageUp (rd words m)] ++ fwdV (kindsAt types (rd words m)) out to 0 (valsAt types words m)) p3 (by simp only [List.length_append, List.length_cons, List.length_nil]; omega) (by rw [← hn]; simp)
      have ho := youngObject_f types words sz m C.ht C.wl C.ints hf
      have hh := impl_header (rd words m) 0 h2 h3
      refine Ev.step (fun k => by rw [impl_Minor.p43]) ?_
      rw [p2, e2]
      refine Ev.pos (by omega) (Ev.pos (by omega) (Ev.pos (by omega) (Ev.bindo ho (Ev.pos (by omega) (Ev.pos (by omega) (Ev.pos (by omega) ?_))))))
      simp only []
      rw [hh]
      rw [p4] at ih
      have hkk : rdOf ByteArray.empty types (rd words (m : Int) / 4) = kindsAt types (rd words m) := rfl
      have hd0 : 0 ≤ rd words (m : Int) / 4 := by omega
      have hal : (acc ++ [ageUp (rd words (m : Int))]).length = acc.length + 1 := by simp
      have hws := w64s (i := pre.length) (by omega)
      clear hn hh l3 ho he p2 p3 e1 e2 hT hMM
      generalize rd words (m : Int) / 4 = tp at *
      generalize acc ++ [ageUp (rd words (m : Int))] = acc2 at *
      generalize kindsAt types (rd words (m : Int)) = kk at *
      generalize valsAt types words m = vals at *
      generalize hFV : fwdV kk out to 0 vals = F at *
      have key : ∀ q, q ≤ vals.length → Ev (fun k => impl_Minor.p63 k types roots sz words 0 M sz (acc2 ++ F.take q) tp vals out (out.length : Int) (pre.length : Int) (vals.length : Int) (q : Int)) (sz, newW types words out to out, roots.map (fun x => fwd1 x out to), true) := by
        refine down ?_ ?_
        · refine Ev.step (fun k => by rw [impl_Minor.p63]) ?_
          rw [List.take_of_length_le (by omega), hws]
          exact Ev.neg (by omega) ih
        · intro q hq ihq
          have hq2 : q < F.length := by omega
          have hg := hfg q hq hq2
          rw [Nat.zero_add] at hg
          have hle : (acc2 ++ F.take q).length + 1 ≤ 17592186044416 := by rw [List.length_append, List.length_take]; omega
          rw [take_snoc2 F q hq2, ← List.append_assoc, hg] at ihq
          refine Ev.step (fun k => by rw [impl_Minor.p63]) ?_
          rw [rd_get hq, w64s (i := q) (by omega), hkk]
          refine Ev.pos (by omega) (Ev.pos (by omega) (Ev.pos (by omega) (Ev.pos hd0 (Ev.pos h4 (Ev.pos (by omega) (Ev.pos (by omega) ?_))))))
          by_cases c : bt kk (q : Int) = 114
          · rw [if_pos c] at ihq
            exact Ev.pos c (Ev.bindo (hM vals[q] (fun hr => hcl q hq c hr)) (Ev.pos hle ihq))
          · rw [if_neg c] at ihq
            exact Ev.neg c (Ev.pos hle ihq)
      have := key 0 (Nat.zero_le _)
      rw [List.take_zero, List.append_nil] at this
      exact this
  -- the new references
  have l1 : ∀ (l pre : List Int) (m : Int → Option Int) (p : Nat), out = pre ++ l → p + (l.map (wr types words)).sum ≤ words.length → mapOf (wr types words) p m l = M → Ev (fun k => impl_Minor.p20 k types roots sz words 0 out m (p : Int) (out.length : Int) (pre.length : Int)) (sz, newW types words out to out, roots.map (fun x => fwd1 x out to), true) := by
    intro l
    induction l with
    | nil =>
      intro pre mm p he hp hn
      refine Ev.step (fun k => by rw [impl_Minor.p20]) ?_
      have : out.length = pre.length := by rw [he]; simp
      rw [mapOf] at hn
      rw [hn]
      exact Ev.neg (by omega) (l2 out [] [] rfl (by simp only [List.length_nil]; omega) rfl)
    | cons x l ih =>
      intro pre mm p he hp hn
      obtain ⟨p1, p2, p3, p4⟩ := mid_get he
      obtain ⟨m, e1, e2, h1, h2, h3, h4, h5, hf, hv, hk, hw⟩ := C.at_ (x := x) (by rw [he]; simp)
      rw [List.map_cons, List.sum_cons] at hp
      rw [mapOf] at hn
      have ih := ih (pre ++ [x]) _ (p + wr types words x) p3 (by omega) hn
      rw [p4] at ih
      have ht4 : wrap64 (Int.tdiv (rd words (m : Int)) 4) = rd words (m : Int) / 4 := by rw [tdiv4 h2, w64 (by omega) (by omega)]
      refine Ev.step (fun k => by rw [impl_Minor.p20]) ?_
      rw [p2, e2, w64s (i := pre.length) (by omega), ht4]
      have hkk : rdOf ByteArray.empty types (rd words (m : Int) / 4) = kindsAt types (rd words m) := rfl
      rw [hkk, w64 (x := 1 + ((kindsAt types (rd words (m : Int))).size : Int)) (by omega) (by omega), w64 (x := (p : Int) + (1 + ((kindsAt types (rd words (m : Int))).size : Int))) (by omega) (by omega)]
      rw [show (p : Int) + (1 + ((kindsAt types (rd words (m : Int))).size : Int)) = ((p + wr types words x : Nat) : Int) from by omega]
      exact Ev.pos (by omega) (Ev.pos (by omega) (Ev.pos (by omega) (Ev.bindo (youngRef_f p (by omega)) (Ev.pos (by omega) (Ev.pos (by omega) (Ev.pos (by omega) (Ev.pos h4 ih)))))))
  exact l1 out [] _ 0 rfl (by omega) hMM
theorem minorR_lengths (types : List ByteArray) (sz : Int) (words roots : List Int) (hi : ∀ x ∈ words, -9223372036854775808 ≤ x ∧ x ≤ 9223372036854775807) : (minorR types sz words roots).2.1.length ≤ 400 ∧ (minorR types sz words roots).2.2.1.length ≤ 400 := by
  unfold minorR
  by_cases c : (closR types sz words roots).2 = true
  · rw [if_pos c]
    obtain ⟨st, hst, hrl, hro, e2⟩ := closR_yes c
    have C := cloF_of hst hi hro
    rw [e2]
    have := newW_length C (closureP types words roots) (toP types words (closureP types words roots)) (closureP types words roots) (fun _ h => h)
    have h1 := C.sum
    have h2 := C.wl
    exact ⟨by simp only []; omega, by simp only [List.length_map]; omega⟩
  · rw [if_neg c]
    exact ⟨Nat.zero_le _, Nat.zero_le _⟩
end Go.Proofs.YtgfeafcgpeclcaaDoor.Abs.Pu
