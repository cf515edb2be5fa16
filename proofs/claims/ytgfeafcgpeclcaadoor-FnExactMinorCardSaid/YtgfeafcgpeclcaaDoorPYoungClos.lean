/- YoungClosure: what the reference and the program come to. For at most 2^20 types of at most 2^20 bytes. -/
import Derived.Test.YtgfeafcgpeclcaaDoorPYoung
import Derived.Test.YtgfeafcgpeclcaaDoorPYoungObj
namespace Go.Proofs.YtgfeafcgpeclcaaDoor.Abs.Pu
open Go Go.RowKit
set_option linter.unusedVariables false
set_option linter.unusedSectionVars false
set_option linter.unusedSimpArgs false
theorem nodup_le : ∀ (l m : List Int), l.Nodup → (∀ x ∈ l, x ∈ m) → l.length ≤ m.length
  | [], m, _, _ => Nat.zero_le _
  | x :: l, m, hn, h => by
    have hx := h x (by simp)
    rw [List.nodup_cons] at hn
    have h1 := nodup_le l (m.erase x) hn.2 (fun y hy => by
      have hne : y ≠ x := fun e => hn.1 (e ▸ hy)
      exact (List.mem_erase_of_ne hne).2 (h y (by simp [hy])))
    have h2 := List.length_erase_of_mem hx
    have h3 := List.length_pos_of_mem hx
    simp only [List.length_cons]
    omega
def seeP (out : List Int) (x : Int) : List Int := if refk x = 2 ∧ x ∉ out then out ++ [x] else out
def valsP (t : ByteArray) : Nat → List Int → List Int → List Int
  | _, [], out => out
  | i, x :: l, out => if bt t (i : Int) = 114 then valsP t (i + 1) l (seeP out x) else valsP t (i + 1) l out
def closeP (types : List ByteArray) (words : List Int) : Nat → Nat → List Int → List Int
  | 0, _, out => out
  | d + 1, i, out => if i < out.length then closeP types words d (i + 1) (valsP (kindsAt types (rd words (rd out (i : Int) / 2))) 0 (valsAt types words (rd out (i : Int) / 2).toNat) out) else out
structure Inv (st out : List Int) : Prop where
  nd : out.Nodup
  ok : ∀ x ∈ out, refk x = 2 ∧ x / 2 ∈ st
theorem refk_odd {x : Int} (h : refk x = 2) : 1 ≤ x ∧ x ≤ 799 ∧ x % 2 = 1 := by
  unfold refk at h
  split at h
  · omega
  · split at h
    · omega
    · split at h
      · omega
      · omega
theorem Inv.nil (st : List Int) : Inv st [] := ⟨by simp, fun x hx => by cases hx⟩
theorem Inv.len {st out : List Int} (h : Inv st out) : out.length ≤ st.length := by
  have h1 := nodup_le (out.map (· / 2)) st ?_ (fun x hx => by
    obtain ⟨y, hy, rfl⟩ := List.mem_map.1 hx
    exact (h.ok y hy).2)
  · simpa using h1
  · rw [List.Nodup, List.pairwise_map]
    refine List.Pairwise.imp_of_mem (fun ha hb hne e => hne ?_) h.nd
    have h1 := refk_odd (h.ok _ ha).1
    have h2 := refk_odd (h.ok _ hb).1
    omega
theorem Inv.see {st out : List Int} {x : Int} (h : Inv st out) (hx : refOk st x = true) : Inv st (seeP out x) := by
  unfold seeP
  split
  · rename_i c
    refine ⟨List.nodup_append.2 ⟨h.nd, by simp, fun a ha b hb => by
      simp only [List.mem_singleton] at hb
      subst hb
      exact fun e => c.2 (e ▸ ha)⟩, fun y hy => ?_⟩
    rcases List.mem_append.1 hy with hy | hy
    · exact h.ok y hy
    · simp only [List.mem_singleton] at hy
      subst hy
      refine ⟨c.1, ?_⟩
      unfold refOk at hx
      simp only [c.1, Bool.or_eq_true, Bool.and_eq_true, decide_eq_true_eq] at hx
      rcases hx with (hx | hx) | hx
      · omega
      · omega
      · exact hx.2
  · exact h
theorem see_length (out : List Int) (x : Int) : out.length ≤ (seeP out x).length := by
  unfold seeP
  split
  · simp
  · exact Nat.le_refl _
theorem valsP_inv {st : List Int} {t : ByteArray} : ∀ (l : List Int) (i : Nat) (out : List Int), Inv st out → objB st t i l = true → Inv st (valsP t i l out) ∧ out.length ≤ (valsP t i l out).length
  | [], i, out, h, _ => ⟨h, Nat.le_refl _⟩
  | x :: l, i, out, h, hb => by
    rw [objB] at hb
    rw [valsP]
    split
    · rename_i c
      rw [if_pos c, Bool.and_eq_true] at hb
      have h1 := valsP_inv l (i + 1) (seeP out x) (h.see hb.1) hb.2
      have h2 := see_length out x
      exact ⟨h1.1, by omega⟩
    · rename_i c
      rw [if_neg c] at hb
      exact valsP_inv l (i + 1) out h hb
theorem nurB_mem {types : List ByteArray} {words st : List Int} : ∀ {l : List Int}, nurB types words st l = true → ∀ h ∈ l, objB st (kindsAt types (rd words h)) 0 (valsAt types words h.toNat) = true
  | [], _, h, hm => by cases hm
  | x :: l, hn, h, hm => by
    rw [nurB, Bool.and_eq_true] at hn
    rcases List.mem_cons.1 hm with rfl | hm
    · exact hn.1
    · exact nurB_mem hn.2 h hm
/-- What stands at a place of the list. -/
theorem out_at {st out : List Int} {types : List ByteArray} {words : List Int} (h : Inv st out) (hfit : ∀ x ∈ st, Fits types words x) {i : Nat} (hi : i < out.length) :
    ∃ n : Nat, rd out (i : Int) / 2 = n ∧ (n : Int) ∈ st ∧ Fits types words (n : Int) ∧ wrap64 (Int.tdiv (rd out (i : Int)) 2) = n ∧ refk (rd out (i : Int)) = 2 := by
  have hm := h.ok (rd out (i : Int)) (by rw [rd_get hi]; exact List.getElem_mem hi)
  have hp := refk_pos hm.1
  obtain ⟨n, hn⟩ := Int.eq_ofNat_of_zero_le (show 0 ≤ rd out (i : Int) / 2 by omega)
  have hn' : rd out (i : Int) / 2 = (n : Int) := hn
  refine ⟨n, hn', hn' ▸ hm.2, hfit _ (hn' ▸ hm.2), ?_, hm.1⟩
  rw [Int.tdiv_eq_ediv_of_nonneg (by omega), w64 (by omega) (by omega), hn']
theorem closeP_inv {st : List Int} {types : List ByteArray} {words : List Int} (hfit : ∀ x ∈ st, Fits types words x) (hn : nurB types words st st = true) : ∀ (d i : Nat) (out : List Int), Inv st out → Inv st (closeP types words d i out)
  | 0, i, out, h => h
  | d + 1, i, out, h => by
    rw [closeP]
    split
    · rename_i c
      obtain ⟨n, e, hm, hf, _, _⟩ := out_at h hfit c
      rw [e, Int.toNat_natCast]
      exact closeP_inv hfit hn d (i + 1) _ (valsP_inv _ 0 out h (nurB_mem hn _ hm)).1
    · exact h
theorem seeAll_inv {st : List Int} : ∀ (l out : List Int), Inv st out → (∀ x ∈ l, refOk st x = true) → Inv st (l.foldl seeP out)
  | [], out, h, _ => h
  | x :: l, out, h, hl => seeAll_inv l (seeP out x) (h.see (hl x (by simp))) (fun y hy => hl y (by simp [hy]))
/-! ### the program -/
/-- What the map says: which references have been seen. -/
def MapIs (f : Int → Option Bool) (out : List Int) : Prop := ∀ x, (f x).getD false = decide (x ∈ out)
theorem MapIs.nil : MapIs (fun _ => none) [] := fun x => by simp
theorem see_f {f : Int → Option Bool} {out : List Int} (hm : MapIs f out) (hl : out.length ≤ 400) (x : Int) : ∃ f', impl_youngClosure_1.f x f out = some (f', seeP out x) ∧ MapIs f' (seeP out x) := by
  unfold impl_youngClosure_1.f seeP
  rw [impl_isYoung_f, Option.bind_some, hm x]
  by_cases c : refk x = 2
  · by_cases c2 : x ∈ out
    · exact ⟨f, by simp [c, c2], by rw [if_neg (fun h => h.2 c2)]; exact hm⟩
    · refine ⟨mput f x true, by rw [if_pos (by simp [c]), if_neg (by simp [c2]), if_pos (by omega), if_pos ⟨c, c2⟩], ?_⟩
      rw [if_pos ⟨c, c2⟩]
      intro y
      unfold mput
      by_cases e : y = x
      · simp [e]
      · rw [if_neg e, hm y]
        simp [e]
  · exact ⟨f, by simp [c], by rw [if_neg (fun h => c h.1)]; exact hm⟩
def closureP (types : List ByteArray) (words roots : List Int) : List Int := closeP types words 401 0 (roots.foldl seeP [])
set_option maxHeartbeats 1000000 in
theorem impl_youngClosure_ev {types : List ByteArray} {sz : Int} {words st roots : List Int} (hst : headsR types sz words = some st) (hw : ∀ x ∈ words, -9223372036854775808 ≤ x ∧ x ≤ 9223372036854775807) (hr : ∀ x ∈ roots, refOk st x = true) (hrl : roots.length ≤ 1099511627776) :
    Ev (fun k => impl_youngClosure.f k types sz words roots) (closureP types words roots) := by
  obtain ⟨hp, hn⟩ := headsR_some hst
  obtain ⟨ht, hwl, hfit, hsrt, hsl⟩ := parsed_facts hp
  have l1 : ∀ (n i : Nat) (out : List Int) (f : Int → Option Bool), Inv st out → MapIs f out → 401 ≤ i + n → i ≤ 401 → Ev (fun k => impl_youngClosure.p29 k types sz words out f (i : Int)) (closeP types words n i out) := by
    intro n
    induction n with
    | zero =>
      intro i out f h hf hi hi2
      have hlen := h.len
      refine Ev.step (fun k => by rw [impl_youngClosure.p29]) ?_
      exact Ev.neg (by omega) (Ev.eq rfl)
    | succ n ih =>
      intro i out f h hmf hi hi2
      have hlen := h.len
      refine Ev.step (fun k => by rw [impl_youngClosure.p29]) ?_
      rw [closeP]
      by_cases c : i < out.length
      · obtain ⟨m, e, hm, hf, hw2, _⟩ := out_at h hfit c
        have hob := nurB_mem hn _ hm
        rw [Int.toNat_natCast] at hob
        have hvl := vals_length hf
        obtain ⟨m', e', h1, h2, h3, h4⟩ := id hf
        obtain rfl : m' = m := by omega
        rw [if_pos c, hw2, e, Int.toNat_natCast]
        refine Ev.pos (by omega) (Ev.pos (by omega) (Ev.pos (by omega) (Ev.bindo (youngObject_f types words sz m' ht hwl hw hf) ?_)))
        have hkk : rdOf ByteArray.empty types (rd words (m' : Int) / 4) = kindsAt types (rd words m') := rfl
        simp only []
        have hks := parse_size ht (rd words (m' : Int))
        generalize kindsAt types (rd words (m' : Int)) = kk at *
        generalize valsAt types words m' = vals at *
        have l2 : ∀ (q j : Nat) (out : List Int) (f : Int → Option Bool), vals.length - j = q → j ≤ vals.length → Inv st out → MapIs f out → objB st kk j (vals.drop j) = true → Ev (fun k => impl_youngClosure.p43 k types sz words out f (i : Int) (rd words (m' : Int) / 4) vals (vals.length : Int) (j : Int)) (closeP types words n (i + 1) (valsP kk j (vals.drop j) out)) := by
          intro q
          induction q with
          | zero =>
            intro j out f hq hj h hmf hb
            rw [List.drop_eq_nil_of_le (by omega), valsP]
            refine Ev.step (fun k => by rw [impl_youngClosure.p43]) ?_
            refine Ev.neg (by omega) ?_
            rw [show wrap64 ((i : Int) + 1) = ((i + 1 : Nat) : Int) from by rw [w64 (by omega) (by omega)]; omega]
            exact ih (i + 1) out f h hmf (by omega) (by omega)
          | succ q ihq =>
            intro j out f hq hj h hmf hb
            have hlt : j < vals.length := by omega
            have hlen := h.len
            rw [List.drop_eq_getElem_cons hlt, objB] at hb
            rw [List.drop_eq_getElem_cons hlt, valsP]
            refine Ev.step (fun k => by rw [impl_youngClosure.p43]) ?_
            rw [hkk, rd_get hlt, show wrap64 ((j : Int) + 1) = ((j + 1 : Nat) : Int) from by rw [w64 (by omega) (by omega)]; omega]
            generalize vals[j] = x at *
            refine Ev.pos (by omega) (Ev.pos (by omega) (Ev.pos (by omega) (Ev.pos (by omega) (Ev.pos h3 (Ev.pos (by omega) (Ev.pos (by omega) ?_))))))
            by_cases c1 : bt kk (j : Int) = 114
            · rw [if_pos c1, Bool.and_eq_true] at hb
              rw [if_pos c1]
              obtain ⟨f', ef, hmf'⟩ := see_f hmf (by omega) x
              exact Ev.pos c1 (Ev.bindo ef (ihq (j + 1) _ f' (by omega) (by omega) (h.see hb.1) hmf' hb.2))
            · rw [if_neg c1] at hb
              rw [if_neg c1]
              exact Ev.neg c1 (ihq (j + 1) out f (by omega) (by omega) h hmf hb)
        have hz := l2 _ 0 out f rfl (by omega) h hmf (by rw [List.drop_zero]; exact hob)
        rw [List.drop_zero] at hz
        exact hz
      · rw [if_neg c]
        exact Ev.neg (by omega) (Ev.eq rfl)
  have l0 : ∀ (q j : Nat) (out : List Int) (f : Int → Option Bool), roots.length - j = q → j ≤ roots.length → Inv st out → MapIs f out → Ev (fun k => impl_youngClosure.p12 k types sz words out f roots (roots.length : Int) (j : Int)) (closeP types words 401 0 ((roots.drop j).foldl seeP out)) := by
    intro q
    induction q with
    | zero =>
      intro j out f hq hj h hmf
      rw [List.drop_eq_nil_of_le (by omega), List.foldl_nil]
      refine Ev.step (fun k => by rw [impl_youngClosure.p12]) ?_
      exact Ev.neg (by omega) (l1 401 0 out f h hmf (by omega) (by omega))
    | succ q ihq =>
      intro j out f hq hj h hmf
      have hlt : j < roots.length := by omega
      have hlen := h.len
      have hx := hr roots[j] (List.getElem_mem hlt)
      rw [List.drop_eq_getElem_cons hlt, List.foldl_cons]
      refine Ev.step (fun k => by rw [impl_youngClosure.p12]) ?_
      rw [rd_get hlt, show wrap64 ((j : Int) + 1) = ((j + 1 : Nat) : Int) from by rw [w64 (by omega) (by omega)]; omega]
      generalize roots[j] = x at *
      obtain ⟨f', ef, hmf'⟩ := see_f hmf (by omega) x
      exact Ev.pos (by omega) (Ev.pos (by omega) (Ev.pos (by omega) (Ev.bindo ef (ihq (j + 1) _ f' (by omega) (by omega) (h.see hx) hmf'))))
  unfold impl_youngClosure.f
  have h := l0 _ 0 [] _ rfl (by omega) (Inv.nil st) MapIs.nil
  rw [List.drop_zero] at h
  exact h
def closR (types : List ByteArray) (sz : Int) (words roots : List Int) : List Int × Bool :=
  match headsR types sz words with
  | some st => if roots.length ≤ 400 then (if roots.all (refOk st) = true then (closureP types words roots, true) else ([], false)) else ([], false)
  | none => ([], false)
theorem impl_YoungClosure_ev (types : List ByteArray) (sz : Int) (words roots : List Int) (hs : ∀ x ∈ types, x.size ≤ 1048576) (hw : ∀ x ∈ words, -9223372036854775808 ≤ x ∧ x ≤ 9223372036854775807) : Ev (fun k => impl_YoungClosure.f k types sz words roots) (closR types sz words roots) := by
  unfold impl_YoungClosure.f closR
  refine Ev.bind (impl_heads_ev types sz words hs hw) ?_
  cases h : headsR types sz words with
  | none => exact Ev.neg (by simp [finL]) (Ev.eq rfl)
  | some st =>
    obtain ⟨ht, hwl, hfit, hsrt, hlen⟩ := parsed_facts (headsR_some h).1
    simp only [finL, List.nil_append]
    by_cases c : roots.length ≤ 400
    · rw [if_pos c]
      refine Ev.pos trivial (Ev.neg (by omega) ?_)
      refine Ev.bind (a := roots.any fun x => !refOk st x) ?_ ?_
      · unfold slices_ContainsFunc_int64_at_impl_YoungClosure_1.f slices_IndexFunc_int64_at_impl_YoungClosure_1.f
        refine contains_ev (d := 0) (l := roots) (by omega) (g := fun k i => slices_IndexFunc_int64_at_impl_YoungClosure_1.p6 k roots st (roots.length : Int) i) (t := fun k x => impl_YoungClosure_1.f k x st) (f := fun x => !refOk st x) (fun k i => by rw [slices_IndexFunc_int64_at_impl_YoungClosure_1.p6]; rfl) (fun x hx => ?_)
        unfold impl_YoungClosure_1.f
        exact Ev.bind (impl_isRef_ev st x hsrt (by omega)) (Ev.eq rfl)
      · by_cases c2 : roots.all (refOk st) = true
        · rw [if_pos c2]
          have c3 : ¬ (roots.any fun x => !refOk st x) = true := by
            rw [List.all_eq_not_any_not] at c2
            simpa using c2
          refine Ev.neg c3 (Ev.bind (impl_youngClosure_ev h hw (List.all_eq_true.1 c2) (by omega)) (Ev.eq rfl))
        · rw [if_neg c2]
          have c3 : (roots.any fun x => !refOk st x) = true := by
            rw [List.all_eq_not_any_not] at c2
            simpa using c2
          exact Ev.pos c3 (Ev.eq rfl)
    · rw [if_neg c]
      exact Ev.pos trivial (Ev.pos (by omega) (Ev.eq rfl))
/-! ### the reference -/
theorem spec_roots_ev {st : List Int} (hsl : st.length ≤ 400) (roots : List Int) (hr : roots.length ≤ 1099511627776) : Ev (fun k => spec_l8Roots.p16 k roots st 0) (roots.all (refOk st)) := by
  have lp : ∀ (d i : Nat), roots.length - i = d → i ≤ roots.length → Ev (fun k => spec_l8Roots.p16 k roots st (i : Int)) ((roots.drop i).all (refOk st)) := by
    intro d
    induction d with
    | zero =>
      intro i hd hi
      rw [List.drop_eq_nil_of_le (by omega)]
      refine Ev.step (fun k => by rw [spec_l8Roots.p16]) ?_
      exact Ev.neg (by omega) (Ev.eq rfl)
    | succ d ih =>
      intro i hd hi
      have hlt : i < roots.length := by omega
      have ih := ih (i + 1) (by omega) (by omega)
      refine Ev.step (fun k => by rw [spec_l8Roots.p16]) ?_
      rw [rd_get hlt, show wrap64 ((i : Int) + 1) = ((i + 1 : Nat) : Int) from by rw [w64 (by omega) (by omega)]; omega, List.drop_eq_getElem_cons hlt, List.all_cons]
      refine Ev.pos (by omega) (Ev.pos (by omega) (Ev.pos (by omega) (Ev.bind (spec_l8Ref_ev st _ (by omega)) (Ev.cases (fun c => ?_) (fun c => ?_)))))
      · rw [c, Bool.true_and]; exact ih
      · rw [Bool.eq_false_iff.2 c, Bool.false_and]; exact Ev.eq rfl
  have h := lp _ 0 rfl (by omega)
  rw [List.drop_zero] at h
  exact h
theorem spec_l8Roots_ev (types : List ByteArray) (sz : Int) (words roots : List Int) (hl : types.length ≤ 1048576) (hs : ∀ x ∈ types, x.size ≤ 1048576) (hw : ∀ x ∈ words, -9223372036854775808 ≤ x ∧ x ≤ 9223372036854775807) :
    Ev (fun k => spec_l8Roots.f k types sz words roots) (match headsR types sz words with | some st => decide (roots.length ≤ 400) && roots.all (refOk st) | none => false) := by
  unfold spec_l8Roots.f
  refine Ev.bind (spec_NurseryOk_ev types sz words hl hs hw) ?_
  cases h : headsR types sz words with
  | none => exact Ev.neg (by simp) (Ev.eq rfl)
  | some st =>
    have hp := spec_l8Parse_ev types sz words hl hs hw
    rw [(headsR_some h).1] at hp
    obtain ⟨ht, hwl, hfit, hsrt, hlen⟩ := parsed_facts (headsR_some h).1
    simp only []
    refine Ev.pos rfl ?_
    by_cases c : roots.length ≤ 400
    · rw [decide_eq_true c, Bool.true_and]
      exact Ev.neg (by simp; omega) (Ev.bind hp (spec_roots_ev hlen roots (by omega)))
    · rw [decide_eq_false c, Bool.false_and]
      exact Ev.pos (by simp; omega) (Ev.eq rfl)
theorem seeP_of {out : List Int} {x r : Int} (h2 : refk x = 2) (hm : (0 ≤ r ∧ x ∈ out) ∨ (r = -1 ∧ x ∉ out)) : (r < 0 → seeP out x = out ++ [x]) ∧ (¬ r < 0 → seeP out x = out) := by
  unfold seeP
  rcases hm with ⟨h0, hm⟩ | ⟨h0, hm⟩
  · exact ⟨fun h => by omega, fun _ => if_neg (fun h => h.2 hm)⟩
  · exact ⟨fun _ => if_pos ⟨h2, hm⟩, fun h => by omega⟩
theorem see_none {out : List Int} {x : Int} (c2 : ¬ refk x = 2) : seeP out x = out := by unfold seeP; rw [if_neg (fun h => c2 h.1)]
set_option maxHeartbeats 1000000 in
theorem spec_l8Closure_ev {types : List ByteArray} {sz : Int} {words st roots : List Int} (hst : headsR types sz words = some st) (hw : ∀ x ∈ words, -9223372036854775808 ≤ x ∧ x ≤ 9223372036854775807) (hr : ∀ x ∈ roots, refOk st x = true) (hrl : roots.length ≤ 1099511627776) :
    Ev (fun k => spec_l8Closure.f k types sz words roots) (closureP types words roots) := by
  obtain ⟨hp, hn⟩ := headsR_some hst
  obtain ⟨ht, hwl, hfit, hsrt, hsl⟩ := parsed_facts hp
  have l1 : ∀ (n i : Nat) (out : List Int), Inv st out → 401 ≤ i + n → i ≤ 401 → Ev (fun k => spec_l8Closure.p27 k types sz words out (i : Int)) (closeP types words n i out) := by
    intro n
    induction n with
    | zero =>
      intro i out h hi hi2
      have hlen := h.len
      refine Ev.step (fun k => by rw [spec_l8Closure.p27]) ?_
      exact Ev.neg (by omega) (Ev.eq rfl)
    | succ n ih =>
      intro i out h hi hi2
      have hlen := h.len
      refine Ev.step (fun k => by rw [spec_l8Closure.p27]) ?_
      rw [closeP]
      by_cases c : i < out.length
      · obtain ⟨m, e, hm, hf, hw2, _⟩ := out_at h hfit c
        have hob := nurB_mem hn _ hm
        rw [Int.toNat_natCast] at hob
        have hvl := vals_length hf
        obtain ⟨m', e', h1, h2, h3, h4⟩ := id hf
        obtain rfl : m' = m := by omega
        rw [if_pos c, hw2, e, Int.toNat_natCast]
        refine Ev.pos (by omega) (Ev.pos (by omega) (Ev.pos (by omega) (Ev.bindo (l8Obj_f types words sz m' ht hwl hw hf) ?_)))
        have hkk : rdOf ByteArray.empty types (rd words (m' : Int) / 4) = kindsAt types (rd words m') := rfl
        have hks := parse_size ht (rd words (m' : Int))
        simp only []
        clear hw2 e e'
        have h2' : 0 ≤ rd words (m' : Int) / 4 := by omega
        generalize hK : kindsAt types (rd words (m' : Int)) = kk at *
        generalize valsAt types words m' = vals at *
        have l2 : ∀ (q j : Nat) (out : List Int), vals.length - j = q → j ≤ vals.length → Inv st out → objB st kk j (vals.drop j) = true → Ev (fun k => spec_l8Closure.p41 k types sz words out (i : Int) (rd words (m' : Int) / 4) vals (j : Int)) (closeP types words n (i + 1) (valsP kk j (vals.drop j) out)) := by
          intro q
          induction q with
          | zero =>
            intro j out hq hj h hb
            rw [List.drop_eq_nil_of_le (by omega), valsP]
            refine Ev.step (fun k => by rw [spec_l8Closure.p41]) ?_
            refine Ev.neg (by omega) ?_
            rw [show wrap64 ((i : Int) + 1) = ((i + 1 : Nat) : Int) from by rw [w64 (by omega) (by omega)]; omega]
            exact ih (i + 1) out h (by omega) (by omega)
          | succ q ihq =>
            intro j out hq hj h hb
            have hlt : j < vals.length := by omega
            have hlen := h.len
            have hvl2 : ((j : Int) < (vals.length : Int)) := by omega
            have hol : out.length + 1 ≤ 17592186044416 := by omega
            have a1 : vals.length - (j + 1) = q := by omega
            have a2 : j + 1 ≤ vals.length := by omega
            have a3 : (0 : Int) ≤ (j : Int) := by omega
            have a4 : (j : Int) < (kk.size : Int) := by omega
            have a6 : out.length ≤ 1099511627776 := by omega
            have hx : rd vals (j : Int) = vals[j] := rd_get hlt
            have e1 : wrap64 ((j : Int) + 1) = ((j + 1 : Nat) : Int) := by rw [w64 (by omega) (by omega)]; omega
            rw [List.drop_eq_getElem_cons hlt, objB] at hb
            rw [List.drop_eq_getElem_cons hlt, valsP]
            generalize vals[j] = x at *
            have j1 : ∀ (b : Bool) (out' : List Int), (b = true → out' = out ++ [x]) → (b = false → out' = out) → (objB st kk (j + 1) (vals.drop (j + 1)) = true) → Inv st out' → Ev (fun k => spec_l8Closure.p52 k types sz words out (i : Int) (rd words (m' : Int) / 4) vals (j : Int) b) (closeP types words n (i + 1) (valsP kk (j + 1) (vals.drop (j + 1)) out')) := by
              intro b out' ht hf hb2 hinv
              refine Ev.step (fun k => by rw [spec_l8Closure.p52]) ?_
              rw [e1, hx]
              cases b with
              | true =>
                obtain rfl := ht rfl
                exact Ev.pos rfl (Ev.pos a3 (Ev.pos hvl2 (Ev.pos hol (ihq (j + 1) _ a1 a2 hinv hb2))))
              | false =>
                obtain rfl := hf rfl
                exact Ev.neg (by simp) (ihq (j + 1) _ a1 a2 hinv hb2)
            refine Ev.step (fun k => by rw [spec_l8Closure.p41]) ?_
            rw [hkk, hx]
            refine Ev.pos hvl2 (Ev.pos h2' (Ev.pos h3 (Ev.pos a3 (Ev.pos a4 ?_))))
            by_cases c1 : bt kk (j : Int) = 114
            · rw [if_pos c1, Bool.and_eq_true] at hb
              rw [if_pos c1]
              have hs := h.see hb.1
              refine Ev.pos c1 (Ev.pos a3 (Ev.pos hvl2 (Ev.bindo (spec_RefKind_f x) (Ev.cases (fun c2 => ?_) (fun c2 => ?_)))))
              · obtain ⟨r, hr, hm⟩ := placeIn_ev out x a6
                have hse := seeP_of c2 hm
                exact Ev.pos a3 (Ev.pos hvl2 (Ev.bind hr (j1 _ _ (fun c3 => hse.1 (by simpa using c3)) (fun c3 => hse.2 (by simpa using c3)) hb.2 hs)))
              · rw [see_none c2]
                exact j1 false _ (fun h => by cases h) (fun _ => rfl) hb.2 h
            · rw [if_neg c1] at hb
              rw [if_neg c1]
              exact Ev.neg c1 (j1 false _ (fun h => by cases h) (fun _ => rfl) hb h)
        have hz := l2 _ 0 out rfl (by omega) h (by rw [List.drop_zero]; exact hob)
        rw [List.drop_zero] at hz
        exact hz
      · rw [if_neg c]
        exact Ev.neg (by omega) (Ev.eq rfl)
  have l0 : ∀ (q j : Nat) (out : List Int), roots.length - j = q → j ≤ roots.length → Inv st out → Ev (fun k => spec_l8Closure.p8 k types roots sz words out (j : Int)) (closeP types words 401 0 ((roots.drop j).foldl seeP out)) := by
    intro q
    induction q with
    | zero =>
      intro j out hq hj h
      rw [List.drop_eq_nil_of_le (by omega), List.foldl_nil]
      refine Ev.step (fun k => by rw [spec_l8Closure.p8]) ?_
      exact Ev.neg (by omega) (l1 401 0 out h (by omega) (by omega))
    | succ q ihq =>
      intro j out hq hj h
      have hlt : j < roots.length := by omega
      have hlen := h.len
      have hvl2 : ((j : Int) < (roots.length : Int)) := by omega
      have hol : out.length + 1 ≤ 17592186044416 := by omega
      have a1 : roots.length - (j + 1) = q := by omega
      have a2 : j + 1 ≤ roots.length := by omega
      have a3 : (0 : Int) ≤ (j : Int) := by omega
      have a6 : out.length ≤ 1099511627776 := by omega
      have hxr := hr roots[j] (List.getElem_mem hlt)
      have hx : rd roots (j : Int) = roots[j] := rd_get hlt
      have e1 : wrap64 ((j : Int) + 1) = ((j + 1 : Nat) : Int) := by rw [w64 (by omega) (by omega)]; omega
      rw [List.drop_eq_getElem_cons hlt, List.foldl_cons]
      generalize roots[j] = x at *
      have j1 : ∀ (b : Bool) (out' : List Int), (b = true → out' = out ++ [x]) → (b = false → out' = out) → Inv st out' → Ev (fun k => spec_l8Closure.p19 k types roots sz words out (j : Int) b) (closeP types words 401 0 ((roots.drop (j + 1)).foldl seeP out')) := by
        intro b out' ht hf hinv
        refine Ev.step (fun k => by rw [spec_l8Closure.p19]) ?_
        rw [e1, hx]
        cases b with
        | true =>
          obtain rfl := ht rfl
          exact Ev.pos rfl (Ev.pos a3 (Ev.pos hvl2 (Ev.pos hol (ihq (j + 1) _ a1 a2 hinv))))
        | false =>
          obtain rfl := hf rfl
          exact Ev.neg (by simp) (ihq (j + 1) _ a1 a2 hinv)
      refine Ev.step (fun k => by rw [spec_l8Closure.p8]) ?_
      rw [hx]
      have hs := h.see hxr
      refine Ev.pos hvl2 (Ev.pos a3 (Ev.pos hvl2 (Ev.bindo (spec_RefKind_f x) (Ev.cases (fun c2 => ?_) (fun c2 => ?_)))))
      · obtain ⟨r, hr, hm⟩ := placeIn_ev out x a6
        have hse := seeP_of c2 hm
        exact Ev.pos a3 (Ev.pos hvl2 (Ev.bind hr (j1 _ _ (fun c3 => hse.1 (by simpa using c3)) (fun c3 => hse.2 (by simpa using c3)) hs)))
      · rw [see_none c2]
        exact j1 false _ (fun h => by cases h) (fun _ => rfl) h
  unfold spec_l8Closure.f
  have h := l0 _ 0 [] rfl (by omega) (Inv.nil st)
  rw [List.drop_zero] at h
  exact h
theorem spec_YoungClosure_ev (types : List ByteArray) (sz : Int) (words roots : List Int) (hl : types.length ≤ 1048576) (hs : ∀ x ∈ types, x.size ≤ 1048576) (hw : ∀ x ∈ words, -9223372036854775808 ≤ x ∧ x ≤ 9223372036854775807) : Ev (fun k => spec_YoungClosure.f k types sz words roots) (closR types sz words roots) := by
  unfold spec_YoungClosure.f
  refine Ev.bind (spec_l8Roots_ev types sz words roots hl hs hw) ?_
  unfold closR
  cases h : headsR types sz words with
  | none => exact Ev.neg (by simp) (Ev.eq rfl)
  | some st =>
    simp only []
    by_cases c : roots.length ≤ 400
    · by_cases c2 : roots.all (refOk st) = true
      · rw [if_pos c, if_pos c2]
        exact Ev.pos (by simp only [c, decide_true, Bool.true_and]; exact c2) (Ev.bind (spec_l8Closure_ev h hw (List.all_eq_true.1 c2) (by omega)) (Ev.eq rfl))
      · rw [if_pos c, if_neg c2]
        exact Ev.neg (by simp only [c, decide_true, Bool.true_and]; exact c2) (Ev.eq rfl)
    · rw [if_neg c]
      exact Ev.neg (by simp [c]) (Ev.eq rfl)
theorem closR_length (types : List ByteArray) (sz : Int) (words roots : List Int) : (closR types sz words roots).1.length ≤ 400 := by
  unfold closR
  split
  · rename_i st h
    obtain ⟨hp, hn⟩ := headsR_some h
    obtain ⟨ht, hwl, hfit, hsrt, hsl⟩ := parsed_facts hp
    split
    · split
      · rename_i c2
        have hi := closeP_inv hfit hn 401 0 _ (seeAll_inv roots [] (Inv.nil st) (List.all_eq_true.1 c2))
        have := hi.len
        show (closeP types words 401 0 _).length ≤ 400
        omega
      · simp
    · simp
  · simp
end Go.Proofs.YtgfeafcgpeclcaaDoor.Abs.Pu
