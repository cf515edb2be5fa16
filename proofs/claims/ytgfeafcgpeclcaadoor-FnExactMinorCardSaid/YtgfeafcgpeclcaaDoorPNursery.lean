/- Nurseries: what the reference and the program come to: the beginnings of the objects, and the same test of their references. For at most 2^20 types of at most 2^20 bytes. -/
import Derived.Test.YtgfeafcgpeclcaaDoorPYoung
import Derived.Test.YtgfeafcgpeclcaaDoorPTypes
import Derived.Test.YtgfeafcgpeclcaaDoorPRefs
import Derived.Test.YtgfeafcgpeclcaaDoorPSearch
namespace Go.Proofs.YtgfeafcgpeclcaaDoor.Abs.Pu
open Go Go.RowKit
set_option linter.unusedVariables false
set_option linter.unusedSectionVars false
set_option linter.unusedSimpArgs false
theorem rdB_get {l : List ByteArray} {i : Nat} (h : i < l.length) : rdOf ByteArray.empty l (i : Int) = l[i] := by
  simp [rdOf, List.getD_eq_getElem?_getD, List.getElem?_eq_getElem h]
/-- The text of a type. -/
def kindsAt (types : List ByteArray) (h : Int) : ByteArray := rdOf ByteArray.empty types (h / 4)
/-- The beginnings of the objects from a word on. -/
def parseFrom (types : List ByteArray) (words : List Int) : Nat → Nat → Option (List Int)
  | 0, at_ => if at_ < words.length then none else some []
  | d + 1, at_ => if at_ < words.length then (if 0 ≤ rd words at_ ∧ rd words at_ / 4 < types.length ∧ at_ + 1 + (kindsAt types (rd words at_)).size ≤ words.length then (parseFrom types words d (at_ + 1 + (kindsAt types (rd words at_)).size)).map ((at_ : Int) :: ·) else none) else some []
def finL (acc : List Int) : Option (List Int) → List Int × Bool
  | some l => (acc ++ l, true)
  | none => ([], false)
theorem finL_cons (acc : List Int) (x : Int) (o : Option (List Int)) : finL acc (o.map (x :: ·)) = finL (acc ++ [x]) o := by
  cases o <;> simp [finL]
/-- A beginning of an object that fits. -/
def Fits (types : List ByteArray) (words : List Int) (x : Int) : Prop := ∃ n : Nat, x = n ∧ n < words.length ∧ 0 ≤ rd words n ∧ rd words n / 4 < types.length ∧ n + 1 + (kindsAt types (rd words n)).size ≤ words.length
theorem parseFrom_fits (types : List ByteArray) (words : List Int) : ∀ (d at_ : Nat) (l : List Int), parseFrom types words d at_ = some l → (∀ x ∈ l, Fits types words x ∧ (at_ : Int) ≤ x) ∧ l.Pairwise (· < ·) ∧ l.length ≤ d
  | 0, at_, l, h => by
    rw [parseFrom] at h
    split at h
    · cases h
    · obtain rfl := Option.some.inj h
      simp
  | d + 1, at_, l, h => by
    rw [parseFrom] at h
    split at h
    · rename_i hlt
      split at h
      · rename_i hc
        cases hp : parseFrom types words d (at_ + 1 + (kindsAt types (rd words at_)).size) with
        | none => rw [hp] at h; cases h
        | some m =>
          rw [hp] at h
          obtain rfl := Option.some.inj h
          obtain ⟨h1, h2, h3⟩ := parseFrom_fits types words d _ m hp
          refine ⟨fun x hx => ?_, List.Pairwise.cons (fun y hy => ?_) h2, by simp only [List.length_cons]; omega⟩
          · rcases List.mem_cons.1 hx with rfl | hx
            · exact ⟨⟨at_, rfl, hlt, hc⟩, by omega⟩
            · have := h1 x hx
              exact ⟨this.1, by omega⟩
          · have := (h1 y hy).2
            omega
      · cases h
    · obtain rfl := Option.some.inj h
      simp
theorem tdiv4 {x : Int} (h : 0 ≤ x) : wrap64 (Int.tdiv x 4) = wrap64 (x / 4) := by rw [Int.tdiv_eq_ediv_of_nonneg h]
theorem parse_size {types : List ByteArray} (ht : typesOk types = true) (h : Int) : (kindsAt types h).size ≤ 23 := by
  unfold kindsAt rdOf
  unfold typesOk at ht
  rw [Bool.and_eq_true, List.all_eq_true] at ht
  rw [List.getD_eq_getElem?_getD]
  cases hg : types[(h / 4).toNat]? with
  | none => show ByteArray.empty.size ≤ 23; decide
  | some s =>
    have := ht.2 s (List.mem_of_getElem? hg)
    unfold typeOk at this
    simp only [Bool.and_eq_true, decide_eq_true_eq] at this
    show s.size ≤ 23
    omega
theorem types_length {types : List ByteArray} (ht : typesOk types = true) : 1 ≤ types.length ∧ types.length ≤ 12 := by
  unfold typesOk at ht
  simp only [Bool.and_eq_true, decide_eq_true_eq] at ht
  exact ht.1
theorem rd_range {words : List Int} (hw : ∀ x ∈ words, -9223372036854775808 ≤ x ∧ x ≤ 9223372036854775807) {i : Nat} (h : i < words.length) : -9223372036854775808 ≤ rd words i ∧ rd words i ≤ 9223372036854775807 := by
  rw [rd_get h]
  exact hw _ (List.getElem_mem h)
theorem spec_parse_ev (types : List ByteArray) (words : List Int) (sz : Int) (ht : typesOk types = true) (hl : words.length ≤ 400) (hw : ∀ x ∈ words, -9223372036854775808 ≤ x ∧ x ≤ 9223372036854775807) :
    ∀ (d at_ : Nat) (acc : List Int), at_ ≤ words.length → words.length - at_ ≤ d → acc.length ≤ at_ → Ev (fun k => spec_l8Parse.p16 k types sz words acc (at_ : Int)) (finL acc (parseFrom types words d at_)) := by
  have htl := types_length ht
  intro d
  induction d with
  | zero =>
    intro at_ acc ha hd hacc
    rw [parseFrom, if_neg (by omega)]
    refine Ev.step (fun k => by rw [spec_l8Parse.p16]) ?_
    exact Ev.neg (by omega) (Ev.eq (by simp [finL]))
  | succ d ih =>
    intro at_ acc ha hd hacc
    rw [parseFrom]
    refine Ev.step (fun k => by rw [spec_l8Parse.p16]) ?_
    by_cases hlt : at_ < words.length
    · rw [if_pos hlt]
      have hr := rd_range hw hlt
      have hk := parse_size ht (rd words at_)
      generalize hx : rd words (at_ : Int) = x at *
      refine Ev.pos (by omega) (Ev.pos (by omega) (Ev.pos (by omega) (Ev.pos (by omega) (Ev.pos (by omega) ?_))))
      by_cases c0 : x < 0
      · rw [if_neg (by omega)]
        exact Ev.pos c0 (Ev.eq rfl)
      · rw [tdiv4 (by omega), w64 (x := x / 4) (by omega) (by omega)]
        have hkk : rdOf ByteArray.empty types (x / 4) = kindsAt types x := rfl
        rw [hkk]
        refine Ev.neg c0 ?_
        by_cases c1 : x / 4 < types.length
        · refine Ev.neg (by omega) (Ev.pos (by omega) (Ev.pos c1 ?_))
          rw [w64 (x := (at_ : Int) + 1) (by omega) (by omega), w64 (x := (at_ : Int) + 1 + ((kindsAt types x).size : Int)) (by omega) (by omega)]
          by_cases c2 : at_ + 1 + (kindsAt types x).size ≤ words.length
          · rw [if_pos ⟨by omega, c1, c2⟩, finL_cons]
            have h := ih (at_ + 1 + (kindsAt types x).size) (acc ++ [(at_ : Int)]) c2 (by omega) (by simp; omega)
            rw [show ((at_ + 1 + (kindsAt types x).size : Nat) : Int) = (at_ : Int) + 1 + ((kindsAt types x).size : Int) from by omega] at h
            exact Ev.neg (by omega) (Ev.pos (by omega) (Ev.pos (by omega) (Ev.pos c1 h)))
          · rw [if_neg (fun h => c2 h.2.2)]
            exact Ev.pos (by omega) (Ev.eq rfl)
        · rw [if_neg (fun h => c1 h.2.1)]
          exact Ev.pos (by omega) (Ev.eq rfl)
    · rw [if_neg hlt]
      exact Ev.neg (by omega) (Ev.eq (by simp [finL]))
theorem impl_starts_ev (types : List ByteArray) (words : List Int) (sz : Int) (ht : typesOk types = true) (hl : words.length ≤ 400) (hw : ∀ x ∈ words, -9223372036854775808 ≤ x ∧ x ≤ 9223372036854775807) : Ev (fun k => impl_starts.f k types sz words) (finL [] (parseFrom types words words.length 0)) := by
  have htl := types_length ht
  have s1 : impl_size_int64.f words = some (words.length : Int) := rfl
  have s2 : impl_size_string.f types = some (types.length : Int) := rfl
  have lp : ∀ (d at_ : Nat) (acc : List Int), at_ ≤ words.length → words.length - at_ ≤ d → acc.length ≤ at_ → Ev (fun k => impl_starts.p8 k types sz words acc (at_ : Int)) (finL acc (parseFrom types words d at_)) := by
    intro d
    induction d with
    | zero =>
      intro at_ acc ha hd hacc
      rw [parseFrom, if_neg (by omega)]
      refine Ev.step (fun k => by rw [impl_starts.p8]) ?_
      exact Ev.bindo s1 (Ev.neg (by omega) (Ev.eq (by simp [finL])))
    | succ d ih =>
      intro at_ acc ha hd hacc
      rw [parseFrom]
      refine Ev.step (fun k => by rw [impl_starts.p8]) ?_
      refine Ev.bindo s1 ?_
      by_cases hlt : at_ < words.length
      · rw [if_pos hlt]
        have hr := rd_range hw hlt
        have hk := parse_size ht (rd words at_)
        generalize hx : rd words (at_ : Int) = x at *
        refine Ev.pos (by omega) (Ev.pos (by omega) (Ev.pos (by omega) ?_))
        refine Ev.bindo s2 ?_
        rw [w64 (x := 4 * (types.length : Int)) (by omega) (by omega), w64 (x := 4 * (types.length : Int) - 1) (by omega) (by omega)]
        refine Ev.bindo (within_f _ _ _) ?_
        by_cases c1 : 0 ≤ x ∧ x / 4 < types.length
        · have hx1 : x ≤ 4 * (types.length : Int) - 1 := by omega
          refine Ev.pos (by simp [c1.1, hx1]) ?_
          rw [tdiv4 c1.1, w64 (x := x / 4) (by omega) (by omega)]
          have hkk : rdOf ByteArray.empty types (x / 4) = kindsAt types x := rfl
          rw [hkk]
          refine Ev.pos (by omega) (Ev.pos (by omega) (Ev.pos c1.2 (Ev.bindo s1 ?_)))
          rw [w64 (x := 1 + ((kindsAt types x).size : Int)) (by omega) (by omega), w64 (x := (at_ : Int) + (1 + ((kindsAt types x).size : Int))) (by omega) (by omega)]
          by_cases c2 : at_ + 1 + (kindsAt types x).size ≤ words.length
          · rw [if_pos ⟨c1.1, c1.2, c2⟩, finL_cons]
            have h := ih (at_ + 1 + (kindsAt types x).size) (acc ++ [(at_ : Int)]) c2 (by omega) (by simp; omega)
            rw [show ((at_ + 1 + (kindsAt types x).size : Nat) : Int) = (at_ : Int) + (1 + ((kindsAt types x).size : Int)) from by omega] at h
            exact Ev.neg (by omega) h
          · rw [if_neg (fun h => c2 h.2.2)]
            exact Ev.pos (by omega) (Ev.eq rfl)
        · rw [if_neg (fun h => c1 ⟨h.1, h.2.1⟩)]
          refine Ev.neg ?_ (Ev.eq rfl)
          simp only [Bool.and_eq_true, decide_eq_true_eq]
          omega
      · rw [if_neg hlt]
        exact Ev.neg (by omega) (Ev.eq (by simp [finL]))
  unfold impl_starts.f
  exact lp words.length 0 [] (by omega) (by omega) (by simp)
/-! ### references -/
/-- Nothing, old, or young and of one of these beginnings. -/
def refOk (st : List Int) (x : Int) : Bool := decide (refk x = 0) || decide (refk x = 1) || (decide (refk x = 2) && decide (x / 2 ∈ st))
theorem refk_pos {x : Int} (h : refk x = 2) : 1 ≤ x ∧ x ≤ 799 := by
  unfold refk at h
  split at h
  · omega
  · split at h
    · omega
    · split at h
      · omega
      · omega
theorem spec_l8Ref_ev (st : List Int) (x : Int) (hl : st.length ≤ 1099511627776) : Ev (fun k => spec_l8Ref.f k st x) (refOk st x) := by
  unfold spec_l8Ref.f refOk
  refine Ev.bindo (spec_RefKind_f x) ?_
  refine Ev.cases (fun c => Ev.eq (by simp [c])) (fun c => Ev.cases (fun c1 => Ev.eq (by simp [c1])) (fun c1 => Ev.cases (fun c2 => ?_) (fun c2 => Ev.eq (by simp [c, c1, c2]))))
  have hp := refk_pos c2
  rw [Int.tdiv_eq_ediv_of_nonneg (by omega), w64 (x := x / 2) (by omega) (by omega)]
  obtain ⟨r, hr, hm⟩ := placeIn_ev st (x / 2) hl
  refine Ev.bind hr (Ev.eq ?_)
  rcases hm with ⟨h0, hm⟩ | ⟨h0, hm⟩
  · simp [c2, h0, hm]
  · simp [c2, h0, hm]
theorem impl_isRef_ev (st : List Int) (x : Int) (hs : st.Pairwise (· < ·)) (hl : st.length ≤ 1099511627776) : Ev (fun k => impl_isRef.f k x st) (refOk st x) := by
  unfold impl_isRef.f impl_isOld.f impl_isHead.f refOk
  refine Ev.cases (fun c => Ev.eq ?_) (fun c => ?_)
  · have : refk x = 0 := by unfold refk; rw [if_pos c]
    simp [this]
  · have hn0 : ¬ refk x = 0 := by
      unfold refk
      rw [if_neg c]
      split
      · decide
      · split <;> decide
    refine Ev.bindo (a := decide (refk x = 1)) (by rw [impl_RefKind_f]; rfl) ?_
    refine Ev.cases (fun c1 => Ev.eq ?_) (fun c1 => ?_)
    · have : refk x = 1 := by simpa using c1
      simp [this]
    · have hn1 : ¬ refk x = 1 := by simpa using c1
      refine Ev.val (Ev.bind (a := decide (refk x = 2) && decide (x / 2 ∈ st)) ?_ (Ev.eq rfl)) (by simp [hn0, hn1])
      refine Ev.bindo (impl_isYoung_f x) (Ev.cases (fun c2 => ?_) (fun c2 => Ev.eq ?_))
      · have c2 := of_decide_eq_true c2
        have hp := refk_pos c2
        rw [Int.tdiv_eq_ediv_of_nonneg (by omega), w64 (x := x / 2) (by omega) (by omega)]
        obtain ⟨i, f, hev, hi, hlo, hup, ht, hf⟩ := bsearch_ev st (x / 2) hs hl
        refine Ev.bind hev (Ev.eq ?_)
        simp only [c2, decide_true, Bool.true_and]
        cases hfc : f with
        | true =>
          obtain ⟨h, e⟩ := ht hfc
          exact (decide_eq_true (e ▸ List.getElem_mem h)).symm
        | false =>
          refine (decide_eq_false (fun hm => ?_)).symm
          obtain ⟨j, hj, e⟩ := List.getElem_of_mem hm
          rcases Nat.lt_trichotomy j i with c | c | c
          · have := hlo j hj c; omega
          · subst c
            have := hf hfc hj
            omega
          · have := hup j hj c; omega
      · have : ¬ refk x = 2 := by simpa using c2
        simp [this]
/-- The references among an object's values, from one on. -/
def objB (st : List Int) (t : ByteArray) : Nat → List Int → Bool
  | _, [] => true
  | i, v :: l => if bt t (i : Int) = 114 then refOk st v && objB st t (i + 1) l else objB st t (i + 1) l
theorem impl_obj_ev (types : List ByteArray) (st vals : List Int) (tp : Int) (hs : st.Pairwise (· < ·)) (hl : st.length ≤ 1099511627776) (h0 : 0 ≤ tp) (h1 : tp < types.length) (hv : vals.length = (rdOf ByteArray.empty types tp).size) (hvl : vals.length ≤ 1099511627776) :
    ∀ (d i : Nat), vals.length - i = d → i ≤ vals.length → Ev (fun k => impl_isObject_at_impl_heads_1.p14 k types st tp vals vals (vals.length : Int) (i : Int)) (objB st (rdOf ByteArray.empty types tp) i (vals.drop i)) := by
  intro d
  induction d with
  | zero =>
    intro i hd hi
    rw [List.drop_eq_nil_of_le (by omega)]
    refine Ev.step (fun k => by rw [impl_isObject_at_impl_heads_1.p14]) ?_
    exact Ev.neg (by omega) (Ev.eq rfl)
  | succ d ih =>
    intro i hd hi
    have hlt : i < vals.length := by omega
    have ih := ih (i + 1) (by omega) (by omega)
    refine Ev.step (fun k => by rw [impl_isObject_at_impl_heads_1.p14]) ?_
    rw [rd_get hlt, show wrap64 ((i : Int) + 1) = ((i + 1 : Nat) : Int) from by rw [w64 (by omega) (by omega)]; omega, List.drop_eq_getElem_cons hlt, objB]
    refine Ev.pos (by omega) (Ev.pos (by omega) (Ev.pos (by omega) (Ev.pos h0 (Ev.pos h1 (Ev.pos (by omega) (Ev.pos (by omega) ?_))))))
    by_cases c : bt (rdOf ByteArray.empty types tp) (i : Int) = 114
    · rw [if_pos c]
      refine Ev.pos c (Ev.bind (a := refOk st vals[i]) ?_ (Ev.cases (fun c2 => ?_) (fun c2 => ?_)))
      · unfold impl_heads_1.f
        exact Ev.bind (impl_isRef_ev st _ hs hl) (Ev.eq rfl)
      · rw [c2, Bool.true_and]; exact ih
      · rw [Bool.eq_false_iff.2 c2, Bool.false_and]; exact Ev.eq rfl
    · rw [if_neg c]
      exact Ev.neg c ih
theorem isObject_ev (types : List ByteArray) (st vals : List Int) (tp : Int) (ht : types.length ≤ 1048576) (hs : st.Pairwise (· < ·)) (hl : st.length ≤ 1099511627776) (h0 : 0 ≤ tp) (h1 : tp < types.length) (hv : vals.length = (rdOf ByteArray.empty types tp).size) (hvl : vals.length ≤ 1099511627776) :
    Ev (fun k => impl_isObject_at_impl_heads_1.f k types tp vals st) (objB st (rdOf ByteArray.empty types tp) 0 vals) := by
  unfold impl_isObject_at_impl_heads_1.f
  refine Ev.bindo rfl (Ev.bindo (within_f _ _ _) ?_)
  rw [w64 (x := (types.length : Int) - 1) (by omega) (by omega)]
  refine Ev.pos (by simp; omega) (Ev.pos h0 (Ev.pos h1 (Ev.pos (by omega) ?_)))
  exact impl_obj_ev types st vals tp hs hl h0 h1 hv hvl _ 0 rfl (Nat.zero_le _)
/-- The values of the object that begins with a word. -/
def valsAt (types : List ByteArray) (words : List Int) (n : Nat) : List Int := (words.take (n + 1 + (kindsAt types (rd words n)).size)).drop (n + 1)
def nurB (types : List ByteArray) (words st : List Int) : List Int → Bool
  | [] => true
  | h :: l => objB st (kindsAt types (rd words h)) 0 (valsAt types words h.toNat) && nurB types words st l
theorem youngObject_f (types : List ByteArray) (words : List Int) (sz : Int) (n : Nat) (ht : typesOk types = true) (hl : words.length ≤ 400) (hw : ∀ x ∈ words, -9223372036854775808 ≤ x ∧ x ≤ 9223372036854775807) (h : Fits types words (n : Int)) :
    impl_youngObject.f types sz words (n : Int) = some (rd words n / 4, valsAt types words n) := by
  obtain ⟨m, e, h1, h2, h3, h4⟩ := h
  obtain rfl : m = n := by omega
  have hr := rd_range hw h1
  have hc : slices_Clone_int64.f (valsAt types words m) = some (valsAt types words m) := by
    unfold slices_Clone_int64.f
    rw [if_pos]
    unfold valsAt
    rw [List.length_drop, List.length_take]
    omega
  unfold impl_youngObject.f
  rw [tdiv4 h2, w64 (x := rd words (m : Int) / 4) (by omega) (by omega), w64 (x := (m : Int) + 1) (by omega) (by omega)]
  have hkk : rdOf ByteArray.empty types (rd words (m : Int) / 4) = kindsAt types (rd words m) := rfl
  rw [hkk, w64 (x := (m : Int) + 1 + ((kindsAt types (rd words m)).size : Int)) (by omega) (by omega)]
  rw [if_pos (by omega), if_pos (by omega), if_pos (by omega), if_pos h3, if_pos (by omega), if_pos (by omega), if_pos (by omega), if_pos (by omega)]
  rw [show ((m : Int) + 1 + ((kindsAt types (rd words m)).size : Int)).toNat = m + 1 + (kindsAt types (rd words m)).size from by omega, show ((m : Int) + 1).toNat = m + 1 from by omega]
  have e2 : (words.take (m + 1 + (kindsAt types (rd words m)).size)).drop (m + 1) = valsAt types words m := rfl
  rw [e2, hc]
  rfl
theorem vals_length {types : List ByteArray} {words : List Int} {n : Nat} (h : Fits types words (n : Int)) : (valsAt types words n).length = (kindsAt types (rd words n)).size := by
  obtain ⟨m, e, h1, h2, h3, h4⟩ := h
  obtain rfl : m = n := by omega
  unfold valsAt
  rw [List.length_drop, List.length_take]
  omega
theorem headsOk_ev (types : List ByteArray) (words st : List Int) (sz : Int) (ht : typesOk types = true) (hl : words.length ≤ 400) (hw : ∀ x ∈ words, -9223372036854775808 ≤ x ∧ x ≤ 9223372036854775807) (hs : st.Pairwise (· < ·)) (hsl : st.length ≤ 1099511627776) (hf : ∀ x ∈ st, Fits types words x) :
    ∀ (d i : Nat), st.length - i = d → i ≤ st.length → Ev (fun k => impl_heads.p24 k types sz words st (st.length : Int) (i : Int)) (if nurB types words st (st.drop i) = true then (st, true) else ([], false)) := by
  have htl := types_length ht
  intro d
  induction d with
  | zero =>
    intro i hd hi
    rw [List.drop_eq_nil_of_le (by omega)]
    refine Ev.step (fun k => by rw [impl_heads.p24]) ?_
    exact Ev.neg (by omega) (Ev.eq rfl)
  | succ d ih =>
    intro i hd hi
    have hlt : i < st.length := by omega
    have ih := ih (i + 1) (by omega) (by omega)
    have hh := hf st[i] (List.getElem_mem hlt)
    have hget : rd st (i : Int) = st[i] := rd_get hlt
    refine Ev.step (fun k => by rw [impl_heads.p24]) ?_
    rw [hget, List.drop_eq_getElem_cons hlt, nurB]
    generalize st[i] = h at *
    obtain ⟨n, rfl, h1, h2, h3, h4⟩ := id hh
    have hr := rd_range hw h1
    have hvl := vals_length hh
    have hks := parse_size ht (rd words n)
    rw [Int.toNat_natCast]
    refine Ev.pos (by omega) (Ev.pos (by omega) (Ev.pos (by omega) (Ev.bindo (youngObject_f types words sz n ht hl hw hh) ?_)))
    refine Ev.bind (isObject_ev types st (valsAt types words n) (rd words n / 4) (by omega) hs hsl (by omega) h3 hvl (by omega)) (Ev.cases (fun c => ?_) (fun c => ?_))
    · have c : objB st (kindsAt types (rd words n)) 0 (valsAt types words n) = true := c
      rw [c, Bool.true_and, show wrap64 ((i : Int) + 1) = ((i + 1 : Nat) : Int) from by rw [w64 (by omega) (by omega)]; omega]
      exact ih
    · have c : objB st (kindsAt types (rd words n)) 0 (valsAt types words n) = false := by
        have c := Bool.eq_false_iff.2 c
        exact c
      rw [c, Bool.false_and]
      exact Ev.eq rfl
/-! ### both -/
def parsed (types : List ByteArray) (sz : Int) (words : List Int) : Option (List Int) :=
  if typesOk types = true ∧ (2 ≤ sz ∧ sz ≤ 400) ∧ (words.length : Int) ≤ sz then parseFrom types words words.length 0 else none
/-- The beginnings, if the nursery is right. -/
def headsR (types : List ByteArray) (sz : Int) (words : List Int) : Option (List Int) :=
  (parsed types sz words).bind fun st => if nurB types words st st = true then some st else none
theorem parsed_facts {types : List ByteArray} {sz : Int} {words st : List Int} (h : parsed types sz words = some st) : typesOk types = true ∧ words.length ≤ 400 ∧ (∀ x ∈ st, Fits types words x) ∧ st.Pairwise (· < ·) ∧ st.length ≤ 400 := by
  unfold parsed at h
  split at h
  · rename_i c
    obtain ⟨h1, h2, h3⟩ := parseFrom_fits types words _ _ _ h
    exact ⟨c.1, by omega, fun x hx => (h1 x hx).1, h2, by omega⟩
  · cases h
theorem spec_l8Parse_ev (types : List ByteArray) (sz : Int) (words : List Int) (hl : types.length ≤ 1048576) (hs : ∀ x ∈ types, x.size ≤ 1048576) (hw : ∀ x ∈ words, -9223372036854775808 ≤ x ∧ x ≤ 9223372036854775807) : Ev (fun k => spec_l8Parse.f k types sz words) (finL [] (parsed types sz words)) := by
  unfold spec_l8Parse.f parsed
  refine Ev.bind (spec_TypesOk_ev types hl hs) ?_
  refine Ev.cases (fun c => ?_) (fun c => ?_)
  · refine Ev.bindo (l1In_f _ _ _) ?_
    refine Ev.cases (fun c1 => ?_) (fun c1 => ?_)
    · have c1 : 2 ≤ sz ∧ sz ≤ 400 := by simpa using c1
      by_cases c2 : (words.length : Int) ≤ sz
      · rw [if_pos ⟨c, c1, c2⟩]
        refine Ev.neg (by omega) ?_
        exact spec_parse_ev types words sz c (by omega) hw words.length 0 [] (by omega) (by omega) (by simp)
      · rw [if_neg (fun h => c2 h.2.2)]
        exact Ev.pos (by omega) (Ev.eq rfl)
    · rw [if_neg (fun h => c1 (by simpa using h.2.1))]
      exact Ev.eq rfl
  · rw [if_neg (fun h => c h.1)]
    exact Ev.eq rfl
theorem impl_heads_ev (types : List ByteArray) (sz : Int) (words : List Int) (hs : ∀ x ∈ types, x.size ≤ 1048576) (hw : ∀ x ∈ words, -9223372036854775808 ≤ x ∧ x ≤ 9223372036854775807) : Ev (fun k => impl_heads.f k types sz words) (finL [] (headsR types sz words)) := by
  unfold impl_heads.f headsR
  refine Ev.bind (impl_TypesOk_ev types hs) ?_
  by_cases c : typesOk types = true
  · refine Ev.pos c (Ev.bindo (within_f _ _ _) ?_)
    by_cases c1 : 2 ≤ sz ∧ sz ≤ 400
    · refine Ev.pos (by simp; omega) (Ev.bindo rfl ?_)
      by_cases c2 : (words.length : Int) ≤ sz
      · refine Ev.neg (by omega) (Ev.bind (impl_starts_ev types words sz c (by omega) hw) ?_)
        have e : parsed types sz words = parseFrom types words words.length 0 := by rw [parsed, if_pos ⟨c, c1, c2⟩]
        have hfacts := fun st h => @parsed_facts types sz words st h
        rw [e] at *
        cases hp : parseFrom types words words.length 0 with
        | none => exact Ev.neg (by simp [finL]) (Ev.eq rfl)
        | some st =>
          obtain ⟨_, _, hfit, hsrt, hlen⟩ := hfacts st hp
          simp only [finL, List.nil_append, Option.bind_some]
          refine Ev.pos trivial (Ev.val (headsOk_ev types words st sz c (by omega) hw hsrt (by omega) hfit _ 0 rfl (Nat.zero_le _)) ?_)
          rw [List.drop_zero]
          split <;> rfl
      · rw [parsed, if_neg (fun h => c2 h.2.2)]
        exact Ev.pos (by omega) (Ev.eq rfl)
    · rw [parsed, if_neg (fun h => c1 h.2.1)]
      exact Ev.neg (by simp; omega) (Ev.eq rfl)
  · rw [parsed, if_neg (fun h => c h.1)]
    exact Ev.neg c (Ev.eq rfl)
theorem spec_NurseryOk_ev (types : List ByteArray) (sz : Int) (words : List Int) (hl : types.length ≤ 1048576) (hs : ∀ x ∈ types, x.size ≤ 1048576) (hw : ∀ x ∈ words, -9223372036854775808 ≤ x ∧ x ≤ 9223372036854775807) : Ev (fun k => spec_NurseryOk.f k types sz words) (headsR types sz words).isSome := by
  unfold spec_NurseryOk.f headsR
  refine Ev.bind (spec_l8Parse_ev types sz words hl hs hw) ?_
  cases hp : parsed types sz words with
  | none => exact Ev.neg (by simp [finL]) (Ev.eq rfl)
  | some st =>
    obtain ⟨ht, hwl, hfit, hsrt, hlen⟩ := parsed_facts hp
    have htl := types_length ht
    simp only [finL, List.nil_append, Option.bind_some]
    refine Ev.pos trivial ?_
    have lp : ∀ (d i : Nat), st.length - i = d → i ≤ st.length → Ev (fun k => spec_NurseryOk.p16 k types sz words st (i : Int)) (nurB types words st (st.drop i)) := by
      intro d
      induction d with
      | zero =>
        intro i hd hi
        rw [List.drop_eq_nil_of_le (by omega)]
        refine Ev.step (fun k => by rw [spec_NurseryOk.p16]) ?_
        exact Ev.neg (by omega) (Ev.eq rfl)
      | succ d ih =>
        intro i hd hi
        have hlt : i < st.length := by omega
        have ih := ih (i + 1) (by omega) (by omega)
        have hh := hfit st[i] (List.getElem_mem hlt)
        have hget : rd st (i : Int) = st[i] := rd_get hlt
        rw [List.drop_eq_getElem_cons hlt, nurB]
        generalize st[i] = h at *
        obtain ⟨n, rfl, h1, h2, h3, h4⟩ := id hh
        have hr := rd_range hw h1
        have hvl := vals_length hh
        rw [Int.toNat_natCast]
        refine Ev.step (fun k => by rw [spec_NurseryOk.p16]) ?_
        rw [hget, tdiv4 h2, w64 (x := rd words (n : Int) / 4) (by omega) (by omega)]
        have hkk : rdOf ByteArray.empty types (rd words (n : Int) / 4) = kindsAt types (rd words n) := rfl
        rw [hkk]
        refine Ev.pos (by omega) (Ev.pos (by omega) (Ev.pos (by omega) (Ev.pos (by omega) (Ev.pos (by omega) (Ev.pos (by omega) (Ev.pos h3 ?_))))))
        have lq : ∀ (e j : Nat), (kindsAt types (rd words n)).size - j = e → j ≤ (kindsAt types (rd words n)).size → Ev (fun k => spec_NurseryOk.p30 k types sz words st (i : Int) (kindsAt types (rd words n)) (j : Int)) (objB st (kindsAt types (rd words n)) j ((valsAt types words n).drop j) && nurB types words st (st.drop (i + 1))) := by
          intro e
          induction e with
          | zero =>
            intro j he hj
            rw [List.drop_eq_nil_of_le (by omega)]
            simp only [objB, Bool.true_and]
            refine Ev.step (fun k => by rw [spec_NurseryOk.p30]) ?_
            rw [show wrap64 ((i : Int) + 1) = ((i + 1 : Nat) : Int) from by rw [w64 (by omega) (by omega)]; omega]
            exact Ev.neg (by omega) ih
          | succ e ihe =>
            intro j he hj
            have ihe := ihe (j + 1) (by omega) (by omega)
            have hjl : j < (valsAt types words n).length := by omega
            have hval : rd words (((n + 1 + j : Nat) : Int)) = (valsAt types words n)[j] := by
              rw [rd_get (by omega)]
              simp only [valsAt, List.getElem_drop, List.getElem_take]
            refine Ev.step (fun k => by rw [spec_NurseryOk.p30]) ?_
            rw [hget, w64 (x := (n : Int) + 1) (by omega) (by omega), w64 (x := (n : Int) + 1 + (j : Int)) (by omega) (by omega), show (n : Int) + 1 + (j : Int) = ((n + 1 + j : Nat) : Int) from by omega, hval,
              show wrap64 ((j : Int) + 1) = ((j + 1 : Nat) : Int) from by rw [w64 (by omega) (by omega)]; omega, List.drop_eq_getElem_cons hjl, objB]
            refine Ev.pos (by omega) (Ev.pos (by omega) (Ev.pos (by omega) ?_))
            by_cases c : bt (kindsAt types (rd words n)) (j : Int) = 114
            · rw [if_pos c]
              refine Ev.pos c (Ev.pos (by omega) (Ev.pos (by omega) (Ev.pos (by omega) (Ev.pos (by omega) (Ev.bind (spec_l8Ref_ev st _ (by omega)) (Ev.cases (fun c2 => ?_) (fun c2 => ?_)))))))
              · rw [c2, Bool.true_and]; exact ihe
              · rw [Bool.eq_false_iff.2 c2, Bool.false_and, Bool.false_and]; exact Ev.eq rfl
            · rw [if_neg c]
              exact Ev.neg c ihe
        exact lq _ 0 rfl (by omega)
    have h := lp _ 0 rfl (by omega)
    rw [List.drop_zero] at h
    refine Ev.val h ?_
    split <;> simp_all
end Go.Proofs.YtgfeafcgpeclcaaDoor.Abs.Pu
