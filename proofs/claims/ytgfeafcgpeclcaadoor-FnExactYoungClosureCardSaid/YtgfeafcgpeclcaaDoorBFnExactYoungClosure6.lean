/- FnExactYoungClosure: the program's YoungClosure answers as the reference's, for all types, every nursery and roots, leaves them as they were, and hands back memory of its own. No condition. (Merged out of this claim's own texts.) -/
import Derived.Test.YtgfeafcgpeclcaaDoorBFnExactYoungClosure5
import Derived.Laws.BitsLemmas
import Derived.ChangeArms
import Derived.WideShapes
import Derived.Test.YtgfeafcgpeclcaaDoorRows
import Derived.Test.YtgfeafcgpeclcaaDoorTie
import Derived.Test.YtgfeafcgpeclcaaDoorCards
import Derived.WalkKit
import Derived.LaidMore
import Derived.Lay
import Derived.SevenTiedAt
import Derived.Stop.Joined
import Derived.ProofKit
import Derived.OpenShut
import Derived.ShutString
import Derived.ChangeOld
import Derived.Below
import Derived.SizedLaws
import Derived.Carry
namespace Go.Proofs.YtgfeafcgpeclcaaDoor.Pure
open Go.RowKit Go.Proofs.YtgfeafcgpeclcaaDoor.X Go.Proofs.YtgfeafcgpeclcaaDoorW.PrintWords Go.Proofs.YtgfeafcgpeclcaaDoorW.PrintLast
set_option linter.unusedVariables false
set_option linter.unusedSimpArgs false
theorem rdB_get {l : List ByteArray} {i : Nat} (h : i < l.length) : rdOf ByteArray.empty l (i : Int) = l[i] := by
  simp [rdOf, List.getD_eq_getElem?_getD, List.getElem?_eq_getElem h]
/-- The text of a type. -/
def kindsAt (types : List ByteArray) (h : Int) : ByteArray := rdOf ByteArray.empty types (h / 4)
/-- The beginnings of the objects from a word on. -/
def parseFrom (types : List ByteArray) (words : List Int) : Nat → Nat → Option (List Int)
  | 0, at_ => if at_ < words.length then none else some []
  | d + 1, at_ => if at_ < words.length then (if 0 ≤ rd words at_ ∧ rd words at_ / 4 < types.length ∧ at_ + 1 + (kindsAt types (rd words at_)).size ≤ words.length then (parseFrom types words d (at_ + 1 + (kindsAt types (rd words at_)).size)).map ((at_ : Int) :: ·) else none) else some []
def finL (acc : List Int) : Option (List Int) → List Int × Bool
  | some l => (acc ++ l, true)
  | none => ([], false)
theorem finL_cons (acc : List Int) (x : Int) (o : Option (List Int)) : finL acc (o.map (x :: ·)) = finL (acc ++ [x]) o := by
  cases o <;> simp [finL]
/-- A beginning of an object that fits. -/
def Fits (types : List ByteArray) (words : List Int) (x : Int) : Prop := ∃ n : Nat, x = n ∧ n < words.length ∧ 0 ≤ rd words n ∧ rd words n / 4 < types.length ∧ n + 1 + (kindsAt types (rd words n)).size ≤ words.length
theorem parseFrom_fits (types : List ByteArray) (words : List Int) : ∀ (d at_ : Nat) (l : List Int), parseFrom types words d at_ = some l → (∀ x ∈ l, Fits types words x ∧ (at_ : Int) ≤ x) ∧ l.Pairwise (· < ·) ∧ l.length ≤ d
  | 0, at_, l, h => by
    rw [parseFrom] at h
    split at h
    · cases h
    · obtain rfl := Option.some.inj h
      simp
  | d + 1, at_, l, h => by
    rw [parseFrom] at h
    split at h
    · rename_i hlt
      split at h
      · rename_i hc
        cases hp : parseFrom types words d (at_ + 1 + (kindsAt types (rd words at_)).size) with
        | none => rw [hp] at h; cases h
        | some m =>
          rw [hp] at h
          obtain rfl := Option.some.inj h
          obtain ⟨h1, h2, h3⟩ := parseFrom_fits types words d _ m hp
          refine ⟨fun x hx => ?_, List.Pairwise.cons (fun y hy => ?_) h2, by simp only [List.length_cons]; omega⟩
          · rcases List.mem_cons.1 hx with rfl | hx
            · exact ⟨⟨at_, rfl, hlt, hc⟩, by omega⟩
            · have := h1 x hx
              exact ⟨this.1, by omega⟩
          · have := (h1 y hy).2
            omega
      · cases h
    · obtain rfl := Option.some.inj h
      simp
theorem tdiv4 {x : Int} (h : 0 ≤ x) : wrap64 (Int.tdiv x 4) = wrap64 (x / 4) := by rw [Int.tdiv_eq_ediv_of_nonneg h]
theorem parse_size {types : List ByteArray} (ht : typesOk types = true) (h : Int) : (kindsAt types h).size ≤ 23 := by
  unfold kindsAt rdOf
  unfold typesOk at ht
  rw [Bool.and_eq_true, List.all_eq_true] at ht
  rw [List.getD_eq_getElem?_getD]
  cases hg : types[(h / 4).toNat]? with
  | none => show ByteArray.empty.size ≤ 23; decide
  | some s =>
    have := ht.2 s (List.mem_of_getElem? hg)
    unfold typeOk at this
    simp only [Bool.and_eq_true, decide_eq_true_eq] at this
    show s.size ≤ 23
    omega
theorem types_length {types : List ByteArray} (ht : typesOk types = true) : 1 ≤ types.length ∧ types.length ≤ 12 := by
  unfold typesOk at ht
  simp only [Bool.and_eq_true, decide_eq_true_eq] at ht
  exact ht.1
theorem rd_range {words : List Int} (hw : ∀ x ∈ words, -9223372036854775808 ≤ x ∧ x ≤ 9223372036854775807) {i : Nat} (h : i < words.length) : -9223372036854775808 ≤ rd words i ∧ rd words i ≤ 9223372036854775807 := by
  rw [rd_get h]
  exact hw _ (List.getElem_mem h)
theorem spec_parse_ev (types : List ByteArray) (words : List Int) (sz : Int) (ht : typesOk types = true) (hl : words.length ≤ 400) (hw : ∀ x ∈ words, -9223372036854775808 ≤ x ∧ x ≤ 9223372036854775807) :
    ∀ (d at_ : Nat) (acc : List Int), at_ ≤ words.length → words.length - at_ ≤ d → acc.length ≤ at_ → Ev (fun k => spec_l8Parse.l0 k types acc (at_ : Int) sz words) (finL acc (parseFrom types words d at_)) := by
  have htl := types_length ht
  intro d
  induction d with
  | zero =>
    intro at_ acc ha hd hacc
    rw [parseFrom, if_neg (by omega)]
    refine Ev.step (fun k => by rw [spec_l8Parse.l0]) ?_
    exact Ev.neg (by omega) (Ev.eq (by simp [finL]))
  | succ d ih =>
    intro at_ acc ha hd hacc
    rw [parseFrom]
    refine Ev.step (fun k => by rw [spec_l8Parse.l0]) ?_
    by_cases hlt : at_ < words.length
    · rw [if_pos hlt]
      have hr := rd_range hw hlt
      have hk := parse_size ht (rd words at_)
      generalize hx : rd words (at_ : Int) = x at *
      refine Ev.pos (by omega) (Ev.pos (by omega) ?_)
      by_cases c0 : x < 0
      · rw [if_neg (by omega)]
        exact Ev.pos c0 (Ev.eq rfl)
      · rw [tdiv4 (by omega), w64 (x := x / 4) (by omega) (by omega)]
        have hkk : rdOf ByteArray.empty types (x / 4) = kindsAt types x := rfl
        rw [hkk]
        refine Ev.neg c0 ?_
        by_cases c1 : x / 4 < types.length
        · refine Ev.neg (by omega) (Ev.pos (by omega) (Ev.pos c1 ?_))
          rw [w64 (x := (at_ : Int) + 1) (by omega) (by omega), w64 (x := (at_ : Int) + 1 + ((kindsAt types x).size : Int)) (by omega) (by omega)]
          by_cases c2 : at_ + 1 + (kindsAt types x).size ≤ words.length
          · rw [if_pos ⟨by omega, c1, c2⟩, finL_cons]
            have h := ih (at_ + 1 + (kindsAt types x).size) (acc ++ [(at_ : Int)]) c2 (by omega) (by simp; omega)
            rw [show ((at_ + 1 + (kindsAt types x).size : Nat) : Int) = (at_ : Int) + 1 + ((kindsAt types x).size : Int) from by omega] at h
            exact Ev.neg (by omega) (Ev.pos (by omega) h)
          · rw [if_neg (fun h => c2 h.2.2)]
            exact Ev.pos (by omega) (Ev.eq rfl)
        · rw [if_neg (fun h => c1 h.2.1)]
          exact Ev.pos (by omega) (Ev.eq rfl)
    · rw [if_neg hlt]
      exact Ev.neg (by omega) (Ev.eq (by simp [finL]))
theorem impl_starts_ev (types : List ByteArray) (words : List Int) (sz : Int) (ht : typesOk types = true) (hl : words.length ≤ 400) (hw : ∀ x ∈ words, -9223372036854775808 ≤ x ∧ x ≤ 9223372036854775807) : Ev (fun k => impl_starts.f k types sz words) (finL [] (parseFrom types words words.length 0)) := by
  have htl := types_length ht
  have s1 : impl_size_int64.f words = some (words.length : Int) := rfl
  have s2 : impl_size_string.f types = some (types.length : Int) := rfl
  have lp : ∀ (d at_ : Nat) (acc : List Int), at_ ≤ words.length → words.length - at_ ≤ d → acc.length ≤ at_ → Ev (fun k => impl_starts.l0 k types acc (at_ : Int) sz words) (finL acc (parseFrom types words d at_)) := by
    intro d
    induction d with
    | zero =>
      intro at_ acc ha hd hacc
      rw [parseFrom, if_neg (by omega)]
      refine Ev.step (fun k => by rw [impl_starts.l0]) ?_
      exact Ev.bindo s1 (Ev.neg (by omega) (Ev.eq (by simp [finL])))
    | succ d ih =>
      intro at_ acc ha hd hacc
      rw [parseFrom]
      refine Ev.step (fun k => by rw [impl_starts.l0]) ?_
      refine Ev.bindo s1 ?_
      by_cases hlt : at_ < words.length
      · rw [if_pos hlt]
        have hr := rd_range hw hlt
        have hk := parse_size ht (rd words at_)
        generalize hx : rd words (at_ : Int) = x at *
        refine Ev.pos (by omega) (Ev.pos (by omega) (Ev.pos (by omega) ?_))
        refine Ev.bindo s2 ?_
        rw [w64 (x := 4 * (types.length : Int)) (by omega) (by omega), w64 (x := 4 * (types.length : Int) - 1) (by omega) (by omega)]
        refine Ev.bindo (within_f _ _ _) ?_
        by_cases c1 : 0 ≤ x ∧ x / 4 < types.length
        · have hx1 : x ≤ 4 * (types.length : Int) - 1 := by omega
          refine Ev.pos (by simp [c1.1, hx1]) ?_
          rw [tdiv4 c1.1, w64 (x := x / 4) (by omega) (by omega)]
          have hkk : rdOf ByteArray.empty types (x / 4) = kindsAt types x := rfl
          rw [hkk]
          refine Ev.pos (by omega) (Ev.pos (by omega) (Ev.pos c1.2 (Ev.bindo s1 ?_)))
          rw [w64 (x := 1 + ((kindsAt types x).size : Int)) (by omega) (by omega), w64 (x := (at_ : Int) + (1 + ((kindsAt types x).size : Int))) (by omega) (by omega)]
          by_cases c2 : at_ + 1 + (kindsAt types x).size ≤ words.length
          · rw [if_pos ⟨c1.1, c1.2, c2⟩, finL_cons]
            have h := ih (at_ + 1 + (kindsAt types x).size) (acc ++ [(at_ : Int)]) c2 (by omega) (by simp; omega)
            rw [show ((at_ + 1 + (kindsAt types x).size : Nat) : Int) = (at_ : Int) + (1 + ((kindsAt types x).size : Int)) from by omega] at h
            exact Ev.neg (by omega) h
          · rw [if_neg (fun h => c2 h.2.2)]
            exact Ev.pos (by omega) (Ev.eq rfl)
        · rw [if_neg (fun h => c1 ⟨h.1, h.2.1⟩)]
          refine Ev.neg ?_ (Ev.eq rfl)
          simp only [Bool.and_eq_true, decide_eq_true_eq]
          omega
      · rw [if_neg hlt]
        exact Ev.neg (by omega) (Ev.eq (by simp [finL]))
  unfold impl_starts.f
  exact lp words.length 0 [] (by omega) (by omega) (by simp)
/-! ### references -/
/-- Nothing, old, or young and of one of these beginnings. -/
def refOk (st : List Int) (x : Int) : Bool := decide (refk x = 0) || decide (refk x = 1) || (decide (refk x = 2) && decide (x / 2 ∈ st))
theorem refk_pos {x : Int} (h : refk x = 2) : 1 ≤ x ∧ x ≤ 799 := by
  unfold refk at h
  split at h
  · omega
  · split at h
    · omega
    · split at h
      · omega
      · omega
theorem spec_l8Ref_ev (st : List Int) (x : Int) (hl : st.length ≤ 1099511627776) : Ev (fun k => spec_l8Ref.f k st x) (refOk st x) := by
  unfold spec_l8Ref.f refOk
  refine Ev.bind (spec_RefKind_ev x) ?_
  refine Ev.cases (fun c => Ev.eq (by simp [c])) (fun c => Ev.cases (fun c1 => Ev.eq (by simp [c1])) (fun c1 => Ev.cases (fun c2 => ?_) (fun c2 => Ev.eq (by simp [c, c1, c2]))))
  have hp := refk_pos c2
  rw [Int.tdiv_eq_ediv_of_nonneg (by omega), w64 (x := x / 2) (by omega) (by omega)]
  obtain ⟨r, hr, hm⟩ := placeIn_ev st (x / 2) hl
  refine Ev.bind hr (Ev.eq ?_)
  rcases hm with ⟨h0, hm⟩ | ⟨h0, hm⟩
  · simp [c2, h0, hm]
  · simp [c2, h0, hm]
theorem impl_isRef_ev (st : List Int) (x : Int) (hs : st.Pairwise (· < ·)) (hl : st.length ≤ 1099511627776) : Ev (fun k => impl_isRef.f k x st) (refOk st x) := by
  unfold impl_isRef.f impl_isOld.f impl_isHead.f refOk
  refine Ev.cases (fun c => Ev.eq ?_) (fun c => ?_)
  · have : refk x = 0 := by unfold refk; rw [if_pos c]
    simp [this]
  · have hn0 : ¬ refk x = 0 := by
      unfold refk
      rw [if_neg c]
      split
      · decide
      · split <;> decide
    refine Ev.bind (Ev.bind (impl_RefKind_ev x) (Ev.eq rfl)) ?_
    refine Ev.cases (fun c1 => Ev.eq ?_) (fun c1 => ?_)
    · have : refk x = 1 := by simpa using c1
      simp [this]
    · have hn1 : ¬ refk x = 1 := by simpa using c1
      refine Ev.val (Ev.bind (a := decide (refk x = 2) && decide (x / 2 ∈ st)) ?_ (Ev.eq rfl)) (by simp [hn0, hn1])
      refine Ev.bind (impl_isYoung_ev x) (Ev.cases (fun c2 => ?_) (fun c2 => Ev.eq ?_))
      · have c2 := of_decide_eq_true c2
        have hp := refk_pos c2
        rw [Int.tdiv_eq_ediv_of_nonneg (by omega), w64 (x := x / 2) (by omega) (by omega)]
        obtain ⟨i, f, hev, hi, hlo, hup, ht, hf⟩ := bsearch_ev st (x / 2) hs hl
        refine Ev.bind hev (Ev.eq ?_)
        simp only [c2, decide_true, Bool.true_and]
        cases hfc : f with
        | true =>
          obtain ⟨h, e⟩ := ht hfc
          exact (decide_eq_true (e ▸ List.getElem_mem h)).symm
        | false =>
          refine (decide_eq_false (fun hm => ?_)).symm
          obtain ⟨j, hj, e⟩ := List.getElem_of_mem hm
          rcases Nat.lt_trichotomy j i with c | c | c
          · have := hlo j hj c; omega
          · subst c
            have := hf hfc hj
            omega
          · have := hup j hj c; omega
      · have : ¬ refk x = 2 := by simpa using c2
        simp [this]
/-- The references among an object's values, from one on. -/
def objB (st : List Int) (t : ByteArray) : Nat → List Int → Bool
  | _, [] => true
  | i, v :: l => if bt t (i : Int) = 114 then refOk st v && objB st t (i + 1) l else objB st t (i + 1) l
theorem impl_obj_ev (st : List Int) (t : ByteArray) (hs : st.Pairwise (· < ·)) (hl : st.length ≤ 1099511627776) : ∀ (l : List Int) (i : Nat), Ev (fun k => objL (fun x => impl_isRef.f k x st) t i l) (objB st t i l)
  | [], i => Ev.eq rfl
  | v :: l, i => by
    have ih := impl_obj_ev st t hs hl l (i + 1)
    simp only [objL, objB]
    by_cases c : bt t (i : Int) = 114
    · rw [if_pos c]
      refine Ev.pos c (Ev.bind (impl_isRef_ev st v hs hl) (Ev.cases (fun c2 => ?_) (fun c2 => ?_)))
      · rw [c2, Bool.true_and]; exact ih
      · rw [Bool.eq_false_iff.2 c2, Bool.false_and]; exact Ev.eq rfl
    · rw [if_neg c]
      exact Ev.neg c ih
/-- The values of the object that begins with a word. -/
def valsAt (types : List ByteArray) (words : List Int) (n : Nat) : List Int := (words.take (n + 1 + (kindsAt types (rd words n)).size)).drop (n + 1)
def nurB (types : List ByteArray) (words st : List Int) : List Int → Bool
  | [] => true
  | h :: l => objB st (kindsAt types (rd words h)) 0 (valsAt types words h.toNat) && nurB types words st l
theorem youngObject_f (types : List ByteArray) (words : List Int) (sz : Int) (n : Nat) (ht : typesOk types = true) (hl : words.length ≤ 400) (hw : ∀ x ∈ words, -9223372036854775808 ≤ x ∧ x ≤ 9223372036854775807) (h : Fits types words (n : Int)) :
    impl_youngObject.f types sz words (n : Int) = some (rd words n / 4, valsAt types words n) := by
  obtain ⟨m, e, h1, h2, h3, h4⟩ := h
  obtain rfl : m = n := by omega
  have hr := rd_range hw h1
  have hc : slices_Clone_int64_int64.f (valsAt types words m) = some (valsAt types words m) := by
    unfold slices_Clone_int64_int64.f
    rw [if_pos]
    unfold valsAt
    rw [List.length_drop, List.length_take]
    omega
  unfold impl_youngObject.f
  rw [tdiv4 h2, w64 (x := rd words (m : Int) / 4) (by omega) (by omega), w64 (x := (m : Int) + 1) (by omega) (by omega)]
  have hkk : rdOf ByteArray.empty types (rd words (m : Int) / 4) = kindsAt types (rd words m) := rfl
  rw [hkk, w64 (x := (m : Int) + 1 + ((kindsAt types (rd words m)).size : Int)) (by omega) (by omega)]
  rw [if_pos (by omega), if_pos (by omega), if_pos (by omega), if_pos h3, if_pos (by omega), if_pos (by omega), if_pos (by omega)]
  rw [show ((m : Int) + 1 + ((kindsAt types (rd words m)).size : Int)).toNat = m + 1 + (kindsAt types (rd words m)).size from by omega, show ((m : Int) + 1).toNat = m + 1 from by omega]
  have e2 : (words.take (m + 1 + (kindsAt types (rd words m)).size)).drop (m + 1) = valsAt types words m := rfl
  rw [e2, hc]
  rfl
theorem vals_length {types : List ByteArray} {words : List Int} {n : Nat} (h : Fits types words (n : Int)) : (valsAt types words n).length = (kindsAt types (rd words n)).size := by
  obtain ⟨m, e, h1, h2, h3, h4⟩ := h
  obtain rfl : m = n := by omega
  unfold valsAt
  rw [List.length_drop, List.length_take]
  omega
theorem headsOk_ev (types : List ByteArray) (words st : List Int) (sz : Int) (ht : typesOk types = true) (hl : words.length ≤ 400) (hw : ∀ x ∈ words, -9223372036854775808 ≤ x ∧ x ≤ 9223372036854775807) (hs : st.Pairwise (· < ·)) (hsl : st.length ≤ 1099511627776) :
    ∀ l : List Int, (∀ x ∈ l, Fits types words x) → Ev (fun k => headsOk k types sz words st l) (nurB types words st l)
  | [], _ => Ev.eq rfl
  | h :: l, hf => by
    have ih := headsOk_ev types words st sz ht hl hw hs hsl l (fun x hx => hf x (List.mem_cons_of_mem _ hx))
    have hh := hf h (List.mem_cons_self ..)
    obtain ⟨n, rfl, h1, h2, h3, h4⟩ := id hh
    simp only [headsOk, nurB, Int.toNat_natCast]
    refine Ev.bindo (youngObject_f types words sz n ht hl hw hh) ?_
    have hobj : Ev (fun k => isObjF (fun x => impl_isRef.f k x st) types (rd words n / 4) (valsAt types words n)) (objB st (kindsAt types (rd words n)) 0 (valsAt types words n)) := by
      unfold isObjF
      refine Ev.pos ⟨by omega, h3⟩ (Ev.pos (vals_length hh) ?_)
      exact impl_obj_ev st _ hs hsl _ 0
    refine Ev.bind hobj (Ev.cases (fun c => ?_) (fun c => ?_))
    · rw [c, Bool.true_and]; exact ih
    · rw [Bool.eq_false_iff.2 c, Bool.false_and]; exact Ev.eq rfl
/-! ### both -/
def parsed (types : List ByteArray) (sz : Int) (words : List Int) : Option (List Int) :=
  if typesOk types = true ∧ (2 ≤ sz ∧ sz ≤ 400) ∧ (words.length : Int) ≤ sz then parseFrom types words words.length 0 else none
/-- The beginnings, if the nursery is right. -/
def headsR (types : List ByteArray) (sz : Int) (words : List Int) : Option (List Int) :=
  (parsed types sz words).bind fun st => if nurB types words st st = true then some st else none
theorem parsed_facts {types : List ByteArray} {sz : Int} {words st : List Int} (h : parsed types sz words = some st) : typesOk types = true ∧ words.length ≤ 400 ∧ (∀ x ∈ st, Fits types words x) ∧ st.Pairwise (· < ·) ∧ st.length ≤ 400 := by
  unfold parsed at h
  split at h
  · rename_i c
    obtain ⟨h1, h2, h3⟩ := parseFrom_fits types words _ _ _ h
    exact ⟨c.1, by omega, fun x hx => (h1 x hx).1, h2, by omega⟩
  · cases h
theorem spec_l8Parse_ev (types : List ByteArray) (sz : Int) (words : List Int) (hl : types.length ≤ 1048576) (hs : ∀ x ∈ types, x.size ≤ 1048576) (hw : ∀ x ∈ words, -9223372036854775808 ≤ x ∧ x ≤ 9223372036854775807) : Ev (fun k => spec_l8Parse.f k types sz words) (finL [] (parsed types sz words)) := by
  unfold spec_l8Parse.f parsed
  refine Ev.bindo rfl (Ev.bind (spec_TypesOk_ev types hl hs) ?_)
  have bad : Ev (fun k => spec_l8Parse.j0 k types ([] : List Int) true sz words) (([] : List Int), false) := by
    refine Ev.step (fun k => by rw [spec_l8Parse.j0]) ?_
    exact Ev.pos rfl (Ev.eq rfl)
  refine Ev.cases (fun c => ?_) (fun c => ?_)
  · refine Ev.bindo (l1In_f _ _ _) ?_
    refine Ev.cases (fun c1 => ?_) (fun c1 => ?_)
    · have c1 : 2 ≤ sz ∧ sz ≤ 400 := by simpa using c1
      by_cases c2 : (words.length : Int) ≤ sz
      · rw [if_pos ⟨c, c1, c2⟩]
        refine Ev.step (fun k => by rw [spec_l8Parse.j0]) ?_
        refine Ev.neg (by simp; omega) ?_
        exact spec_parse_ev types words sz c (by omega) hw words.length 0 [] (by omega) (by omega) (by simp)
      · rw [if_neg (fun h => c2 h.2.2), show decide ((words.length : Int) > sz) = true from decide_eq_true (by omega)]
        exact bad
    · rw [if_neg (fun h => c1 (by simpa using h.2.1))]
      exact bad
  · rw [if_neg (fun h => c h.1)]
    exact bad
theorem impl_heads_ev (types : List ByteArray) (sz : Int) (words : List Int) (hs : ∀ x ∈ types, x.size ≤ 1048576) (hw : ∀ x ∈ words, -9223372036854775808 ≤ x ∧ x ≤ 9223372036854775807) : Ev (fun k => impl_heads.f k types sz words) (finL [] (headsR types sz words)) := by
  unfold impl_heads.f headsR
  refine Ev.bindo (impl_TypesOk_f types hs) ?_
  by_cases c : typesOk types = true
  · by_cases c1 : 2 ≤ sz ∧ sz ≤ 400
    · by_cases c2 : (words.length : Int) ≤ sz
      · refine Ev.pos c (Ev.pos c1 (Ev.pos c2 (Ev.bind (impl_starts_ev types words sz c (by omega) hw) ?_)))
        have e : parsed types sz words = parseFrom types words words.length 0 := by rw [parsed, if_pos ⟨c, c1, c2⟩]
        have hfacts := fun st h => @parsed_facts types sz words st h
        rw [e] at *
        cases hp : parseFrom types words words.length 0 with
        | none => exact Ev.neg (by simp [finL]) (Ev.eq rfl)
        | some st =>
          obtain ⟨_, _, hfit, hsrt, hlen⟩ := hfacts st hp
          simp only [finL, List.nil_append, Option.bind_some]
          refine Ev.pos trivial (Ev.bind (headsOk_ev types words st sz c (by omega) hw hsrt (by omega) st hfit) (Ev.cases (fun c3 => ?_) (fun c3 => ?_)))
          · rw [if_pos c3]; exact Ev.eq rfl
          · rw [if_neg c3]; exact Ev.eq rfl
      · rw [parsed, if_neg (fun h => c2 h.2.2)]
        exact Ev.pos c (Ev.pos c1 (Ev.neg c2 (Ev.eq rfl)))
    · rw [parsed, if_neg (fun h => c1 h.2.1)]
      exact Ev.pos c (Ev.neg c1 (Ev.eq rfl))
  · rw [parsed, if_neg (fun h => c h.1)]
    exact Ev.neg c (Ev.eq rfl)
theorem spec_NurseryOk_ev (types : List ByteArray) (sz : Int) (words : List Int) (hl : types.length ≤ 1048576) (hs : ∀ x ∈ types, x.size ≤ 1048576) (hw : ∀ x ∈ words, -9223372036854775808 ≤ x ∧ x ≤ 9223372036854775807) : Ev (fun k => spec_NurseryOk.f k types sz words) (headsR types sz words).isSome := by
  unfold spec_NurseryOk.f headsR
  refine Ev.bind (spec_l8Parse_ev types sz words hl hs hw) ?_
  cases hp : parsed types sz words with
  | none => exact Ev.neg (by simp [finL]) (Ev.eq rfl)
  | some st =>
    obtain ⟨ht, hwl, hfit, hsrt, hlen⟩ := parsed_facts hp
    have htl := types_length ht
    simp only [finL, List.nil_append, Option.bind_some]
    refine Ev.pos trivial ?_
    have lp : ∀ (d i : Nat), st.length - i = d → i ≤ st.length → Ev (fun k => spec_NurseryOk.l0 k types st (i : Int) sz words) (nurB types words st (st.drop i)) := by
      intro d
      induction d with
      | zero =>
        intro i hd hi
        rw [List.drop_eq_nil_of_le (by omega)]
        refine Ev.step (fun k => by rw [spec_NurseryOk.l0]) ?_
        exact Ev.neg (by omega) (Ev.eq rfl)
      | succ d ih =>
        intro i hd hi
        have hlt : i < st.length := by omega
        have ih := ih (i + 1) (by omega) (by omega)
        have hh := hfit st[i] (List.getElem_mem hlt)
        have hget : rd st (i : Int) = st[i] := rd_get hlt
        rw [List.drop_eq_getElem_cons hlt, nurB]
        generalize st[i] = h at *
        obtain ⟨n, rfl, h1, h2, h3, h4⟩ := id hh
        have hr := rd_range hw h1
        have hvl := vals_length hh
        rw [Int.toNat_natCast]
        refine Ev.step (fun k => by rw [spec_NurseryOk.l0]) ?_
        rw [hget, tdiv4 h2, w64 (x := rd words (n : Int) / 4) (by omega) (by omega)]
        have hkk : rdOf ByteArray.empty types (rd words (n : Int) / 4) = kindsAt types (rd words n) := rfl
        rw [hkk]
        refine Ev.pos (by omega) (Ev.pos (by omega) (Ev.pos (by omega) (Ev.pos (by omega) (Ev.pos (by omega) (Ev.pos h3 ?_)))))
        have lq : ∀ (e j : Nat), (kindsAt types (rd words n)).size - j = e → j ≤ (kindsAt types (rd words n)).size → Ev (fun k => spec_NurseryOk.l1 k types st (i : Int) (kindsAt types (rd words n)) (j : Int) sz words) (objB st (kindsAt types (rd words n)) j ((valsAt types words n).drop j) && nurB types words st (st.drop (i + 1))) := by
          intro e
          induction e with
          | zero =>
            intro j he hj
            rw [List.drop_eq_nil_of_le (by omega)]
            simp only [objB, Bool.true_and]
            refine Ev.step (fun k => by rw [spec_NurseryOk.l1]) ?_
            rw [show wrap64 ((i : Int) + 1) = ((i + 1 : Nat) : Int) from by rw [w64 (by omega) (by omega)]; omega]
            exact Ev.neg (by omega) ih
          | succ e ihe =>
            intro j he hj
            have ihe := ihe (j + 1) (by omega) (by omega)
            have hjl : j < (valsAt types words n).length := by omega
            have hval : rd words (((n + 1 + j : Nat) : Int)) = (valsAt types words n)[j] := by
              rw [rd_get (by omega)]
              simp only [valsAt, List.getElem_drop, List.getElem_take]
            refine Ev.step (fun k => by rw [spec_NurseryOk.l1]) ?_
            rw [hget, w64 (x := (n : Int) + 1) (by omega) (by omega), w64 (x := (n : Int) + 1 + (j : Int)) (by omega) (by omega), show (n : Int) + 1 + (j : Int) = ((n + 1 + j : Nat) : Int) from by omega, hval,
              show wrap64 ((j : Int) + 1) = ((j + 1 : Nat) : Int) from by rw [w64 (by omega) (by omega)]; omega, List.drop_eq_getElem_cons hjl, objB]
            refine Ev.pos (by omega) (Ev.pos (by omega) ?_)
            by_cases c : bt (kindsAt types (rd words n)) (j : Int) = 114
            · rw [if_pos c]
              refine Ev.pos c (Ev.pos (by omega) (Ev.pos (by omega) (Ev.pos (by omega) (Ev.pos (by omega) (Ev.bind (spec_l8Ref_ev st _ (by omega)) (Ev.cases (fun c2 => ?_) (fun c2 => ?_)))))))
              · rw [c2, Bool.true_and]; exact ihe
              · rw [Bool.eq_false_iff.2 c2, Bool.false_and, Bool.false_and]; exact Ev.eq rfl
            · rw [if_neg c]
              exact Ev.neg c ihe
        exact lq _ 0 rfl (by omega)
    have h := lp _ 0 rfl (by omega)
    rw [List.drop_zero] at h
    refine Ev.val h ?_
    split <;> simp_all
end Go.Proofs.YtgfeafcgpeclcaaDoor.Pure
namespace Go.Proofs.YtgfeafcgpeclcaaDoor.Pure
open Go.RowKit Go.Proofs.YtgfeafcgpeclcaaDoor.X Go.Proofs.YtgfeafcgpeclcaaDoorW.PrintWords Go.Proofs.YtgfeafcgpeclcaaDoorW.PrintLast
set_option linter.unusedVariables false
set_option linter.unusedSimpArgs false
theorem ints_range {l : List Int} (h : ∀ y ∈ l, (Go.Lit.int .i64 y).wf = true) : ∀ x ∈ l, -9223372036854775808 ≤ x ∧ x ≤ 9223372036854775807 := by
  intro x hx
  have := h x hx
  simp [Go.Lit.wf, Go.IntKind.min, Go.IntKind.max, Go.IntKind.signed, Go.IntKind.bits] at this
  omega
theorem szNursery_f (sz : Int) (l : List Int) (hl : l.length ≤ maxLen) (n : Int) (h0 : 0 ≤ n) (h1 : n ≤ 1048576) : ∃ r, laws_szNursery.f sz l n = some r ∧ (¬ r < 0 → l.length ≤ 1048576) := by
  have hl : l.length ≤ 9223372036854775807 := hl
  unfold laws_szNursery.f laws_szInt64S.f
  rw [w64 (x := n - (l.length : Int)) (by omega) (by omega)]
  by_cases c : n - (l.length : Int) < 0
  · exact ⟨-1, by simp [c], fun h => absurd (show (-1 : Int) < 0 by omega) h⟩
  · exact ⟨n - (l.length : Int), by simp [c], fun _ => by omega⟩
theorem toNursery_ev (sz : Int) (l : List Int) (hl : l.length ≤ 1048576) : Ev (fun k => laws_toNursery.f k sz l) (sz, l) := by
  unfold laws_toNursery.f
  exact Ev.bind (toInt64S_ev l (by omega)) (Ev.eq rfl)
theorem eqNursery_same (sz : Int) (l : List Int) (hl : l.length ≤ 1048576) : Ev (fun k => laws_eqNursery.f k sz l sz l) true := by
  unfold laws_eqNursery.f
  exact Ev.pos rfl (Ev.bind (eqInt64S_same l (by omega)) (Ev.pos rfl (Ev.eq rfl)))
end Go.Proofs.YtgfeafcgpeclcaaDoor.Pure
namespace Go.Proofs.YtgfeafcgpeclcaaDoor.X
open Go.RowKit Go.Proofs.YtgfeafcgpeclcaaDoorW.PrintWords Go.Proofs.YtgfeafcgpeclcaaDoorW.PrintLast Go.Proofs.YtgfeafcgpeclcaaDoorW.PrintMore
attribute [local go_sem] max2_int min2_int max_two min_two max_three min_three max_four min_four   -- for this text's walks alone
set_option linter.unusedVariables false
set_option linter.unusedSimpArgs false

/-! ### spec_Starts: function 24 -/
def spec_Starts.f (k : Nat) (l0 : List ByteArray) (a1_0 : Int) (l1_1 : List Int) : Option (List Int) := (spec_NurseryOk.f k l0 a1_0 l1_1).bind fun t239 => (if t239 = true then ((spec_l8Parse.f k l0 a1_0 l1_1).bind fun bt240 => (some bt240.1)) else (some ([] : List Int)))
theorem spec_Starts.mono : ∀ a0 a1 a2 k, LeO (spec_Starts.f k a0 a1 a2) (spec_Starts.f (k + 1) a0 a1 a2) := by
 intro a0 a1 a2 k
 unfold spec_Starts.f
 repeat' first
   | (with_reducible exact spec_NurseryOk.mono _ _ _ _)
   | (with_reducible exact spec_l8Parse.mono _ _ _ _)
   | (with_reducible exact LeO.refl _)
   | (with_reducible exact LeO.none _)
   | (with_reducible refine LeO.ite ?_ ?_)
   | (with_reducible refine LeO.bind ?_ (fun _ => ?_))
   | exact spec_NurseryOk.mono _ _ _ _
   | exact spec_l8Parse.mono _ _ _ _
   | exact LeO.none _
   | refine LeO.ite ?_ ?_
   | refine LeO.bind ?_ (fun _ => ?_)
set_option maxHeartbeats 8000000 in
set_option maxRecDepth 100000 in
theorem spec_Starts.calls (k : Nat) (A0 : Option Addr) (c0 : Nat) (l0 : List ByteArray) (a1_0 : Int) (A1_1 : Option Addr) (c1_1 : Nat) (l1_1 : List Int) (r : List Int) (w : World) (hr0 : Kd.C Kd.string w A0 l0.length l0) (hc0 : l0.length ≤ c0) (hr1_1 : Kd.C (Kd.int .i64) w A1_1 l1_1.length l1_1) (hc1_1 : l1_1.length ≤ c1_1) (h : spec_Starts.f k l0 a1_0 l1_1 = some r) :
  Calls Tryd.prog 24 #[.slice A0 l0.length c0,.agg #[.int .i64 a1_0,.slice A1_1 l1_1.length c1_1]] w fun e w' => ∃ v0_ : Value,e = .returned (v0_)∧Kd.R (Kd.int .i64) 2 w' w.heap.size (fun _ => True) v0_ r∧Below w.heap.size w w':=by
 have hu30:=Tryd.underlying30
 have HR0:=Aside0.mk hr0
 have HC0:=Aside0.mk hc0
 clear hr0 hc0
 have HR1_1:=Aside0.mk hr1_1
 have HC1_1:=Aside0.mk hc1_1
 clear hr1_1 hc1_1
 have HB:=Aside0.mk (Below.refl w.heap.size w)
 have H : ((spec_NurseryOk.f k l0 a1_0 l1_1).bind fun t239 => (if t239 = true then ((spec_l8Parse.f k l0 a1_0 l1_1).bind fun bt240 => (some bt240.1)) else (some ([] : List Int)))) = some r:=h
 clear h
 replace H:=Option.bind_eq_some_iff.mp H
 obtain ⟨t239,A30,H⟩:=H
 try dsimp only at H
 have A3:=Aside0.mk A30
 clear A30
 by_cases c4 : t239 = true
 ·subst c4
  have H1:=H;rw [if_pos rfl] at H1
  clear H
  have H:=H1
  clear H1
  replace H:=Option.bind_eq_some_iff.mp H
  obtain ⟨⟨t240,t243⟩,A50,H⟩:=H
  try dsimp only at H
  have A5:=Aside0.mk A50
  clear A50
  obtain rfl:=Option.some.inj H
  go_enter Tryd.func24,Tryd.ntmps24
  go_wp2_with (first|((with_reducible refine gate_dst (N:=3) rfl ?_);refine box_event ?hg (N:=3) ?hd (cs:=#[.int .i64 a1_0,.slice A1_1 l1_1.length c1_1]) (t:=30) ?hr ?_;(case hd => rfl);(case hg => rfl);(case hr => first|(go_simp;done)|(go_simp;rfl));intro gb238 hg w6 hbox hb;have n0_:=Aside0.mk (below_step (by repeat (first|(with_reducible first|exact HB.out|apply below_alloc|apply pw_below_drewN|apply below_drew1)|exact HB.out)) hb);have n1_:=Aside0.mk (hbox);have n2_:=Aside0.mk ((by rw [hg];exact (below_size (by repeat (first|(with_reducible first|exact HB.out|apply below_alloc|apply pw_below_drewN|apply below_drew1)|exact HB.out))) : w.heap.size ≤ gb238));have n3_:=Aside0.mk ((by rw [hg];exact (below_size (by repeat (first|(with_reducible first|exact HB.out|apply below_alloc|apply pw_below_drewN|apply below_drew1)|exact HB.out))) : w.heap.size ≤ gb238));clear HB;have HB:=n0_;have BK238:=n1_;have GW238:=n2_;have GE238:=n3_;clear n0_ n1_ n2_ n3_;clear hb hbox hg;have hcz7_0 : w6.cell? ⟨gb238,0,none⟩ = some (.int .i64 a1_0):=(blk_cell BK238.out 0).trans rfl;have hcz7_1 : w6.cell? ⟨gb238,1,none⟩ = some (.slice A1_1 l1_1.length c1_1):=(blk_cell BK238.out 1).trans rfl;have hfz7_0:=blk_frozen BK238.out 0;have hfz7_1:=blk_frozen BK238.out 1)|((with_reducible refine gate_callee (f:=18) rfl ?_);refine goesL_ (some 9) rfl rfl Tryd.func18 (by kernel_rfl) rfl #[.slice A0 l0.length c0,.agg #[.int .i64 a1_0,.slice A1_1 l1_1.length c1_1]] rfl (by (try simp only [List.map_toArray,List.map_cons,List.map_nil]);first|done|rfl|(simp only [List.length_drop,List.length_take];rfl)) ?_;(with_reducible refine (spec_NurseryOk.calls k _ _ l0 a1_0 _ _ l1_1 true _ ?side1 ?side2 ?side3 ?side4 A3.out).mono ?_);(case side1 => repeat (first|exact (Kd.C_below HR0.out HB.out)|(with_reducible first|refine Kd.C_alloc ?_ _|refine Kd.C_drewN ?_ _|refine Kd.C_drew ?_)));(case side2 => exact HC0.out);(case side3 => repeat (first|exact (Kd.C_below HR1_1.out HB.out)|(with_reducible first|refine Kd.C_alloc ?_ _|refine Kd.C_drewN ?_ _|refine Kd.C_drew ?_)));(case side4 => exact HC1_1.out);rintro e w8 ⟨rfl,hb⟩;refine ⟨_,rfl,?_⟩;have n0_:=Aside0.mk (blk_below (g:=gb238) (o:=.cells #[.int .i64 a1_0,.slice A1_1 l1_1.length c1_1] 30 (0,0)) (by (with_reducible repeat (first|refine blk_drewN ?_ _|refine blk_drew ?_|refine blk_alloc ?_ _));exact BK238.out) hb);have n1_:=Aside0.mk (below_step (by repeat (first|(with_reducible first|exact HB.out|apply below_alloc|apply pw_below_drewN|apply below_drew1|refine below_set ?_ GE238.out)|exact HB.out)) hb);clear BK238 HB;have BK238:=n0_;have HB:=n1_;clear n0_ n1_;(try clear hb);(try clear hb2);(try clear hk);(try clear hi);have hcz9_0 : w8.cell? ⟨gb238,0,none⟩ = some (.int .i64 a1_0):=(blk_cell BK238.out 0).trans rfl;have hcz9_1 : w8.cell? ⟨gb238,1,none⟩ = some (.slice A1_1 l1_1.length c1_1):=(blk_cell BK238.out 1).trans rfl;have hfz9_0:=blk_frozen BK238.out 0;have hfz9_1:=blk_frozen BK238.out 1)|((with_reducible refine gate_callee (f:=58) rfl ?_);refine goesL_ (some 14) rfl rfl Tryd.func58 (by kernel_rfl) rfl #[.slice A0 l0.length c0,.agg #[.int .i64 a1_0,.slice A1_1 l1_1.length c1_1]] rfl (by (try simp only [List.map_toArray,List.map_cons,List.map_nil]);first|done|rfl|(simp only [List.length_drop,List.length_take];rfl)) ?_;(with_reducible refine (spec_l8Parse.calls k _ _ l0 a1_0 _ _ l1_1 t240 t243 _ ?side1 ?side2 ?side3 ?side4 A5.out).mono ?_);(case side1 => repeat (first|exact (Kd.C_below HR0.out HB.out)|(with_reducible first|refine Kd.C_alloc ?_ _|refine Kd.C_drewN ?_ _|refine Kd.C_drew ?_)));(case side2 => exact HC0.out);(case side3 => repeat (first|exact (Kd.C_below HR1_1.out HB.out)|(with_reducible first|refine Kd.C_alloc ?_ _|refine Kd.C_drewN ?_ _|refine Kd.C_drew ?_)));(case side4 => exact HC1_1.out);rintro e w10 ⟨v241,rfl,ho0,hb⟩;refine ⟨_,rfl,?_⟩;have n0_:=Aside0.mk (Kd.R_lower ho0 (below_size (by repeat (first|(with_reducible first|exact HB.out|apply below_alloc|apply pw_below_drewN|apply below_drew1|refine below_set ?_ GE238.out)|exact HB.out))));have n1_:=Aside0.mk (blk_below (g:=gb238) (o:=.cells #[.int .i64 a1_0,.slice A1_1 l1_1.length c1_1] 30 (0,0)) (by (with_reducible repeat (first|refine blk_drewN ?_ _|refine blk_drew ?_|refine blk_alloc ?_ _));exact BK238.out) hb);have n2_:=Aside0.mk (below_step (by repeat (first|(with_reducible first|exact HB.out|apply below_alloc|apply pw_below_drewN|apply below_drew1|refine below_set ?_ GE238.out)|exact HB.out)) hb);clear BK238 HB;have HO242:=n0_;have BK238:=n1_;have HB:=n2_;clear n0_ n1_ n2_;(try clear hb);(try clear hb2);(try clear hk);(try clear hi);(try clear ho0)))
  go_ret
  exact ⟨_,by first|rfl|(simp [errW_none,errW_some] <;> rfl)|(simp [*,errW_none,errW_some] <;> rfl),by (with_reducible repeat (first|apply Kd.R_alloc|apply Kd.R_drewN|apply Kd.R_drew));exact HO242.out,by repeat (first|(with_reducible first|exact HB.out|apply below_alloc|apply pw_below_drewN|apply below_drew1|refine below_set ?_ GE238.out)|exact HB.out)⟩
 ·replace c4:=Bool.eq_false_iff.mpr c4
  subst c4
  have H1 : (some ([] : List Int)) = some r:=by rw [if_neg (show ¬ (false = true) by decide)] at H;exact H
  clear H
  have H:=H1
  clear H1
  obtain rfl:=Option.some.inj H
  go_enter Tryd.func24,Tryd.ntmps24
  go_wp2_with (first|((with_reducible refine gate_dst (N:=3) rfl ?_);refine box_event ?hg (N:=3) ?hd (cs:=#[.int .i64 a1_0,.slice A1_1 l1_1.length c1_1]) (t:=30) ?hr ?_;(case hd => rfl);(case hg => rfl);(case hr => first|(go_simp;done)|(go_simp;rfl));intro gb238 hg w11 hbox hb;have n0_:=Aside0.mk (below_step (by repeat (first|(with_reducible first|exact HB.out|apply below_alloc|apply pw_below_drewN|apply below_drew1)|exact HB.out)) hb);have n1_:=Aside0.mk (hbox);have n2_:=Aside0.mk ((by rw [hg];exact (below_size (by repeat (first|(with_reducible first|exact HB.out|apply below_alloc|apply pw_below_drewN|apply below_drew1)|exact HB.out))) : w.heap.size ≤ gb238));have n3_:=Aside0.mk ((by rw [hg];exact (below_size (by repeat (first|(with_reducible first|exact HB.out|apply below_alloc|apply pw_below_drewN|apply below_drew1)|exact HB.out))) : w.heap.size ≤ gb238));clear HB;have HB:=n0_;have BK238:=n1_;have GW238:=n2_;have GE238:=n3_;clear n0_ n1_ n2_ n3_;clear hb hbox hg;have hcz12_0 : w11.cell? ⟨gb238,0,none⟩ = some (.int .i64 a1_0):=(blk_cell BK238.out 0).trans rfl;have hcz12_1 : w11.cell? ⟨gb238,1,none⟩ = some (.slice A1_1 l1_1.length c1_1):=(blk_cell BK238.out 1).trans rfl;have hfz12_0:=blk_frozen BK238.out 0;have hfz12_1:=blk_frozen BK238.out 1)|((with_reducible refine gate_callee (f:=18) rfl ?_);refine goesL_ (some 9) rfl rfl Tryd.func18 (by kernel_rfl) rfl #[.slice A0 l0.length c0,.agg #[.int .i64 a1_0,.slice A1_1 l1_1.length c1_1]] rfl (by (try simp only [List.map_toArray,List.map_cons,List.map_nil]);first|done|rfl|(simp only [List.length_drop,List.length_take];rfl)) ?_;(with_reducible refine (spec_NurseryOk.calls k _ _ l0 a1_0 _ _ l1_1 false _ ?side1 ?side2 ?side3 ?side4 A3.out).mono ?_);(case side1 => repeat (first|exact (Kd.C_below HR0.out HB.out)|(with_reducible first|refine Kd.C_alloc ?_ _|refine Kd.C_drewN ?_ _|refine Kd.C_drew ?_)));(case side2 => exact HC0.out);(case side3 => repeat (first|exact (Kd.C_below HR1_1.out HB.out)|(with_reducible first|refine Kd.C_alloc ?_ _|refine Kd.C_drewN ?_ _|refine Kd.C_drew ?_)));(case side4 => exact HC1_1.out);rintro e w13 ⟨rfl,hb⟩;refine ⟨_,rfl,?_⟩;have n0_:=Aside0.mk (blk_below (g:=gb238) (o:=.cells #[.int .i64 a1_0,.slice A1_1 l1_1.length c1_1] 30 (0,0)) (by (with_reducible repeat (first|refine blk_drewN ?_ _|refine blk_drew ?_|refine blk_alloc ?_ _));exact BK238.out) hb);have n1_:=Aside0.mk (below_step (by repeat (first|(with_reducible first|exact HB.out|apply below_alloc|apply pw_below_drewN|apply below_drew1|refine below_set ?_ GE238.out)|exact HB.out)) hb);clear BK238 HB;have BK238:=n0_;have HB:=n1_;clear n0_ n1_;(try clear hb);(try clear hb2);(try clear hk);(try clear hi)))
  go_ret
  exact ⟨_,by first|rfl|(simp [errW_none,errW_some] <;> rfl)|(simp [*,errW_none,errW_some] <;> rfl),by first|exact Kd.R_nil _ _ _ _ _|exact Kd.N_nil _ _ _ _ _|exact Kd.V_nil _ _ _ _ _|exact Kd.Q_nil _ _ _ _ _|exact Kd.S_nil _ _ _ _ _,by repeat (first|(with_reducible first|exact HB.out|apply below_alloc|apply pw_below_drewN|apply below_drew1|refine below_set ?_ GE238.out)|exact HB.out)⟩

end Go.Proofs.YtgfeafcgpeclcaaDoor.X
namespace Go.Proofs.YtgfeafcgpeclcaaDoor.X
open Go.RowKit Go.Proofs.YtgfeafcgpeclcaaDoorW.PrintWords Go.Proofs.YtgfeafcgpeclcaaDoorW.PrintLast Go.Proofs.YtgfeafcgpeclcaaDoorW.PrintMore
attribute [local go_sem] max2_int min2_int max_two min_two max_three min_three max_four min_four   -- for this text's walks alone
set_option linter.unusedVariables false
set_option linter.unusedSimpArgs false

/-! ### impl_Starts: function 25 -/
def impl_Starts.f (k : Nat) (l0 : List ByteArray) (a1_0 : Int) (l1_1 : List Int) : Option (List Int) := (impl_heads.f k l0 a1_0 l1_1).bind fun bt245 => (some bt245.1)
theorem impl_Starts.mono : ∀ a0 a1 a2 k, LeO (impl_Starts.f k a0 a1 a2) (impl_Starts.f (k + 1) a0 a1 a2) := by
  intro a0 a1 a2 k
  unfold impl_Starts.f
  repeat' first
      | (with_reducible exact impl_heads.mono _ _ _ _)
      | (with_reducible exact LeO.refl _)
      | (with_reducible exact LeO.none _)
      | (with_reducible refine LeO.ite ?_ ?_)
      | (with_reducible refine LeO.bind ?_ (fun _ => ?_))
      | exact impl_heads.mono _ _ _ _
      | exact LeO.none _
      | refine LeO.ite ?_ ?_
      | refine LeO.bind ?_ (fun _ => ?_)
set_option maxHeartbeats 8000000 in
set_option maxRecDepth 100000 in
theorem impl_Starts.calls (k : Nat) (A0 : Option Addr) (c0 : Nat) (l0 : List ByteArray) (a1_0 : Int) (A1_1 : Option Addr) (c1_1 : Nat) (l1_1 : List Int) (r : List Int) (w : World) (hr0 : Kd.C Kd.string w A0 l0.length l0) (hc0 : l0.length ≤ c0) (hr1_1 : Kd.C (Kd.int .i64) w A1_1 l1_1.length l1_1) (hc1_1 : l1_1.length ≤ c1_1) (h : impl_Starts.f k l0 a1_0 l1_1 = some r) :
    Calls Tryd.prog 25 #[.slice A0 l0.length c0, .agg #[.int .i64 a1_0, .slice A1_1 l1_1.length c1_1]] w fun e w' => ∃ v0_ : Value, e = .returned (v0_) ∧ Kd.R (Kd.int .i64) 2 w' w.heap.size (fun _ => True) v0_ r ∧ Below w.heap.size w w' := by
  have hu30 := Tryd.underlying30
  have HR0 := Aside0.mk hr0
  have HC0 := Aside0.mk hc0
  clear hr0 hc0
  have HR1_1 := Aside0.mk hr1_1
  have HC1_1 := Aside0.mk hc1_1
  clear hr1_1 hc1_1
  have HB := Aside0.mk (Below.refl w.heap.size w)
  have H : ((impl_heads.f k l0 a1_0 l1_1).bind fun bt245 => (some bt245.1)) = some r := h
  clear h
  replace H := Option.bind_eq_some_iff.mp H
  obtain ⟨⟨t245, t248⟩, A30, H⟩ := H
  replace H : (some t245) = some r := H
  have A3 := Aside0.mk A30
  clear A30
  obtain rfl := Option.some.inj H
  go_enter Tryd.func25, Tryd.ntmps25
  go_wp2_with (first | ((with_reducible refine gate_dst (N := 3) rfl ?_); refine box_event ?hg (N := 3) ?hd (cs := #[.int .i64 a1_0, .slice A1_1 l1_1.length c1_1]) (t := 30) ?hr ?_; (case hd => rfl); (case hg => rfl); (case hr => first | (go_simp; done) | (go_simp; rfl)); intro gb244 hg w4 hbox hb; have n0_ := Aside0.mk (below_step (by repeat (first | (with_reducible first | exact HB.out | apply below_alloc | apply pw_below_drewN | apply below_drew1) | exact HB.out)) hb); have n1_ := Aside0.mk (hbox); have n2_ := Aside0.mk ((by rw [hg]; exact (below_size (by repeat (first | (with_reducible first | exact HB.out | apply below_alloc | apply pw_below_drewN | apply below_drew1) | exact HB.out))) : w.heap.size ≤ gb244)); have n3_ := Aside0.mk ((by rw [hg]; exact (below_size (by repeat (first | (with_reducible first | exact HB.out | apply below_alloc | apply pw_below_drewN | apply below_drew1) | exact HB.out))) : w.heap.size ≤ gb244)); clear HB; have HB := n0_; have BK244 := n1_; have GW244 := n2_; have GE244 := n3_; clear n0_ n1_ n2_ n3_; clear hb hbox hg; have hcz5_0 : w4.cell? ⟨gb244, 0, none⟩ = some (.int .i64 a1_0) := (blk_cell BK244.out 0).trans rfl; have hcz5_1 : w4.cell? ⟨gb244, 1, none⟩ = some (.slice A1_1 l1_1.length c1_1) := (blk_cell BK244.out 1).trans rfl; have hfz5_0 := blk_frozen BK244.out 0; have hfz5_1 := blk_frozen BK244.out 1) | ((with_reducible refine gate_callee (f := 60) rfl ?_); refine goesL_ (some 10) rfl rfl Tryd.func60 (by kernel_rfl) rfl #[.slice A0 l0.length c0, .agg #[.int .i64 a1_0, .slice A1_1 l1_1.length c1_1]] rfl (by (try simp only [List.map_toArray, List.map_cons, List.map_nil]); first | done | rfl | (simp only [List.length_drop, List.length_take]; rfl)) ?_; (with_reducible refine (impl_heads.calls k _ _ l0 a1_0 _ _ l1_1 t245 t248 _ ?side1 ?side2 ?side3 ?side4 A3.out).mono ?_); (case side1 => repeat (first | exact (Kd.C_below HR0.out HB.out) | (with_reducible refine Kd.C_alloc ?_ _) | (with_reducible refine Kd.C_drewN ?_ _) | (with_reducible refine Kd.C_drew ?_))); (case side2 => exact HC0.out); (case side3 => repeat (first | exact (Kd.C_below HR1_1.out HB.out) | (with_reducible refine Kd.C_alloc ?_ _) | (with_reducible refine Kd.C_drewN ?_ _) | (with_reducible refine Kd.C_drew ?_))); (case side4 => exact HC1_1.out); rintro e w6 ⟨v246, rfl, ho0, hb⟩; refine ⟨_, rfl, ?_⟩; have n0_ := Aside0.mk (Kd.R_lower ho0 (below_size (by repeat (first | (with_reducible first | exact HB.out | apply below_alloc | apply pw_below_drewN | apply below_drew1 | refine below_set ?_ GE244.out) | exact HB.out)))); have n1_ := Aside0.mk (blk_below (g := gb244) (o := .cells #[.int .i64 a1_0, .slice A1_1 l1_1.length c1_1] 30 (0, 0)) (by (with_reducible repeat (first | refine blk_drewN ?_ _ | refine blk_drew ?_ | refine blk_alloc ?_ _)); exact BK244.out) hb); have n2_ := Aside0.mk (below_step (by repeat (first | (with_reducible first | exact HB.out | apply below_alloc | apply pw_below_drewN | apply below_drew1 | refine below_set ?_ GE244.out) | exact HB.out)) hb); clear BK244; clear HB; have HO247 := n0_; have BK244 := n1_; have HB := n2_; clear n0_ n1_ n2_; (try clear hb); (try clear hb2); (try clear hk); (try clear hi); (try clear ho0)))
  go_ret
  exact ⟨_, by first | rfl | (simp [errW_none, errW_some] <;> rfl) | (simp [*, errW_none, errW_some] <;> rfl), by (with_reducible repeat (first | apply Kd.R_alloc | apply Kd.R_drewN | apply Kd.R_drew)); exact HO247.out, by repeat (first | (with_reducible first | exact HB.out | apply below_alloc | apply pw_below_drewN | apply below_drew1 | refine below_set ?_ GE244.out) | exact HB.out)⟩

end Go.Proofs.YtgfeafcgpeclcaaDoor.X
namespace Go.Proofs.YtgfeafcgpeclcaaDoor.Pure
open Go.RowKit Go.Proofs.YtgfeafcgpeclcaaDoor.X Go.Proofs.YtgfeafcgpeclcaaDoorW.PrintWords Go.Proofs.YtgfeafcgpeclcaaDoorW.PrintLast
set_option linter.unusedVariables false
set_option linter.unusedSimpArgs false
theorem headsR_some {types : List ByteArray} {sz : Int} {words st : List Int} (h : headsR types sz words = some st) : parsed types sz words = some st ∧ nurB types words st st = true := by
  unfold headsR at h
  obtain ⟨m, hm, h⟩ := Option.bind_eq_some_iff.1 h
  split at h
  · rename_i c
    obtain rfl := Option.some.inj h
    exact ⟨hm, c⟩
  · cases h
theorem headsR_length (types : List ByteArray) (sz : Int) (words : List Int) : ((headsR types sz words).getD []).length ≤ 400 := by
  cases h : headsR types sz words with
  | none => simp
  | some st => exact (parsed_facts (headsR_some h).1).2.2.2.2
theorem spec_Starts_ev (types : List ByteArray) (sz : Int) (words : List Int) (hl : types.length ≤ 1048576) (hs : ∀ x ∈ types, x.size ≤ 1048576) (hw : ∀ x ∈ words, -9223372036854775808 ≤ x ∧ x ≤ 9223372036854775807) : Ev (fun k => spec_Starts.f k types sz words) ((headsR types sz words).getD []) := by
  unfold spec_Starts.f
  refine Ev.bind (spec_NurseryOk_ev types sz words hl hs hw) ?_
  cases h : headsR types sz words with
  | none => exact Ev.neg (by simp) (Ev.eq rfl)
  | some st =>
    have hp := spec_l8Parse_ev types sz words hl hs hw
    rw [(headsR_some h).1] at hp
    exact Ev.pos rfl (Ev.bind hp (Ev.eq rfl))
theorem impl_Starts_ev (types : List ByteArray) (sz : Int) (words : List Int) (hs : ∀ x ∈ types, x.size ≤ 1048576) (hw : ∀ x ∈ words, -9223372036854775808 ≤ x ∧ x ≤ 9223372036854775807) : Ev (fun k => impl_Starts.f k types sz words) ((headsR types sz words).getD []) := by
  unfold impl_Starts.f
  refine Ev.bind (impl_heads_ev types sz words hs hw) (Ev.eq ?_)
  cases headsR types sz words <;> rfl
end Go.Proofs.YtgfeafcgpeclcaaDoor.Pure
namespace Go.Proofs.YtgfeafcgpeclcaaDoor.X
open Go.RowKit Go.Proofs.YtgfeafcgpeclcaaDoorW.PrintWords Go.Proofs.YtgfeafcgpeclcaaDoorW.PrintLast Go.Proofs.YtgfeafcgpeclcaaDoorW.PrintMore
attribute [local go_sem] max2_int min2_int max_two min_two max_three min_three max_four min_four   -- for this text's walks alone
set_option linter.unusedVariables false
set_option linter.unusedSimpArgs false

/-! ### spec_YoungObject: function 33 -/
def spec_YoungObject.f (k : Nat) (l0 : List ByteArray) (a1_0 : Int) (l1_1 : List Int) (a2 : Int) : Option (Int × List Int × Bool) := (spec_RefKind.f k a2).bind fun t405 => (if t405 = 2 then ((spec_Starts.f k l0 a1_0 l1_1).bind fun t406 => ((spec_l7Place.f k t406 (wrap64 (Int.tdiv a2 2))).bind fun t409 => (if t409 < 0 then (some (0, ([] : List Int), false)) else ((spec_l8Obj.f l0 a1_0 l1_1 (wrap64 (Int.tdiv a2 2))).bind fun bt410 => (some (bt410.1, bt410.2, true)))))) else (some (0, ([] : List Int), false)))
theorem spec_YoungObject.mono : ∀ a0 a1 a2 a3 k, LeO (spec_YoungObject.f k a0 a1 a2 a3) (spec_YoungObject.f (k + 1) a0 a1 a2 a3) := by
 intro a0 a1 a2 a3 k
 unfold spec_YoungObject.f
 repeat' first
   | (with_reducible exact spec_RefKind.mono _ _)
   | (with_reducible exact spec_Starts.mono _ _ _ _)
   | (with_reducible exact spec_l7Place.mono _ _ _)
   | (with_reducible exact LeO.refl _)
   | (with_reducible exact LeO.none _)
   | (with_reducible refine LeO.ite ?_ ?_)
   | (with_reducible refine LeO.bind ?_ (fun _ => ?_))
   | exact spec_RefKind.mono _ _
   | exact spec_Starts.mono _ _ _ _
   | exact spec_l7Place.mono _ _ _
   | exact LeO.none _
   | refine LeO.ite ?_ ?_
   | refine LeO.bind ?_ (fun _ => ?_)
set_option maxHeartbeats 8000000 in
set_option maxRecDepth 100000 in
theorem spec_YoungObject.calls (k : Nat) (A0 : Option Addr) (c0 : Nat) (l0 : List ByteArray) (a1_0 : Int) (A1_1 : Option Addr) (c1_1 : Nat) (l1_1 : List Int) (a2 : Int) (r1 : Int) (r2 : List Int) (r3 : Bool) (w : World) (hr0 : Kd.C Kd.string w A0 l0.length l0) (hc0 : l0.length ≤ c0) (hr1_1 : Kd.C (Kd.int .i64) w A1_1 l1_1.length l1_1) (hc1_1 : l1_1.length ≤ c1_1) (h : spec_YoungObject.f k l0 a1_0 l1_1 a2 = some (r1, r2, r3)) :
  Calls Tryd.prog 33 #[.slice A0 l0.length c0,.agg #[.int .i64 a1_0,.slice A1_1 l1_1.length c1_1],.int .i64 a2] w fun e w' => ∃ v1_ : Value,e = .returned (.tuple #[.agg #[.int .i64 r1,v1_],.bool r3])∧Kd.R (Kd.int .i64) 2 w' w.heap.size (fun _ => True) v1_ r2∧Below w.heap.size w w':=by
 have hu30:=Tryd.underlying30
 have hu40:=Tryd.underlying40
 have HR0:=Aside0.mk hr0
 have HC0:=Aside0.mk hc0
 clear hr0 hc0
 have HR1_1:=Aside0.mk hr1_1
 have HC1_1:=Aside0.mk hc1_1
 clear hr1_1 hc1_1
 have HB:=Aside0.mk (Below.refl w.heap.size w)
 have H : ((spec_RefKind.f k a2).bind fun t405 => (if t405 = 2 then ((spec_Starts.f k l0 a1_0 l1_1).bind fun t406 => ((spec_l7Place.f k t406 (wrap64 (Int.tdiv a2 2))).bind fun t409 => (if t409 < 0 then (some (0,([] : List Int),false)) else ((spec_l8Obj.f l0 a1_0 l1_1 (wrap64 (Int.tdiv a2 2))).bind fun bt410 => (some (bt410.1,bt410.2,true)))))) else (some (0,([] : List Int),false)))) = some (r1,r2,r3):=h
 clear h
 replace H:=Option.bind_eq_some_iff.mp H
 obtain ⟨t405,A40,H⟩:=H
 try dsimp only at H
 have A4:=Aside0.mk A40
 clear A40
 by_cases c5 : t405 = 2
 ·rw [if_pos c5] at H
  have c5b0 : (t405 == 2) = true:=beq_iff_eq.mpr c5
  have c5b1 : (t405 != 2) = false:=bne_eq_false_iff_eq.mpr c5
  clear c5
  replace H:=Option.bind_eq_some_iff.mp H
  obtain ⟨t406,A60,H⟩:=H
  try dsimp only at H
  have A6:=Aside0.mk A60
  clear A60
  replace H:=Option.bind_eq_some_iff.mp H
  obtain ⟨t409,A70,H⟩:=H
  try dsimp only at H
  have A7:=Aside0.mk A70
  clear A70
  by_cases c8 : t409 < 0
  ·rw [if_pos c8] at H
   have c8b0 : decide (t409 < 0) = true:=decide_eq_true c8
   clear c8
   simp only [Option.some.injEq,Prod.mk.injEq] at H
   obtain ⟨rfl,rfl,rfl⟩:=H
   go_enter Tryd.func33,Tryd.ntmps33
   go_wp2_with (first|((with_reducible refine gate_dst (N:=4) rfl ?_);refine box_event ?hg (N:=4) ?hd (cs:=#[.int .i64 a1_0,.slice A1_1 l1_1.length c1_1]) (t:=30) ?hr ?_;(case hd => rfl);(case hg => rfl);(case hr => first|(go_simp;done)|(go_simp;rfl));intro gb403 hg w9 hbox hb;have n0_:=Aside0.mk (below_step (by repeat (first|(with_reducible first|exact HB.out|apply below_alloc|apply pw_below_drewN|apply below_drew1)|exact HB.out)) hb);have n1_:=Aside0.mk (hbox);have n2_:=Aside0.mk ((by rw [hg];exact (below_size (by repeat (first|(with_reducible first|exact HB.out|apply below_alloc|apply pw_below_drewN|apply below_drew1)|exact HB.out))) : w.heap.size ≤ gb403));have n3_:=Aside0.mk ((by rw [hg];exact (below_size (by repeat (first|(with_reducible first|exact HB.out|apply below_alloc|apply pw_below_drewN|apply below_drew1)|exact HB.out))) : w.heap.size ≤ gb403));clear HB;have HB:=n0_;have BK403:=n1_;have GW403:=n2_;have GE403:=n3_;clear n0_ n1_ n2_ n3_;clear hb hbox hg)|((with_reducible refine gate_dst (N:=6) rfl ?_);refine box_event ?hg (N:=6) ?hd (cs:=#[.int .i64 0,.slice none 0 0]) (t:=40) ?hr ?_;(case hd => rfl);(case hg => rfl);(case hr => first|(go_simp;done)|(go_simp;rfl));intro gb404 hg w10 hbox hb;have n0_:=Aside0.mk (blk_below (g:=gb403) (o:=.cells #[.int .i64 a1_0,.slice A1_1 l1_1.length c1_1] 30 (0,0)) (by (with_reducible repeat (first|refine blk_drewN ?_ _|refine blk_drew ?_|refine blk_alloc ?_ _));exact BK403.out) hb);have n1_:=Aside0.mk (below_step (by repeat (first|(with_reducible first|exact HB.out|apply below_alloc|apply pw_below_drewN|apply below_drew1|refine below_set ?_ GE403.out)|exact HB.out)) hb);have n2_:=Aside0.mk (hbox);have n3_:=Aside0.mk ((by rw [hg];exact (below_size (by repeat (first|(with_reducible first|exact HB.out|apply below_alloc|apply pw_below_drewN|apply below_drew1|refine below_set ?_ GE403.out)|exact HB.out))) : w.heap.size ≤ gb404));have n4_:=Aside0.mk ((by rw [hg];exact (below_size (by repeat (first|(with_reducible first|exact HB.out|apply below_alloc|apply pw_below_drewN|apply below_drew1|refine below_set ?_ GE403.out)|exact HB.out))) : w.heap.size ≤ gb404));have n5_:=Aside0.mk ((by rw [hg];exact Nat.ne_of_lt (blk_lt (g:=gb403) (o:=.cells #[.int .i64 a1_0,.slice A1_1 l1_1.length c1_1] 30 (0,0)) (by (with_reducible repeat (first|refine blk_drewN ?_ _|refine blk_drew ?_|refine blk_alloc ?_ _));exact BK403.out)) : gb403≠gb404));have n6_:=Aside0.mk ((by rw [hg];exact Nat.ne_of_gt (blk_lt (g:=gb403) (o:=.cells #[.int .i64 a1_0,.slice A1_1 l1_1.length c1_1] 30 (0,0)) (by (with_reducible repeat (first|refine blk_drewN ?_ _|refine blk_drew ?_|refine blk_alloc ?_ _));exact BK403.out)) : gb404≠gb403));clear BK403 HB;have BK403:=n0_;have HB:=n1_;have BK404:=n2_;have GW404:=n3_;have GE404:=n4_;have NB403_404:=n5_;have NB404_403:=n6_;clear n0_ n1_ n2_ n3_ n4_ n5_ n6_;clear hb hbox hg)|((with_reducible refine gate_callee (f:=62) rfl ?_);refine goesL_ (some 9) rfl rfl Tryd.func62 (by kernel_rfl) rfl #[.int .i64 a2] rfl (by (try simp only [List.map_toArray,List.map_cons,List.map_nil]);first|done|rfl|(simp only [List.length_drop,List.length_take];rfl)) ?_;(with_reducible refine (spec_RefKind.calls k a2 t405 _ A4.out).mono ?_);rintro e w' ⟨rfl,⟨nd,rfl⟩⟩;refine ⟨_,rfl,?_⟩;(try (rw [drewN_self w10];generalize hq_ : World.drewN w10 _ = w10;have n0_ : Aside0 (w10.heap[gb403]? = some (.cells #[.int .i64 a1_0,.slice A1_1 l1_1.length c1_1] 30 (0,0))):=⟨by rw [← hq_];exact (by (with_reducible repeat (first|refine blk_drewN ?_ _|refine blk_drew ?_|refine blk_alloc ?_ _));exact BK403.out)⟩;have n1_ : Aside0 (w10.heap[gb404]? = some (.cells #[.int .i64 0,.slice none 0 0] 40 (0,0))):=⟨by rw [← hq_];exact (by (with_reducible repeat (first|refine blk_drewN ?_ _|refine blk_drew ?_|refine blk_alloc ?_ _));exact BK404.out)⟩;have n2_ : Aside0 (Below w.heap.size w w10):=⟨by rw [← hq_];exact (by repeat (first|(with_reducible first|exact HB.out|apply below_alloc|apply pw_below_drewN|apply below_drew1|refine below_set ?_ GE403.out|refine below_set ?_ GE404.out)|exact HB.out))⟩;clear BK403 BK404 HB hq_;have BK403:=n0_;have BK404:=n1_;have HB:=n2_;clear n0_ n1_ n2_));have hnb11:=NB403_404.out;have hnc11:=NB404_403.out;have hcz12_0 : w10.cell? ⟨gb403,0,none⟩ = some (.int .i64 a1_0):=(blk_cell BK403.out 0).trans rfl;have hcz12_1 : w10.cell? ⟨gb403,1,none⟩ = some (.slice A1_1 l1_1.length c1_1):=(blk_cell BK403.out 1).trans rfl;have hfz12_0:=blk_frozen BK403.out 0;have hfz12_1:=blk_frozen BK403.out 1)|(go_at_call 24;(with_reducible refine (spec_Starts.calls k _ _ l0 a1_0 _ _ l1_1 t406 _ ?side1 ?side2 ?side3 ?side4 A6.out).mono ?_);(case side1 => repeat (first|exact (Kd.C_below HR0.out HB.out)|(with_reducible first|refine Kd.C_alloc ?_ _|refine Kd.C_drewN ?_ _|refine Kd.C_drew ?_)));(case side2 => exact HC0.out);(case side3 => repeat (first|exact (Kd.C_below HR1_1.out HB.out)|(with_reducible first|refine Kd.C_alloc ?_ _|refine Kd.C_drewN ?_ _|refine Kd.C_drew ?_)));(case side4 => exact HC1_1.out);rintro e w13 ⟨v407,rfl,ho0,hb⟩;have n0_:=Aside0.mk (Kd.R_lower ho0 (below_size (by repeat (first|(with_reducible first|exact HB.out|apply below_alloc|apply pw_below_drewN|apply below_drew1|refine below_set ?_ GE403.out|refine below_set ?_ GE404.out)|exact HB.out))));have n1_:=Aside0.mk (blk_below (g:=gb403) (o:=.cells #[.int .i64 a1_0,.slice A1_1 l1_1.length c1_1] 30 (0,0)) (by (with_reducible repeat (first|refine blk_drewN ?_ _|refine blk_drew ?_|refine blk_alloc ?_ _));exact BK403.out) hb);have n2_:=Aside0.mk (blk_below (g:=gb404) (o:=.cells #[.int .i64 0,.slice none 0 0] 40 (0,0)) (by (with_reducible repeat (first|refine blk_drewN ?_ _|refine blk_drew ?_|refine blk_alloc ?_ _));exact BK404.out) hb);have n3_:=Aside0.mk (below_step (by repeat (first|(with_reducible first|exact HB.out|apply below_alloc|apply pw_below_drewN|apply below_drew1|refine below_set ?_ GE403.out|refine below_set ?_ GE404.out)|exact HB.out)) hb);clear BK403 BK404 HB;have HO408:=n0_;have BK403:=n1_;have BK404:=n2_;have HB:=n3_;clear n0_ n1_ n2_ n3_;(try clear hb);(try clear hb2);(try clear hk);(try clear hi);(try clear ho0);obtain ⟨Ao14,co14,eo14⟩:=Kd.R_slice HO408.out;subst eo14)|(go_at_call 63;(with_reducible refine (spec_l7Place.calls k _ _ t406 (wrap64 (Int.tdiv a2 2)) t409 _ ?side1 ?side2 A7.out).mono ?_);(case side1 => repeat (first|exact (Kd.R_reads' HO408.out).2.2|(with_reducible first|refine Kd.C_alloc ?_ _|refine Kd.C_drewN ?_ _|refine Kd.C_drew ?_)));(case side2 => exact (Kd.R_reads' HO408.out).2.1);rintro e w' ⟨rfl,⟨nd,rfl⟩⟩;(try (rw [drewN_self w13];generalize hq_ : World.drewN w13 _ = w13;have n0_ : Aside0 (Kd.R (Kd.int .i64) 2 w13 w.heap.size (fun _ => True) (.slice Ao14 t406.length co14) t406):=⟨by rw [← hq_];exact (by (with_reducible repeat (first|apply Kd.R_alloc|apply Kd.R_drewN|apply Kd.R_drew));exact HO408.out)⟩;have n1_ : Aside0 (w13.heap[gb403]? = some (.cells #[.int .i64 a1_0,.slice A1_1 l1_1.length c1_1] 30 (0,0))):=⟨by rw [← hq_];exact (by (with_reducible repeat (first|refine blk_drewN ?_ _|refine blk_drew ?_|refine blk_alloc ?_ _));exact BK403.out)⟩;have n2_ : Aside0 (w13.heap[gb404]? = some (.cells #[.int .i64 0,.slice none 0 0] 40 (0,0))):=⟨by rw [← hq_];exact (by (with_reducible repeat (first|refine blk_drewN ?_ _|refine blk_drew ?_|refine blk_alloc ?_ _));exact BK404.out)⟩;have n3_ : Aside0 (Below w.heap.size w w13):=⟨by rw [← hq_];exact (by repeat (first|(with_reducible first|exact HB.out|apply below_alloc|apply pw_below_drewN|apply below_drew1|refine below_set ?_ GE403.out|refine below_set ?_ GE404.out)|exact HB.out))⟩;clear HO408 BK403 BK404 HB hq_;have HO408:=n0_;have BK403:=n1_;have BK404:=n2_;have HB:=n3_;clear n0_ n1_ n2_ n3_));have hcz15_0 : w13.cell? ⟨gb404,0,none⟩ = some (.int .i64 0):=(blk_cell BK404.out 0).trans rfl;have hcz15_1 : w13.cell? ⟨gb404,1,none⟩ = some (.slice none 0 0):=(blk_cell BK404.out 1).trans rfl;have hfz15_0:=blk_frozen BK404.out 0;have hfz15_1:=blk_frozen BK404.out 1))
   refine bodyPost_ret (results_ct rfl _ _ gb404 40 #[.int .i64 0,.slice none 0 0] (0,0) _ rfl (by (with_reducible repeat (first|refine blk_drewN ?_ _|refine blk_drew ?_|refine blk_alloc ?_ _));refine blk_put (cs:=#[.int .i64 0,.slice none 0 0]) ?_ 1 _ rfl;(with_reducible repeat (first|refine blk_drewN ?_ _|refine blk_drew ?_|refine blk_alloc ?_ _));refine blk_put (cs:=#[.int .i64 0,.slice none 0 0]) ?_ 0 _ rfl;(with_reducible repeat (first|refine blk_drewN ?_ _|refine blk_drew ?_|refine blk_alloc ?_ _));exact BK404.out) Tryd.underlying40 rfl (by kernel_rfl)) rfl ?_
   exact ⟨_,by first|rfl|(simp [errW_none,errW_some] <;> rfl)|(simp [*,errW_none,errW_some] <;> rfl),by first|exact Kd.R_nil _ _ _ _ _|exact Kd.N_nil _ _ _ _ _|exact Kd.V_nil _ _ _ _ _|exact Kd.Q_nil _ _ _ _ _|exact Kd.S_nil _ _ _ _ _,by repeat (first|(with_reducible first|exact HB.out|apply below_alloc|apply pw_below_drewN|apply below_drew1|refine below_set ?_ GE403.out|refine below_set ?_ GE404.out)|exact HB.out)⟩
  ·rw [if_neg c8] at H
   have c8b0 : decide (t409 < 0) = false:=decide_eq_false c8
   clear c8
   replace H:=Option.bind_eq_some_iff.mp H
   obtain ⟨⟨t410,t411⟩,A160,H⟩:=H
   try dsimp only at H
   have A16:=Aside0.mk A160
   clear A160
   simp only [Option.some.injEq,Prod.mk.injEq] at H
   obtain ⟨rfl,rfl,rfl⟩:=H
   go_enter Tryd.func33,Tryd.ntmps33
   go_wp2_with (first|((with_reducible refine gate_dst (N:=4) rfl ?_);refine box_event ?hg (N:=4) ?hd (cs:=#[.int .i64 a1_0,.slice A1_1 l1_1.length c1_1]) (t:=30) ?hr ?_;(case hd => rfl);(case hg => rfl);(case hr => first|(go_simp;done)|(go_simp;rfl));intro gb403 hg w17 hbox hb;have n0_:=Aside0.mk (below_step (by repeat (first|(with_reducible first|exact HB.out|apply below_alloc|apply pw_below_drewN|apply below_drew1)|exact HB.out)) hb);have n1_:=Aside0.mk (hbox);have n2_:=Aside0.mk ((by rw [hg];exact (below_size (by repeat (first|(with_reducible first|exact HB.out|apply below_alloc|apply pw_below_drewN|apply below_drew1)|exact HB.out))) : w.heap.size ≤ gb403));have n3_:=Aside0.mk ((by rw [hg];exact (below_size (by repeat (first|(with_reducible first|exact HB.out|apply below_alloc|apply pw_below_drewN|apply below_drew1)|exact HB.out))) : w.heap.size ≤ gb403));clear HB;have HB:=n0_;have BK403:=n1_;have GW403:=n2_;have GE403:=n3_;clear n0_ n1_ n2_ n3_;clear hb hbox hg)|((with_reducible refine gate_dst (N:=6) rfl ?_);refine box_event ?hg (N:=6) ?hd (cs:=#[.int .i64 0,.slice none 0 0]) (t:=40) ?hr ?_;(case hd => rfl);(case hg => rfl);(case hr => first|(go_simp;done)|(go_simp;rfl));intro gb404 hg w18 hbox hb;have n0_:=Aside0.mk (blk_below (g:=gb403) (o:=.cells #[.int .i64 a1_0,.slice A1_1 l1_1.length c1_1] 30 (0,0)) (by (with_reducible repeat (first|refine blk_drewN ?_ _|refine blk_drew ?_|refine blk_alloc ?_ _));exact BK403.out) hb);have n1_:=Aside0.mk (below_step (by repeat (first|(with_reducible first|exact HB.out|apply below_alloc|apply pw_below_drewN|apply below_drew1|refine below_set ?_ GE403.out)|exact HB.out)) hb);have n2_:=Aside0.mk (hbox);have n3_:=Aside0.mk ((by rw [hg];exact (below_size (by repeat (first|(with_reducible first|exact HB.out|apply below_alloc|apply pw_below_drewN|apply below_drew1|refine below_set ?_ GE403.out)|exact HB.out))) : w.heap.size ≤ gb404));have n4_:=Aside0.mk ((by rw [hg];exact (below_size (by repeat (first|(with_reducible first|exact HB.out|apply below_alloc|apply pw_below_drewN|apply below_drew1|refine below_set ?_ GE403.out)|exact HB.out))) : w.heap.size ≤ gb404));have n5_:=Aside0.mk ((by rw [hg];exact Nat.ne_of_lt (blk_lt (g:=gb403) (o:=.cells #[.int .i64 a1_0,.slice A1_1 l1_1.length c1_1] 30 (0,0)) (by (with_reducible repeat (first|refine blk_drewN ?_ _|refine blk_drew ?_|refine blk_alloc ?_ _));exact BK403.out)) : gb403≠gb404));have n6_:=Aside0.mk ((by rw [hg];exact Nat.ne_of_gt (blk_lt (g:=gb403) (o:=.cells #[.int .i64 a1_0,.slice A1_1 l1_1.length c1_1] 30 (0,0)) (by (with_reducible repeat (first|refine blk_drewN ?_ _|refine blk_drew ?_|refine blk_alloc ?_ _));exact BK403.out)) : gb404≠gb403));clear BK403 HB;have BK403:=n0_;have HB:=n1_;have BK404:=n2_;have GW404:=n3_;have GE404:=n4_;have NB403_404:=n5_;have NB404_403:=n6_;clear n0_ n1_ n2_ n3_ n4_ n5_ n6_;clear hb hbox hg)|((with_reducible refine gate_callee (f:=62) rfl ?_);refine goesL_ (some 9) rfl rfl Tryd.func62 (by kernel_rfl) rfl #[.int .i64 a2] rfl (by (try simp only [List.map_toArray,List.map_cons,List.map_nil]);first|done|rfl|(simp only [List.length_drop,List.length_take];rfl)) ?_;(with_reducible refine (spec_RefKind.calls k a2 t405 _ A4.out).mono ?_);rintro e w' ⟨rfl,⟨nd,rfl⟩⟩;refine ⟨_,rfl,?_⟩;(try (rw [drewN_self w18];generalize hq_ : World.drewN w18 _ = w18;have n0_ : Aside0 (w18.heap[gb403]? = some (.cells #[.int .i64 a1_0,.slice A1_1 l1_1.length c1_1] 30 (0,0))):=⟨by rw [← hq_];exact (by (with_reducible repeat (first|refine blk_drewN ?_ _|refine blk_drew ?_|refine blk_alloc ?_ _));exact BK403.out)⟩;have n1_ : Aside0 (w18.heap[gb404]? = some (.cells #[.int .i64 0,.slice none 0 0] 40 (0,0))):=⟨by rw [← hq_];exact (by (with_reducible repeat (first|refine blk_drewN ?_ _|refine blk_drew ?_|refine blk_alloc ?_ _));exact BK404.out)⟩;have n2_ : Aside0 (Below w.heap.size w w18):=⟨by rw [← hq_];exact (by repeat (first|(with_reducible first|exact HB.out|apply below_alloc|apply pw_below_drewN|apply below_drew1|refine below_set ?_ GE403.out|refine below_set ?_ GE404.out)|exact HB.out))⟩;clear BK403 BK404 HB hq_;have BK403:=n0_;have BK404:=n1_;have HB:=n2_;clear n0_ n1_ n2_));have hnb19:=NB403_404.out;have hnc19:=NB404_403.out;have hcz20_0 : w18.cell? ⟨gb403,0,none⟩ = some (.int .i64 a1_0):=(blk_cell BK403.out 0).trans rfl;have hcz20_1 : w18.cell? ⟨gb403,1,none⟩ = some (.slice A1_1 l1_1.length c1_1):=(blk_cell BK403.out 1).trans rfl;have hfz20_0:=blk_frozen BK403.out 0;have hfz20_1:=blk_frozen BK403.out 1)|(go_at_call 24;(with_reducible refine (spec_Starts.calls k _ _ l0 a1_0 _ _ l1_1 t406 _ ?side1 ?side2 ?side3 ?side4 A6.out).mono ?_);(case side1 => repeat (first|exact (Kd.C_below HR0.out HB.out)|(with_reducible first|refine Kd.C_alloc ?_ _|refine Kd.C_drewN ?_ _|refine Kd.C_drew ?_)));(case side2 => exact HC0.out);(case side3 => repeat (first|exact (Kd.C_below HR1_1.out HB.out)|(with_reducible first|refine Kd.C_alloc ?_ _|refine Kd.C_drewN ?_ _|refine Kd.C_drew ?_)));(case side4 => exact HC1_1.out);rintro e w21 ⟨v407,rfl,ho0,hb⟩;have n0_:=Aside0.mk (Kd.R_lower ho0 (below_size (by repeat (first|(with_reducible first|exact HB.out|apply below_alloc|apply pw_below_drewN|apply below_drew1|refine below_set ?_ GE403.out|refine below_set ?_ GE404.out)|exact HB.out))));have n1_:=Aside0.mk (blk_below (g:=gb403) (o:=.cells #[.int .i64 a1_0,.slice A1_1 l1_1.length c1_1] 30 (0,0)) (by (with_reducible repeat (first|refine blk_drewN ?_ _|refine blk_drew ?_|refine blk_alloc ?_ _));exact BK403.out) hb);have n2_:=Aside0.mk (blk_below (g:=gb404) (o:=.cells #[.int .i64 0,.slice none 0 0] 40 (0,0)) (by (with_reducible repeat (first|refine blk_drewN ?_ _|refine blk_drew ?_|refine blk_alloc ?_ _));exact BK404.out) hb);have n3_:=Aside0.mk (below_step (by repeat (first|(with_reducible first|exact HB.out|apply below_alloc|apply pw_below_drewN|apply below_drew1|refine below_set ?_ GE403.out|refine below_set ?_ GE404.out)|exact HB.out)) hb);clear BK403 BK404 HB;have HO408:=n0_;have BK403:=n1_;have BK404:=n2_;have HB:=n3_;clear n0_ n1_ n2_ n3_;(try clear hb);(try clear hb2);(try clear hk);(try clear hi);(try clear ho0);obtain ⟨Ao22,co22,eo22⟩:=Kd.R_slice HO408.out;subst eo22)|(go_at_call 63;(with_reducible refine (spec_l7Place.calls k _ _ t406 (wrap64 (Int.tdiv a2 2)) t409 _ ?side1 ?side2 A7.out).mono ?_);(case side1 => repeat (first|exact (Kd.R_reads' HO408.out).2.2|(with_reducible first|refine Kd.C_alloc ?_ _|refine Kd.C_drewN ?_ _|refine Kd.C_drew ?_)));(case side2 => exact (Kd.R_reads' HO408.out).2.1);rintro e w' ⟨rfl,⟨nd,rfl⟩⟩;(try (rw [drewN_self w21];generalize hq_ : World.drewN w21 _ = w21;have n0_ : Aside0 (Kd.R (Kd.int .i64) 2 w21 w.heap.size (fun _ => True) (.slice Ao22 t406.length co22) t406):=⟨by rw [← hq_];exact (by (with_reducible repeat (first|apply Kd.R_alloc|apply Kd.R_drewN|apply Kd.R_drew));exact HO408.out)⟩;have n1_ : Aside0 (w21.heap[gb403]? = some (.cells #[.int .i64 a1_0,.slice A1_1 l1_1.length c1_1] 30 (0,0))):=⟨by rw [← hq_];exact (by (with_reducible repeat (first|refine blk_drewN ?_ _|refine blk_drew ?_|refine blk_alloc ?_ _));exact BK403.out)⟩;have n2_ : Aside0 (w21.heap[gb404]? = some (.cells #[.int .i64 0,.slice none 0 0] 40 (0,0))):=⟨by rw [← hq_];exact (by (with_reducible repeat (first|refine blk_drewN ?_ _|refine blk_drew ?_|refine blk_alloc ?_ _));exact BK404.out)⟩;have n3_ : Aside0 (Below w.heap.size w w21):=⟨by rw [← hq_];exact (by repeat (first|(with_reducible first|exact HB.out|apply below_alloc|apply pw_below_drewN|apply below_drew1|refine below_set ?_ GE403.out|refine below_set ?_ GE404.out)|exact HB.out))⟩;clear HO408 BK403 BK404 HB hq_;have HO408:=n0_;have BK403:=n1_;have BK404:=n2_;have HB:=n3_;clear n0_ n1_ n2_ n3_));have hcz23_0 : w21.cell? ⟨gb403,0,none⟩ = some (.int .i64 a1_0):=(blk_cell BK403.out 0).trans rfl;have hcz23_1 : w21.cell? ⟨gb403,1,none⟩ = some (.slice A1_1 l1_1.length c1_1):=(blk_cell BK403.out 1).trans rfl;have hfz23_0:=blk_frozen BK403.out 0;have hfz23_1:=blk_frozen BK403.out 1)|((with_reducible refine gate_callee (f:=64) rfl ?_);refine goesL_ (some 25) rfl rfl Tryd.func64 (by kernel_rfl) rfl #[.slice A0 l0.length c0,.agg #[.int .i64 a1_0,.slice A1_1 l1_1.length c1_1],.int .i64 (wrap64 (Int.tdiv a2 2))] rfl (by (try simp only [List.map_toArray,List.map_cons,List.map_nil]);first|done|rfl|(simp only [List.length_drop,List.length_take];rfl)) ?_;(with_reducible refine (spec_l8Obj.calls _ _ l0 a1_0 _ _ l1_1 (wrap64 (Int.tdiv a2 2)) t410 t411 _ ?side1 ?side2 ?side3 ?side4 A16.out).mono ?_);(case side1 => repeat (first|exact (Kd.C_below HR0.out HB.out)|(with_reducible first|refine Kd.C_alloc ?_ _|refine Kd.C_drewN ?_ _|refine Kd.C_drew ?_)));(case side2 => exact HC0.out);(case side3 => repeat (first|exact (Kd.C_below HR1_1.out HB.out)|(with_reducible first|refine Kd.C_alloc ?_ _|refine Kd.C_drewN ?_ _|refine Kd.C_drew ?_)));(case side4 => exact HC1_1.out);rintro e w24 ⟨v412,rfl,ho0,hb⟩;refine ⟨_,rfl,?_⟩;have n0_:=Aside0.mk (Kd.R_elder' (by (with_reducible repeat (first|apply Kd.R_alloc|apply Kd.R_drewN|apply Kd.R_drew));exact HO408.out) (Kd.R_base ho0) hb);have n1_:=Aside0.mk (Kd.R_lower (Kd.R_new' ho0 (Kd.R_lt (by (with_reducible repeat (first|apply Kd.R_alloc|apply Kd.R_drewN|apply Kd.R_drew));exact HO408.out))) (below_size (by repeat (first|(with_reducible first|exact HB.out|apply below_alloc|apply pw_below_drewN|apply below_drew1|refine below_set ?_ GE403.out|refine below_set ?_ GE404.out)|exact HB.out))));have n2_:=Aside0.mk (blk_below (g:=gb403) (o:=.cells #[.int .i64 a1_0,.slice A1_1 l1_1.length c1_1] 30 (0,0)) (by (with_reducible repeat (first|refine blk_drewN ?_ _|refine blk_drew ?_|refine blk_alloc ?_ _));exact BK403.out) hb);have n3_:=Aside0.mk (blk_below (g:=gb404) (o:=.cells #[.int .i64 0,.slice none 0 0] 40 (0,0)) (by (with_reducible repeat (first|refine blk_drewN ?_ _|refine blk_drew ?_|refine blk_alloc ?_ _));exact BK404.out) hb);have n4_:=Aside0.mk (below_step (by repeat (first|(with_reducible first|exact HB.out|apply below_alloc|apply pw_below_drewN|apply below_drew1|refine below_set ?_ GE403.out|refine below_set ?_ GE404.out)|exact HB.out)) hb);clear HO408 BK403 BK404 HB;have HO408:=n0_;have HO413:=n1_;have BK403:=n2_;have BK404:=n3_;have HB:=n4_;clear n0_ n1_ n2_ n3_ n4_;(try clear hb);(try clear hb2);(try clear hk);(try clear hi);(try clear ho0);have hcz25_0 : w24.cell? ⟨gb404,0,none⟩ = some (.int .i64 0):=(blk_cell BK404.out 0).trans rfl;have hcz25_1 : w24.cell? ⟨gb404,1,none⟩ = some (.slice none 0 0):=(blk_cell BK404.out 1).trans rfl;have hfz25_0:=blk_frozen BK404.out 0;have hfz25_1:=blk_frozen BK404.out 1;obtain ⟨Ao26,co26,eo26⟩:=Kd.R_slice HO413.out;subst eo26))
   refine bodyPost_ret (results_ct rfl _ _ gb404 40 #[.int .i64 t410,.slice Ao26 t411.length co26] (0,0) _ rfl (by (with_reducible repeat (first|refine blk_drewN ?_ _|refine blk_drew ?_|refine blk_alloc ?_ _));refine blk_put (cs:=#[.int .i64 t410,.slice none 0 0]) ?_ 1 _ rfl;(with_reducible repeat (first|refine blk_drewN ?_ _|refine blk_drew ?_|refine blk_alloc ?_ _));refine blk_put (cs:=#[.int .i64 0,.slice none 0 0]) ?_ 0 _ rfl;(with_reducible repeat (first|refine blk_drewN ?_ _|refine blk_drew ?_|refine blk_alloc ?_ _));exact BK404.out) Tryd.underlying40 rfl (by kernel_rfl)) rfl ?_
   exact ⟨_,by first|rfl|(simp [errW_none,errW_some] <;> rfl)|(simp [*,errW_none,errW_some] <;> rfl),by (with_reducible repeat (first|apply Kd.R_alloc|apply Kd.R_drewN|apply Kd.R_drew));exact Kd.R_mono (Kd.R_far (p:=⟨gb404,1,none⟩) (Kd.R_far (p:=⟨gb404,0,none⟩) (Kd.R_types HO413.out BK404.out (by decide)) (fun _ hk => hk.2) (.int .i64 t410)) (fun _ hk => hk.2) (.slice Ao26 t411.length co26)) (fun _ hk => trivial),by repeat (first|(with_reducible first|exact HB.out|apply below_alloc|apply pw_below_drewN|apply below_drew1|refine below_set ?_ GE403.out|refine below_set ?_ GE404.out)|exact HB.out)⟩
 ·rw [if_neg c5] at H
  have c5b0 : (t405 == 2) = false:=beq_eq_false_iff_ne.mpr c5
  have c5b1 : (t405 != 2) = true:=bne_iff_ne.mpr c5
  simp only [Option.some.injEq,Prod.mk.injEq] at H
  obtain ⟨rfl,rfl,rfl⟩:=H
  go_enter Tryd.func33,Tryd.ntmps33
  go_wp2_with (first|((with_reducible refine gate_dst (N:=4) rfl ?_);refine box_event ?hg (N:=4) ?hd (cs:=#[.int .i64 a1_0,.slice A1_1 l1_1.length c1_1]) (t:=30) ?hr ?_;(case hd => rfl);(case hg => rfl);(case hr => first|(go_simp;done)|(go_simp;rfl));intro gb403 hg w27 hbox hb;have n0_:=Aside0.mk (below_step (by repeat (first|(with_reducible first|exact HB.out|apply below_alloc|apply pw_below_drewN|apply below_drew1)|exact HB.out)) hb);have n1_:=Aside0.mk (hbox);have n2_:=Aside0.mk ((by rw [hg];exact (below_size (by repeat (first|(with_reducible first|exact HB.out|apply below_alloc|apply pw_below_drewN|apply below_drew1)|exact HB.out))) : w.heap.size ≤ gb403));have n3_:=Aside0.mk ((by rw [hg];exact (below_size (by repeat (first|(with_reducible first|exact HB.out|apply below_alloc|apply pw_below_drewN|apply below_drew1)|exact HB.out))) : w.heap.size ≤ gb403));clear HB;have HB:=n0_;have BK403:=n1_;have GW403:=n2_;have GE403:=n3_;clear n0_ n1_ n2_ n3_;clear hb hbox hg)|((with_reducible refine gate_dst (N:=6) rfl ?_);refine box_event ?hg (N:=6) ?hd (cs:=#[.int .i64 0,.slice none 0 0]) (t:=40) ?hr ?_;(case hd => rfl);(case hg => rfl);(case hr => first|(go_simp;done)|(go_simp;rfl));intro gb404 hg w28 hbox hb;have n0_:=Aside0.mk (blk_below (g:=gb403) (o:=.cells #[.int .i64 a1_0,.slice A1_1 l1_1.length c1_1] 30 (0,0)) (by (with_reducible repeat (first|refine blk_drewN ?_ _|refine blk_drew ?_|refine blk_alloc ?_ _));exact BK403.out) hb);have n1_:=Aside0.mk (below_step (by repeat (first|(with_reducible first|exact HB.out|apply below_alloc|apply pw_below_drewN|apply below_drew1|refine below_set ?_ GE403.out)|exact HB.out)) hb);have n2_:=Aside0.mk (hbox);have n3_:=Aside0.mk ((by rw [hg];exact (below_size (by repeat (first|(with_reducible first|exact HB.out|apply below_alloc|apply pw_below_drewN|apply below_drew1|refine below_set ?_ GE403.out)|exact HB.out))) : w.heap.size ≤ gb404));have n4_:=Aside0.mk ((by rw [hg];exact (below_size (by repeat (first|(with_reducible first|exact HB.out|apply below_alloc|apply pw_below_drewN|apply below_drew1|refine below_set ?_ GE403.out)|exact HB.out))) : w.heap.size ≤ gb404));have n5_:=Aside0.mk ((by rw [hg];exact Nat.ne_of_lt (blk_lt (g:=gb403) (o:=.cells #[.int .i64 a1_0,.slice A1_1 l1_1.length c1_1] 30 (0,0)) (by (with_reducible repeat (first|refine blk_drewN ?_ _|refine blk_drew ?_|refine blk_alloc ?_ _));exact BK403.out)) : gb403≠gb404));have n6_:=Aside0.mk ((by rw [hg];exact Nat.ne_of_gt (blk_lt (g:=gb403) (o:=.cells #[.int .i64 a1_0,.slice A1_1 l1_1.length c1_1] 30 (0,0)) (by (with_reducible repeat (first|refine blk_drewN ?_ _|refine blk_drew ?_|refine blk_alloc ?_ _));exact BK403.out)) : gb404≠gb403));clear BK403 HB;have BK403:=n0_;have HB:=n1_;have BK404:=n2_;have GW404:=n3_;have GE404:=n4_;have NB403_404:=n5_;have NB404_403:=n6_;clear n0_ n1_ n2_ n3_ n4_ n5_ n6_;clear hb hbox hg)|((with_reducible refine gate_callee (f:=62) rfl ?_);refine goesL_ (some 9) rfl rfl Tryd.func62 (by kernel_rfl) rfl #[.int .i64 a2] rfl (by (try simp only [List.map_toArray,List.map_cons,List.map_nil]);first|done|rfl|(simp only [List.length_drop,List.length_take];rfl)) ?_;(with_reducible refine (spec_RefKind.calls k a2 t405 _ A4.out).mono ?_);rintro e w' ⟨rfl,⟨nd,rfl⟩⟩;refine ⟨_,rfl,?_⟩;(try (rw [drewN_self w28];generalize hq_ : World.drewN w28 _ = w28;have n0_ : Aside0 (w28.heap[gb403]? = some (.cells #[.int .i64 a1_0,.slice A1_1 l1_1.length c1_1] 30 (0,0))):=⟨by rw [← hq_];exact (by (with_reducible repeat (first|refine blk_drewN ?_ _|refine blk_drew ?_|refine blk_alloc ?_ _));exact BK403.out)⟩;have n1_ : Aside0 (w28.heap[gb404]? = some (.cells #[.int .i64 0,.slice none 0 0] 40 (0,0))):=⟨by rw [← hq_];exact (by (with_reducible repeat (first|refine blk_drewN ?_ _|refine blk_drew ?_|refine blk_alloc ?_ _));exact BK404.out)⟩;have n2_ : Aside0 (Below w.heap.size w w28):=⟨by rw [← hq_];exact (by repeat (first|(with_reducible first|exact HB.out|apply below_alloc|apply pw_below_drewN|apply below_drew1|refine below_set ?_ GE403.out|refine below_set ?_ GE404.out)|exact HB.out))⟩;clear BK403 BK404 HB hq_;have BK403:=n0_;have BK404:=n1_;have HB:=n2_;clear n0_ n1_ n2_));have hnb29:=NB404_403.out;have hnc29:=NB403_404.out;have hcz30_0 : w28.cell? ⟨gb404,0,none⟩ = some (.int .i64 0):=(blk_cell BK404.out 0).trans rfl;have hcz30_1 : w28.cell? ⟨gb404,1,none⟩ = some (.slice none 0 0):=(blk_cell BK404.out 1).trans rfl;have hfz30_0:=blk_frozen BK404.out 0;have hfz30_1:=blk_frozen BK404.out 1))
  refine bodyPost_ret (results_ct rfl _ _ gb404 40 #[.int .i64 0,.slice none 0 0] (0,0) _ rfl (by (with_reducible repeat (first|refine blk_drewN ?_ _|refine blk_drew ?_|refine blk_alloc ?_ _));refine blk_put (cs:=#[.int .i64 0,.slice none 0 0]) ?_ 1 _ rfl;(with_reducible repeat (first|refine blk_drewN ?_ _|refine blk_drew ?_|refine blk_alloc ?_ _));refine blk_put (cs:=#[.int .i64 0,.slice none 0 0]) ?_ 0 _ rfl;(with_reducible repeat (first|refine blk_drewN ?_ _|refine blk_drew ?_|refine blk_alloc ?_ _));exact BK404.out) Tryd.underlying40 rfl (by kernel_rfl)) rfl ?_
  exact ⟨_,by first|rfl|(simp [errW_none,errW_some] <;> rfl)|(simp [*,errW_none,errW_some] <;> rfl),by first|exact Kd.R_nil _ _ _ _ _|exact Kd.N_nil _ _ _ _ _|exact Kd.V_nil _ _ _ _ _|exact Kd.Q_nil _ _ _ _ _|exact Kd.S_nil _ _ _ _ _,by repeat (first|(with_reducible first|exact HB.out|apply below_alloc|apply pw_below_drewN|apply below_drew1|refine below_set ?_ GE403.out|refine below_set ?_ GE404.out)|exact HB.out)⟩

end Go.Proofs.YtgfeafcgpeclcaaDoor.X
namespace Go.Proofs.YtgfeafcgpeclcaaDoor.X
open Go.RowKit Go.Proofs.YtgfeafcgpeclcaaDoorW.PrintWords Go.Proofs.YtgfeafcgpeclcaaDoorW.PrintLast Go.Proofs.YtgfeafcgpeclcaaDoorW.PrintMore
attribute [local go_sem] max2_int min2_int max_two min_two max_three min_three max_four min_four   -- for this text's walks alone
set_option linter.unusedVariables false
set_option linter.unusedSimpArgs false

/-! ### impl_YoungObject: function 34 -/
def impl_YoungObject.f (k : Nat) (l0 : List ByteArray) (a1_0 : Int) (l1_1 : List Int) (a2 : Int) : Option (Int × List Int × Bool) := (impl_heads.f k l0 a1_0 l1_1).bind fun bt416 => (if bt416.2 = true then ((impl_isHead.f k a2 bt416.1).bind fun t420 => (if t420 = true then ((impl_youngObject.f l0 a1_0 l1_1 (wrap64 (Int.tdiv a2 2))).bind fun bt421 => (some (bt421.1, bt421.2, true))) else (some (0, ([] : List Int), false)))) else (some (0, ([] : List Int), false)))
theorem impl_YoungObject.mono : ∀ a0 a1 a2 a3 k, LeO (impl_YoungObject.f k a0 a1 a2 a3) (impl_YoungObject.f (k + 1) a0 a1 a2 a3) := by
 intro a0 a1 a2 a3 k
 unfold impl_YoungObject.f
 repeat' first
   | (with_reducible exact impl_heads.mono _ _ _ _)
   | (with_reducible exact impl_isHead.mono _ _ _)
   | (with_reducible exact LeO.refl _)
   | (with_reducible exact LeO.none _)
   | (with_reducible refine LeO.ite ?_ ?_)
   | (with_reducible refine LeO.bind ?_ (fun _ => ?_))
   | exact impl_heads.mono _ _ _ _
   | exact impl_isHead.mono _ _ _
   | exact LeO.none _
   | refine LeO.ite ?_ ?_
   | refine LeO.bind ?_ (fun _ => ?_)
set_option maxHeartbeats 8000000 in
set_option maxRecDepth 100000 in
theorem impl_YoungObject.calls (k : Nat) (A0 : Option Addr) (c0 : Nat) (l0 : List ByteArray) (a1_0 : Int) (A1_1 : Option Addr) (c1_1 : Nat) (l1_1 : List Int) (a2 : Int) (r1 : Int) (r2 : List Int) (r3 : Bool) (w : World) (hr0 : Kd.C Kd.string w A0 l0.length l0) (hc0 : l0.length ≤ c0) (hr1_1 : Kd.C (Kd.int .i64) w A1_1 l1_1.length l1_1) (hc1_1 : l1_1.length ≤ c1_1) (h : impl_YoungObject.f k l0 a1_0 l1_1 a2 = some (r1, r2, r3)) :
  Calls Tryd.prog 34 #[.slice A0 l0.length c0,.agg #[.int .i64 a1_0,.slice A1_1 l1_1.length c1_1],.int .i64 a2] w fun e w' => ∃ v1_ : Value,e = .returned (.tuple #[.agg #[.int .i64 r1,v1_],.bool r3])∧Kd.R (Kd.int .i64) 2 w' w.heap.size (fun _ => True) v1_ r2∧Below w.heap.size w w':=by
 have hu30:=Tryd.underlying30
 have hu40:=Tryd.underlying40
 have HR0:=Aside0.mk hr0
 have HC0:=Aside0.mk hc0
 clear hr0 hc0
 have HR1_1:=Aside0.mk hr1_1
 have HC1_1:=Aside0.mk hc1_1
 clear hr1_1 hc1_1
 have HB:=Aside0.mk (Below.refl w.heap.size w)
 have H : ((impl_heads.f k l0 a1_0 l1_1).bind fun bt416 => (if bt416.2 = true then ((impl_isHead.f k a2 bt416.1).bind fun t420 => (if t420 = true then ((impl_youngObject.f l0 a1_0 l1_1 (wrap64 (Int.tdiv a2 2))).bind fun bt421 => (some (bt421.1,bt421.2,true))) else (some (0,([] : List Int),false)))) else (some (0,([] : List Int),false)))) = some (r1,r2,r3):=h
 clear h
 replace H:=Option.bind_eq_some_iff.mp H
 obtain ⟨⟨t416,t419⟩,A40,H⟩:=H
 try dsimp only at H
 have A4:=Aside0.mk A40
 clear A40
 by_cases c5 : t419 = true
 ·subst c5
  have H1:=H;rw [if_pos rfl] at H1
  clear H
  have H:=H1
  clear H1
  replace H:=Option.bind_eq_some_iff.mp H
  obtain ⟨t420,A60,H⟩:=H
  try dsimp only at H
  have A6:=Aside0.mk A60
  clear A60
  by_cases c7 : t420 = true
  ·subst c7
   have H1:=H;rw [if_pos rfl] at H1
   clear H
   have H:=H1
   clear H1
   replace H:=Option.bind_eq_some_iff.mp H
   obtain ⟨⟨t421,t422⟩,A80,H⟩:=H
   try dsimp only at H
   have A8:=Aside0.mk A80
   clear A80
   simp only [Option.some.injEq,Prod.mk.injEq] at H
   obtain ⟨rfl,rfl,rfl⟩:=H
   go_enter Tryd.func34,Tryd.ntmps34
   go_wp2_with (first|((with_reducible refine gate_dst (N:=4) rfl ?_);refine box_event ?hg (N:=4) ?hd (cs:=#[.int .i64 a1_0,.slice A1_1 l1_1.length c1_1]) (t:=30) ?hr ?_;(case hd => rfl);(case hg => rfl);(case hr => first|(go_simp;done)|(go_simp;rfl));intro gb414 hg w9 hbox hb;have n0_:=Aside0.mk (below_step (by repeat (first|(with_reducible first|exact HB.out|apply below_alloc|apply pw_below_drewN|apply below_drew1)|exact HB.out)) hb);have n1_:=Aside0.mk (hbox);have n2_:=Aside0.mk ((by rw [hg];exact (below_size (by repeat (first|(with_reducible first|exact HB.out|apply below_alloc|apply pw_below_drewN|apply below_drew1)|exact HB.out))) : w.heap.size ≤ gb414));have n3_:=Aside0.mk ((by rw [hg];exact (below_size (by repeat (first|(with_reducible first|exact HB.out|apply below_alloc|apply pw_below_drewN|apply below_drew1)|exact HB.out))) : w.heap.size ≤ gb414));clear HB;have HB:=n0_;have BK414:=n1_;have GW414:=n2_;have GE414:=n3_;clear n0_ n1_ n2_ n3_;clear hb hbox hg)|((with_reducible refine gate_dst (N:=6) rfl ?_);refine box_event ?hg (N:=6) ?hd (cs:=#[.int .i64 0,.slice none 0 0]) (t:=40) ?hr ?_;(case hd => rfl);(case hg => rfl);(case hr => first|(go_simp;done)|(go_simp;rfl));intro gb415 hg w10 hbox hb;have n0_:=Aside0.mk (blk_below (g:=gb414) (o:=.cells #[.int .i64 a1_0,.slice A1_1 l1_1.length c1_1] 30 (0,0)) (by (with_reducible repeat (first|refine blk_drewN ?_ _|refine blk_drew ?_|refine blk_alloc ?_ _));exact BK414.out) hb);have n1_:=Aside0.mk (below_step (by repeat (first|(with_reducible first|exact HB.out|apply below_alloc|apply pw_below_drewN|apply below_drew1|refine below_set ?_ GE414.out)|exact HB.out)) hb);have n2_:=Aside0.mk (hbox);have n3_:=Aside0.mk ((by rw [hg];exact (below_size (by repeat (first|(with_reducible first|exact HB.out|apply below_alloc|apply pw_below_drewN|apply below_drew1|refine below_set ?_ GE414.out)|exact HB.out))) : w.heap.size ≤ gb415));have n4_:=Aside0.mk ((by rw [hg];exact (below_size (by repeat (first|(with_reducible first|exact HB.out|apply below_alloc|apply pw_below_drewN|apply below_drew1|refine below_set ?_ GE414.out)|exact HB.out))) : w.heap.size ≤ gb415));have n5_:=Aside0.mk ((by rw [hg];exact Nat.ne_of_lt (blk_lt (g:=gb414) (o:=.cells #[.int .i64 a1_0,.slice A1_1 l1_1.length c1_1] 30 (0,0)) (by (with_reducible repeat (first|refine blk_drewN ?_ _|refine blk_drew ?_|refine blk_alloc ?_ _));exact BK414.out)) : gb414≠gb415));have n6_:=Aside0.mk ((by rw [hg];exact Nat.ne_of_gt (blk_lt (g:=gb414) (o:=.cells #[.int .i64 a1_0,.slice A1_1 l1_1.length c1_1] 30 (0,0)) (by (with_reducible repeat (first|refine blk_drewN ?_ _|refine blk_drew ?_|refine blk_alloc ?_ _));exact BK414.out)) : gb415≠gb414));clear BK414 HB;have BK414:=n0_;have HB:=n1_;have BK415:=n2_;have GW415:=n3_;have GE415:=n4_;have NB414_415:=n5_;have NB415_414:=n6_;clear n0_ n1_ n2_ n3_ n4_ n5_ n6_;clear hb hbox hg;have hnb11:=NB414_415.out;have hnc11:=NB415_414.out;have hcz12_0 : w10.cell? ⟨gb414,0,none⟩ = some (.int .i64 a1_0):=(blk_cell BK414.out 0).trans rfl;have hcz12_1 : w10.cell? ⟨gb414,1,none⟩ = some (.slice A1_1 l1_1.length c1_1):=(blk_cell BK414.out 1).trans rfl;have hfz12_0:=blk_frozen BK414.out 0;have hfz12_1:=blk_frozen BK414.out 1)|((with_reducible refine gate_callee (f:=60) rfl ?_);refine goesL_ (some 13) rfl rfl Tryd.func60 (by kernel_rfl) rfl #[.slice A0 l0.length c0,.agg #[.int .i64 a1_0,.slice A1_1 l1_1.length c1_1]] rfl (by (try simp only [List.map_toArray,List.map_cons,List.map_nil]);first|done|rfl|(simp only [List.length_drop,List.length_take];rfl)) ?_;(with_reducible refine (impl_heads.calls k _ _ l0 a1_0 _ _ l1_1 t416 true _ ?side1 ?side2 ?side3 ?side4 A4.out).mono ?_);(case side1 => repeat (first|exact (Kd.C_below HR0.out HB.out)|(with_reducible first|refine Kd.C_alloc ?_ _|refine Kd.C_drewN ?_ _|refine Kd.C_drew ?_)));(case side2 => exact HC0.out);(case side3 => repeat (first|exact (Kd.C_below HR1_1.out HB.out)|(with_reducible first|refine Kd.C_alloc ?_ _|refine Kd.C_drewN ?_ _|refine Kd.C_drew ?_)));(case side4 => exact HC1_1.out);rintro e w13 ⟨v417,rfl,ho0,hb⟩;refine ⟨_,rfl,?_⟩;have n0_:=Aside0.mk (Kd.R_lower ho0 (below_size (by repeat (first|(with_reducible first|exact HB.out|apply below_alloc|apply pw_below_drewN|apply below_drew1|refine below_set ?_ GE414.out|refine below_set ?_ GE415.out)|exact HB.out))));have n1_:=Aside0.mk (blk_below (g:=gb414) (o:=.cells #[.int .i64 a1_0,.slice A1_1 l1_1.length c1_1] 30 (0,0)) (by (with_reducible repeat (first|refine blk_drewN ?_ _|refine blk_drew ?_|refine blk_alloc ?_ _));exact BK414.out) hb);have n2_:=Aside0.mk (blk_below (g:=gb415) (o:=.cells #[.int .i64 0,.slice none 0 0] 40 (0,0)) (by (with_reducible repeat (first|refine blk_drewN ?_ _|refine blk_drew ?_|refine blk_alloc ?_ _));exact BK415.out) hb);have n3_:=Aside0.mk (below_step (by repeat (first|(with_reducible first|exact HB.out|apply below_alloc|apply pw_below_drewN|apply below_drew1|refine below_set ?_ GE414.out|refine below_set ?_ GE415.out)|exact HB.out)) hb);clear BK414 BK415 HB;have HO418:=n0_;have BK414:=n1_;have BK415:=n2_;have HB:=n3_;clear n0_ n1_ n2_ n3_;(try clear hb);(try clear hb2);(try clear hk);(try clear hi);(try clear ho0);obtain ⟨Ao14,co14,eo14⟩:=Kd.R_slice HO418.out;subst eo14)|(go_at_call 65;(with_reducible refine (impl_isHead.calls k a2 _ _ t416 true _ ?side1 ?side2 A6.out).mono ?_);(case side1 => repeat (first|exact (Kd.R_reads' HO418.out).2.2|(with_reducible first|refine Kd.C_alloc ?_ _|refine Kd.C_drewN ?_ _|refine Kd.C_drew ?_)));(case side2 => exact (Kd.R_reads' HO418.out).2.1);rintro e w' ⟨rfl,⟨nd,rfl⟩⟩;(try (rw [drewN_self w13];generalize hq_ : World.drewN w13 _ = w13;have n0_ : Aside0 (Kd.R (Kd.int .i64) 2 w13 w.heap.size (fun _ => True) (.slice Ao14 t416.length co14) t416):=⟨by rw [← hq_];exact (by (with_reducible repeat (first|apply Kd.R_alloc|apply Kd.R_drewN|apply Kd.R_drew));exact HO418.out)⟩;have n1_ : Aside0 (w13.heap[gb414]? = some (.cells #[.int .i64 a1_0,.slice A1_1 l1_1.length c1_1] 30 (0,0))):=⟨by rw [← hq_];exact (by (with_reducible repeat (first|refine blk_drewN ?_ _|refine blk_drew ?_|refine blk_alloc ?_ _));exact BK414.out)⟩;have n2_ : Aside0 (w13.heap[gb415]? = some (.cells #[.int .i64 0,.slice none 0 0] 40 (0,0))):=⟨by rw [← hq_];exact (by (with_reducible repeat (first|refine blk_drewN ?_ _|refine blk_drew ?_|refine blk_alloc ?_ _));exact BK415.out)⟩;have n3_ : Aside0 (Below w.heap.size w w13):=⟨by rw [← hq_];exact (by repeat (first|(with_reducible first|exact HB.out|apply below_alloc|apply pw_below_drewN|apply below_drew1|refine below_set ?_ GE414.out|refine below_set ?_ GE415.out)|exact HB.out))⟩;clear HO418 BK414 BK415 HB hq_;have HO418:=n0_;have BK414:=n1_;have BK415:=n2_;have HB:=n3_;clear n0_ n1_ n2_ n3_));have hcz15_0 : w13.cell? ⟨gb414,0,none⟩ = some (.int .i64 a1_0):=(blk_cell BK414.out 0).trans rfl;have hcz15_1 : w13.cell? ⟨gb414,1,none⟩ = some (.slice A1_1 l1_1.length c1_1):=(blk_cell BK414.out 1).trans rfl;have hfz15_0:=blk_frozen BK414.out 0;have hfz15_1:=blk_frozen BK414.out 1)|((with_reducible refine gate_callee (f:=66) rfl ?_);refine goesL_ (some 29) rfl rfl Tryd.func66 (by kernel_rfl) rfl #[.slice A0 l0.length c0,.agg #[.int .i64 a1_0,.slice A1_1 l1_1.length c1_1],.int .i64 (wrap64 (Int.tdiv a2 2))] rfl (by (try simp only [List.map_toArray,List.map_cons,List.map_nil]);first|done|rfl|(simp only [List.length_drop,List.length_take];rfl)) ?_;(with_reducible refine (impl_youngObject.calls _ _ l0 a1_0 _ _ l1_1 (wrap64 (Int.tdiv a2 2)) t421 t422 _ ?side1 ?side2 ?side3 ?side4 A8.out).mono ?_);(case side1 => repeat (first|exact (Kd.C_below HR0.out HB.out)|(with_reducible first|refine Kd.C_alloc ?_ _|refine Kd.C_drewN ?_ _|refine Kd.C_drew ?_)));(case side2 => exact HC0.out);(case side3 => repeat (first|exact (Kd.C_below HR1_1.out HB.out)|(with_reducible first|refine Kd.C_alloc ?_ _|refine Kd.C_drewN ?_ _|refine Kd.C_drew ?_)));(case side4 => exact HC1_1.out);rintro e w16 ⟨v423,rfl,ho0,hb⟩;refine ⟨_,rfl,?_⟩;have n0_:=Aside0.mk (Kd.R_elder' (by (with_reducible repeat (first|apply Kd.R_alloc|apply Kd.R_drewN|apply Kd.R_drew));exact HO418.out) (Kd.R_base ho0) hb);have n1_:=Aside0.mk (Kd.R_lower (Kd.R_new' ho0 (Kd.R_lt (by (with_reducible repeat (first|apply Kd.R_alloc|apply Kd.R_drewN|apply Kd.R_drew));exact HO418.out))) (below_size (by repeat (first|(with_reducible first|exact HB.out|apply below_alloc|apply pw_below_drewN|apply below_drew1|refine below_set ?_ GE414.out|refine below_set ?_ GE415.out)|exact HB.out))));have n2_:=Aside0.mk (blk_below (g:=gb414) (o:=.cells #[.int .i64 a1_0,.slice A1_1 l1_1.length c1_1] 30 (0,0)) (by (with_reducible repeat (first|refine blk_drewN ?_ _|refine blk_drew ?_|refine blk_alloc ?_ _));exact BK414.out) hb);have n3_:=Aside0.mk (blk_below (g:=gb415) (o:=.cells #[.int .i64 0,.slice none 0 0] 40 (0,0)) (by (with_reducible repeat (first|refine blk_drewN ?_ _|refine blk_drew ?_|refine blk_alloc ?_ _));exact BK415.out) hb);have n4_:=Aside0.mk (below_step (by repeat (first|(with_reducible first|exact HB.out|apply below_alloc|apply pw_below_drewN|apply below_drew1|refine below_set ?_ GE414.out|refine below_set ?_ GE415.out)|exact HB.out)) hb);clear HO418 BK414 BK415 HB;have HO418:=n0_;have HO424:=n1_;have BK414:=n2_;have BK415:=n3_;have HB:=n4_;clear n0_ n1_ n2_ n3_ n4_;(try clear hb);(try clear hb2);(try clear hk);(try clear hi);(try clear ho0);have hcz17_0 : w16.cell? ⟨gb415,0,none⟩ = some (.int .i64 0):=(blk_cell BK415.out 0).trans rfl;have hcz17_1 : w16.cell? ⟨gb415,1,none⟩ = some (.slice none 0 0):=(blk_cell BK415.out 1).trans rfl;have hfz17_0:=blk_frozen BK415.out 0;have hfz17_1:=blk_frozen BK415.out 1;obtain ⟨Ao18,co18,eo18⟩:=Kd.R_slice HO424.out;subst eo18))
   refine bodyPost_ret (results_ct rfl _ _ gb415 40 #[.int .i64 t421,.slice Ao18 t422.length co18] (0,0) _ rfl (by (with_reducible repeat (first|refine blk_drewN ?_ _|refine blk_drew ?_|refine blk_alloc ?_ _));refine blk_put (cs:=#[.int .i64 t421,.slice none 0 0]) ?_ 1 _ rfl;(with_reducible repeat (first|refine blk_drewN ?_ _|refine blk_drew ?_|refine blk_alloc ?_ _));refine blk_put (cs:=#[.int .i64 0,.slice none 0 0]) ?_ 0 _ rfl;(with_reducible repeat (first|refine blk_drewN ?_ _|refine blk_drew ?_|refine blk_alloc ?_ _));exact BK415.out) Tryd.underlying40 rfl (by kernel_rfl)) rfl ?_
   exact ⟨_,by first|rfl|(simp [errW_none,errW_some] <;> rfl)|(simp [*,errW_none,errW_some] <;> rfl),by (with_reducible repeat (first|apply Kd.R_alloc|apply Kd.R_drewN|apply Kd.R_drew));exact Kd.R_mono (Kd.R_far (p:=⟨gb415,1,none⟩) (Kd.R_far (p:=⟨gb415,0,none⟩) (Kd.R_types HO424.out BK415.out (by decide)) (fun _ hk => hk.2) (.int .i64 t421)) (fun _ hk => hk.2) (.slice Ao18 t422.length co18)) (fun _ hk => trivial),by repeat (first|(with_reducible first|exact HB.out|apply below_alloc|apply pw_below_drewN|apply below_drew1|refine below_set ?_ GE414.out|refine below_set ?_ GE415.out)|exact HB.out)⟩
  ·replace c7:=Bool.eq_false_iff.mpr c7
   subst c7
   have H1 : (some (0,([] : List Int),false)) = some (r1,r2,r3):=by rw [if_neg (show ¬ (false = true) by decide)] at H;exact H
   clear H
   have H:=H1
   clear H1
   simp only [Option.some.injEq,Prod.mk.injEq] at H
   obtain ⟨rfl,rfl,rfl⟩:=H
   go_enter Tryd.func34,Tryd.ntmps34
   go_wp2_with (first|((with_reducible refine gate_dst (N:=4) rfl ?_);refine box_event ?hg (N:=4) ?hd (cs:=#[.int .i64 a1_0,.slice A1_1 l1_1.length c1_1]) (t:=30) ?hr ?_;(case hd => rfl);(case hg => rfl);(case hr => first|(go_simp;done)|(go_simp;rfl));intro gb414 hg w19 hbox hb;have n0_:=Aside0.mk (below_step (by repeat (first|(with_reducible first|exact HB.out|apply below_alloc|apply pw_below_drewN|apply below_drew1)|exact HB.out)) hb);have n1_:=Aside0.mk (hbox);have n2_:=Aside0.mk ((by rw [hg];exact (below_size (by repeat (first|(with_reducible first|exact HB.out|apply below_alloc|apply pw_below_drewN|apply below_drew1)|exact HB.out))) : w.heap.size ≤ gb414));have n3_:=Aside0.mk ((by rw [hg];exact (below_size (by repeat (first|(with_reducible first|exact HB.out|apply below_alloc|apply pw_below_drewN|apply below_drew1)|exact HB.out))) : w.heap.size ≤ gb414));clear HB;have HB:=n0_;have BK414:=n1_;have GW414:=n2_;have GE414:=n3_;clear n0_ n1_ n2_ n3_;clear hb hbox hg)|((with_reducible refine gate_dst (N:=6) rfl ?_);refine box_event ?hg (N:=6) ?hd (cs:=#[.int .i64 0,.slice none 0 0]) (t:=40) ?hr ?_;(case hd => rfl);(case hg => rfl);(case hr => first|(go_simp;done)|(go_simp;rfl));intro gb415 hg w20 hbox hb;have n0_:=Aside0.mk (blk_below (g:=gb414) (o:=.cells #[.int .i64 a1_0,.slice A1_1 l1_1.length c1_1] 30 (0,0)) (by (with_reducible repeat (first|refine blk_drewN ?_ _|refine blk_drew ?_|refine blk_alloc ?_ _));exact BK414.out) hb);have n1_:=Aside0.mk (below_step (by repeat (first|(with_reducible first|exact HB.out|apply below_alloc|apply pw_below_drewN|apply below_drew1|refine below_set ?_ GE414.out)|exact HB.out)) hb);have n2_:=Aside0.mk (hbox);have n3_:=Aside0.mk ((by rw [hg];exact (below_size (by repeat (first|(with_reducible first|exact HB.out|apply below_alloc|apply pw_below_drewN|apply below_drew1|refine below_set ?_ GE414.out)|exact HB.out))) : w.heap.size ≤ gb415));have n4_:=Aside0.mk ((by rw [hg];exact (below_size (by repeat (first|(with_reducible first|exact HB.out|apply below_alloc|apply pw_below_drewN|apply below_drew1|refine below_set ?_ GE414.out)|exact HB.out))) : w.heap.size ≤ gb415));have n5_:=Aside0.mk ((by rw [hg];exact Nat.ne_of_lt (blk_lt (g:=gb414) (o:=.cells #[.int .i64 a1_0,.slice A1_1 l1_1.length c1_1] 30 (0,0)) (by (with_reducible repeat (first|refine blk_drewN ?_ _|refine blk_drew ?_|refine blk_alloc ?_ _));exact BK414.out)) : gb414≠gb415));have n6_:=Aside0.mk ((by rw [hg];exact Nat.ne_of_gt (blk_lt (g:=gb414) (o:=.cells #[.int .i64 a1_0,.slice A1_1 l1_1.length c1_1] 30 (0,0)) (by (with_reducible repeat (first|refine blk_drewN ?_ _|refine blk_drew ?_|refine blk_alloc ?_ _));exact BK414.out)) : gb415≠gb414));clear BK414 HB;have BK414:=n0_;have HB:=n1_;have BK415:=n2_;have GW415:=n3_;have GE415:=n4_;have NB414_415:=n5_;have NB415_414:=n6_;clear n0_ n1_ n2_ n3_ n4_ n5_ n6_;clear hb hbox hg;have hnb21:=NB414_415.out;have hnc21:=NB415_414.out;have hcz22_0 : w20.cell? ⟨gb414,0,none⟩ = some (.int .i64 a1_0):=(blk_cell BK414.out 0).trans rfl;have hcz22_1 : w20.cell? ⟨gb414,1,none⟩ = some (.slice A1_1 l1_1.length c1_1):=(blk_cell BK414.out 1).trans rfl;have hfz22_0:=blk_frozen BK414.out 0;have hfz22_1:=blk_frozen BK414.out 1)|((with_reducible refine gate_callee (f:=60) rfl ?_);refine goesL_ (some 13) rfl rfl Tryd.func60 (by kernel_rfl) rfl #[.slice A0 l0.length c0,.agg #[.int .i64 a1_0,.slice A1_1 l1_1.length c1_1]] rfl (by (try simp only [List.map_toArray,List.map_cons,List.map_nil]);first|done|rfl|(simp only [List.length_drop,List.length_take];rfl)) ?_;(with_reducible refine (impl_heads.calls k _ _ l0 a1_0 _ _ l1_1 t416 true _ ?side1 ?side2 ?side3 ?side4 A4.out).mono ?_);(case side1 => repeat (first|exact (Kd.C_below HR0.out HB.out)|(with_reducible first|refine Kd.C_alloc ?_ _|refine Kd.C_drewN ?_ _|refine Kd.C_drew ?_)));(case side2 => exact HC0.out);(case side3 => repeat (first|exact (Kd.C_below HR1_1.out HB.out)|(with_reducible first|refine Kd.C_alloc ?_ _|refine Kd.C_drewN ?_ _|refine Kd.C_drew ?_)));(case side4 => exact HC1_1.out);rintro e w23 ⟨v417,rfl,ho0,hb⟩;refine ⟨_,rfl,?_⟩;have n0_:=Aside0.mk (Kd.R_lower ho0 (below_size (by repeat (first|(with_reducible first|exact HB.out|apply below_alloc|apply pw_below_drewN|apply below_drew1|refine below_set ?_ GE414.out|refine below_set ?_ GE415.out)|exact HB.out))));have n1_:=Aside0.mk (blk_below (g:=gb414) (o:=.cells #[.int .i64 a1_0,.slice A1_1 l1_1.length c1_1] 30 (0,0)) (by (with_reducible repeat (first|refine blk_drewN ?_ _|refine blk_drew ?_|refine blk_alloc ?_ _));exact BK414.out) hb);have n2_:=Aside0.mk (blk_below (g:=gb415) (o:=.cells #[.int .i64 0,.slice none 0 0] 40 (0,0)) (by (with_reducible repeat (first|refine blk_drewN ?_ _|refine blk_drew ?_|refine blk_alloc ?_ _));exact BK415.out) hb);have n3_:=Aside0.mk (below_step (by repeat (first|(with_reducible first|exact HB.out|apply below_alloc|apply pw_below_drewN|apply below_drew1|refine below_set ?_ GE414.out|refine below_set ?_ GE415.out)|exact HB.out)) hb);clear BK414 BK415 HB;have HO418:=n0_;have BK414:=n1_;have BK415:=n2_;have HB:=n3_;clear n0_ n1_ n2_ n3_;(try clear hb);(try clear hb2);(try clear hk);(try clear hi);(try clear ho0);obtain ⟨Ao24,co24,eo24⟩:=Kd.R_slice HO418.out;subst eo24)|(go_at_call 65;(with_reducible refine (impl_isHead.calls k a2 _ _ t416 false _ ?side1 ?side2 A6.out).mono ?_);(case side1 => repeat (first|exact (Kd.R_reads' HO418.out).2.2|(with_reducible first|refine Kd.C_alloc ?_ _|refine Kd.C_drewN ?_ _|refine Kd.C_drew ?_)));(case side2 => exact (Kd.R_reads' HO418.out).2.1);rintro e w' ⟨rfl,⟨nd,rfl⟩⟩;(try (rw [drewN_self w23];generalize hq_ : World.drewN w23 _ = w23;have n0_ : Aside0 (Kd.R (Kd.int .i64) 2 w23 w.heap.size (fun _ => True) (.slice Ao24 t416.length co24) t416):=⟨by rw [← hq_];exact (by (with_reducible repeat (first|apply Kd.R_alloc|apply Kd.R_drewN|apply Kd.R_drew));exact HO418.out)⟩;have n1_ : Aside0 (w23.heap[gb414]? = some (.cells #[.int .i64 a1_0,.slice A1_1 l1_1.length c1_1] 30 (0,0))):=⟨by rw [← hq_];exact (by (with_reducible repeat (first|refine blk_drewN ?_ _|refine blk_drew ?_|refine blk_alloc ?_ _));exact BK414.out)⟩;have n2_ : Aside0 (w23.heap[gb415]? = some (.cells #[.int .i64 0,.slice none 0 0] 40 (0,0))):=⟨by rw [← hq_];exact (by (with_reducible repeat (first|refine blk_drewN ?_ _|refine blk_drew ?_|refine blk_alloc ?_ _));exact BK415.out)⟩;have n3_ : Aside0 (Below w.heap.size w w23):=⟨by rw [← hq_];exact (by repeat (first|(with_reducible first|exact HB.out|apply below_alloc|apply pw_below_drewN|apply below_drew1|refine below_set ?_ GE414.out|refine below_set ?_ GE415.out)|exact HB.out))⟩;clear HO418 BK414 BK415 HB hq_;have HO418:=n0_;have BK414:=n1_;have BK415:=n2_;have HB:=n3_;clear n0_ n1_ n2_ n3_));have hcz25_0 : w23.cell? ⟨gb415,0,none⟩ = some (.int .i64 0):=(blk_cell BK415.out 0).trans rfl;have hcz25_1 : w23.cell? ⟨gb415,1,none⟩ = some (.slice none 0 0):=(blk_cell BK415.out 1).trans rfl;have hfz25_0:=blk_frozen BK415.out 0;have hfz25_1:=blk_frozen BK415.out 1))
   refine bodyPost_ret (results_ct rfl _ _ gb415 40 #[.int .i64 0,.slice none 0 0] (0,0) _ rfl (by (with_reducible repeat (first|refine blk_drewN ?_ _|refine blk_drew ?_|refine blk_alloc ?_ _));refine blk_put (cs:=#[.int .i64 0,.slice none 0 0]) ?_ 1 _ rfl;(with_reducible repeat (first|refine blk_drewN ?_ _|refine blk_drew ?_|refine blk_alloc ?_ _));refine blk_put (cs:=#[.int .i64 0,.slice none 0 0]) ?_ 0 _ rfl;(with_reducible repeat (first|refine blk_drewN ?_ _|refine blk_drew ?_|refine blk_alloc ?_ _));exact BK415.out) Tryd.underlying40 rfl (by kernel_rfl)) rfl ?_
   exact ⟨_,by first|rfl|(simp [errW_none,errW_some] <;> rfl)|(simp [*,errW_none,errW_some] <;> rfl),by first|exact Kd.R_nil _ _ _ _ _|exact Kd.N_nil _ _ _ _ _|exact Kd.V_nil _ _ _ _ _|exact Kd.Q_nil _ _ _ _ _|exact Kd.S_nil _ _ _ _ _,by repeat (first|(with_reducible first|exact HB.out|apply below_alloc|apply pw_below_drewN|apply below_drew1|refine below_set ?_ GE414.out|refine below_set ?_ GE415.out)|exact HB.out)⟩
 ·replace c5:=Bool.eq_false_iff.mpr c5
  subst c5
  have H1 : (some (0,([] : List Int),false)) = some (r1,r2,r3):=by rw [if_neg (show ¬ (false = true) by decide)] at H;exact H
  clear H
  have H:=H1
  clear H1
  simp only [Option.some.injEq,Prod.mk.injEq] at H
  obtain ⟨rfl,rfl,rfl⟩:=H
  go_enter Tryd.func34,Tryd.ntmps34
  go_wp2_with (first|((with_reducible refine gate_dst (N:=4) rfl ?_);refine box_event ?hg (N:=4) ?hd (cs:=#[.int .i64 a1_0,.slice A1_1 l1_1.length c1_1]) (t:=30) ?hr ?_;(case hd => rfl);(case hg => rfl);(case hr => first|(go_simp;done)|(go_simp;rfl));intro gb414 hg w26 hbox hb;have n0_:=Aside0.mk (below_step (by repeat (first|(with_reducible first|exact HB.out|apply below_alloc|apply pw_below_drewN|apply below_drew1)|exact HB.out)) hb);have n1_:=Aside0.mk (hbox);have n2_:=Aside0.mk ((by rw [hg];exact (below_size (by repeat (first|(with_reducible first|exact HB.out|apply below_alloc|apply pw_below_drewN|apply below_drew1)|exact HB.out))) : w.heap.size ≤ gb414));have n3_:=Aside0.mk ((by rw [hg];exact (below_size (by repeat (first|(with_reducible first|exact HB.out|apply below_alloc|apply pw_below_drewN|apply below_drew1)|exact HB.out))) : w.heap.size ≤ gb414));clear HB;have HB:=n0_;have BK414:=n1_;have GW414:=n2_;have GE414:=n3_;clear n0_ n1_ n2_ n3_;clear hb hbox hg)|((with_reducible refine gate_dst (N:=6) rfl ?_);refine box_event ?hg (N:=6) ?hd (cs:=#[.int .i64 0,.slice none 0 0]) (t:=40) ?hr ?_;(case hd => rfl);(case hg => rfl);(case hr => first|(go_simp;done)|(go_simp;rfl));intro gb415 hg w27 hbox hb;have n0_:=Aside0.mk (blk_below (g:=gb414) (o:=.cells #[.int .i64 a1_0,.slice A1_1 l1_1.length c1_1] 30 (0,0)) (by (with_reducible repeat (first|refine blk_drewN ?_ _|refine blk_drew ?_|refine blk_alloc ?_ _));exact BK414.out) hb);have n1_:=Aside0.mk (below_step (by repeat (first|(with_reducible first|exact HB.out|apply below_alloc|apply pw_below_drewN|apply below_drew1|refine below_set ?_ GE414.out)|exact HB.out)) hb);have n2_:=Aside0.mk (hbox);have n3_:=Aside0.mk ((by rw [hg];exact (below_size (by repeat (first|(with_reducible first|exact HB.out|apply below_alloc|apply pw_below_drewN|apply below_drew1|refine below_set ?_ GE414.out)|exact HB.out))) : w.heap.size ≤ gb415));have n4_:=Aside0.mk ((by rw [hg];exact (below_size (by repeat (first|(with_reducible first|exact HB.out|apply below_alloc|apply pw_below_drewN|apply below_drew1|refine below_set ?_ GE414.out)|exact HB.out))) : w.heap.size ≤ gb415));have n5_:=Aside0.mk ((by rw [hg];exact Nat.ne_of_lt (blk_lt (g:=gb414) (o:=.cells #[.int .i64 a1_0,.slice A1_1 l1_1.length c1_1] 30 (0,0)) (by (with_reducible repeat (first|refine blk_drewN ?_ _|refine blk_drew ?_|refine blk_alloc ?_ _));exact BK414.out)) : gb414≠gb415));have n6_:=Aside0.mk ((by rw [hg];exact Nat.ne_of_gt (blk_lt (g:=gb414) (o:=.cells #[.int .i64 a1_0,.slice A1_1 l1_1.length c1_1] 30 (0,0)) (by (with_reducible repeat (first|refine blk_drewN ?_ _|refine blk_drew ?_|refine blk_alloc ?_ _));exact BK414.out)) : gb415≠gb414));clear BK414 HB;have BK414:=n0_;have HB:=n1_;have BK415:=n2_;have GW415:=n3_;have GE415:=n4_;have NB414_415:=n5_;have NB415_414:=n6_;clear n0_ n1_ n2_ n3_ n4_ n5_ n6_;clear hb hbox hg;have hnb28:=NB414_415.out;have hnc28:=NB415_414.out;have hcz29_0 : w27.cell? ⟨gb414,0,none⟩ = some (.int .i64 a1_0):=(blk_cell BK414.out 0).trans rfl;have hcz29_1 : w27.cell? ⟨gb414,1,none⟩ = some (.slice A1_1 l1_1.length c1_1):=(blk_cell BK414.out 1).trans rfl;have hfz29_0:=blk_frozen BK414.out 0;have hfz29_1:=blk_frozen BK414.out 1)|((with_reducible refine gate_callee (f:=60) rfl ?_);refine goesL_ (some 13) rfl rfl Tryd.func60 (by kernel_rfl) rfl #[.slice A0 l0.length c0,.agg #[.int .i64 a1_0,.slice A1_1 l1_1.length c1_1]] rfl (by (try simp only [List.map_toArray,List.map_cons,List.map_nil]);first|done|rfl|(simp only [List.length_drop,List.length_take];rfl)) ?_;(with_reducible refine (impl_heads.calls k _ _ l0 a1_0 _ _ l1_1 t416 false _ ?side1 ?side2 ?side3 ?side4 A4.out).mono ?_);(case side1 => repeat (first|exact (Kd.C_below HR0.out HB.out)|(with_reducible first|refine Kd.C_alloc ?_ _|refine Kd.C_drewN ?_ _|refine Kd.C_drew ?_)));(case side2 => exact HC0.out);(case side3 => repeat (first|exact (Kd.C_below HR1_1.out HB.out)|(with_reducible first|refine Kd.C_alloc ?_ _|refine Kd.C_drewN ?_ _|refine Kd.C_drew ?_)));(case side4 => exact HC1_1.out);rintro e w30 ⟨v417,rfl,ho0,hb⟩;refine ⟨_,rfl,?_⟩;have n0_:=Aside0.mk (Kd.R_lower ho0 (below_size (by repeat (first|(with_reducible first|exact HB.out|apply below_alloc|apply pw_below_drewN|apply below_drew1|refine below_set ?_ GE414.out|refine below_set ?_ GE415.out)|exact HB.out))));have n1_:=Aside0.mk (blk_below (g:=gb414) (o:=.cells #[.int .i64 a1_0,.slice A1_1 l1_1.length c1_1] 30 (0,0)) (by (with_reducible repeat (first|refine blk_drewN ?_ _|refine blk_drew ?_|refine blk_alloc ?_ _));exact BK414.out) hb);have n2_:=Aside0.mk (blk_below (g:=gb415) (o:=.cells #[.int .i64 0,.slice none 0 0] 40 (0,0)) (by (with_reducible repeat (first|refine blk_drewN ?_ _|refine blk_drew ?_|refine blk_alloc ?_ _));exact BK415.out) hb);have n3_:=Aside0.mk (below_step (by repeat (first|(with_reducible first|exact HB.out|apply below_alloc|apply pw_below_drewN|apply below_drew1|refine below_set ?_ GE414.out|refine below_set ?_ GE415.out)|exact HB.out)) hb);clear BK414 BK415 HB;have HO418:=n0_;have BK414:=n1_;have BK415:=n2_;have HB:=n3_;clear n0_ n1_ n2_ n3_;(try clear hb);(try clear hb2);(try clear hk);(try clear hi);(try clear ho0);have hcz31_0 : w30.cell? ⟨gb415,0,none⟩ = some (.int .i64 0):=(blk_cell BK415.out 0).trans rfl;have hcz31_1 : w30.cell? ⟨gb415,1,none⟩ = some (.slice none 0 0):=(blk_cell BK415.out 1).trans rfl;have hfz31_0:=blk_frozen BK415.out 0;have hfz31_1:=blk_frozen BK415.out 1))
  refine bodyPost_ret (results_ct rfl _ _ gb415 40 #[.int .i64 0,.slice none 0 0] (0,0) _ rfl (by (with_reducible repeat (first|refine blk_drewN ?_ _|refine blk_drew ?_|refine blk_alloc ?_ _));refine blk_put (cs:=#[.int .i64 0,.slice none 0 0]) ?_ 1 _ rfl;(with_reducible repeat (first|refine blk_drewN ?_ _|refine blk_drew ?_|refine blk_alloc ?_ _));refine blk_put (cs:=#[.int .i64 0,.slice none 0 0]) ?_ 0 _ rfl;(with_reducible repeat (first|refine blk_drewN ?_ _|refine blk_drew ?_|refine blk_alloc ?_ _));exact BK415.out) Tryd.underlying40 rfl (by kernel_rfl)) rfl ?_
  exact ⟨_,by first|rfl|(simp [errW_none,errW_some] <;> rfl)|(simp [*,errW_none,errW_some] <;> rfl),by first|exact Kd.R_nil _ _ _ _ _|exact Kd.N_nil _ _ _ _ _|exact Kd.V_nil _ _ _ _ _|exact Kd.Q_nil _ _ _ _ _|exact Kd.S_nil _ _ _ _ _,by repeat (first|(with_reducible first|exact HB.out|apply below_alloc|apply pw_below_drewN|apply below_drew1|refine below_set ?_ GE414.out|refine below_set ?_ GE415.out)|exact HB.out)⟩

end Go.Proofs.YtgfeafcgpeclcaaDoor.X
namespace Go.Proofs.YtgfeafcgpeclcaaDoor.Pure
open Go.RowKit Go.Proofs.YtgfeafcgpeclcaaDoor.X Go.Proofs.YtgfeafcgpeclcaaDoorW.PrintWords Go.Proofs.YtgfeafcgpeclcaaDoorW.PrintLast
set_option linter.unusedVariables false
set_option linter.unusedSimpArgs false
def isHeadB (st : List Int) (x : Int) : Bool := decide (refk x = 2) && decide (x / 2 ∈ st)
theorem impl_isHead_ev (st : List Int) (x : Int) (hs : st.Pairwise (· < ·)) (hl : st.length ≤ 1099511627776) : Ev (fun k => impl_isHead.f k x st) (isHeadB st x) := by
  unfold impl_isHead.f isHeadB
  refine Ev.bind (impl_isYoung_ev x) (Ev.cases (fun c2 => ?_) (fun c2 => Ev.eq ?_))
  · have c2 := of_decide_eq_true c2
    have hp := refk_pos c2
    rw [Int.tdiv_eq_ediv_of_nonneg (by omega), w64 (x := x / 2) (by omega) (by omega)]
    obtain ⟨i, f, hev, hi, hlo, hup, ht, hf⟩ := bsearch_ev st (x / 2) hs hl
    refine Ev.bind hev (Ev.eq ?_)
    simp only [c2, decide_true, Bool.true_and]
    cases hfc : f with
    | true =>
      obtain ⟨h, e⟩ := ht hfc
      exact (decide_eq_true (e ▸ List.getElem_mem h)).symm
    | false =>
      refine (decide_eq_false (fun hm => ?_)).symm
      obtain ⟨j, hj, e⟩ := List.getElem_of_mem hm
      rcases Nat.lt_trichotomy j i with c | c | c
      · have := hlo j hj c; omega
      · subst c
        have := hf hfc hj
        omega
      · have := hup j hj c; omega
  · have : ¬ refk x = 2 := by simpa using c2
    simp [this]
def youngR (types : List ByteArray) (sz : Int) (words : List Int) (ref : Int) : Int × List Int × Bool :=
  match headsR types sz words with
  | some st => if isHeadB st ref = true then (rd words (ref / 2) / 4, valsAt types words (ref / 2).toNat, true) else (0, [], false)
  | none => (0, [], false)
theorem l8Obj_f (types : List ByteArray) (words : List Int) (sz : Int) (n : Nat) (ht : typesOk types = true) (hl : words.length ≤ 400) (hw : ∀ x ∈ words, -9223372036854775808 ≤ x ∧ x ≤ 9223372036854775807) (h : Fits types words (n : Int)) :
    spec_l8Obj.f types sz words (n : Int) = some (rd words n / 4, valsAt types words n) := by
  have hvl := vals_length h
  obtain ⟨m, e, h1, h2, h3, h4⟩ := h
  obtain rfl : m = n := by omega
  have hr := rd_range hw h1
  have hk := parse_size ht (rd words m)
  unfold spec_l8Obj.f
  rw [tdiv4 h2, w64 (x := rd words (m : Int) / 4) (by omega) (by omega), w64 (x := (m : Int) + 1) (by omega) (by omega)]
  have hkk : rdOf ByteArray.empty types (rd words (m : Int) / 4) = kindsAt types (rd words m) := rfl
  rw [hkk, w64 (x := (m : Int) + 1 + ((kindsAt types (rd words m)).size : Int)) (by omega) (by omega)]
  rw [show ((m : Int) + 1 + ((kindsAt types (rd words m)).size : Int)).toNat = m + 1 + (kindsAt types (rd words m)).size from by omega, show ((m : Int) + 1).toNat = m + 1 from by omega]
  have e2 : (words.take (m + 1 + (kindsAt types (rd words m)).size)).drop (m + 1) = valsAt types words m := rfl
  rw [e2, if_pos (by omega), if_pos (by omega), Option.bind_some, if_pos (by omega), if_pos h3, if_pos (by omega), if_pos (by omega), if_pos (by omega), if_pos (by rw [hvl]; simp only [List.length_nil]; omega)]
  rfl
theorem head_fits {types : List ByteArray} {words st : List Int} {ref : Int} (hfit : ∀ x ∈ st, Fits types words x) (h : isHeadB st ref = true) : refk ref = 2 ∧ ref / 2 ∈ st ∧ Fits types words (((ref / 2).toNat : Nat) : Int) ∧ ref / 2 = (((ref / 2).toNat : Nat) : Int) := by
  unfold isHeadB at h
  simp only [Bool.and_eq_true, decide_eq_true_eq] at h
  have hf := hfit _ h.2
  obtain ⟨n, e, _⟩ := id hf
  refine ⟨h.1, h.2, ?_, by omega⟩
  rw [show (((ref / 2).toNat : Nat) : Int) = ref / 2 from by omega]
  exact hf
theorem impl_YoungObject_ev (types : List ByteArray) (sz : Int) (words : List Int) (ref : Int) (hs : ∀ x ∈ types, x.size ≤ 1048576) (hw : ∀ x ∈ words, -9223372036854775808 ≤ x ∧ x ≤ 9223372036854775807) : Ev (fun k => impl_YoungObject.f k types sz words ref) (youngR types sz words ref) := by
  unfold impl_YoungObject.f youngR
  refine Ev.bind (impl_heads_ev types sz words hs hw) ?_
  cases h : headsR types sz words with
  | none => exact Ev.neg (by simp [finL]) (Ev.eq rfl)
  | some st =>
    obtain ⟨ht, hwl, hfit, hsrt, hlen⟩ := parsed_facts (headsR_some h).1
    simp only [finL, List.nil_append]
    refine Ev.pos trivial (Ev.bind (impl_isHead_ev st ref hsrt (by omega)) (Ev.cases (fun c => ?_) (fun c => ?_)))
    · obtain ⟨hr, hm, hf, he⟩ := head_fits hfit c
      have hp := refk_pos hr
      rw [if_pos c, Int.tdiv_eq_ediv_of_nonneg (by omega), w64 (x := ref / 2) (by omega) (by omega), he]
      refine Ev.bindo (youngObject_f types words sz _ ht hwl hw hf) (Ev.eq ?_)
      rw [Int.toNat_natCast]
    · rw [if_neg c]
      exact Ev.eq rfl
theorem spec_YoungObject_ev (types : List ByteArray) (sz : Int) (words : List Int) (ref : Int) (hl : types.length ≤ 1048576) (hs : ∀ x ∈ types, x.size ≤ 1048576) (hw : ∀ x ∈ words, -9223372036854775808 ≤ x ∧ x ≤ 9223372036854775807) : Ev (fun k => spec_YoungObject.f k types sz words ref) (youngR types sz words ref) := by
  unfold spec_YoungObject.f youngR
  refine Ev.bind (spec_RefKind_ev ref) (Ev.cases (fun c => ?_) (fun c => ?_))
  · have hp := refk_pos c
    rw [Int.tdiv_eq_ediv_of_nonneg (by omega), w64 (x := ref / 2) (by omega) (by omega)]
    refine Ev.bind (spec_Starts_ev types sz words hl hs hw) ?_
    have hlen := headsR_length types sz words
    obtain ⟨r, hr, hm⟩ := placeIn_ev ((headsR types sz words).getD []) (ref / 2) (by omega)
    refine Ev.bind hr ?_
    cases h : headsR types sz words with
    | none =>
      rw [h] at hm
      simp only [Option.getD_none, List.not_mem_nil, and_false, false_or, not_false_eq_true, and_true] at hm
      exact Ev.pos (by omega) (Ev.eq rfl)
    | some st =>
      rw [h] at hm
      obtain ⟨ht, hwl, hfit, hsrt, hlen2⟩ := parsed_facts (headsR_some h).1
      rcases hm with ⟨h0, hm⟩ | ⟨h0, hm⟩
      · have hB : isHeadB st ref = true := by unfold isHeadB; simp [c]; exact hm
        obtain ⟨_, _, hf, he⟩ := head_fits hfit hB
        simp only [hB, if_true]
        refine Ev.neg (by omega) ?_
        rw [he]
        refine Ev.bindo (l8Obj_f types words sz _ ht hwl hw hf) (Ev.eq ?_)
        rw [Int.toNat_natCast]
      · have hB : isHeadB st ref = false := by unfold isHeadB; simp [c]; exact hm
        simp only [hB]
        exact Ev.pos (by omega) (Ev.eq rfl)
  · refine Ev.eq ?_
    have hB : ∀ st, isHeadB st ref = false := fun st => by unfold isHeadB; simp [c]
    split
    · simp [hB]
    · rfl
theorem youngR_length (types : List ByteArray) (sz : Int) (words : List Int) (ref : Int) : (youngR types sz words ref).2.1.length ≤ 400 := by
  unfold youngR
  split
  · rename_i st h
    obtain ⟨ht, hwl, hfit, hsrt, hlen⟩ := parsed_facts (headsR_some h).1
    split
    · unfold valsAt
      simp only [List.length_drop, List.length_take]
      omega
    · simp
  · simp
end Go.Proofs.YtgfeafcgpeclcaaDoor.Pure
namespace Go.Proofs.YtgfeafcgpeclcaaDoor.Pure
open Go.RowKit Go.Proofs.YtgfeafcgpeclcaaDoor.X Go.Proofs.YtgfeafcgpeclcaaDoorW.PrintWords Go.Proofs.YtgfeafcgpeclcaaDoorW.PrintLast
set_option linter.unusedVariables false
set_option linter.unusedSimpArgs false
theorem nodup_le : ∀ (l m : List Int), l.Nodup → (∀ x ∈ l, x ∈ m) → l.length ≤ m.length
  | [], m, _, _ => Nat.zero_le _
  | x :: l, m, hn, h => by
    have hx := h x (by simp)
    rw [List.nodup_cons] at hn
    have h1 := nodup_le l (m.erase x) hn.2 (fun y hy => by
      have hne : y ≠ x := fun e => hn.1 (e ▸ hy)
      exact (List.mem_erase_of_ne hne).2 (h y (by simp [hy])))
    have h2 := List.length_erase_of_mem hx
    have h3 := List.length_pos_of_mem hx
    simp only [List.length_cons]
    omega
def seeP (out : List Int) (x : Int) : List Int := if refk x = 2 ∧ x ∉ out then out ++ [x] else out
theorem seeL_P (out : List Int) (x : Int) : seeL out x (decide (refk x = 2)) = seeP out x := by
  unfold seeL seeP
  simp
def valsP (t : ByteArray) : Nat → List Int → List Int → List Int
  | _, [], out => out
  | i, x :: l, out => if bt t (i : Int) = 114 then valsP t (i + 1) l (seeP out x) else valsP t (i + 1) l out
def closeP (types : List ByteArray) (words : List Int) : Nat → Nat → List Int → List Int
  | 0, _, out => out
  | d + 1, i, out => if i < out.length then closeP types words d (i + 1) (valsP (kindsAt types (rd words (rd out (i : Int) / 2))) 0 (valsAt types words (rd out (i : Int) / 2).toNat) out) else out
structure Inv (st out : List Int) : Prop where
  nd : out.Nodup
  ok : ∀ x ∈ out, refk x = 2 ∧ x / 2 ∈ st
theorem refk_odd {x : Int} (h : refk x = 2) : 1 ≤ x ∧ x ≤ 799 ∧ x % 2 = 1 := by
  unfold refk at h
  split at h
  · omega
  · split at h
    · omega
    · split at h
      · omega
      · omega
theorem Inv.nil (st : List Int) : Inv st [] := ⟨by simp, fun x hx => by cases hx⟩
theorem Inv.len {st out : List Int} (h : Inv st out) : out.length ≤ st.length := by
  have h1 := nodup_le (out.map (· / 2)) st ?_ (fun x hx => by
    obtain ⟨y, hy, rfl⟩ := List.mem_map.1 hx
    exact (h.ok y hy).2)
  · simpa using h1
  · rw [List.Nodup, List.pairwise_map]
    refine List.Pairwise.imp_of_mem (fun ha hb hne e => hne ?_) h.nd
    have h1 := refk_odd (h.ok _ ha).1
    have h2 := refk_odd (h.ok _ hb).1
    omega
theorem Inv.see {st out : List Int} {x : Int} (h : Inv st out) (hx : refOk st x = true) : Inv st (seeP out x) := by
  unfold seeP
  split
  · rename_i c
    refine ⟨List.nodup_append.2 ⟨h.nd, by simp, fun a ha b hb => by
      simp only [List.mem_singleton] at hb
      subst hb
      exact fun e => c.2 (e ▸ ha)⟩, fun y hy => ?_⟩
    rcases List.mem_append.1 hy with hy | hy
    · exact h.ok y hy
    · simp only [List.mem_singleton] at hy
      subst hy
      refine ⟨c.1, ?_⟩
      unfold refOk at hx
      simp only [c.1, Bool.or_eq_true, Bool.and_eq_true, decide_eq_true_eq] at hx
      rcases hx with (hx | hx) | hx
      · omega
      · omega
      · exact hx.2
  · exact h
theorem see_length (out : List Int) (x : Int) : out.length ≤ (seeP out x).length := by
  unfold seeP
  split
  · simp
  · exact Nat.le_refl _
theorem valsP_inv {st : List Int} {t : ByteArray} : ∀ (l : List Int) (i : Nat) (out : List Int), Inv st out → objB st t i l = true → Inv st (valsP t i l out) ∧ out.length ≤ (valsP t i l out).length
  | [], i, out, h, _ => ⟨h, Nat.le_refl _⟩
  | x :: l, i, out, h, hb => by
    rw [objB] at hb
    rw [valsP]
    split
    · rename_i c
      rw [if_pos c, Bool.and_eq_true] at hb
      have h1 := valsP_inv l (i + 1) (seeP out x) (h.see hb.1) hb.2
      have h2 := see_length out x
      exact ⟨h1.1, by omega⟩
    · rename_i c
      rw [if_neg c] at hb
      exact valsP_inv l (i + 1) out h hb
theorem nurB_mem {types : List ByteArray} {words st : List Int} : ∀ {l : List Int}, nurB types words st l = true → ∀ h ∈ l, objB st (kindsAt types (rd words h)) 0 (valsAt types words h.toNat) = true
  | [], _, h, hm => by cases hm
  | x :: l, hn, h, hm => by
    rw [nurB, Bool.and_eq_true] at hn
    rcases List.mem_cons.1 hm with rfl | hm
    · exact hn.1
    · exact nurB_mem hn.2 h hm
/-- What stands at a place of the list. -/
theorem out_at {st out : List Int} {types : List ByteArray} {words : List Int} (h : Inv st out) (hfit : ∀ x ∈ st, Fits types words x) {i : Nat} (hi : i < out.length) :
    ∃ n : Nat, rd out (i : Int) / 2 = n ∧ (n : Int) ∈ st ∧ Fits types words (n : Int) ∧ wrap64 (Int.tdiv (rd out (i : Int)) 2) = n ∧ refk (rd out (i : Int)) = 2 := by
  have hm := h.ok (rd out (i : Int)) (by rw [rd_get hi]; exact List.getElem_mem hi)
  have hp := refk_pos hm.1
  obtain ⟨n, hn⟩ := Int.eq_ofNat_of_zero_le (show 0 ≤ rd out (i : Int) / 2 by omega)
  have hn' : rd out (i : Int) / 2 = (n : Int) := hn
  refine ⟨n, hn', hn' ▸ hm.2, hfit _ (hn' ▸ hm.2), ?_, hm.1⟩
  rw [Int.tdiv_eq_ediv_of_nonneg (by omega), w64 (by omega) (by omega), hn']
theorem closeP_inv {st : List Int} {types : List ByteArray} {words : List Int} (hfit : ∀ x ∈ st, Fits types words x) (hn : nurB types words st st = true) : ∀ (d i : Nat) (out : List Int), Inv st out → Inv st (closeP types words d i out)
  | 0, i, out, h => h
  | d + 1, i, out, h => by
    rw [closeP]
    split
    · rename_i c
      obtain ⟨n, e, hm, hf, _, _⟩ := out_at h hfit c
      rw [e, Int.toNat_natCast]
      exact closeP_inv hfit hn d (i + 1) _ (valsP_inv _ 0 out h (nurB_mem hn _ hm)).1
    · exact h
theorem seeAll_inv {st : List Int} : ∀ (l out : List Int), Inv st out → (∀ x ∈ l, refOk st x = true) → Inv st (l.foldl seeP out)
  | [], out, h, _ => h
  | x :: l, out, h, hl => seeAll_inv l (seeP out x) (h.see (hl x (by simp))) (fun y hy => hl y (by simp [hy]))
/-! ### the program -/
theorem impl_seeAll_ev {st : List Int} (hsl : st.length ≤ 400) : ∀ (l out : List Int), Inv st out → (∀ x ∈ l, refOk st x = true) → Ev (fun k => seeAll k l out) (l.foldl seeP out)
  | [], out, h, _ => Ev.eq rfl
  | x :: l, out, h, hl => by
    have ih := impl_seeAll_ev hsl l (seeP out x) (h.see (hl x (by simp))) (fun y hy => hl y (by simp [hy]))
    have hlen := h.len
    simp only [seeAll, List.foldl_cons]
    refine Ev.pos (by omega) (Ev.bind (impl_isYoung_ev x) ?_)
    rw [seeL_P]
    exact ih
theorem impl_seeVals_ev {st : List Int} (hsl : st.length ≤ 400) (types : List ByteArray) (ty : Int) (hty : 0 ≤ ty ∧ ty < types.length) (t : ByteArray) (ht : rdOf ByteArray.empty types ty = t) : ∀ (l : List Int) (i : Nat) (out : List Int), Inv st out → objB st t i l = true → i + l.length ≤ t.size → Ev (fun k => seeVals k types ty i l out) (valsP t i l out)
  | [], i, out, h, _, _ => Ev.eq rfl
  | x :: l, i, out, h, hb, hi => by
    have hlen := h.len
    simp only [List.length_cons] at hi
    rw [objB] at hb
    simp only [seeVals, valsP, ht]
    refine Ev.pos hty (Ev.pos (by omega) ?_)
    by_cases c : bt t (i : Int) = 114
    · rw [if_pos c, Bool.and_eq_true] at hb
      rw [if_pos c]
      refine Ev.pos c (Ev.pos (by omega) (Ev.bind (impl_isYoung_ev x) ?_))
      rw [seeL_P]
      exact impl_seeVals_ev hsl types ty hty t ht l (i + 1) (seeP out x) (h.see hb.1) hb.2 (by omega)
    · rw [if_neg c] at hb
      rw [if_neg c]
      exact Ev.neg c (impl_seeVals_ev hsl types ty hty t ht l (i + 1) out h hb (by omega))
theorem impl_closeL_ev {types : List ByteArray} {sz : Int} {words st : List Int} (hst : headsR types sz words = some st) (hw : ∀ x ∈ words, -9223372036854775808 ≤ x ∧ x ≤ 9223372036854775807) :
    ∀ (n i : Nat) (out : List Int), Inv st out → 401 ≤ i + n → ∃ K, ∀ k, K ≤ k → ∀ d, n + 1 ≤ d → closeL k types sz words d i out = some (closeP types words n i out) := by
  obtain ⟨hp, hn⟩ := headsR_some hst
  obtain ⟨ht, hwl, hfit, hsrt, hsl⟩ := parsed_facts hp
  intro n
  induction n with
  | zero =>
    intro i out h hi
    have hlen := h.len
    refine ⟨0, fun k _ d hd => ?_⟩
    obtain ⟨d, rfl⟩ : ∃ m, d = m + 1 := ⟨d - 1, by omega⟩
    rw [closeL, if_neg (by omega), closeP]
  | succ n ih =>
    intro i out h hi
    by_cases c : i < out.length
    · obtain ⟨m, e, hm, hf, hw2, _⟩ := out_at h hfit c
      have hob := nurB_mem hn _ hm
      rw [Int.toNat_natCast] at hob
      have hvl := vals_length hf
      obtain ⟨m', e', h1, h2, h3, h4⟩ := id hf
      obtain rfl : m' = m := by omega
      have hv := valsP_inv (st := st) (t := kindsAt types (rd words (m' : Int))) (valsAt types words m') 0 out h hob
      obtain ⟨K1, k1⟩ := impl_seeVals_ev hsl types (rd words (m' : Int) / 4) ⟨by omega, h3⟩ (kindsAt types (rd words (m' : Int))) rfl (valsAt types words m') 0 out h hob (by omega)
      obtain ⟨K2, k2⟩ := ih (i + 1) _ hv.1 (by omega)
      refine ⟨max K1 K2, fun k hk d hd => ?_⟩
      obtain ⟨d, rfl⟩ : ∃ q, d = q + 1 := ⟨d - 1, by omega⟩
      rw [closeL, if_pos c, hw2, youngObject_f types words sz m' ht hwl hw hf, Option.bind_some]
      simp only []
      rw [show seeVals k types (rd words (m' : Int) / 4) 0 (valsAt types words m') out = _ from k1 k (by omega), Option.bind_some, k2 k (by omega) d (by omega), closeP, if_pos c, e, Int.toNat_natCast]
    · refine ⟨0, fun k _ d hd => ?_⟩
      obtain ⟨d, rfl⟩ : ∃ m, d = m + 1 := ⟨d - 1, by omega⟩
      rw [closeL, if_neg c, closeP, if_neg c]
def closureP (types : List ByteArray) (words roots : List Int) : List Int := closeP types words 401 0 (roots.foldl seeP [])
theorem impl_youngClosure_ev {types : List ByteArray} {sz : Int} {words st roots : List Int} (hst : headsR types sz words = some st) (hw : ∀ x ∈ words, -9223372036854775808 ≤ x ∧ x ≤ 9223372036854775807) (hr : ∀ x ∈ roots, refOk st x = true) :
    Ev (fun k => impl_youngClosure.f k types sz words roots) (closureP types words roots) := by
  obtain ⟨hp, hn⟩ := headsR_some hst
  have hsl := (parsed_facts hp).2.2.2.2
  unfold impl_youngClosure.f
  refine Ev.bind (impl_seeAll_ev hsl roots [] (Inv.nil st) hr) ?_
  obtain ⟨K, hK⟩ := impl_closeL_ev hst hw 401 0 _ (seeAll_inv roots [] (Inv.nil st) hr) (by omega)
  exact ⟨max K 402, fun k hk => hK k (by omega) k (by omega)⟩
theorem any_ev {f : Nat → Int → Option Bool} {g : Int → Bool} : ∀ (l : List Int), (∀ x ∈ l, Ev (fun k => f k x) (g x)) → Ev (fun k => anyO (f k) l) (l.any g)
  | [], _ => Ev.eq rfl
  | x :: l, h => by
    simp only [anyO, List.any_cons]
    refine Ev.bind (h x (by simp)) ?_
    cases g x with
    | true => exact Ev.pos rfl (Ev.eq rfl)
    | false =>
      rw [Bool.false_or]
      exact Ev.neg (by simp) (any_ev l (fun y hy => h y (by simp [hy])))
def closR (types : List ByteArray) (sz : Int) (words roots : List Int) : List Int × Bool :=
  match headsR types sz words with
  | some st => if roots.length ≤ 400 then (if roots.all (refOk st) = true then (closureP types words roots, true) else ([], false)) else ([], false)
  | none => ([], false)
theorem impl_YoungClosure_ev (types : List ByteArray) (sz : Int) (words roots : List Int) (hs : ∀ x ∈ types, x.size ≤ 1048576) (hw : ∀ x ∈ words, -9223372036854775808 ≤ x ∧ x ≤ 9223372036854775807) : Ev (fun k => impl_YoungClosure.f k types sz words roots) (closR types sz words roots) := by
  unfold impl_YoungClosure.f closR
  refine Ev.bind (impl_heads_ev types sz words hs hw) ?_
  cases h : headsR types sz words with
  | none => exact Ev.neg (by simp [finL]) (Ev.eq rfl)
  | some st =>
    obtain ⟨ht, hwl, hfit, hsrt, hlen⟩ := parsed_facts (headsR_some h).1
    simp only [finL, List.nil_append]
    refine Ev.pos trivial (Ev.cases (fun c => ?_) (fun c => ?_))
    · rw [if_pos c]
      refine Ev.bind (any_ev (g := fun x => !refOk st x) roots (fun x _ => ?_)) ?_
      · obtain ⟨K, hK⟩ := impl_isRef_ev st x hsrt (by omega)
        exact ⟨K, fun k hk => by simp only [hK k hk, Option.map_some]⟩
      · by_cases c2 : roots.all (refOk st) = true
        · rw [if_pos c2]
          have c3 : ¬ (roots.any fun x => !refOk st x) = true := by
            rw [List.all_eq_not_any_not] at c2
            simpa using c2
          refine Ev.neg c3 (Ev.bind (impl_youngClosure_ev h hw (List.all_eq_true.1 c2)) (Ev.eq rfl))
        · rw [if_neg c2]
          have c3 : (roots.any fun x => !refOk st x) = true := by
            rw [List.all_eq_not_any_not] at c2
            simpa using c2
          exact Ev.pos c3 (Ev.eq rfl)
    · rw [if_neg c]
      exact Ev.eq rfl
/-! ### the reference -/
theorem spec_roots_ev {st : List Int} (hsl : st.length ≤ 400) (roots : List Int) (hr : roots.length ≤ 1099511627776) : Ev (fun k => spec_l8Roots.l0 k roots st 0) (roots.all (refOk st)) := by
  have lp : ∀ (d i : Nat), roots.length - i = d → i ≤ roots.length → Ev (fun k => spec_l8Roots.l0 k roots st (i : Int)) ((roots.drop i).all (refOk st)) := by
    intro d
    induction d with
    | zero =>
      intro i hd hi
      rw [List.drop_eq_nil_of_le (by omega)]
      refine Ev.step (fun k => by rw [spec_l8Roots.l0]) ?_
      exact Ev.neg (by omega) (Ev.eq rfl)
    | succ d ih =>
      intro i hd hi
      have hlt : i < roots.length := by omega
      have ih := ih (i + 1) (by omega) (by omega)
      refine Ev.step (fun k => by rw [spec_l8Roots.l0]) ?_
      rw [rd_get hlt, show wrap64 ((i : Int) + 1) = ((i + 1 : Nat) : Int) from by rw [w64 (by omega) (by omega)]; omega, List.drop_eq_getElem_cons hlt, List.all_cons]
      refine Ev.pos (by omega) (Ev.pos (by omega) (Ev.bind (spec_l8Ref_ev st _ (by omega)) (Ev.cases (fun c => ?_) (fun c => ?_))))
      · rw [c, Bool.true_and]; exact ih
      · rw [Bool.eq_false_iff.2 c, Bool.false_and]; exact Ev.eq rfl
  have h := lp _ 0 rfl (by omega)
  rw [List.drop_zero] at h
  exact h
theorem spec_l8Roots_ev (types : List ByteArray) (sz : Int) (words roots : List Int) (hl : types.length ≤ 1048576) (hs : ∀ x ∈ types, x.size ≤ 1048576) (hw : ∀ x ∈ words, -9223372036854775808 ≤ x ∧ x ≤ 9223372036854775807) :
    Ev (fun k => spec_l8Roots.f k types sz words roots) (match headsR types sz words with | some st => decide (roots.length ≤ 400) && roots.all (refOk st) | none => false) := by
  unfold spec_l8Roots.f
  refine Ev.bind (spec_NurseryOk_ev types sz words hl hs hw) ?_
  cases h : headsR types sz words with
  | none => exact Ev.neg (by simp) (Ev.step (fun k => by rw [spec_l8Roots.j0]) (Ev.pos rfl (Ev.eq rfl)))
  | some st =>
    have hp := spec_l8Parse_ev types sz words hl hs hw
    rw [(headsR_some h).1] at hp
    obtain ⟨ht, hwl, hfit, hsrt, hlen⟩ := parsed_facts (headsR_some h).1
    simp only []
    refine Ev.pos rfl (Ev.step (fun k => by rw [spec_l8Roots.j0]) ?_)
    by_cases c : roots.length ≤ 400
    · rw [decide_eq_true c, Bool.true_and]
      exact Ev.neg (by simp; omega) (Ev.bind hp (spec_roots_ev hlen roots (by omega)))
    · rw [decide_eq_false c, Bool.false_and]
      exact Ev.pos (by simp; omega) (Ev.eq rfl)
theorem seeP_of {out : List Int} {x r : Int} (h2 : refk x = 2) (hm : (0 ≤ r ∧ x ∈ out) ∨ (r = -1 ∧ x ∉ out)) : (r < 0 → seeP out x = out ++ [x]) ∧ (¬ r < 0 → seeP out x = out) := by
  unfold seeP
  rcases hm with ⟨h0, hm⟩ | ⟨h0, hm⟩
  · exact ⟨fun h => by omega, fun _ => if_neg (fun h => h.2 hm)⟩
  · exact ⟨fun _ => if_pos ⟨h2, hm⟩, fun h => by omega⟩
theorem spec_l8Closure_ev {types : List ByteArray} {sz : Int} {words st roots : List Int} (hst : headsR types sz words = some st) (hw : ∀ x ∈ words, -9223372036854775808 ≤ x ∧ x ≤ 9223372036854775807) (hr : ∀ x ∈ roots, refOk st x = true) (hrl : roots.length ≤ 1099511627776) :
    Ev (fun k => spec_l8Closure.f k types sz words roots) (closureP types words roots) := by
  obtain ⟨hp, hn⟩ := headsR_some hst
  obtain ⟨ht, hwl, hfit, hsrt, hsl⟩ := parsed_facts hp
  have l1 : ∀ (n i : Nat) (out : List Int), Inv st out → 401 ≤ i + n → i ≤ 401 → Ev (fun k => spec_l8Closure.l1 k types out (i : Int) sz words) (closeP types words n i out) := by
    intro n
    induction n with
    | zero =>
      intro i out h hi hi2
      have hlen := h.len
      refine Ev.step (fun k => by rw [spec_l8Closure.l1]) ?_
      exact Ev.neg (by omega) (Ev.eq rfl)
    | succ n ih =>
      intro i out h hi hi2
      have hlen := h.len
      refine Ev.step (fun k => by rw [spec_l8Closure.l1]) ?_
      rw [closeP]
      by_cases c : i < out.length
      · obtain ⟨m, e, hm, hf, hw2, _⟩ := out_at h hfit c
        have hob := nurB_mem hn _ hm
        rw [Int.toNat_natCast] at hob
        have hvl := vals_length hf
        obtain ⟨m', e', h1, h2, h3, h4⟩ := id hf
        obtain rfl : m' = m := by omega
        rw [if_pos c, hw2, e, Int.toNat_natCast]
        refine Ev.pos (by omega) (Ev.pos (by omega) (Ev.bindo (l8Obj_f types words sz m' ht hwl hw hf) ?_))
        have hkk : rdOf ByteArray.empty types (rd words (m' : Int) / 4) = kindsAt types (rd words m') := rfl
        have hks := parse_size ht (rd words (m' : Int))
        simp only []
        clear hw2 e e'
        generalize hK : kindsAt types (rd words (m' : Int)) = kk at *
        generalize valsAt types words m' = vals at *
        have l2 : ∀ (q j : Nat) (out : List Int), vals.length - j = q → j ≤ vals.length → Inv st out → objB st kk j (vals.drop j) = true → Ev (fun k => spec_l8Closure.l2 k types out (i : Int) (j : Int) sz words (rd words (m' : Int) / 4) vals) (closeP types words n (i + 1) (valsP kk j (vals.drop j) out)) := by
          intro q
          induction q with
          | zero =>
            intro j out hq hj h hb
            rw [List.drop_eq_nil_of_le (by omega), valsP]
            refine Ev.step (fun k => by rw [spec_l8Closure.l2]) ?_
            refine Ev.neg (by omega) ?_
            rw [show wrap64 ((i : Int) + 1) = ((i + 1 : Nat) : Int) from by rw [w64 (by omega) (by omega)]; omega]
            exact ih (i + 1) out h (by omega) (by omega)
          | succ q ihq =>
            intro j out hq hj h hb
            have hlt : j < vals.length := by omega
            have hlen := h.len
            rw [List.drop_eq_getElem_cons hlt] at hb ⊢
            rw [objB] at hb
            rw [valsP]
            refine Ev.step (fun k => by rw [spec_l8Closure.l2]) ?_
            rw [hkk, rd_get hlt, show wrap64 ((j : Int) + 1) = ((j + 1 : Nat) : Int) from by rw [w64 (by omega) (by omega)]; omega]
            generalize vals[j] = x at *
            refine Ev.pos (by omega) (Ev.pos (by omega) (Ev.pos h3 (Ev.pos (by omega) (Ev.pos (by omega) ?_))))
            by_cases c1 : bt kk (j : Int) = 114
            · rw [if_pos c1, Bool.and_eq_true] at hb
              rw [if_pos c1]
              have hs := h.see hb.1
              refine Ev.pos c1 (Ev.bind (spec_RefKind_ev x) (Ev.cases (fun c2 => ?_) (fun c2 => ?_)))
              · obtain ⟨r, hr, hm⟩ := placeIn_ev out x (by omega)
                have hse := seeP_of c2 hm
                refine Ev.bind hr (Ev.cases (fun c3 => ?_) (fun c3 => ?_))
                · rw [hse.1 c3] at hs ⊢
                  exact Ev.pos (by omega) (ihq (j + 1) _ (by omega) (by omega) hs hb.2)
                · rw [hse.2 c3] at hs ⊢
                  exact ihq (j + 1) _ (by omega) (by omega) hs hb.2
              · have hse : seeP out x = out := by unfold seeP; rw [if_neg (fun h => c2 h.1)]
                rw [hse]
                exact ihq (j + 1) _ (by omega) (by omega) h hb.2
            · rw [if_neg c1] at hb
              rw [if_neg c1]
              exact Ev.neg c1 (ihq (j + 1) out (by omega) (by omega) h hb)
        have hz := l2 _ 0 out rfl (by omega) h (by rw [List.drop_zero]; exact hob)
        rw [List.drop_zero] at hz
        exact hz
      · rw [if_neg c]
        exact Ev.neg (by omega) (Ev.eq rfl)
  have l0 : ∀ (q j : Nat) (out : List Int), roots.length - j = q → j ≤ roots.length → Inv st out → Ev (fun k => spec_l8Closure.l0 k types roots out (j : Int) sz words) (closeP types words 401 0 ((roots.drop j).foldl seeP out)) := by
    intro q
    induction q with
    | zero =>
      intro j out hq hj h
      rw [List.drop_eq_nil_of_le (by omega), List.foldl_nil]
      refine Ev.step (fun k => by rw [spec_l8Closure.l0]) ?_
      exact Ev.neg (by omega) (l1 401 0 out h (by omega) (by omega))
    | succ q ihq =>
      intro j out hq hj h
      have hlt : j < roots.length := by omega
      have hlen := h.len
      have hx := hr roots[j] (List.getElem_mem hlt)
      rw [List.drop_eq_getElem_cons hlt, List.foldl_cons]
      refine Ev.step (fun k => by rw [spec_l8Closure.l0]) ?_
      rw [rd_get hlt, show wrap64 ((j : Int) + 1) = ((j + 1 : Nat) : Int) from by rw [w64 (by omega) (by omega)]; omega]
      generalize roots[j] = x at *
      have hs := h.see hx
      refine Ev.pos (by omega) (Ev.pos (by omega) (Ev.bind (spec_RefKind_ev x) (Ev.cases (fun c2 => ?_) (fun c2 => ?_))))
      · obtain ⟨r, hr, hm⟩ := placeIn_ev out x (by omega)
        have hse := seeP_of c2 hm
        refine Ev.bind hr (Ev.cases (fun c3 => ?_) (fun c3 => ?_))
        · rw [hse.1 c3] at hs ⊢
          exact Ev.pos (by omega) (ihq (j + 1) _ (by omega) (by omega) hs)
        · rw [hse.2 c3] at hs ⊢
          exact ihq (j + 1) _ (by omega) (by omega) hs
      · have hse : seeP out x = out := by unfold seeP; rw [if_neg (fun h => c2 h.1)]
        rw [hse]
        exact ihq (j + 1) _ (by omega) (by omega) h
  unfold spec_l8Closure.f
  have h := l0 _ 0 [] rfl (by omega) (Inv.nil st)
  rw [List.drop_zero] at h
  exact h
theorem spec_YoungClosure_ev (types : List ByteArray) (sz : Int) (words roots : List Int) (hl : types.length ≤ 1048576) (hs : ∀ x ∈ types, x.size ≤ 1048576) (hw : ∀ x ∈ words, -9223372036854775808 ≤ x ∧ x ≤ 9223372036854775807) : Ev (fun k => spec_YoungClosure.f k types sz words roots) (closR types sz words roots) := by
  unfold spec_YoungClosure.f
  refine Ev.bind (spec_l8Roots_ev types sz words roots hl hs hw) ?_
  unfold closR
  cases h : headsR types sz words with
  | none => exact Ev.neg (by simp) (Ev.eq rfl)
  | some st =>
    simp only []
    by_cases c : roots.length ≤ 400
    · by_cases c2 : roots.all (refOk st) = true
      · rw [if_pos c, if_pos c2]
        exact Ev.pos (by simp only [c, decide_true, Bool.true_and]; exact c2) (Ev.bind (spec_l8Closure_ev h hw (List.all_eq_true.1 c2) (by omega)) (Ev.eq rfl))
      · rw [if_pos c, if_neg c2]
        exact Ev.neg (by simp only [c, decide_true, Bool.true_and]; exact c2) (Ev.eq rfl)
    · rw [if_neg c]
      exact Ev.neg (by simp [c]) (Ev.eq rfl)
theorem closR_length (types : List ByteArray) (sz : Int) (words roots : List Int) : (closR types sz words roots).1.length ≤ 400 := by
  unfold closR
  split
  · rename_i st h
    obtain ⟨hp, hn⟩ := headsR_some h
    obtain ⟨ht, hwl, hfit, hsrt, hsl⟩ := parsed_facts hp
    split
    · split
      · rename_i c2
        have hi := closeP_inv hfit hn 401 0 _ (seeAll_inv roots [] (Inv.nil st) (List.all_eq_true.1 c2))
        have := hi.len
        show (closeP types words 401 0 _).length ≤ 400
        omega
      · simp
    · simp
  · simp
end Go.Proofs.YtgfeafcgpeclcaaDoor.Pure
namespace Go.Proofs.YtgfeafcgpeclcaaDoor.Pure
open Go.RowKit Go.Proofs.YtgfeafcgpeclcaaDoorW.PrintWords Go.Proofs.YtgfeafcgpeclcaaDoorW.PrintLast Go.Proofs.YtgfeafcgpeclcaaDoorW.PrintMore
set_option linter.unusedVariables false
set_option linter.unusedSimpArgs false

/-! ### texts and lists of bytes -/
def isBytes (xs : List Int) : Prop := ∀ x ∈ xs, 0 ≤ x ∧ x ≤ 255
theorem bytesOf_isBytes (s : ByteArray) : isBytes (bytesOf s) := by
  intro x hx
  obtain ⟨b, _, rfl⟩ := List.mem_map.1 hx
  have := b.toNat_lt
  omega
theorem isBytes_of {xs : List Int} (h : ∀ x ∈ xs, (Go.Lit.int .u8 x).wf = true) : isBytes xs := by
  intro x hx
  have := h x hx
  simp [Go.Lit.wf, Go.IntKind.min, Go.IntKind.max, Go.IntKind.signed, Go.IntKind.bits] at this
  omega
theorem isBytes_set {xs : List Int} (h : isBytes xs) (i : Nat) {v : Int} (h0 : 0 ≤ v) (h1 : v ≤ 255) : isBytes (xs.set i v) := by
  intro x hx
  rcases List.mem_or_eq_of_mem_set hx with h2 | rfl
  · exact h x h2
  · exact ⟨h0, h1⟩
theorem isBytes_getD {xs : List Int} (h : isBytes xs) (i : Nat) : 0 ≤ xs.getD i 0 ∧ xs.getD i 0 ≤ 255 := by
  rcases Nat.lt_or_ge i xs.length with hi | hi
  · rw [List.getD_eq_getElem?_getD, List.getElem?_eq_getElem hi]
    exact h _ (List.getElem_mem hi)
  · rw [List.getD_eq_getElem?_getD, List.getElem?_eq_none hi]
    simp
theorem isBytes_replicate (n : Nat) : isBytes (List.replicate n 0) := by
  intro x hx
  rw [List.eq_of_mem_replicate hx]
  omega
theorem strOfNums_size (xs : List Int) : (strOfNums xs).size = xs.length := by
  show (List.toArray _).size = _
  simp
theorem bytesOf_strOfNums {xs : List Int} (h : isBytes xs) : bytesOf (strOfNums xs) = xs := by
  unfold bytesOf strOfNums
  simp only [List.map_map]
  conv => rhs; rw [← List.map_id xs]
  refine List.map_congr_left (fun x hx => ?_)
  have := h x hx
  simp
  omega
theorem strOfNums_bytesOf (s : ByteArray) : strOfNums (bytesOf s) = s := by
  unfold bytesOf strOfNums
  simp [Function.comp_def]
theorem bytesOf_inj {s t : ByteArray} (h : bytesOf s = bytesOf t) : s = t := by rw [← strOfNums_bytesOf s, h, strOfNums_bytesOf]
theorem toList_bytesOf (s : ByteArray) : s.toList.map (fun b => (b.toNat : Int)) = bytesOf s := by
  unfold bytesOf
  rw [ByteArray.toList_eq]
theorem toList_inj {s t : ByteArray} : s.toList = t.toList ↔ s = t :=
  ⟨fun h => bytesOf_inj (by rw [← toList_bytesOf, ← toList_bytesOf, h]), fun h => by rw [h]⟩
theorem toList_beq (s t : ByteArray) : (s.toList == t.toList) = decide (s = t) := by
  rw [Bool.eq_iff_iff]
  simp [toList_inj]
theorem bt_bytesOf (s : ByteArray) (i : Nat) : bt s (i : Int) = (bytesOf s).getD i 0 := by
  rw [← rd_bytesOf, rd_eq]

/-! ### a byte's bits -/
def bitv (x : Int) (r : Nat) : Bool := x / 2 ^ r % 2 == 1
theorem bitv_nat (n r : Nat) : bitv (n : Int) r = n.testBit r := by
  unfold bitv
  rw [Nat.testBit_eq_decide_div_mod_eq]
  have e : (n : Int) / 2 ^ r % 2 = ((n / 2 ^ r % 2 : Nat) : Int) := by simp
  rw [e, Bool.eq_iff_iff, beq_iff_eq, decide_eq_true_eq]
  omega
theorem wrap_u8_nat {n : Nat} (h : n < 256) : IntKind.u8.wrap (n : Int) = n := by
  rw [IntKind.wrap_u8]
  omega
theorem cast_mod {m : Nat} (h : m < 256) : (m : Int) % 256 = (m : Int) := by omega
theorem two_pow_lt {r : Nat} (hr : r < 8) : (2 ^ r : Nat) < 256 := by
  have : (2 ^ r : Nat) ≤ 2 ^ 7 := Nat.pow_le_pow_right (by decide) (by omega)
  omega
section
variable {x : Int} (h0 : 0 ≤ x) (h1 : x ≤ 255) {r : Nat} (hr : r < 8)
include h0 h1 hr
theorem byte_xor : (0 ≤ Go.bits .xor .u8 x (2 ^ r % 256) ∧ Go.bits .xor .u8 x (2 ^ r % 256) ≤ 255) ∧ ∀ q, q < 8 → bitv (Go.bits .xor .u8 x (2 ^ r % 256)) q = (bitv x q != decide (q = r)) := by
  obtain ⟨n, rfl⟩ := Int.eq_ofNat_of_zero_le h0
  have hp := two_pow_lt hr
  have e : (2 : Int) ^ r % 256 = ((2 ^ r : Nat) : Int) := by rw [show (2 : Int) ^ r = ((2 ^ r : Nat) : Int) from (Int.natCast_pow 2 r).symm]; exact cast_mod hp
  have hlt := ((BitVec.ofNat 8 n) ^^^ (BitVec.ofNat 8 (2 ^ r))).isLt
  have g : Go.bits .xor .u8 (n : Int) (2 ^ r % 256) = ((((BitVec.ofNat 8 n) ^^^ (BitVec.ofNat 8 (2 ^ r))).toNat : Nat) : Int) := by
    rw [e]
    unfold Go.bits
    simp only [BitVec.ofInt_natCast]
    exact wrap_u8_nat (Nat.lt_of_lt_of_eq hlt (by decide))
  rw [g]
  refine ⟨⟨by omega, by simp only [Nat.reducePow] at hlt; omega⟩, fun q hq => ?_⟩
  rw [bitv_nat, bitv_nat, BitVec.testBit_toNat, BitVec.getLsbD_xor, BitVec.getLsbD_ofNat, BitVec.getLsbD_ofNat, Nat.testBit_two_pow]
  simp [hq, eq_comm]
theorem byte_clear : (0 ≤ Go.bits .andNot .u8 x (2 ^ r % 256) ∧ Go.bits .andNot .u8 x (2 ^ r % 256) ≤ 255) ∧ ∀ q, q < 8 → bitv (Go.bits .andNot .u8 x (2 ^ r % 256)) q = (bitv x q && !decide (q = r)) := by
  obtain ⟨n, rfl⟩ := Int.eq_ofNat_of_zero_le h0
  have hp := two_pow_lt hr
  have e : (2 : Int) ^ r % 256 = ((2 ^ r : Nat) : Int) := by rw [show (2 : Int) ^ r = ((2 ^ r : Nat) : Int) from (Int.natCast_pow 2 r).symm]; exact cast_mod hp
  have hlt := ((BitVec.ofNat 8 n) &&& ~~~(BitVec.ofNat 8 (2 ^ r))).isLt
  have g : Go.bits .andNot .u8 (n : Int) (2 ^ r % 256) = ((((BitVec.ofNat 8 n) &&& ~~~(BitVec.ofNat 8 (2 ^ r))).toNat : Nat) : Int) := by
    rw [e]
    unfold Go.bits
    simp only [BitVec.ofInt_natCast]
    exact wrap_u8_nat (Nat.lt_of_lt_of_eq hlt (by decide))
  rw [g]
  refine ⟨⟨by omega, by simp only [Nat.reducePow] at hlt; omega⟩, fun q hq => ?_⟩
  rw [bitv_nat, bitv_nat, BitVec.testBit_toNat, BitVec.getLsbD_and, BitVec.getLsbD_not, BitVec.getLsbD_ofNat, BitVec.getLsbD_ofNat, Nat.testBit_two_pow]
  simp [hq, eq_comm]
theorem byte_set : (0 ≤ Go.bits .or .u8 x (2 ^ r % 256) ∧ Go.bits .or .u8 x (2 ^ r % 256) ≤ 255) ∧ ∀ q, q < 8 → bitv (Go.bits .or .u8 x (2 ^ r % 256)) q = (bitv x q || decide (q = r)) := by
  obtain ⟨n, rfl⟩ := Int.eq_ofNat_of_zero_le h0
  have hp := two_pow_lt hr
  have e : (2 : Int) ^ r % 256 = ((2 ^ r : Nat) : Int) := by rw [show (2 : Int) ^ r = ((2 ^ r : Nat) : Int) from (Int.natCast_pow 2 r).symm]; exact cast_mod hp
  have hlt := ((BitVec.ofNat 8 n) ||| (BitVec.ofNat 8 (2 ^ r))).isLt
  have g : Go.bits .or .u8 (n : Int) (2 ^ r % 256) = ((((BitVec.ofNat 8 n) ||| (BitVec.ofNat 8 (2 ^ r))).toNat : Nat) : Int) := by
    rw [e]
    unfold Go.bits
    simp only [BitVec.ofInt_natCast]
    exact wrap_u8_nat (Nat.lt_of_lt_of_eq hlt (by decide))
  rw [g]
  refine ⟨⟨by omega, by simp only [Nat.reducePow] at hlt; omega⟩, fun q hq => ?_⟩
  rw [bitv_nat, bitv_nat, BitVec.testBit_toNat, BitVec.getLsbD_or, BitVec.getLsbD_ofNat, BitVec.getLsbD_ofNat, Nat.testBit_two_pow]
  simp [hq, eq_comm]
end
theorem byte_ext {x y : Int} (h0 : 0 ≤ x) (h1 : x ≤ 255) (h2 : 0 ≤ y) (h3 : y ≤ 255) (h : ∀ q, q < 8 → bitv x q = bitv y q) : x = y := by
  obtain ⟨n, rfl⟩ := Int.eq_ofNat_of_zero_le h0
  obtain ⟨m, rfl⟩ := Int.eq_ofNat_of_zero_le h2
  refine congrArg _ (Nat.eq_of_testBit_eq (fun i => ?_))
  rcases Nat.lt_or_ge i 8 with hi | hi
  · simpa [bitv_nat] using h i hi
  · have hp : (2 : Nat) ^ 8 ≤ 2 ^ i := Nat.pow_le_pow_right (by decide) hi
    rw [Nat.testBit_lt_two_pow (by omega), Nat.testBit_lt_two_pow (by omega)]
/-- Bit i of a list of bytes. -/
def bitL (xs : List Int) (i : Nat) : Bool := bitv (xs.getD (i / 8) 0) (i % 8)
theorem bytes_ext {xs ys : List Int} (hx : isBytes xs) (hy : isBytes ys) (hl : xs.length = ys.length) (h : ∀ i, i < 8 * xs.length → bitL xs i = bitL ys i) : xs = ys := by
  refine List.ext_getElem hl (fun m h1 h2 => ?_)
  have gx := hx _ (List.getElem_mem h1)
  have gy := hy _ (List.getElem_mem h2)
  refine byte_ext gx.1 gx.2 gy.1 gy.2 (fun q hq => ?_)
  have e := h (8 * m + q) (by omega)
  unfold bitL at e
  rw [show (8 * m + q) / 8 = m from by omega, show (8 * m + q) % 8 = q from by omega] at e
  simpa [List.getD_eq_getElem?_getD, h1, h2] using e
/-- A byte changed: which bits change. -/
theorem bitL_set {xs : List Int} {i : Nat} (hi : i < xs.length) (v : Int) (j : Nat) : bitL (xs.set i v) j = if j / 8 = i then bitv v (j % 8) else bitL xs j := by
  unfold bitL
  split
  · rename_i h
    rw [h, List.getD_eq_getElem?_getD, List.getElem?_set_self hi]
    rfl
  · rename_i h
    rw [List.getD_eq_getElem?_getD, List.getElem?_set_ne (fun e => h e.symm), ← List.getD_eq_getElem?_getD]
end Go.Proofs.YtgfeafcgpeclcaaDoor.Pure
namespace Go.Proofs.YtgfeafcgpeclcaaDoor.Pure
open Go.RowKit Go.Proofs.YtgfeafcgpeclcaaDoor.X Go.Proofs.YtgfeafcgpeclcaaDoorW.PrintWords Go.Proofs.YtgfeafcgpeclcaaDoorW.PrintLast
set_option linter.unusedVariables false
set_option linter.unusedSimpArgs false
theorem markText_ev (n : Int) (h0 : 1 ≤ n) (h1 : n ≤ 1099511627776) : ∃ s, Ev (fun k => laws_markText.f k n) s := by
  have lp : ∀ (d : Nat) (x : Int) (acc : ByteArray), x.toNat ≤ d → 0 ≤ x → (acc.size : Int) + x ≤ 1099511627776 → ∃ s, Ev (fun k => laws_markText.l0 k x acc) s := by
    intro d
    induction d with
    | zero =>
      intro x acc hd hx ha
      refine ⟨_, Ev.step (fun k => by rw [laws_markText.l0]) (Ev.neg (by omega) (Ev.pos (by omega) (Ev.eq rfl)))⟩
    | succ d ih =>
      intro x acc hd hx ha
      by_cases c : x > 0
      · have hz : (strOfNums [(wrap64 (48 + (Int.tmod x 10))) % 256]).size = 1 := by rw [strOfNums_size]; rfl
        have e : wrap64 (Int.tdiv x 10) = x / 10 := by rw [Int.tdiv_eq_ediv_of_nonneg (by omega), w64 (by omega) (by omega)]
        obtain ⟨s, hs⟩ := ih (x / 10) (strOfNums [(wrap64 (48 + (Int.tmod x 10))) % 256] ++ acc) (by omega) (by omega) (by rw [ByteArray.size_append, hz]; omega)
        refine ⟨s, Ev.step (fun k => by rw [laws_markText.l0]) ?_⟩
        rw [e]
        exact Ev.pos c (Ev.bindo rfl (Ev.pos (by rw [hz]; omega) hs))
      · exact ⟨_, Ev.step (fun k => by rw [laws_markText.l0]) (Ev.neg c (Ev.pos (by omega) (Ev.eq rfl)))⟩
  obtain ⟨s, hs⟩ := lp n.toNat n ⟨#[]⟩ (Nat.le_refl _) (by omega) (by show ((0 : Nat) : Int) + n ≤ _; omega)
  refine ⟨s, ?_⟩
  unfold laws_markText.f
  exact Ev.neg (by omega) hs
theorem markStringS_ev (l : List ByteArray) (hl : l.length ≤ 1048576) : ∃ l', Ev (fun k => laws_markStringS.f k l 1) (1 + (l.length : Int), l') := by
  have lp : ∀ (d i : Nat) (x : List ByteArray), l.length - i = d → i ≤ l.length → x.length = l.length → ∃ l', Ev (fun k => laws_markStringS.l0 k x (1 + (i : Int)) (i : Int)) (1 + (l.length : Int), l') := by
    intro d
    induction d with
    | zero =>
      intro i x hd hi hx
      obtain rfl : i = l.length := by omega
      exact ⟨x, Ev.step (fun k => by rw [laws_markStringS.l0]) (Ev.neg (by omega) (Ev.eq rfl))⟩
    | succ d ih =>
      intro i x hd hi hx
      obtain ⟨s, hs⟩ := markText_ev (1 + (i : Int)) (by omega) (by omega)
      obtain ⟨l', h⟩ := ih (i + 1) (x.set i s) (by omega) (by omega) (by rw [List.length_set]; exact hx)
      refine ⟨l', Ev.step (fun k => by rw [laws_markStringS.l0]) ?_⟩
      rw [show wrap64 ((i : Int) + 1) = ((i + 1 : Nat) : Int) from by rw [w64 (by omega) (by omega)]; omega, show wrap64 (1 + (i : Int) + 1) = 1 + ((i + 1 : Nat) : Int) from by rw [w64 (by omega) (by omega)]; omega, Int.toNat_natCast]
      exact Ev.pos (by omega) (Ev.bind hs (Ev.pos (by omega) h))
  unfold laws_markStringS.f
  exact lp _ 0 l rfl (by omega) rfl
end Go.Proofs.YtgfeafcgpeclcaaDoor.Pure
namespace Go.Proofs.YtgfeafcgpeclcaaDoor.Pure
open Go.RowKit Go.Proofs.YtgfeafcgpeclcaaDoor.X Go.Proofs.YtgfeafcgpeclcaaDoorW.PrintWords Go.Proofs.YtgfeafcgpeclcaaDoorW.PrintLast
theorem FnExactYoungClosure : laws_FnExactYoungClosure.Pure := by
  intro types sz words roots ⟨htl, hts⟩ _ ⟨hwl, hww⟩ ⟨hrl, hrw⟩
  have hw := ints_range hww
  refine Ev.rounds ?_
  unfold laws_FnExactYoungClosure.f
  refine Ev.cases (fun _ => Ev.eq rfl) (fun c0 => ?_)
  obtain ⟨r, hr, hr1, hr2⟩ := szStringS_ev types htl hts 1048576 (by omega) (by omega)
  refine Ev.bind hr (Ev.cases (fun _ => Ev.eq rfl) (fun c => ?_))
  obtain ⟨hl, hs⟩ := hr2 c
  obtain ⟨q, hq, hq1⟩ := szNursery_f sz words hwl r (by omega) hr1
  refine Ev.bindo hq (Ev.cases (fun _ => Ev.eq rfl) (fun c2 => ?_))
  have hn := hq1 c2
  have e1 := spec_YoungClosure_ev types sz words roots hl hs hw
  have e2 := impl_YoungClosure_ev types sz words roots hs hw
  have hg := closR_length types sz words roots
  generalize closR types sz words roots = g at *
  obtain ⟨g1, g2⟩ := g
  have hg2 : g1.length ≤ 400 := hg
  have t1 := toStringS_ev types hl
  have t2 := toNursery_ev sz words hn
  have t3 := toInt64S_ev roots (by omega)
  obtain ⟨l', hm⟩ := markStringS_ev types hl
  have eo := eqInt64S_same g1 (by omega)
  have mk : ∀ (z : Int) (l : List Int) (n : Int), 0 ≤ n → n ≤ 1099511627776 → l.length ≤ 1048576 → Ev (fun k => laws_markNursery.f k z l n) (n + (l.length : Int), marks n l.length) := by
    intro z l n h0 h1 h2
    unfold laws_markNursery.f
    exact Ev.bind (markInt64S_ev l n (by omega) (by omega) (by omega)) (Ev.eq rfl)
  refine Ev.bind t1 (Ev.bind t2 (Ev.bind t3 (Ev.bind e1 (Ev.bind t1 (Ev.bind t2 (Ev.bind t3 (Ev.bind e2 (Ev.bind eo (Ev.pos rfl ?_)))))))))
  refine Ev.step (fun k => by rw [laws_FnExactYoungClosure.j0]) (Ev.neg (by simp) ?_)
  refine Ev.bind t1 (Ev.bind (eqStringS_same types hl) (Ev.pos rfl (Ev.bind t2 (Ev.bind (eqNursery_same sz words hn) (Ev.pos rfl (Ev.bind t3 (Ev.bind (eqInt64S_same roots (by omega)) (Ev.pos rfl (Ev.bind hm ?_)))))))))
  refine Ev.bind (mk sz words (1 + (types.length : Int)) (by omega) (by omega) (by omega)) ?_
  refine Ev.bind (markInt64S_ev roots (1 + (types.length : Int) + (words.length : Int)) (by omega) (by omega) (by omega)) ?_
  refine Ev.neg (by simp only []; omega) (Ev.bind eo (Ev.pos rfl ?_))
  refine Ev.step (fun k => by rw [laws_FnExactYoungClosure.j1]) (Ev.neg (by simp) ?_)
  have hho := heldInt64S_ev 1 g1.length (by omega) (by omega) (by omega)
  refine Ev.bind (markInt64S_ev g1 1 (by omega) (by omega) (by omega)) (Ev.bind hho (Ev.neg (by omega) (Ev.pos rfl ?_)))
  refine Ev.bind t1 (Ev.bind t2 (Ev.bind t3 (Ev.bind e2 (Ev.bind eo (Ev.pos rfl ?_)))))
  refine Ev.step (fun k => by rw [laws_FnExactYoungClosure.j2]) (Ev.neg (by simp) ?_)
  exact Ev.bind hho (Ev.neg (by omega) (Ev.pos rfl (Ev.eq rfl)))
end Go.Proofs.YtgfeafcgpeclcaaDoor.Pure
namespace Go.Proofs.YtgfeafcgpeclcaaDoor.Open
open Go Go.RowKit Go.ChangeShapes Go.WideShapes Go.Proofs.YtgfeafcgpeclcaaDoorW.PrintWords Go.Proofs.YtgfeafcgpeclcaaDoorW.PrintLast Go.Proofs.YtgfeafcgpeclcaaDoorW.PrintMore
set_option linter.unusedVariables false
set_option linter.unusedSimpArgs false
section
variable {H : Type} {α β : Type}
theorem addr_add_add (a : Addr) (i j : Nat) : (a.add i).add j = a.add (i + j) := by
  unfold Addr.add
  by_cases hi : i = 0
  · subst hi; simp
  · by_cases hj : j = 0
    · subst hj; simp [hi]
    · simp [hi, hj, Nat.add_assoc]
/-- Every reading of a value of type t gives a value of the kind d, with Ok. -/
def Opens (enc : TypeId × Value → H) (P : Program) (w : World) (base : Nat) (spare : Nat → Bool) (held : Bool) (d : Kd α) (t : TypeId) (Ok : α → Prop) : Prop :=
  ∀ (fuel : Nat) (cs : List Value) (x : DataW H × List MemPlace), DataW.trod enc P w base spare held fuel t cs = some x → ∃ a, d.K w a cs ∧ Ok a
variable {enc : TypeId × Value → H} {P : Program} {w : World} {base : Nat} {spare : Nat → Bool} {held : Bool}
theorem opens_int {t : TypeId} {k : IntKind} (ht : P.underlying t = some (.int k)) : Opens enc P w base spare held (Kd.int k) t (fun n => (Lit.int k n).wf = true) := by
  intro fuel cs x h
  obtain ⟨n, rfl, _, hw⟩ := DataW.trod_int ht h
  exact ⟨n, rfl, hw⟩
theorem opens_bool {t : TypeId} (ht : P.underlying t = some .bool) : Opens enc P w base spare held Kd.bool t (fun _ => True) := by
  intro fuel cs x h
  obtain ⟨b, rfl, _⟩ := DataW.trod_bool ht h
  exact ⟨b, rfl, trivial⟩
theorem opens_string {t : TypeId} (ht : P.underlying t = some .string) : Opens enc P w base spare held Kd.string t (fun s => s.size ≤ maxLen) := by
  intro fuel cs x h
  obtain ⟨s, rfl, _, hs⟩ := DataW.trod_string ht h
  exact ⟨s, rfl, hs⟩
theorem opens_slice {t e : TypeId} {d : Kd α} {Ok : α → Prop} (e' : Nat) (ht : P.underlying t = some (.slice e)) (hc : P.cellsOf e = d.sz) (hd : Opens enc P w base spare held d e Ok) :
    Opens enc P w base spare held (Kd.slice e' d) t (fun l => l.length ≤ maxLen ∧ ∀ a ∈ l, Ok a) := by
  intro fuel cs x h
  rcases DataW.trod_slice ht h with ⟨rfl, _⟩ | ⟨a, len, cap, elems, rest, n, _, rfl, _, hb, hl, hm, hlen, hel, _⟩
  · exact ⟨[], ⟨none, 0, rfl, Nat.le_refl _, rfl, by simp, fun h => absurd h (by simp)⟩, by simp, by simp⟩
  · have each : ∀ i, i < len → ∃ y : α, ∃ c : List Value, w.cells? base (a.add (i * P.cellsOf e)) (P.cellsOf e) = some c ∧ d.K w y c ∧ Ok y := by
      intro i hi
      have h1 := hel i hi
      rw [List.getElem?_eq_getElem (by omega)] at h1
      obtain ⟨c, hc1, hc2⟩ := Option.bind_eq_some_iff.1 h1
      obtain ⟨y, hy, ho⟩ := hd n c _ hc2
      exact ⟨y, c, hc1, hy, ho⟩
    obtain ⟨ys, hyl, hys⟩ : ∃ ys : List α, ys.length = len ∧ ∀ i (h : i < ys.length), ∃ c : List Value, w.cells? base (a.add (i * P.cellsOf e)) (P.cellsOf e) = some c ∧ d.K w ys[i] c ∧ Ok ys[i] := by
      refine ⟨List.ofFn fun i : Fin len => Classical.choose (each i i.2), by simp, fun i h => ?_⟩
      have hi : i < len := by simpa using h
      rw [List.getElem_ofFn]
      exact Classical.choose_spec (each i hi)
    have hmax : len ≤ 9223372036854775807 := Nat.le_trans hl (Nat.le_trans hm (by decide))
    refine ⟨ys, ⟨some a, cap, by rw [hyl], by omega, rfl, by omega, fun _ => ⟨a, rfl, fun j p hp => ?_⟩⟩, by omega, fun y hy => ?_⟩
    · obtain ⟨hj, rfl⟩ := List.getElem?_eq_some_iff.1 hp
      obtain ⟨c, hc1, hk, _⟩ := hys j hj
      have hcl := d.K_len hk
      refine ⟨c, hcl, hk, fun i u hu => ?_⟩
      obtain ⟨hi, rfl⟩ := List.getElem?_eq_some_iff.1 hu
      rw [hc] at hc1
      have hcell := (World.cells?_some hc1).2.2 i (by omega)
      rw [List.getElem?_eq_getElem hi] at hcell
      rw [show a.add (j * d.sz + i) = (a.add (j * d.sz)).add i from (addr_add_add a (j * d.sz) i).symm]
      exact hcell
    · obtain ⟨i, hi, rfl⟩ := List.getElem_of_mem hy
      obtain ⟨_, _, _, ho⟩ := hys i hi
      exact ho
/-- A struct's field. -/
theorem at_field {d : Kd α} {t : TypeId} {Ok : α → Prop} (hd : Opens enc P w base spare held d t Ok) {n o i : Nat} {cs : List Value} {xs : List (DataW H × List MemPlace)} (hc : P.cellsOf t = d.sz)
    (h : DataW.trod enc P w base spare held n t ((cs.drop o).take (P.cellsOf t)) = xs[i]?) (hi : i < xs.length) : ∃ a, d.K w a ((cs.drop o).take d.sz) ∧ Ok a := by
  rw [hc, List.getElem?_eq_getElem hi] at h
  exact hd n _ _ h
theorem pairK {a : Kd α} {b : Kd β} {x : α} {y : β} {cs : List Value} {o : Nat} (h : a.K w x ((cs.drop o).take a.sz)) (k : b.K w y ((cs.drop (o + a.sz)).take b.sz)) : (Kd.pair a b).K w (x, y) ((cs.drop o).take (a.sz + b.sz)) := by
  refine ⟨_, _, ?_, h, k⟩
  rw [← List.drop_drop, ← List.take_add]
theorem take_all {cs : List Value} {n : Nat} (h : cs.length = n) : (cs.drop 0).take n = cs := by
  rw [List.drop_zero, List.take_of_length_le (by omega)]
theorem whole {d : Kd α} {w : World} {x : α} {cs : List Value} {n : Nat} (hz : cs.length = n) (hs : d.sz = n) (h : d.K w x ((cs.drop 0).take d.sz)) : d.K w x cs := by
  rw [hs, take_all hz] at h
  exact h
end
end Go.Proofs.YtgfeafcgpeclcaaDoor.Open
namespace Go.Proofs.YtgfeafcgpeclcaaDoor.fnExactYoungClosure
open Go.ChangeShapes Go.WideShapes Go.ChangeAt Go.RowKit
open Go.ChangeMaps (open_string shut_string)
set_option linter.unusedVariables false
theorem own : ownKnob Tryd.prog.godebug = none := by kernel_rfl
theorem laidOut : laidOutB Tryd.prog = true := by kernel_rfl
theorem opens25 {H : Type} {enc : TypeId × Value → H} {w : World} {base : Nat} {spare : Nat → Bool} {held : Bool} : Open.Opens enc Tryd.prog w base spare held X.k25 25 (fun x => ((Lit.int .i64 x.f0).wf = true ∧ (x.f1.length ≤ maxLen ∧ ∀ y0 ∈ x.f1, (Lit.int .i64 y0).wf = true))) := by
  intro fuel cs x h
  obtain ⟨xs, n, _, rfl, hl, hlen, hf⟩ := DataW.trod_struct Tryd.underlying25 h
  obtain ⟨a0, k0, o0⟩ := Open.at_field (Open.opens_int Tryd.underlying2) (by kernel_rfl) (hf 0 _ rfl) (by rw [hlen]; decide)
  obtain ⟨a1, k1, o1⟩ := Open.at_field (Open.opens_slice 2 Tryd.underlying23 (by kernel_rfl) (Open.opens_int Tryd.underlying2)) (by kernel_rfl) (hf 1 _ rfl) (by rw [hlen]; decide)
  have hz : cs.length = 2 := by rw [hl]; kernel_rfl
  exact ⟨⟨a0, a1⟩, Open.whole (d := X.k25) hz rfl (Open.pairK k0 k1), o0, o1⟩
set_option maxRecDepth 100000 in
theorem lifted (os : Os) (started : os.Started) (H : Type) (enc : TypeId × Value → H) :
    ReturnsInHanded {} Tryd.checked os 9 .any (fun w args => (Rows.fnExactYoungClosureSpec.pre enc Tryd.prog Tryd.f9 Rows.fnExactYoungClosureRow.domain false w args ∧ laidMetH Tryd.prog Rows.fnExactYoungClosureRow.laid w) ∧ sizedMet enc Tryd.prog Tryd.f9 (OpenSpec.ofChange Rows.fnExactYoungClosureSpec) false w args) (Rows.fnExactYoungClosureSpec.post enc Tryd.prog Tryd.f9 false true false false) := by
  refine returnsInHanded_of_change_and (C := Tryd.checked) (X := fun w _ => laidMetH Tryd.prog Rows.fnExactYoungClosureRow.laid w) (fun _ _ _ hh h => h.of_heap hh) own started (by kernel_rfl) Tryd.func9
    (ChangeSpec.witness_shaped (enc := enc) (C := Tryd.checked) (os := os) (X := fun w _ => laidMetH Tryd.prog Rows.fnExactYoungClosureRow.laid w) false (World.laidAll Tryd.prog os Rows.fnExactYoungClosureRow.laid) #[.slice none 0 0, .agg #[.int .i64 0, .slice none 0 0], .slice none 0 0] 8 (World.laidAll_os _ _ _)
      (World.shaped_of_ZipB (by kernel_rfl) (by kernel_rfl)) (by kernel_rfl) (by kernel_rfl) (by kernel_rfl)
      (by rw [MakeChecks.laidMetH_plain _ _ _ (by kernel_rfl)]; exact laidMet_laidAll _ (by kernel_rfl) (by kernel_rfl))) ?_
  intro W base args ds gs before hval0 hW hcnd hsz0 _ _
  have hval : ∀ (j : Nat) t v, Tryd.f9.params[j]? = some t → args[j]? = some v → Value.okWide Tryd.prog W .any base t v := hval0
  have hW' := hW
  obtain ⟨p, q, hA0, hV, rfl, hfz, hnd⟩ := hW
  have hA : DataW.TrodAll enc Tryd.prog W 0 (fun _ => true) true Tryd.f9.params.toList args.toList ds p := hA0
  rw [Tryd.params9] at hA hval
  obtain ⟨v0, vs0, d0, ds0, p0, q0, hargs, rfl, rfl, h0, r0⟩ := trodAll_cons hA
  obtain ⟨v1, vs1, d1, ds1, p1, q1, rfl, rfl, rfl, h1, r1⟩ := trodAll_cons r0
  obtain ⟨v2, vs2, d2, ds2, p2, q2, rfl, rfl, rfl, h2, r2⟩ := trodAll_cons r1
  obtain ⟨rfl, rfl, rfl⟩ := trodAll_nil r2
  obtain rfl : args = #[v0, v1, v2] := by cases args; simp_all
  obtain ⟨rfl, rfl⟩ := trodVars_none hV
  obtain ⟨a0, len0, cap0, rfl⟩ := okWide_slice Tryd.underlying22 (hval 0 22 v0 rfl rfl)
  have k0 := h0
  have lt0 : ∀ x ∈ p0, x.block < W.heap.size := by obtain ⟨m, hm⟩ := k0; exact DataW.trod_lt m _ _ _ hm
  obtain ⟨fuel0, hf0⟩ := h0
  obtain ⟨l0, ⟨A0, c0, hcs0, hc0, hr0⟩, ok0⟩ := (Open.opens_slice 9 Tryd.underlying22 (by kernel_rfl) (Open.opens_string Tryd.underlying9)) fuel0 _ _ hf0
  simp [Value.cells] at hcs0
  obtain ⟨rfl, rfl, rfl⟩ := hcs0
  obtain ⟨cs1, rfl, _⟩ := okWide_struct Tryd.underlying25 (hval 1 25 v1 rfl rfl)
  have k1 := h1
  have lt1 : ∀ x ∈ p1, x.block < W.heap.size := by obtain ⟨m, hm⟩ := k1; exact DataW.trod_lt m _ _ _ hm
  obtain ⟨fuel1, hf1⟩ := h1
  obtain ⟨x1, hk1, ok1⟩ := opens25 fuel1 _ _ hf1
  obtain ⟨A1_1, c1_1, hcs1, hc1_1, hr1_1⟩ := X.k25_open hk1
  obtain rfl : cs1 = #[.int .i64 x1.f0, .slice A1_1 x1.f1.length c1_1] := by cases cs1; simpa [Value.cells] using hcs1
  obtain ⟨a2, len2, cap2, rfl⟩ := okWide_slice Tryd.underlying23 (hval 2 23 v2 rfl rfl)
  have k2 := h2
  have lt2 : ∀ x ∈ p2, x.block < W.heap.size := by obtain ⟨m, hm⟩ := k2; exact DataW.trod_lt m _ _ _ hm
  obtain ⟨fuel2, hf2⟩ := h2
  obtain ⟨l2, ⟨A2, c2, hcs2, hc2, hr2⟩, ok2⟩ := (Open.opens_slice 2 Tryd.underlying23 (by kernel_rfl) (Open.opens_int Tryd.underlying2)) fuel2 _ _ hf2
  simp [Value.cells] at hcs2
  obtain ⟨rfl, rfl, rfl⟩ := hcs2
  clear hA0 hval0 hsz0
  obtain ⟨k, hP⟩ := Pure.FnExactYoungClosure l0 (x1.f0) (x1.f1) l2 ok0 (ok1.1) (ok1.2) ok2
  refine (X.laws_FnExactYoungClosure.calls k _ _ l0 (x1.f0) _ _ (x1.f1) _ _ l2 true W hr0 hc0 hr1_1 hc1_1 hr2 hc2 hP).mono fun e W' ⟨he, bel0⟩ => ?_
  have bel : Below W.heap.size W W' := bel0
  subst he
  exact ⟨_, rfl, _, _, _, [], _, [], hW', trodAll_mk1 (shut_bool Tryd.underlying4 _), (trodAll_cons_mk (Below.trod laidOut (by kernel_rfl) (of_decide_eq_true (by kernel_rfl)) k0 bel lt0) (trodAll_cons_mk (Below.trod laidOut (by kernel_rfl) (of_decide_eq_true (by kernel_rfl)) k1 bel lt1) (trodAll_cons_mk (Below.trod laidOut (by kernel_rfl) (of_decide_eq_true (by kernel_rfl)) k2 bel lt2) trodAll_mk0))), rfl, bel.frame _, fun h => by cases h⟩
theorem over : Rows.fnExactYoungClosureRow.holds Tryd.pinned (OpenSpec.ofChange Rows.fnExactYoungClosureSpec) :=
  OpenClaim.holds_of_wide 9 Tryd.f9 rfl rfl rfl rfl rfl rfl rfl ⟨rfl, rfl, rfl, rfl, rfl⟩ rfl rfl rfl rfl rfl (by kernel_rfl) Tryd.func9 (by kernel_rfl)
    (of_decide_eq_true (by kernel_rfl)) (by unfold Func.isWrapper; first | (rw [if_pos (by decide +kernel)]; kernel_rfl) | (rw [if_neg (by decide +kernel)]; exact ⟨rfl, rfl⟩))
    (fun os started H enc _ => lifted os started H enc)
theorem card : Rows.FnExactYoungClosureCardSaid :=
  Claim7.holds_tied_plain_at .later [] [.data, .pinned] true (true, "a33c974568409a353ea6fb142232fd8d5f44af3221e840a202000012ed58f488") false over (fun _ h => by cases h) (by kernel_rfl) (fun _ h => by cases h) fnExactYoungClosure_row_tie rfl ⟨rfl, rfl⟩ (by kernel_rfl) rfl
    (fun f fn hf hfn => by
      obtain rfl : f = 9 := Option.some.inj ((show Tryd.prog.funcNamed "loop.example/g00648/laws.FnExactYoungClosure" = some 9 by kernel_rfl).symm.trans hf) |>.symm
      obtain rfl : fn = Tryd.f9 := (Option.some.inj (Tryd.func9.symm.trans hfn)).symm
      exact ⟨by kernel_rfl, fun j t ht => by
        rw [Tryd.params9] at ht
        have hm : t ∈ [22, 25, 23] := by
          have hm_ := Array.mem_of_getElem? ht
          simpa using hm_
        have hall : ([22, 25, 23].all fun u => !Tryd.prog.wantsStandIn u) = true := by kernel_rfl
        exact (show Tryd.prog.wantsStandIn t = false by simpa using List.all_eq_true.1 hall t hm)⟩)
    (by kernel_rfl)
#print axioms card
end Go.Proofs.YtgfeafcgpeclcaaDoor.fnExactYoungClosure
namespace Go.Proofs.YtgfeafcgpeclcaaDoor
/-- The row, under a short name, for the claim. -/
theorem fnExactYoungClosure_holds : Rows.FnExactYoungClosureCardSaid := fnExactYoungClosure.card
end Go.Proofs.YtgfeafcgpeclcaaDoor
