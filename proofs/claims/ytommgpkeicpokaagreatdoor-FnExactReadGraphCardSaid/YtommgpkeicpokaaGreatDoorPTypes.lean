/- TypesOk: the reference and the program ask the same. For lists of at most 2^20 texts of at most 2^20 bytes. -/
import Derived.Test.YtommgpkeicpokaaGreatDoorPIn
import Derived.Test.YtommgpkeicpokaaGreatDoorPBits
import Derived.Test.YtommgpkeicpokaaGreatDoorPAny
namespace Go.Proofs.YtommgpkeicpokaaGreatDoor.Abs
open Go Go.RowKit
set_option linter.unusedVariables false
set_option linter.unusedSectionVars false
set_option linter.unusedSimpArgs false
def kindsOk (l : List UInt8) : Bool := l.all fun b => [105, 114].contains b
def typeOk (s : ByteArray) : Bool := decide (1 ≤ s.size ∧ s.size ≤ 23) && kindsOk s.data.toList
def typesOk (l : List ByteArray) : Bool := decide (1 ≤ l.length ∧ l.length ≤ 12) && l.all typeOk
theorem dropWhile_all {p : UInt8 → Bool} : ∀ l : List UInt8, (∀ x ∈ l.dropWhile p, p x = true) → l.dropWhile p = []
  | [], _ => rfl
  | a :: l, h => by
    by_cases c : p a = true
    · rw [List.dropWhile_cons_of_pos c] at h ⊢
      exact dropWhile_all l h
    · rw [List.dropWhile_cons_of_neg c] at h
      exact absurd (h a (List.mem_cons_self ..)) c
theorem dropWhile_nil_iff {p : UInt8 → Bool} (l : List UInt8) : l.dropWhile p = [] ↔ ∀ x ∈ l, p x = true := by
  constructor
  · intro h
    induction l with
    | nil => simp
    | cons a l ih =>
      by_cases c : p a = true
      · rw [List.dropWhile_cons_of_pos c] at h
        intro x hx
        rcases List.mem_cons.1 hx with rfl | hx
        · exact c
        · exact ih h x hx
      · rw [List.dropWhile_cons_of_neg c] at h
        cases h
  · exact fun h => dropWhile_all l (fun x hx => h x ((List.dropWhile_sublist _).mem hx))
theorem trim_nil (l cs : List UInt8) : Lib.trimS l cs = [] ↔ ∀ x ∈ l, cs.contains x = true := by
  unfold Lib.trimS Lib.trimLeftS Lib.trimRightS
  rw [dropWhile_nil_iff]
  constructor
  · intro h
    have h1 := dropWhile_all (p := fun x => cs.contains x) l.reverse (fun x hx => h x (List.mem_reverse.2 hx))
    rw [dropWhile_nil_iff] at h1
    exact fun x hx => h1 x (List.mem_reverse.2 hx)
  · intro h x hx
    exact h x (List.mem_reverse.1 ((List.dropWhile_sublist _).mem (List.mem_reverse.1 hx)))
theorem isType_f (s : ByteArray) (hs : s.size ≤ 1048576) : impl_isType.f s = some (typeOk s) := by
  unfold impl_isType.f typeOk
  rw [within_f, Option.bind_some]
  by_cases c : 1 ≤ s.size ∧ s.size ≤ 23
  · rw [if_pos (by simp; omega), decide_eq_true c, Bool.true_and]
    have ht : strings_Trim.f s (⟨#[105, 114]⟩ : ByteArray) = some ⟨(Lib.trimS s.data.toList [105, 114]).toArray⟩ := by
      unfold strings_Trim.f
      rw [if_pos (by omega), if_pos (by decide), if_pos (by decide)]
    rw [ht, Option.bind_some]
    congr 1
    rw [Bool.eq_iff_iff, decide_eq_true_iff, ByteArray.toList_eq, ByteArray.toList_eq]
    show (Lib.trimS s.data.toList [105, 114]).toArray.toList = [] ↔ _
    rw [trim_nil, kindsOk, List.all_eq_true]
  · rw [if_neg (by simp; omega), decide_eq_false c, Bool.false_and]
theorem impl_TypesOk_ev (l : List ByteArray) (hs : ∀ x ∈ l, x.size ≤ 1048576) : Ev (fun k => impl_TypesOk.f k l) (typesOk l) := by
  have hany : l.length ≤ 12 → Ev (fun k => slices_ContainsFunc_string_at_impl_TypesOk_1.f k l) (l.any fun x => !typeOk x) := fun hl => by
    unfold slices_ContainsFunc_string_at_impl_TypesOk_1.f slices_IndexFunc_string_at_impl_TypesOk_1.f
    refine contains_ev (d := ByteArray.empty) (l := l) (by omega) (g := fun k i => slices_IndexFunc_string_at_impl_TypesOk_1.p6 k l (l.length : Int) i) (t := fun _ x => impl_TypesOk_1.f x) (f := fun x => !typeOk x) (fun k i => by rw [slices_IndexFunc_string_at_impl_TypesOk_1.p6]) (fun x hx => ?_)
    unfold impl_TypesOk_1.f
    exact Ev.bindo (isType_f x (hs x hx)) (Ev.eq rfl)
  unfold impl_TypesOk.f typesOk
  refine Ev.bindo rfl (Ev.bindo (within_f _ _ _) ?_)
  by_cases c : 1 ≤ l.length ∧ l.length ≤ 12
  · refine Ev.pos (by simp; omega) (Ev.bind (hany c.2) (Ev.eq ?_))
    rw [decide_eq_true c, Bool.true_and, List.any_eq_not_all_not]
    simp
  · refine Ev.neg (by simp; omega) (Ev.eq ?_)
    rw [decide_eq_false c, Bool.false_and]
theorem bt_get {s : ByteArray} {i : Nat} (h : i < s.data.toList.length) : bt s (i : Int) = (s.data.toList[i].toNat : Int) := by
  have h' : i < s.size := h
  rw [← bt_at s (i : Int) (by simpa using h')]
  simp [ByteArray.getElem_eq_getElem_data]
theorem l3Type_ev (s : ByteArray) (hs : s.size ≤ 1048576) : Ev (fun k => spec_l3Type.f k s) (typeOk s) := by
  have hlen : s.data.toList.length = s.size := rfl
  have lp : ∀ (d i : Nat), s.size - i = d → i ≤ s.size → Ev (fun k => spec_l3Type.p6 k s (i : Int)) (decide (1 ≤ s.size ∧ s.size ≤ 23) && kindsOk (s.data.toList.drop i)) := by
    intro d
    induction d with
    | zero =>
      intro i hd hi
      rw [List.drop_eq_nil_of_le (by omega)]
      refine Ev.step (fun k => by rw [spec_l3Type.p6]) (Ev.neg (by omega) (Ev.bindo (l1In_f _ _ _) (Ev.eq ?_)))
      simp only [kindsOk, List.all_nil, Bool.and_true]
      rw [Bool.eq_iff_iff]
      simp
      omega
    | succ d ih =>
      intro i hd hi
      have hlt : i < s.data.toList.length := by omega
      have ih := ih (i + 1) (by omega) (by omega)
      refine Ev.step (fun k => by rw [spec_l3Type.p6]) ?_
      rw [byteAt_eq, bt_get hlt, show wrap64 ((i : Int) + 1) = ((i + 1 : Nat) : Int) from by rw [w64 (by omega) (by omega)]; omega, List.drop_eq_getElem_cons hlt]
      generalize s.data.toList[i] = b at *
      have hb : kindsOk (b :: s.data.toList.drop (i + 1)) = ([105, 114].contains b && kindsOk (s.data.toList.drop (i + 1))) := rfl
      rw [hb]
      refine Ev.pos (by omega) (Ev.pos (by omega) (Ev.pos (by omega) (Ev.cases (fun c => ?_) (fun c => Ev.pos (by omega) (Ev.pos (by omega) (Ev.cases (fun c2 => ?_) (fun c2 => Ev.eq ?_)))))))
      · have e : b = 105 := UInt8.toNat_inj.1 (by show b.toNat = 105; omega)
        subst e
        rw [show [105, 114].contains (105 : UInt8) = true from rfl, Bool.true_and]
        exact ih
      · have e : b = 114 := UInt8.toNat_inj.1 (by show b.toNat = 114; omega)
        subst e
        rw [show [105, 114].contains (114 : UInt8) = true from rfl, Bool.true_and]
        exact ih
      · have e : [105, 114].contains b = false := by
          rw [Bool.eq_false_iff]
          intro h
          simp at h
          rcases h with h | h
          · subst h; exact c rfl
          · subst h; exact c2 rfl
        rw [e, Bool.false_and, Bool.and_false]
  unfold spec_l3Type.f typeOk
  have h := lp _ 0 rfl (by omega)
  rw [List.drop_zero] at h
  exact h
theorem spec_TypesOk_ev (l : List ByteArray) (hl : l.length ≤ 1048576) (hs : ∀ x ∈ l, x.size ≤ 1048576) : Ev (fun k => spec_TypesOk.f k l) (typesOk l) := by
  have lp : ∀ (d i : Nat), l.length - i = d → i ≤ l.length → Ev (fun k => spec_TypesOk.p14 k l (i : Int)) ((l.drop i).all typeOk) := by
    intro d
    induction d with
    | zero =>
      intro i hd hi
      rw [List.drop_eq_nil_of_le (by omega)]
      refine Ev.step (fun k => by rw [spec_TypesOk.p14]) ?_
      exact Ev.neg (by omega) (Ev.eq rfl)
    | succ d ih =>
      intro i hd hi
      have hlt : i < l.length := by omega
      have ih := ih (i + 1) (by omega) (by omega)
      refine Ev.step (fun k => by rw [spec_TypesOk.p14]) ?_
      rw [show rdOf ByteArray.empty l (i : Int) = l[i] from by simp [rdOf, List.getD_eq_getElem?_getD, List.getElem?_eq_getElem hlt], show wrap64 ((i : Int) + 1) = ((i + 1 : Nat) : Int) from by rw [w64 (by omega) (by omega)]; omega, List.drop_eq_getElem_cons hlt, List.all_cons]
      refine Ev.pos (by omega) (Ev.pos (by omega) (Ev.pos (by omega) (Ev.bind (l3Type_ev l[i] (hs _ (List.getElem_mem hlt))) (Ev.cases (fun c => ?_) (fun c => ?_)))))
      · rw [c, Bool.true_and]
        exact ih
      · rw [Bool.eq_false_iff.2 c, Bool.false_and]
        exact Ev.eq rfl
  unfold spec_TypesOk.f typesOk
  refine Ev.bindo (l1In_f _ _ _) ?_
  by_cases c : 1 ≤ l.length ∧ l.length ≤ 12
  · rw [decide_eq_true c, Bool.true_and]
    refine Ev.pos (by simp; omega) ?_
    have h := lp _ 0 rfl (by omega)
    rw [List.drop_zero] at h
    exact h
  · rw [decide_eq_false c, Bool.false_and]
    exact Ev.neg (by simp; omega) (Ev.eq rfl)
end Go.Proofs.YtommgpkeicpokaaGreatDoor.Abs
