/- Decimal texts: the reference's and the program's are strconv's numeral. For whole numbers of 64 bits other than the least. -/
import Derived.Test.YtommgpkeicpokaaGreatDoorPLoop
import Derived.Test.YtommgpkeicpokaaGreatDoorF3
import Derived.Lib.ItoaLen
namespace Go.Proofs.YtommgpkeicpokaaGreatDoor.Abs.Pu
open Go Go.RowKit
set_option linter.unusedVariables false
set_option linter.unusedSectionVars false
set_option linter.unusedSimpArgs false
/-- Bytes as a string. -/
def ba (l : List UInt8) : ByteArray := ⟨l.toArray⟩
theorem ba_size (l : List UInt8) : (ba l).size = l.length := rfl
theorem ba_toList (l : List UInt8) : (ba l).data.toList = l := rfl
theorem ba_of (s : ByteArray) : ba s.data.toList = s := rfl
theorem ba_app (a b : List UInt8) : ba a ++ ba b = ba (a ++ b) := by
  apply ByteArray.ext
  rw [ByteArray.data_append]
  simp [ba]
def nums (l : List UInt8) : List Int := l.map fun b => (b.toNat : Int)
theorem nums_ba (l : List UInt8) : numsOf (ba l) = nums l := rfl
theorem nums_app (a b : List UInt8) : nums a ++ nums b = nums (a ++ b) := by simp [nums]
theorem nums_length (l : List UInt8) : (nums l).length = l.length := by simp [nums]
theorem str_nums (l : List UInt8) : strOf (nums l) = ba l := by
  unfold strOf nums ba
  rw [List.map_map]
  congr 2
  conv => rhs; rw [← List.map_id l]
  refine List.map_congr_left fun x _ => ?_
  simp
theorem okB_nums (l : List UInt8) : okB (nums l) = true := by
  unfold okB nums
  rw [List.all_map, List.all_eq_true]
  intro x _
  have := x.toNat_lt
  simp only [Function.comp, Bool.and_eq_true, decide_eq_true_eq]
  omega
theorem digit (x : Int) (h0 : 0 ≤ x) (h1 : x < 10) : strOf ([(wrap64 (48 + x)) % 256] : List Int) = ba [UInt8.ofNat (48 + x.toNat)] := by
  unfold strOf ba
  rw [w64 (x := 48 + x) (by omega) (by omega), Int.emod_eq_of_lt (by omega) (by omega)]
  simp only [List.map_cons, List.map_nil]
  congr 4
  omega
theorem dec_loop (g : Nat → Int → ByteArray → Option ByteArray)
    (hg : ∀ k x0 x3, g (k + 1) x0 x3 = (if x0 ≥ 10 then (if (strOf ([((wrap64 (48 + (Int.tmod x0 10))) % 256)] : List Int)).size + x3.size ≤ 9223372036854775807 then (g k (wrap64 (Int.tdiv x0 10)) ((strOf ([((wrap64 (48 + (Int.tmod x0 10))) % 256)] : List Int)) ++ x3)) else none) else (if (strOf ([((wrap64 (48 + x0)) % 256)] : List Int)).size + x3.size ≤ 9223372036854775807 then (some ((strOf ([((wrap64 (48 + x0)) % 256)] : List Int)) ++ x3)) else none))) :
    ∀ (n : Nat) (s : List UInt8), n + s.length ≤ 9223372036854775807 → s.length < 9223372036854775807 → Ev (fun k => g k (n : Int) (ba s)) (ba (Lib.decDigits n ++ s)) := by
  intro n
  induction n using Nat.strongRecOn with
  | ind n ih =>
    intro s h1 h2
    refine Ev.step (fun k => hg k _ _) ?_
    by_cases c : n < 10
    · refine Ev.neg (by omega) ?_
      rw [digit n (by omega) (by omega)]
      refine Ev.pos (by rw [ba_size, ba_size]; simp; omega) (Ev.eq ?_)
      rw [ba_app, Lib.decDigits_one c]
      rfl
    · refine Ev.pos (by omega) ?_
      have e1 : Int.tmod (n : Int) 10 = ((n % 10 : Nat) : Int) := by rw [Int.tmod_eq_emod_of_nonneg (by omega)]; omega
      have e2 : Int.tdiv (n : Int) 10 = ((n / 10 : Nat) : Int) := by rw [Int.tdiv_eq_ediv_of_nonneg (by omega)]; omega
      rw [e1, e2, digit _ (by omega) (by omega), w64 (x := ((n / 10 : Nat) : Int)) (by omega) (by omega), ba_app]
      refine Ev.pos (by rw [ba_size, ba_size]; simp; omega) ?_
      refine (ih (n / 10) (by omega) _ (by simp; omega) (by simp; omega)).val ?_
      conv => rhs; rw [Lib.decDigits, dif_neg c]
      rw [List.append_assoc]
      rfl
theorem l1Dec_ev (n : Int) (h0 : -9223372036854775808 < n) (h1 : n ≤ 9223372036854775807) : Ev (fun k => spec_l1Dec.f k n) (ba (Lib.itoa n)) := by
  unfold spec_l1Dec.f
  by_cases c : n < 0
  · refine Ev.pos c ?_
    rw [w64 (x := 0 - n) (by omega) (by omega)]
    obtain ⟨m, hm⟩ : ∃ m : Nat, 0 - n = (m : Int) := ⟨n.natAbs, by omega⟩
    have hb := dec_loop (fun k x s => spec_l1Dec_base.p14 k x s) (fun k x s => by rw [spec_l1Dec_base.p14]) m [] (by simp; omega) (by simp)
    rw [List.append_nil] at hb
    have hf : Ev (fun k => spec_l1Dec_base.f k (m : Int)) (ba (Lib.decDigits m)) := by
      unfold spec_l1Dec_base.f
      exact Ev.neg (by omega) hb
    rw [hm]
    refine Ev.bind hf ?_
    have hl := Lib.itoa_length_le n (by omega) h1
    have e : Lib.itoa n = 45 :: Lib.decDigits m := by
      unfold Lib.itoa
      rw [if_pos c]
      congr 2
      omega
    rw [e] at hl ⊢
    rw [show (⟨#[45]⟩ : ByteArray) = ba [45] from rfl]
    refine Ev.pos (by rw [ba_size, ba_size]; simp at hl ⊢; omega) (Ev.eq ?_)
    rw [ba_app]
    rfl
  · refine Ev.neg c ?_
    obtain ⟨m, rfl⟩ := Int.eq_ofNat_of_zero_le (a := n) (by omega)
    have hb := dec_loop (fun k x s => spec_l1Dec.p14 k x s) (fun k x s => by rw [spec_l1Dec.p14]) m [] (by simp; omega) (by simp)
    rw [List.append_nil] at hb
    refine hb.val ?_
    unfold Lib.itoa
    rw [if_neg c]
    rfl
theorem decimal_f (n : Int) (h0 : -9223372036854775808 ≤ n) (h1 : n ≤ 9223372036854775807) : impl_decimal.f n = some (ba (Lib.itoa n)) := by
  unfold impl_decimal.f strconv_FormatInt.f
  rw [if_pos rfl, if_pos h0, if_pos h1]
  rfl
/-- Numbers, each with a blank ahead. -/
def lineT : List Int → List UInt8
  | [] => []
  | n :: l => 32 :: (Lib.itoa n ++ lineT l)
theorem lineT_len : ∀ l : List Int, (∀ n ∈ l, -9223372036854775808 ≤ n ∧ n ≤ 9223372036854775807) → (lineT l).length ≤ 22 * l.length
  | [], _ => Nat.le_refl _
  | n :: l, h => by
    have h1 := lineT_len l fun x hx => h x (by simp [hx])
    have h2 := Lib.itoa_length_le n (h n (by simp)).1 (h n (by simp)).2
    rw [lineT, List.length_cons, List.length_append, List.length_cons]
    omega
theorem spaced_ev (l : List Int) (hl : l.length ≤ 1048576) (h : ∀ n ∈ l, -9223372036854775808 ≤ n ∧ n ≤ 9223372036854775807) : Ev (fun k => impl_spaced.f k l) (ba (lineT l)) := by
  unfold impl_spaced.f
  have key : ∀ i, i ≤ l.length → ∀ s : List UInt8, s.length ≤ 22 * i → Ev (fun k => impl_spaced.p8 k (ba s) l (l.length : Int) (i : Int)) (ba (s ++ lineT (l.drop i))) := by
    refine down ?_ ?_
    · intro s _
      refine Ev.step (fun k => by rw [impl_spaced.p8]) ?_
      rw [List.drop_eq_nil_of_le (Nat.le_refl _), lineT, List.append_nil]
      exact Ev.neg (by omega) (Ev.eq rfl)
    · intro i hi ih s hs
      have hx := h _ (List.getElem_mem hi)
      have h2 := Lib.itoa_length_le l[i] hx.1 hx.2
      refine Ev.step (fun k => by rw [impl_spaced.p8]) ?_
      rw [rd_get hi, w64s (by omega), decimal_f _ hx.1 hx.2, show (⟨#[32]⟩ : ByteArray) = ba [32] from rfl]
      refine Ev.pos (by omega) (Ev.pos (by omega) (Ev.pos (by omega) (Ev.bindo rfl ?_)))
      rw [ba_app, ba_app]
      simp only [ba_size]
      refine Ev.pos (by rw [List.length_singleton]; omega) (Ev.pos (by rw [List.length_append, List.length_singleton]; omega) ?_)
      refine (ih _ (by rw [List.length_append, List.length_append, List.length_singleton]; omega)).val ?_
      rw [List.drop_eq_getElem_cons hi, lineT]
      simp
  have := key 0 (Nat.zero_le _) [] (by simp)
  rw [List.drop_zero, List.nil_append] at this
  exact this
end Go.Proofs.YtommgpkeicpokaaGreatDoor.Abs.Pu
