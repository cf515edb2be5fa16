/- Decimal numerals read: the program's number, the reference's l1Num. -/
import Derived.Test.YtommgpkeicpokaaGreatDoorPSplit
import Derived.Test.YtommgpkeicpokaaGreatDoorPGraphText
import Derived.Lib.ParseIntBTie
namespace Go.Proofs.YtommgpkeicpokaaGreatDoor.Abs.Pu
open Go Go.RowKit
set_option linter.unusedVariables false
set_option linter.unusedSectionVars false
set_option linter.unusedSimpArgs false
/-! ### numerals -/
theorem decDigits_more {n : Nat} (h : ¬ n < 10) : Lib.decDigits n = Lib.decDigits (n / 10) ++ [UInt8.ofNat (48 + n % 10)] := by
  conv => lhs; rw [Lib.decDigits, dif_neg h]
theorem ofNat_toNat {d : Nat} (h : d < 10) : (UInt8.ofNat (48 + d)).toNat = 48 + d := by
  rw [UInt8.toNat_ofNat']
  omega
theorem digit_in (n : Nat) : ∀ b ∈ Lib.decDigits n, 48 ≤ b.toNat ∧ b.toNat ≤ 57 := by
  induction n using Nat.strongRecOn with
  | ind n ih =>
    intro b hb
    by_cases c : n < 10
    · rw [Lib.decDigits_one c, List.mem_singleton] at hb
      subst hb
      rw [ofNat_toNat c]
      omega
    · rw [decDigits_more c] at hb
      rcases List.mem_append.1 hb with hb | hb
      · exact ih _ (by omega) b hb
      · rw [List.mem_singleton] at hb
        subst hb
        rw [ofNat_toNat (by omega)]
        omega
/-- No numeral but nought's begins with a nought. -/
theorem digit_head (n : Nat) : ∃ b r, Lib.decDigits n = b :: r ∧ (b.toNat = 48 → r = []) := by
  induction n using Nat.strongRecOn with
  | ind n ih =>
    by_cases c : n < 10
    · exact ⟨_, _, Lib.decDigits_one c, fun _ => rfl⟩
    · obtain ⟨b, r, e, h⟩ := ih (n / 10) (by omega)
      refine ⟨b, r ++ [UInt8.ofNat (48 + n % 10)], by rw [decDigits_more c, e]; rfl, fun hb => ?_⟩
      have hr := h hb
      subst hr
      exfalso
      by_cases c2 : n / 10 < 10
      · rw [Lib.decDigits_one c2] at e
        injection e with e _
        rw [← e, ofNat_toNat c2] at hb
        omega
      · rw [decDigits_more c2] at e
        have hl := congrArg List.length e
        rw [List.length_append, Lib.decDigits_length] at hl
        have : 1 ≤ Lib.nDigits (n / 10 / 10) := by
          rw [← Lib.decDigits_length]
          obtain ⟨b', r', e', _⟩ := ih (n / 10 / 10) (by omega)
          rw [e', List.length_cons]
          omega
        simp only [List.length_cons, List.length_nil] at hl
        omega
theorem digits_len : ∀ (d n : Nat), n < 10 ^ (d + 1) → (Lib.decDigits n).length ≤ d + 1
  | 0, n, h => by rw [Lib.decDigits_one (by simpa using h)]; exact Nat.le_refl _
  | d + 1, n, h => by
    by_cases c : n < 10
    · rw [Lib.decDigits_one c]; simp
    · have := digits_len d (n / 10) (by rw [Nat.pow_succ] at h; omega)
      rw [decDigits_more c, List.length_append, List.length_singleton]
      omega
/-- A number of at most 15 digits. -/
theorem itoa_text {n : Int} (h : inT n = true) : (Lib.itoa n).length ≤ 16 := by
  unfold inT at h
  simp only [Bool.and_eq_true, decide_eq_true_eq] at h
  have e15 : (10 : Nat) ^ (14 + 1) = 1000000000000000 := by decide
  have := digits_len 14 n.natAbs (by omega)
  unfold Lib.itoa
  split
  · rw [List.length_cons]
    have e : (-n).toNat = n.natAbs := by omega
    first
      | rw [e]; omega
      | omega
  · have e : n.toNat = n.natAbs := by omega
    first
      | rw [e]; omega
      | omega
theorem itoa_pos (m : Nat) : Lib.itoa (m : Int) = Lib.decDigits m := by unfold Lib.itoa; rw [if_neg (by omega)]; rfl
theorem itoa_neg {n : Int} (h : n < 0) : Lib.itoa n = 45 :: Lib.decDigits n.natAbs := by
  unfold Lib.itoa
  rw [if_pos h]
/-- Neither a blank nor a new line. -/
theorem itoa_in (n : Int) : ∀ b ∈ Lib.itoa n, b ≠ 32 ∧ b ≠ 10 := by
  have key : ∀ m : Nat, ∀ b ∈ Lib.decDigits m, b ≠ 32 ∧ b ≠ 10 := fun m b hb => by
    have := digit_in m b hb
    exact ⟨fun e => by rw [e] at this; revert this; decide, fun e => by rw [e] at this; revert this; decide⟩
  intro b hb
  by_cases c : n < 0
  · rw [itoa_neg c] at hb
    rcases List.mem_cons.1 hb with rfl | hb
    · decide
    · exact key _ b hb
  · obtain ⟨m, rfl⟩ := Int.eq_ofNat_of_zero_le (a := n) (by omega)
    rw [itoa_pos] at hb
    exact key _ b hb
/-! ### the program -/
theorem parse_digits (r : List UInt8) (n : Nat) (h : n < 10000000000000000) : Lib.parseUintM 18446744073709551615 0 (Lib.decDigits n ++ r) = Lib.parseUintM 18446744073709551615 n r := by
  induction n using Nat.strongRecOn generalizing r with
  | ind n ih =>
    by_cases c : n < 10
    · rw [Lib.decDigits_one c, List.singleton_append, Lib.parseUintM, ofNat_toNat c, if_pos (by omega), if_neg (by omega), if_neg (by omega)]
      congr 1
      omega
    · rw [decDigits_more c, List.append_assoc, ih (n / 10) (by omega) _ (by omega), List.singleton_append, Lib.parseUintM, ofNat_toNat (by omega), if_pos (by omega), if_neg (by omega), if_neg (by omega)]
      congr 1
      omega
theorem parseU_digits (n : Nat) (h : n < 10000000000000000) : Lib.parseUintB 64 (Lib.decDigits n) = .ok n := by
  obtain ⟨b, r, e, _⟩ := digit_head n
  unfold Lib.parseUintB
  rw [if_neg (by rw [e]; simp)]
  have := parse_digits [] n h
  rw [List.append_nil] at this
  exact this
theorem parse_itoa (n : Int) (h : inT n = true) : Lib.parseIntB 64 (Lib.itoa n) = .ok n := by
  unfold inT at h
  simp only [Bool.and_eq_true, decide_eq_true_eq] at h
  have e63 : (2 : Nat) ^ (64 - 1) = 9223372036854775808 := by decide
  by_cases c : n < 0
  · rw [itoa_neg c, Lib.parseIntB_minus, parseU_digits _ (by omega), e63]
    unfold Lib.signedC
    simp only []
    rw [if_neg (by omega)]
    congr 1
    omega
  · obtain ⟨m, rfl⟩ := Int.eq_ofNat_of_zero_le (a := n) (by omega)
    rw [itoa_pos]
    obtain ⟨b, r, e, _⟩ := digit_head m
    have hb := digit_in m b (by rw [e]; simp)
    have hp := parseU_digits m (by omega)
    rw [e] at hp ⊢
    rw [Lib.parseIntB_plain 64 b r (by omega) (by omega), hp, e63]
    unfold Lib.signlessC
    simp only []
    rw [if_neg (by omega)]
theorem trimP_len (s p : List UInt8) : (Lib.trimPrefix s p).length ≤ s.length := by
  unfold Lib.trimPrefix
  split
  · rw [List.length_drop]; omega
  · exact Nat.le_refl _
noncomputable def numI (w : List UInt8) : Int × Bool := (impl_number.f (ba w)).getD (0, false)
theorem number_f (w : List UInt8) (h : w.length ≤ 4000000000) : impl_number.f (ba w) = some (numI w) := by
  have : ∃ r, impl_number.f (ba w) = some r := by
    unfold impl_number.f strconv_ParseInt.f
    rw [if_pos rfl, if_pos rfl, ba_size, if_pos (by omega), Option.bind_some]
    unfold strconv_ParseInt.g
    rw [ba_toList]
    cases hp : Lib.parseIntB 64 w with
    | ok v =>
      have hb := Lib.parseIntB_bounds hp
      have e63 : (2 : Nat) ^ (64 - 1) = 9223372036854775808 := by decide
      rw [e63] at hb
      simp only [if_true]
      rw [decimal_f v (by omega) (by omega), Option.bind_some]
      by_cases c : (ba (Lib.itoa v)).toList = (ba w).toList
      · rw [if_pos c]
        exact ⟨_, rfl⟩
      · rw [if_neg c]
        exact ⟨_, rfl⟩
    | «syntax» => exact ⟨_, rfl⟩
    | range => exact ⟨_, rfl⟩
  obtain ⟨r, hr⟩ := this
  unfold numI
  rw [hr]
  rfl
theorem numI_itoa (n : Int) (h : inT n = true) : numI (Lib.itoa n) = (n, true) := by
  have hl := itoa_text h
  unfold numI impl_number.f strconv_ParseInt.f
  rw [if_pos rfl, if_pos rfl, ba_size, if_pos (by omega), Option.bind_some]
  unfold strconv_ParseInt.g
  rw [ba_toList, parse_itoa n h]
  unfold inT at h
  simp only [Bool.and_eq_true, decide_eq_true_eq] at h
  simp only [if_true]
  rw [decimal_f n (by omega) (by omega), Option.bind_some, if_pos rfl]
  unfold strings_TrimPrefix.f
  rw [Option.bind_some, Option.getD_some]
  have := trimP_len (Lib.itoa n) [45]
  congr 1
  refine decide_eq_true ?_
  show ((Lib.trimPrefix (Lib.itoa n) [45]).length : Int) ≤ 16
  omega
/-- numbers: all of them, or none. -/
noncomputable def numbersR (ws : List (List UInt8)) : List Int × Bool := if ws.all (fun w => (numI w).2) = true then (ws.map (fun w => (numI w).1), true) else ([], false)
theorem rdb {ws : List (List UInt8)} {i : Nat} (h : i < ws.length) : rdOf ByteArray.empty (ws.map ba) (i : Int) = ba ws[i] := by
  rw [rdg (by rw [List.length_map]; exact h), List.getElem_map]
theorem numbers_ev (ws : List (List UInt8)) (hl : ws.length ≤ 4000000000) (hw : ∀ w ∈ ws, w.length ≤ 4000000000) : Ev (fun k => impl_numbers.f k (ws.map ba)) (numbersR ws) := by
  unfold impl_numbers.f
  rw [List.length_map]
  have key : ∀ i, i ≤ ws.length → Ev (fun k => impl_numbers.p8 k ((ws.take i).map fun w => (numI w).1) (ws.map ba) (ws.length : Int) (i : Int)) (if (ws.drop i).all (fun w => (numI w).2) = true then (ws.map (fun w => (numI w).1), true) else ([], false)) := by
    refine down ?_ ?_
    · refine Ev.step (fun k => by rw [impl_numbers.p8]) ?_
      rw [List.drop_eq_nil_of_le (Nat.le_refl _), List.take_of_length_le (Nat.le_refl _), if_pos (show ([] : List (List UInt8)).all (fun w => (numI w).2) = true from rfl)]
      exact Ev.neg (by omega) (Ev.eq rfl)
    · intro i hi ih
      refine Ev.step (fun k => by rw [impl_numbers.p8]) ?_
      rw [rdb hi, w64s (by omega), List.drop_eq_getElem_cons hi, List.all_cons]
      refine Ev.pos (by omega) (Ev.pos (by omega) (Ev.pos (by rw [List.length_map]; omega) (Ev.bindo (number_f _ (hw _ (List.getElem_mem hi))) ?_)))
      by_cases c : (numI ws[i]).2 = true
      · rw [c, Bool.true_and]
        refine Ev.pos rfl (Ev.pos (by rw [List.length_map, List.length_take]; omega) ?_)
        rw [List.take_succ_eq_append_getElem hi, List.map_append] at ih
        exact ih
      · rw [Bool.eq_false_iff.2 c, Bool.false_and]
        refine Ev.neg (by simp) (Ev.eq ?_)
        rw [if_neg (by simp)]
  have := key 0 (Nat.zero_le _)
  rw [List.drop_zero, List.take_zero] at this
  exact this
theorem numbersR_itoa (ns : List Int) (h : ns.all inT = true) : numbersR (ns.map Lib.itoa) = (ns, true) := by
  have h' := List.all_eq_true.1 h
  unfold numbersR
  rw [if_pos, List.map_map]
  · congr 1
    conv => rhs; rw [← List.map_id ns]
    refine List.map_congr_left fun n hn => ?_
    show (numI (Lib.itoa n)).1 = n
    rw [numI_itoa n (h' n hn)]
  · rw [List.all_map, List.all_eq_true]
    intro n hn
    show (numI (Lib.itoa n)).2 = true
    rw [numI_itoa n (h' n hn)]
theorem numbersR_len (ws : List (List UInt8)) (h : (numbersR ws).2 = true) : (numbersR ws).1.length = ws.length := by
  unfold numbersR at h ⊢
  split
  · simp
  · rename_i hc
    rw [if_neg hc] at h
    cases h
/-! ### the reference -/
def foldD (a : Int) (r : List UInt8) : Int := r.foldl (fun a b => 10 * a + ((b.toNat : Int) - 48)) a
theorem foldD_digits (n : Nat) : foldD 0 (Lib.decDigits n) = n := by
  induction n using Nat.strongRecOn with
  | ind n ih =>
    unfold foldD at ih ⊢
    by_cases c : n < 10
    · rw [Lib.decDigits_one c]
      simp only [List.foldl_cons, List.foldl_nil]
      rw [ofNat_toNat c]
      omega
    · rw [decDigits_more c, List.foldl_append, ih (n / 10) (by omega)]
      simp only [List.foldl_cons, List.foldl_nil]
      rw [ofNat_toNat (by omega)]
      omega
theorem num_loop (g : Nat → ByteArray → Int → Int → Option (Int × Bool))
    (hg : ∀ k x0 x6 x7, g (k + 1) x0 x6 x7 = (if x7 < (x0.size : Int) then (if 0 ≤ x7 then (if x7 < (x0.size : Int) then (if (byteAt x0 x7) < 48 then (some (0, false)) else (if 0 ≤ x7 then (if x7 < (x0.size : Int) then (if (byteAt x0 x7) > 57 then (some (0, false)) else (if 0 ≤ x7 then (if x7 < (x0.size : Int) then (g k x0 (wrap64 ((wrap64 (10 * x6)) + (wrap64 (((byteAt x0 x7) - 48) % 256)))) (wrap64 (x7 + 1))) else none) else none)) else none) else none)) else none) else none) else (some (x6, true))))
    (l : List UInt8) (hl : l.length ≤ 4000000000) : (∃ r, Ev (fun k => g k (ba l) 0 0) r) ∧ (l.length ≤ 16 → (∀ b ∈ l, 48 ≤ b.toNat ∧ b.toNat ≤ 57) → Ev (fun k => g k (ba l) 0 0) (foldD 0 l, true)) := by
  constructor
  · have key : ∀ i, i ≤ l.length → ∀ a : Int, ∃ r, Ev (fun k => g k (ba l) a (i : Int)) r := by
      refine down ?_ ?_
      · intro a
        refine ⟨(a, true), ?_⟩
        refine Ev.step (fun k => hg k _ _ _) ?_
        rw [ba_size]
        exact Ev.neg (by omega) (Ev.eq rfl)
      · intro i hi ih a
        by_cases c1 : byteAt (ba l) (i : Int) < 48
        · refine ⟨(0, false), ?_⟩
          refine Ev.step (fun k => hg k _ _ _) ?_
          rw [ba_size]
          exact Ev.pos (by omega) (Ev.pos (by omega) (Ev.pos (by omega) (Ev.pos c1 (Ev.eq rfl))))
        · by_cases c2 : byteAt (ba l) (i : Int) > 57
          · refine ⟨(0, false), ?_⟩
            refine Ev.step (fun k => hg k _ _ _) ?_
            rw [ba_size]
            exact Ev.pos (by omega) (Ev.pos (by omega) (Ev.pos (by omega) (Ev.neg c1 (Ev.pos (by omega) (Ev.pos (by omega) (Ev.pos c2 (Ev.eq rfl)))))))
          · obtain ⟨r, hr⟩ := ih (wrap64 ((wrap64 (10 * a)) + (wrap64 (((byteAt (ba l) (i : Int)) - 48) % 256))))
            refine ⟨r, ?_⟩
            refine Ev.step (fun k => hg k _ _ _) ?_
            rw [ba_size, w64s (by omega)]
            exact Ev.pos (by omega) (Ev.pos (by omega) (Ev.pos (by omega) (Ev.neg c1 (Ev.pos (by omega) (Ev.pos (by omega) (Ev.neg c2 (Ev.pos (by omega) (Ev.pos (by omega) hr))))))))
    exact key 0 (Nat.zero_le _) 0
  · intro h16 hd
    have key : ∀ i, i ≤ l.length → ∀ a : Int, 0 ≤ a → a < ((10 ^ i : Nat) : Int) → Ev (fun k => g k (ba l) a (i : Int)) (foldD a (l.drop i), true) := by
      refine down ?_ ?_
      · intro a _ _
        refine Ev.step (fun k => hg k _ _ _) ?_
        rw [ba_size, List.drop_eq_nil_of_le (Nat.le_refl _)]
        exact Ev.neg (by omega) (Ev.eq rfl)
      · intro i hi ih a h0 h1
        have hb := hd _ (List.getElem_mem hi)
        have hp : (10 : Nat) ^ i ≤ 10 ^ 15 := Nat.pow_le_pow_right (by decide) (by omega)
        have e15 : (10 : Nat) ^ 15 = 1000000000000000 := by decide
        refine Ev.step (fun k => hg k _ _ _) ?_
        rw [ba_size, bt_ba hi, w64s (by omega), List.drop_eq_getElem_cons hi]
        refine Ev.pos (by omega) (Ev.pos (by omega) (Ev.pos (by omega) (Ev.neg (by omega) (Ev.pos (by omega) (Ev.pos (by omega) (Ev.neg (by omega) (Ev.pos (by omega) (Ev.pos (by omega) ?_))))))))
        rw [Int.emod_eq_of_lt (by omega) (by omega), w64 (x := 10 * a) (by omega) (by omega), w64 (x := ((l[i].toNat : Int) - 48)) (by omega) (by omega), w64 (by omega) (by omega)]
        exact ih _ (by omega) (by rw [Nat.pow_succ]; omega)
    exact key 0 (Nat.zero_le _) 0 (by omega) (by decide)
theorem base_num (l : List UInt8) (hl : l.length ≤ 4000000000) (h45 : ∀ r, l ≠ 45 :: r) : (∃ r, Ev (fun k => spec_l1Num_base.f k (ba l)) r) ∧ (∀ m : Nat, m < 10000000000000000 → l = Lib.decDigits m → Ev (fun k => spec_l1Num_base.f k (ba l)) ((m : Int), true)) := by
  obtain ⟨⟨r, hr⟩, hv⟩ := num_loop (fun k x a i => spec_l1Num_base.p26 k x a i) (fun k x0 x6 x7 => by rw [spec_l1Num_base.p26]) l hl
  have start : ∀ r, Ev (fun k => spec_l1Num_base.p5 k (ba l) false) r → Ev (fun k => spec_l1Num_base.f k (ba l)) r := by
    intro r h
    unfold spec_l1Num_base.f
    rw [ba_size]
    by_cases c : (l.length : Int) > 1
    · have hn : ¬ byteAt (ba l) 0 = 45 := by
        have := bt_ba (l := l) (i := 0) (by omega)
        rw [show ((0 : Nat) : Int) = 0 from rfl] at this
        rw [this]
        intro e
        cases l with
        | nil => simp at c
        | cons b q => exact h45 q (by rw [show b = 45 from UInt8.toNat_inj.1 (by have h2 : (b.toNat : Int) = 45 := e; show b.toNat = 45; omega)])
      exact Ev.pos c (Ev.pos (by omega) (Ev.neg hn h))
    · exact Ev.neg c h
  constructor
  · by_cases c1 : (l.length : Int) < 1
    · refine ⟨(0, false), start _ ?_⟩
      refine Ev.step (fun k => by rw [spec_l1Num_base.p5]) ?_
      exact Ev.neg (by simp) (Ev.pos (by rw [ba_size]; exact c1) (Ev.eq rfl))
    · by_cases c2 : (l.length : Int) > 16
      · refine ⟨(0, false), start _ ?_⟩
        refine Ev.step (fun k => by rw [spec_l1Num_base.p5]) ?_
        exact Ev.neg (by simp) (Ev.neg (by rw [ba_size]; exact c1) (Ev.pos (by rw [ba_size]; exact c2) (Ev.eq rfl)))
      · by_cases c3 : byteAt (ba l) 0 = 48 ∧ (l.length : Int) > 1
        · refine ⟨(0, false), start _ ?_⟩
          refine Ev.step (fun k => by rw [spec_l1Num_base.p5]) ?_
          exact Ev.neg (by simp) (Ev.neg (by rw [ba_size]; exact c1) (Ev.neg (by rw [ba_size]; exact c2) (Ev.pos (by rw [ba_size]; omega) (Ev.pos c3.1 (Ev.pos (by rw [ba_size]; exact c3.2) (Ev.eq rfl))))))
        · refine ⟨r, start _ ?_⟩
          refine Ev.step (fun k => by rw [spec_l1Num_base.p5]) ?_
          refine Ev.neg (by simp) (Ev.neg (by rw [ba_size]; exact c1) (Ev.neg (by rw [ba_size]; exact c2) (Ev.pos (by rw [ba_size]; omega) ?_)))
          by_cases c4 : byteAt (ba l) 0 = 48
          · exact Ev.pos c4 (Ev.neg (by rw [ba_size]; exact fun h => c3 ⟨c4, h⟩) hr)
          · exact Ev.neg c4 hr
  · intro m hm e
    have h16 : l.length ≤ 16 := by rw [e]; exact digits_len 15 m (by simpa using hm)
    have hv := hv h16 (by rw [e]; exact digit_in m)
    obtain ⟨b, q, e1, e2⟩ := digit_head m
    refine start _ ?_
    refine Ev.step (fun k => by rw [spec_l1Num_base.p5]) ?_
    have hb : byteAt (ba l) 0 = (b.toNat : Int) := by
      have := bt_ba (l := l) (i := 0) (by rw [e, e1]; simp)
      rw [show ((0 : Nat) : Int) = 0 from rfl] at this
      rw [this]
      simp [e, e1]
    have hl1 : 1 ≤ l.length := by rw [e, e1]; simp
    have hfin : foldD 0 l = m := by rw [e]; exact foldD_digits m
    rw [hfin] at hv
    refine Ev.neg (by simp) (Ev.neg (by rw [ba_size]; omega) (Ev.neg (by rw [ba_size]; omega) (Ev.pos (by rw [ba_size]; omega) ?_)))
    by_cases c4 : byteAt (ba l) 0 = 48
    · refine Ev.pos c4 (Ev.neg ?_ hv)
      rw [hb] at c4
      have := e2 (by omega)
      rw [ba_size, e, e1, this]
      simp
    · exact Ev.neg c4 hv
theorem top_num (l : List UInt8) (hl : l.length ≤ 4000000000) : (∃ r, Ev (fun k => spec_l1Num.f k (ba l)) r) ∧ (∀ n : Int, inT n = true → l = Lib.itoa n → Ev (fun k => spec_l1Num.f k (ba l)) (n, true)) := by
  obtain ⟨⟨r, hr⟩, hv⟩ := num_loop (fun k x a i => spec_l1Num.p26 k x a i) (fun k x0 x6 x7 => by rw [spec_l1Num.p26]) l hl
  -- without a sign
  have plain : (∃ r, Ev (fun k => spec_l1Num.p5 k (ba l) false) r) ∧ (∀ m : Nat, m < 10000000000000000 → l = Lib.decDigits m → Ev (fun k => spec_l1Num.p5 k (ba l) false) ((m : Int), true)) := by
    constructor
    · by_cases c1 : (l.length : Int) < 1
      · refine ⟨(0, false), ?_⟩
        refine Ev.step (fun k => by rw [spec_l1Num.p5]) ?_
        exact Ev.neg (by simp) (Ev.pos (by rw [ba_size]; exact c1) (Ev.eq rfl))
      · by_cases c2 : (l.length : Int) > 16
        · refine ⟨(0, false), ?_⟩
          refine Ev.step (fun k => by rw [spec_l1Num.p5]) ?_
          exact Ev.neg (by simp) (Ev.neg (by rw [ba_size]; exact c1) (Ev.pos (by rw [ba_size]; exact c2) (Ev.eq rfl)))
        · by_cases c3 : byteAt (ba l) 0 = 48 ∧ (l.length : Int) > 1
          · refine ⟨(0, false), ?_⟩
            refine Ev.step (fun k => by rw [spec_l1Num.p5]) ?_
            exact Ev.neg (by simp) (Ev.neg (by rw [ba_size]; exact c1) (Ev.neg (by rw [ba_size]; exact c2) (Ev.pos (by rw [ba_size]; omega) (Ev.pos c3.1 (Ev.pos (by rw [ba_size]; exact c3.2) (Ev.eq rfl))))))
          · refine ⟨r, ?_⟩
            refine Ev.step (fun k => by rw [spec_l1Num.p5]) ?_
            refine Ev.neg (by simp) (Ev.neg (by rw [ba_size]; exact c1) (Ev.neg (by rw [ba_size]; exact c2) (Ev.pos (by rw [ba_size]; omega) ?_)))
            by_cases c4 : byteAt (ba l) 0 = 48
            · exact Ev.pos c4 (Ev.neg (by rw [ba_size]; exact fun h => c3 ⟨c4, h⟩) hr)
            · exact Ev.neg c4 hr
    · intro m hm e
      have h16 : l.length ≤ 16 := by rw [e]; exact digits_len 15 m (by simpa using hm)
      have hv := hv h16 (by rw [e]; exact digit_in m)
      obtain ⟨b, q, e1, e2⟩ := digit_head m
      refine Ev.step (fun k => by rw [spec_l1Num.p5]) ?_
      have hb : byteAt (ba l) 0 = (b.toNat : Int) := by
        have := bt_ba (l := l) (i := 0) (by rw [e, e1]; simp)
        rw [show ((0 : Nat) : Int) = 0 from rfl] at this
        rw [this]
        simp [e, e1]
      have hl1 : 1 ≤ l.length := by rw [e, e1]; simp
      have hfin : foldD 0 l = m := by rw [e]; exact foldD_digits m
      rw [hfin] at hv
      refine Ev.neg (by simp) (Ev.neg (by rw [ba_size]; omega) (Ev.neg (by rw [ba_size]; omega) (Ev.pos (by rw [ba_size]; omega) ?_)))
      by_cases c4 : byteAt (ba l) 0 = 48
      · refine Ev.pos c4 (Ev.neg ?_ hv)
        rw [hb] at c4
        have := e2 (by omega)
        rw [ba_size, e, e1, this]
        simp
      · exact Ev.neg c4 hv
  -- the sign
  match l, hl, plain with
  | [], hl, plain =>
    have st : ∀ r, Ev (fun k => spec_l1Num.p5 k (ba []) false) r → Ev (fun k => spec_l1Num.f k (ba [])) r := fun r h => by
      unfold spec_l1Num.f
      exact Ev.neg (by rw [ba_size]; simp) h
    obtain ⟨⟨r, hr⟩, hv⟩ := plain
    refine ⟨⟨r, st r hr⟩, fun n hn e => ?_⟩
    have : ∃ b q, Lib.itoa n = b :: q := by
      by_cases c : n < 0
      · exact ⟨_, _, itoa_neg c⟩
      · obtain ⟨m, rfl⟩ := Int.eq_ofNat_of_zero_le (a := n) (by omega)
        obtain ⟨b, q, e, _⟩ := digit_head m
        exact ⟨b, q, by rw [itoa_pos, e]⟩
    obtain ⟨b, q, e'⟩ := this
    rw [e'] at e
    cases e
  | b :: q, hl, plain =>
    have h0 : byteAt (ba (b :: q)) 0 = (b.toNat : Int) := bt_ba (l := b :: q) (i := 0) (by simp)
    by_cases c : ∃ d q', b = 45 ∧ q = d :: q' ∧ d ≠ 48 ∧ d ≠ 45
    · obtain ⟨d, q', rfl, rfl, hd1, hd2⟩ := c
      have h1 : byteAt (ba (45 :: d :: q')) 1 = (d.toNat : Int) := bt_ba (l := 45 :: d :: q') (i := 1) (by simp)
      have hd48 : ¬ (d.toNat : Int) = 48 := fun e => hd1 (UInt8.toNat_inj.1 (by simpa using Int.ofNat_inj.1 e))
      have hd45 : ¬ (d.toNat : Int) = 45 := fun e => hd2 (UInt8.toNat_inj.1 (by simpa using Int.ofNat_inj.1 e))
      have bs := base_num (d :: q') (by simp at hl ⊢; omega) (fun r e => hd2 (by injection e))
      have st : ∀ r, Ev (fun k => spec_l1Num_base.f k (ba (d :: q'))) r → Ev (fun k => spec_l1Num.f k (ba (45 :: d :: q'))) (wrap64 (0 - r.1), r.2) := fun r h => by
        unfold spec_l1Num.f
        rw [h0, h1]
        refine Ev.pos (by rw [ba_size]; simp; omega) (Ev.pos (by rw [ba_size]; simp; omega) (Ev.pos rfl (Ev.pos (by rw [ba_size]; simp; omega) (Ev.neg hd48 (Ev.pos (by rw [ba_size]; simp; omega) ?_)))))
        refine Ev.step (fun k => by rw [spec_l1Num.p5]) ?_
        refine Ev.pos (by simpa using hd45) (Ev.pos (by rw [ba_size]; simp; omega) ?_)
        have e : (ba (45 :: d :: q')).extract 1 ((ba (45 :: d :: q')).size : Int).toNat = ba (d :: q') := by
          rw [ba_size, show (((45 :: d :: q').length : Nat) : Int).toNat = (45 :: d :: q').length by omega, ba_drop]
          rfl
        rw [e]
        exact Ev.bind h (Ev.eq rfl)
      refine ⟨?_, fun n hn e => ?_⟩
      · obtain ⟨⟨r, hr⟩, _⟩ := bs
        exact ⟨_, st r hr⟩
      · have hn' := hn
        unfold inT at hn'
        simp only [Bool.and_eq_true, decide_eq_true_eq] at hn'
        by_cases c : n < 0
        · rw [itoa_neg c] at e
          injection e with _ e
          have := st _ (bs.2 n.natAbs (by omega) e)
          refine this.val ?_
          rw [w64 (by omega) (by omega)]
          congr 1
          omega
        · exfalso
          obtain ⟨m, rfl⟩ := Int.eq_ofNat_of_zero_le (a := n) (by omega)
          rw [itoa_pos] at e
          have := digit_in m 45 (by rw [← e]; simp)
          revert this
          decide
    · have st : ∀ r, Ev (fun k => spec_l1Num.p5 k (ba (b :: q)) false) r → Ev (fun k => spec_l1Num.f k (ba (b :: q))) r := fun r h => by
        unfold spec_l1Num.f
        rw [h0]
        by_cases c1 : ((ba (b :: q)).size : Int) > 1
        · refine Ev.pos c1 (Ev.pos (by omega) ?_)
          by_cases c2 : (b.toNat : Int) = 45
          · have hb : b = 45 := UInt8.toNat_inj.1 (by simpa using Int.ofNat_inj.1 c2)
            cases q with
            | nil => rw [ba_size] at c1; simp at c1
            | cons d q' =>
              have h1 : byteAt (ba (b :: d :: q')) 1 = (d.toNat : Int) := bt_ba (l := b :: d :: q') (i := 1) (by simp)
              rw [h1]
              refine Ev.pos c2 (Ev.pos (by omega) ?_)
              by_cases c3 : (d.toNat : Int) = 48
              · exact Ev.pos c3 h
              · refine Ev.neg c3 (Ev.pos (by omega) ?_)
                by_cases c4 : (d.toNat : Int) = 45
                · rw [decide_eq_true c4]
                  exact h
                · exact absurd ⟨d, q', hb, rfl, fun e => c3 (by rw [e]; rfl), fun e => c4 (by rw [e]; rfl)⟩ c
          · exact Ev.neg c2 h
        · exact Ev.neg c1 h
      obtain ⟨⟨r, hr⟩, hv⟩ := plain
      refine ⟨⟨r, st r hr⟩, fun n hn e => ?_⟩
      have hn' := hn
      unfold inT at hn'
      simp only [Bool.and_eq_true, decide_eq_true_eq] at hn'
      by_cases c0 : n < 0
      · exfalso
        rw [itoa_neg c0] at e
        injection e with e1 e2
        obtain ⟨d, q', e3, e4⟩ := digit_head n.natAbs
        have hd := digit_in n.natAbs d (by rw [e3]; simp)
        refine c ⟨d, q', e1, by rw [e2, e3], fun h => ?_, fun h => by rw [h] at hd; revert hd; decide⟩
        have := e4 (by rw [h]; rfl)
        rw [this, h] at e3
        have h2 := foldD_digits n.natAbs
        rw [e3] at h2
        have h3 : foldD 0 [48] = 0 := rfl
        rw [h3] at h2
        omega
      · obtain ⟨m, rfl⟩ := Int.eq_ofNat_of_zero_le (a := n) (by omega)
        exact st _ (hv m (by omega) (by rw [e, itoa_pos]))
open Classical in
noncomputable def numS (w : List UInt8) : Int := if h : ∃ r, Ev (fun k => spec_l1Num.f k (ba w)) r then (Classical.choose h).1 else 0
theorem numS_ev (w : List UInt8) (h : w.length ≤ 4000000000) : ∃ b, Ev (fun k => spec_l1Num.f k (ba w)) (numS w, b) := by
  have hx := (top_num w h).1
  unfold numS
  rw [dif_pos hx]
  exact ⟨(Classical.choose hx).2, Classical.choose_spec hx⟩
theorem numS_itoa (n : Int) (h : inT n = true) : numS (Lib.itoa n) = n := by
  have hl := itoa_text h
  obtain ⟨b, hb⟩ := numS_ev (Lib.itoa n) (by omega)
  have := hb.det ((top_num (Lib.itoa n) (by omega)).2 n h rfl)
  injection this
theorem l7Nums_ev (ws : List (List UInt8)) (hl : ws.length ≤ 4000000000) (hw : ∀ w ∈ ws, w.length ≤ 4000000000) : Ev (fun k => spec_l7Nums.f k (ws.map ba)) (ws.map numS) := by
  unfold spec_l7Nums.f
  have key : ∀ i, i ≤ ws.length → Ev (fun k => spec_l7Nums.p8 k (ws.map ba) ((ws.take i).map numS) (i : Int)) (ws.map numS) := by
    refine down ?_ ?_
    · refine Ev.step (fun k => by rw [spec_l7Nums.p8]) ?_
      rw [List.take_of_length_le (Nat.le_refl _), List.length_map]
      exact Ev.neg (by omega) (Ev.eq rfl)
    · intro i hi ih
      obtain ⟨b, hb⟩ := numS_ev _ (hw _ (List.getElem_mem hi))
      refine Ev.step (fun k => by rw [spec_l7Nums.p8]) ?_
      rw [rdb hi, w64s (by omega), List.length_map]
      refine Ev.pos (by omega) (Ev.pos (by omega) (Ev.pos (by omega) (Ev.bind hb (Ev.pos (by rw [List.length_map, List.length_take]; omega) ?_))))
      rw [List.take_succ_eq_append_getElem hi, List.map_append] at ih
      exact ih
  exact key 0 (Nat.zero_le _)
theorem numS_map (ns : List Int) (h : ns.all inT = true) : (ns.map Lib.itoa).map numS = ns := by
  have h' := List.all_eq_true.1 h
  rw [List.map_map]
  conv => rhs; rw [← List.map_id ns]
  exact List.map_congr_left fun n hn => numS_itoa n (h' n hn)
end Go.Proofs.YtommgpkeicpokaaGreatDoor.Abs.Pu
