/- Nurseries with one object more, and with one field set: what begins where, and that they stay right. No condition. -/
import Derived.Test.YtgfeafcgpeclcaaDoorPSetSpec
namespace Go.Proofs.YtgfeafcgpeclcaaDoor.Abs.Pu
open Go Go.RowKit
set_option linter.unusedVariables false
set_option linter.unusedSectionVars false
set_option linter.unusedSimpArgs false
theorem sameInts_ev (l : List Int) (hl : l.length ≤ 1099511627776) : Ev (fun k => laws_sameInts.f k l l) true := by
  have lp : ∀ (d i : Nat), l.length - i = d → i ≤ l.length → Ev (fun k => laws_sameInts.p14 k l l (i : Int)) true := by
    intro d
    induction d with
    | zero =>
      intro i hd hi
      exact Ev.step (fun k => by rw [laws_sameInts.p14]) (Ev.neg (by omega) (Ev.eq rfl))
    | succ d ih =>
      intro i hd hi
      refine Ev.step (fun k => by rw [laws_sameInts.p14]) ?_
      rw [show wrap64 ((i : Int) + 1) = ((i + 1 : Nat) : Int) from by rw [w64 (by omega) (by omega)]; omega]
      exact Ev.pos (by omega) (Ev.pos (by omega) (Ev.pos (by omega) (Ev.pos (by omega) (Ev.pos (by omega) (Ev.pos rfl (ih (i + 1) (by omega) (by omega)))))))
  unfold laws_sameInts.f
  exact Ev.pos rfl (lp _ 0 rfl (by omega))
theorem parse_more (types : List ByteArray) (words : List Int) : ∀ (d e at_ : Nat) (l : List Int), parseFrom types words d at_ = some l → parseFrom types words (d + e) at_ = some l
  | 0, e, at_, l, h => by
    rw [parseFrom] at h
    split at h
    · cases h
    · rename_i c
      cases e with
      | zero => rw [parseFrom, if_neg c]; exact h
      | succ e => rw [Nat.zero_add, parseFrom, if_neg c]; exact h
  | d + 1, e, at_, l, h => by
    rw [show d + 1 + e = (d + e) + 1 from by omega, parseFrom]
    rw [parseFrom] at h
    split at h
    · rename_i c
      rw [if_pos c]
      split at h
      · rename_i c2
        rw [if_pos c2]
        cases hp : parseFrom types words d (at_ + 1 + (kindsAt types (rd words at_)).size) with
        | none => rw [hp] at h; cases h
        | some m =>
          rw [hp] at h
          rw [parse_more types words d e _ m hp]
          exact h
      · cases h
    · rename_i c
      rw [if_neg c]
      exact h
theorem rd_append {a b : List Int} {i : Nat} (h : i < a.length) : rd (a ++ b) (i : Int) = rd a (i : Int) := by
  rw [rd_get (by rw [List.length_append]; omega), rd_get h, List.getElem_append_left h]
theorem parse_alloc (types : List ByteArray) (words zs : List Int) (t : Int) (ht : 0 ≤ t ∧ t < types.length) (hz : zs.length = (rdOf ByteArray.empty types t).size) :
    ∀ (d at_ : Nat) (l : List Int), at_ ≤ words.length → parseFrom types words d at_ = some l → parseFrom types (words ++ [4 * t] ++ zs) (d + 1) at_ = some (l ++ [(words.length : Int)]) := by
  have hlen : (words ++ [4 * t] ++ zs).length = words.length + 1 + zs.length := by rw [List.length_append, List.length_append, List.length_singleton]
  have hnew : rd (words ++ [4 * t] ++ zs) (words.length : Int) = 4 * t := by
    rw [rd_append (by simp), rd_get (by simp)]
    simp
  have hkk : kindsAt types (4 * t) = rdOf ByteArray.empty types t := by
    unfold kindsAt
    rw [Int.mul_ediv_cancel_left _ (by decide)]
  have stop : ∀ d at_, at_ = words.length → parseFrom types (words ++ [4 * t] ++ zs) (d + 1) at_ = some [(words.length : Int)] := by
    intro d at_ e
    subst e
    have c : 0 ≤ rd (words ++ [4 * t] ++ zs) (words.length : Int) ∧ rd (words ++ [4 * t] ++ zs) (words.length : Int) / 4 < types.length ∧ words.length + 1 + (kindsAt types (rd (words ++ [4 * t] ++ zs) (words.length : Int))).size ≤ (words ++ [4 * t] ++ zs).length := by
      rw [hnew, hkk, Int.mul_ediv_cancel_left _ (by decide)]
      omega
    rw [parseFrom, if_pos (by omega), if_pos c, hnew, hkk]
    have fin : parseFrom types (words ++ [4 * t] ++ zs) d (words.length + 1 + (rdOf ByteArray.empty types t).size) = some [] := by
      cases d with
      | zero => rw [parseFrom, if_neg (by omega)]
      | succ d => rw [parseFrom, if_neg (by omega)]
    rw [fin]
    rfl
  intro d
  induction d with
  | zero =>
    intro at_ l hat h
    rw [parseFrom] at h
    split at h
    · cases h
    · obtain rfl := Option.some.inj h
      exact stop 0 at_ (by omega)
  | succ d ih =>
    intro at_ l hat h
    rw [parseFrom] at h
    split at h
    · rename_i c
      split at h
      · rename_i c2
        cases hp : parseFrom types words d (at_ + 1 + (kindsAt types (rd words at_)).size) with
        | none => rw [hp] at h; cases h
        | some m =>
          rw [hp] at h
          obtain rfl := Option.some.inj h
          have hi := ih _ m c2.2.2 hp
          have e : rd (words ++ [4 * t] ++ zs) (at_ : Int) = rd words (at_ : Int) := by
            rw [List.append_assoc, rd_append c]
          rw [parseFrom, if_pos (by omega), e, if_pos ⟨c2.1, c2.2.1, by omega⟩, hi]
          rfl
      · cases h
    · obtain rfl := Option.some.inj h
      exact stop (d + 1) at_ (by omega)
theorem refOk_mono {st st' : List Int} (h : ∀ x ∈ st, x ∈ st') {x : Int} (k : refOk st x = true) : refOk st' x = true := by
  unfold refOk at k ⊢
  simp only [Bool.or_eq_true, Bool.and_eq_true, decide_eq_true_eq] at k ⊢
  rcases k with (k | k) | ⟨k1, k2⟩
  · exact .inl (.inl k)
  · exact .inl (.inr k)
  · exact .inr ⟨k1, h _ k2⟩
theorem objB_mono {st st' : List Int} (h : ∀ x ∈ st, x ∈ st') (t : ByteArray) : ∀ (l : List Int) (i : Nat), objB st t i l = true → objB st' t i l = true
  | [], i, k => rfl
  | v :: l, i, k => by
    rw [objB] at k ⊢
    split at k
    · rename_i c
      rw [if_pos c]
      rw [Bool.and_eq_true] at k ⊢
      exact ⟨refOk_mono h k.1, objB_mono h t l (i + 1) k.2⟩
    · rename_i c
      rw [if_neg c]
      exact objB_mono h t l (i + 1) k
theorem refOk_zero (st : List Int) : refOk st 0 = true := by
  unfold refOk refk
  simp
theorem objB_zeros (st : List Int) (t : ByteArray) : ∀ (n i : Nat), objB st t i (List.replicate n 0) = true
  | 0, i => rfl
  | n + 1, i => by
    rw [List.replicate_succ, objB]
    split
    · rw [refOk_zero, Bool.true_and]; exact objB_zeros st t n (i + 1)
    · exact objB_zeros st t n (i + 1)
theorem nurB_append (types : List ByteArray) (words st : List Int) : ∀ a b : List Int, nurB types words st (a ++ b) = (nurB types words st a && nurB types words st b)
  | [], b => by simp [nurB]
  | x :: a, b => by
    rw [List.cons_append, nurB, nurB, nurB_append types words st a b, Bool.and_assoc]
theorem nurB_congr (types : List ByteArray) (words words' st st' : List Int) : ∀ l : List Int, (∀ x ∈ l, objB st (kindsAt types (rd words x)) 0 (valsAt types words x.toNat) = true → objB st' (kindsAt types (rd words' x)) 0 (valsAt types words' x.toNat) = true) → nurB types words st l = true → nurB types words' st' l = true
  | [], _, _ => rfl
  | x :: l, h, k => by
    rw [nurB, Bool.and_eq_true] at k ⊢
    exact ⟨h x (by simp) k.1, nurB_congr types words words' st st' l (fun y hy => h y (by simp [hy])) k.2⟩
theorem vals_append (types : List ByteArray) (words more : List Int) (n : Nat) (h : Fits types words (n : Int)) : valsAt types (words ++ more) n = valsAt types words n := by
  obtain ⟨m, e, h1, h2, h3, h4⟩ := h
  obtain rfl : m = n := by omega
  unfold valsAt
  rw [rd_append h1, List.take_append_of_le_length h4]
theorem heads_alloc {types : List ByteArray} {sz : Int} {words st : List Int} {t : Int} (h : headsR types sz words = some st) (ht : 0 ≤ t ∧ t < types.length) (hsz : (words.length : Int) + 1 + ((rdOf ByteArray.empty types t).size : Int) ≤ sz) :
    headsR types sz (words ++ [4 * t] ++ List.replicate (rdOf ByteArray.empty types t).size 0) = some (st ++ [(words.length : Int)]) := by
  obtain ⟨hp, hn⟩ := headsR_some h
  have hlen : (words ++ [4 * t] ++ List.replicate (rdOf ByteArray.empty types t).size 0).length = words.length + 1 + (rdOf ByteArray.empty types t).size := by rw [List.length_append, List.length_append, List.length_singleton, List.length_replicate]
  have hfit := (parsed_facts hp).2.2.1
  have hpp : parsed types sz (words ++ [4 * t] ++ List.replicate (rdOf ByteArray.empty types t).size 0) = some (st ++ [(words.length : Int)]) := by
    unfold parsed at hp ⊢
    split at hp
    · rename_i c
      rw [if_pos ⟨c.1, c.2.1, by omega⟩, hlen, parse_more types _ (words.length + 1) _ 0 _ (parse_alloc types words _ t ht (by simp) words.length 0 st (by omega) hp)]
    · cases hp
  unfold headsR
  rw [hpp, Option.bind_some, if_pos]
  rw [nurB_append, Bool.and_eq_true]
  constructor
  · refine nurB_congr types words _ st _ st (fun x hx k => ?_) hn
    have hf := hfit x hx
    obtain ⟨m, rfl, h1, h2, h3, h4⟩ := id hf
    rw [List.append_assoc, rd_append h1, Int.toNat_natCast, vals_append types words _ m hf]
    rw [Int.toNat_natCast] at k
    exact objB_mono (fun y hy => by simp [hy]) _ _ _ k
  · rw [nurB, nurB, Bool.and_true, Int.toNat_natCast]
    have hv : valsAt types (words ++ [4 * t] ++ List.replicate (rdOf ByteArray.empty types t).size 0) words.length = List.replicate (rdOf ByteArray.empty types t).size 0 := by
      have hnew : rd (words ++ [4 * t] ++ List.replicate (rdOf ByteArray.empty types t).size 0) (words.length : Int) = 4 * t := by
        rw [rd_append (by simp), rd_get (by simp)]
        simp
      unfold valsAt
      rw [hnew]
      have hkk : kindsAt types (4 * t) = rdOf ByteArray.empty types t := by
        unfold kindsAt
        rw [Int.mul_ediv_cancel_left _ (by decide)]
      rw [hkk, List.take_of_length_le (by omega), List.drop_append_of_le_length (by simp), List.drop_of_length_le (by simp), List.nil_append]
    rw [hv]
    exact objB_zeros _ _ _ _
theorem young_alloc {types : List ByteArray} {sz : Int} {words st : List Int} {t : Int} (h : headsR types sz words = some st) (ht : 0 ≤ t ∧ t < types.length) (hsz : (words.length : Int) + 1 + ((rdOf ByteArray.empty types t).size : Int) ≤ sz) (hl : words.length ≤ 399) :
    youngR types sz (words ++ [4 * t] ++ List.replicate (rdOf ByteArray.empty types t).size 0) (2 * (words.length : Int) + 1) = (t, List.replicate (rdOf ByteArray.empty types t).size 0, true) := by
  have hh := heads_alloc h ht hsz
  have hk : refk (2 * (words.length : Int) + 1) = 2 := by
    unfold refk
    rw [if_neg (by omega), if_neg (by omega), if_pos (by omega)]
  have hd : (2 * (words.length : Int) + 1) / 2 = words.length := by omega
  have hB : isHeadB (st ++ [(words.length : Int)]) (2 * (words.length : Int) + 1) = true := by
    unfold isHeadB
    simp [hk, hd]
  have hnew : rd (words ++ [4 * t] ++ List.replicate (rdOf ByteArray.empty types t).size 0) (words.length : Int) = 4 * t := by
    rw [rd_append (by simp), rd_get (by simp)]
    simp
  have hkk : kindsAt types (4 * t) = rdOf ByteArray.empty types t := by
    unfold kindsAt
    rw [Int.mul_ediv_cancel_left _ (by decide)]
  unfold youngR
  rw [hh]
  simp only [hB, if_true, hd, hnew, Int.toNat_natCast]
  have hv : valsAt types (words ++ [4 * t] ++ List.replicate (rdOf ByteArray.empty types t).size 0) words.length = List.replicate (rdOf ByteArray.empty types t).size 0 := by
    unfold valsAt
    rw [hnew, hkk, List.take_of_length_le (by rw [List.length_append, List.length_append, List.length_singleton, List.length_replicate]; omega), List.drop_append_of_le_length (by simp), List.drop_of_length_le (by simp), List.nil_append]
  rw [hv, Int.mul_ediv_cancel_left _ (by decide)]
/-! ### one field set -/
theorem parse_sep (types : List ByteArray) (words : List Int) : ∀ (d at_ : Nat) (l : List Int), parseFrom types words d at_ = some l → ∀ x ∈ l, ∀ y ∈ l, x < y → x + 1 + ((kindsAt types (rd words x)).size : Int) ≤ y
  | 0, at_, l, h => by
    rw [parseFrom] at h
    split at h
    · cases h
    · obtain rfl := Option.some.inj h
      intro x hx
      cases hx
  | d + 1, at_, l, h => by
    rw [parseFrom] at h
    split at h
    · rename_i hlt
      split at h
      · rename_i hc
        cases hp : parseFrom types words d (at_ + 1 + (kindsAt types (rd words at_)).size) with
        | none => rw [hp] at h; cases h
        | some m =>
          rw [hp] at h
          obtain rfl := Option.some.inj h
          have ih := parse_sep types words d _ m hp
          obtain ⟨h1, _, _⟩ := parseFrom_fits types words d _ m hp
          intro x hx y hy hxy
          rcases List.mem_cons.1 hx with rfl | hx
          · rcases List.mem_cons.1 hy with rfl | hy
            · omega
            · have := (h1 y hy).2
              omega
          · rcases List.mem_cons.1 hy with rfl | hy
            · have := (h1 x hx).2
              omega
            · exact ih x hx y hy hxy
      · cases h
    · obtain rfl := Option.some.inj h
      intro x hx
      cases hx
theorem rd_set_ne {l : List Int} {p : Nat} {v : Int} {i : Nat} (h : i ≠ p) : rd (l.set p v) (i : Int) = rd l (i : Int) := by
  rw [rd_eq, rd_eq, List.getD_eq_getElem?_getD, List.getD_eq_getElem?_getD, List.getElem?_set_ne (by omega)]
theorem parse_set (types : List ByteArray) (words : List Int) (p : Nat) (v : Int) : ∀ (d at_ : Nat) (l : List Int), parseFrom types words d at_ = some l → (p : Int) ∉ l → parseFrom types (words.set p v) d at_ = some l
  | 0, at_, l, h, hp => by
    rw [parseFrom] at h ⊢
    rw [List.length_set]
    exact h
  | d + 1, at_, l, h, hp => by
    rw [parseFrom] at h ⊢
    rw [List.length_set]
    split at h
    · rename_i hlt
      rw [if_pos hlt]
      split at h
      · rename_i hc
        cases hq : parseFrom types words d (at_ + 1 + (kindsAt types (rd words at_)).size) with
        | none => rw [hq] at h; cases h
        | some m =>
          rw [hq] at h
          obtain rfl := Option.some.inj h
          have hne : at_ ≠ p := fun e => hp (by subst e; simp)
          rw [rd_set_ne hne, if_pos hc, parse_set types words p v d _ m hq (fun h => hp (by simp [h]))]
          rfl
      · cases h
    · rename_i hlt
      rw [if_neg hlt]
      exact h
theorem objB_set (st : List Int) (t : ByteArray) (v : Int) : ∀ (l : List Int) (i j : Nat), objB st t i l = true → (bt t ((i + j : Nat) : Int) = 114 → refOk st v = true) → objB st t i (l.set j v) = true
  | [], i, j, h, _ => by simpa using h
  | x :: l, i, 0, h, hv => by
    rw [List.set_cons_zero, objB]
    rw [objB] at h
    split
    · rename_i c
      rw [if_pos c, Bool.and_eq_true] at h
      rw [hv (by simpa using c), Bool.true_and]
      exact h.2
    · rename_i c
      rw [if_neg c] at h
      exact h
  | x :: l, i, j + 1, h, hv => by
    rw [List.set_cons_succ, objB]
    rw [objB] at h
    have hv' : bt t ((i + 1 + j : Nat) : Int) = 114 → refOk st v = true := by
      rw [show i + 1 + j = i + (j + 1) from by omega]
      exact hv
    split
    · rename_i c
      rw [if_pos c, Bool.and_eq_true] at h
      rw [Bool.and_eq_true]
      exact ⟨h.1, objB_set st t v l (i + 1) j h.2 hv'⟩
    · rename_i c
      rw [if_neg c] at h
      exact objB_set st t v l (i + 1) j h hv'
theorem vals_set_same {types : List ByteArray} {words : List Int} {n i : Nat} {v : Int} : valsAt types (words.set (n + 1 + i) v) n = (valsAt types words n).set i v := by
  unfold valsAt
  rw [rd_set_ne (by omega)]
  apply List.ext_getElem?
  intro j
  rw [List.getElem?_drop, List.getElem?_set, List.getElem?_take, List.getElem?_drop, List.getElem?_take, List.getElem?_set]
  simp only [List.length_drop, List.length_take]
  by_cases c : i = j
  · subst c
    by_cases c2 : n + 1 + i < n + 1 + (kindsAt types (rd words n)).size
    · by_cases c3 : n + 1 + i < words.length
      · simp [c2, c3]; omega
      · simp [c2, c3]; omega
    · simp [c2]; omega
  · simp [c, show ¬ (n + 1 + i = n + 1 + j) from by omega]
theorem vals_set_other {types : List ByteArray} {words : List Int} {m p : Nat} {v : Int} (h : p < m ∨ m + 1 + (kindsAt types (rd words m)).size ≤ p) : valsAt types (words.set p v) m = valsAt types words m := by
  unfold valsAt
  rw [rd_set_ne (by omega)]
  apply List.ext_getElem?
  intro j
  rw [List.getElem?_drop, List.getElem?_take, List.getElem?_drop, List.getElem?_take]
  split
  · rw [List.getElem?_set_ne (by omega)]
  · rfl
theorem heads_set {types : List ByteArray} {sz : Int} {words st : List Int} {n i : Nat} {v : Int} (h : headsR types sz words = some st) (hm : (n : Int) ∈ st) (hi : i < (kindsAt types (rd words n)).size) (hv : bt (kindsAt types (rd words n)) (i : Int) = 114 → refOk st v = true) :
    headsR types sz (words.set (n + 1 + i) v) = some st := by
  obtain ⟨hp, hn⟩ := headsR_some h
  have hfit := (parsed_facts hp).2.2.1
  have hpp : parsed types sz (words.set (n + 1 + i) v) = some st ∧ ∀ x ∈ st, ∀ y ∈ st, x < y → x + 1 + ((kindsAt types (rd words x)).size : Int) ≤ y := by
    unfold parsed at hp ⊢
    rw [List.length_set]
    split at hp
    · rename_i c
      have hsep := parse_sep types words _ _ _ hp
      refine ⟨?_, hsep⟩
      rw [if_pos c]
      refine parse_set types words _ v _ _ _ hp (fun hmem => ?_)
      have := hsep _ hm _ hmem (by omega)
      omega
    · cases hp
  obtain ⟨hpp, hsep⟩ := hpp
  unfold headsR
  rw [hpp, Option.bind_some, if_pos]
  refine nurB_congr types words _ st st st (fun x hx k => ?_) hn
  have hf := hfit x hx
  obtain ⟨m, rfl, h1, h2, h3, h4⟩ := id hf
  rw [Int.toNat_natCast] at k ⊢
  by_cases c : m = n
  · subst c
    rw [vals_set_same, rd_set_ne (by omega)]
    exact objB_set st _ v _ 0 i k (by simpa using hv)
  · have hne : n + 1 + i < m ∨ m + 1 + (kindsAt types (rd words m)).size ≤ n + 1 + i := by
      rcases Nat.lt_or_gt_of_ne c with c | c
      · have := hsep _ hx _ hm (by omega)
        omega
      · have := hsep _ hm _ hx (by omega)
        omega
    rw [vals_set_other hne, rd_set_ne (by omega)]
    exact k
end Go.Proofs.YtgfeafcgpeclcaaDoor.Abs.Pu
