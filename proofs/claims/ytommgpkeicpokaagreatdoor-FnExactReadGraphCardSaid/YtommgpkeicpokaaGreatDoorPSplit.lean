/- Texts cut at a byte: strings.Split, the reference's l1Cut, l1Split, l1Lines. -/
import Derived.Test.YtommgpkeicpokaaGreatDoorPDec
import Derived.Test.YtommgpkeicpokaaGreatDoorPBits
import Derived.Lib.SplitLaws
namespace Go.Proofs.YtommgpkeicpokaaGreatDoor.Abs.Pu
open Go Go.RowKit
set_option linter.unusedVariables false
set_option linter.unusedSectionVars false
set_option linter.unusedSimpArgs false
/-! ### plain -/
def consH (b : UInt8) : List (List UInt8) → List (List UInt8)
  | [] => [[b]]
  | p :: q => (b :: p) :: q
/-- Cut at each c. -/
def splitOn (c : UInt8) : List UInt8 → List (List UInt8)
  | [] => [[]]
  | b :: r => if b = c then [] :: splitOn c r else consH b (splitOn c r)
theorem splitOn_ne (c : UInt8) : ∀ l, splitOn c l ≠ []
  | [] => by simp [splitOn]
  | b :: r => by
    unfold splitOn
    split
    · simp
    · cases splitOn c r <;> simp [consH]
theorem consH_len (b : UInt8) {p : List (List UInt8)} (h : p ≠ []) : (consH b p).length = p.length := by
  cases p with
  | nil => exact absurd rfl h
  | cons a q => rfl
theorem splitOn_len (c : UInt8) : ∀ l : List UInt8, (splitOn c l).length ≤ l.length + 1
  | [] => Nat.le_refl _
  | b :: r => by
    have ih := splitOn_len c r
    unfold splitOn
    split
    · simp only [List.length_cons]; omega
    · rw [consH_len _ (splitOn_ne c r), List.length_cons]; omega
theorem consH_mem {b : UInt8} {p : List (List UInt8)} {n : Nat} (h : ∀ x ∈ p, x.length ≤ n) : ∀ x ∈ consH b p, x.length ≤ n + 1 := by
  cases p with
  | nil => intro x hx; simp [consH] at hx; subst hx; simp
  | cons a q =>
    intro x hx
    rcases List.mem_cons.1 hx with rfl | hx
    · have := h a (by simp); simp only [List.length_cons]; omega
    · have := h x (by simp [hx]); omega
theorem splitOn_mem (c : UInt8) : ∀ l : List UInt8, ∀ x ∈ splitOn c l, x.length ≤ l.length
  | [], x, hx => by simp [splitOn] at hx; subst hx; simp
  | b :: r, x, hx => by
    have ih := splitOn_mem c r
    unfold splitOn at hx
    split at hx
    · rcases List.mem_cons.1 hx with rfl | hx
      · simp
      · have := ih x hx; simp only [List.length_cons]; omega
    · exact consH_mem ih x hx
/-- A piece without c, then c. -/
theorem splitOn_piece (c : UInt8) : ∀ (p r : List UInt8), (∀ b ∈ p, b ≠ c) → splitOn c (p ++ c :: r) = p :: splitOn c r
  | [], r, _ => by rw [List.nil_append, splitOn, if_pos rfl]
  | b :: p, r, h => by
    rw [List.cons_append, splitOn, if_neg (h b (by simp)), splitOn_piece c p r fun x hx => h x (by simp [hx])]
    rfl
theorem splitOn_last (c : UInt8) : ∀ (p : List UInt8), (∀ b ∈ p, b ≠ c) → splitOn c p = [p]
  | [], _ => rfl
  | b :: p, h => by
    rw [splitOn, if_neg (h b (by simp)), splitOn_last c p fun x hx => h x (by simp [hx])]
    rfl
/-- The first cut. -/
def cutL (c : UInt8) : List UInt8 → List UInt8 × List UInt8 × Bool
  | [] => ([], [], false)
  | b :: r => if b = c then ([], r, true) else (b :: (cutL c r).1, (cutL c r).2.1, (cutL c r).2.2)
theorem splitOn_cut (c : UInt8) : ∀ l : List UInt8, splitOn c l = if (cutL c l).2.2 = true then (cutL c l).1 :: splitOn c (cutL c l).2.1 else [(cutL c l).1]
  | [] => rfl
  | b :: r => by
    have ih := splitOn_cut c r
    by_cases h : b = c
    · rw [splitOn, if_pos h, cutL, if_pos h, if_pos rfl]
    · rw [splitOn, if_neg h, cutL, if_neg h, ih]
      simp only []
      split <;> rfl
theorem cutL_short (c : UInt8) : ∀ l : List UInt8, (cutL c l).2.2 = true → (cutL c l).2.1.length < l.length
  | [], h => by cases h
  | b :: r, h => by
    unfold cutL at h ⊢
    split
    · simp
    · rename_i hb
      rw [if_neg hb] at h
      have := cutL_short c r h
      simp only [List.length_cons]
      omega
theorem cutL_rest (c : UInt8) : ∀ l : List UInt8, (cutL c l).2.2 = false → (cutL c l).1 = l ∧ (cutL c l).2.1 = []
  | [], _ => ⟨rfl, rfl⟩
  | b :: r, h => by
    unfold cutL at h ⊢
    split
    · rename_i hb
      rw [if_pos hb] at h
      cases h
    · rename_i hb
      rw [if_neg hb] at h
      have := cutL_rest c r h
      exact ⟨by rw [this.1], this.2⟩
/-! ### strings.Split -/
theorem index_cons_ne {b c : UInt8} {l : List UInt8} (h : b ≠ c) : Lib.index (b :: l) [c] = if Lib.index l [c] == -1 then -1 else Lib.index l [c] + 1 := by
  have hp : ([c] : List UInt8).isPrefixOf (b :: l) = false := by simp [List.isPrefixOf, Ne.symm h]
  rw [Lib.index, hp]; simp
theorem index_cons_eq (c : UInt8) (l : List UInt8) : Lib.index (c :: l) [c] = 0 := by
  rw [Lib.index]; simp [List.isPrefixOf]
theorem splitK_cons_ne {b c : UInt8} (h : b ≠ c) (k : Nat) (l : List UInt8) : Lib.splitK [c] 0 k (b :: l) = consH b (Lib.splitK [c] 0 k l) := by
  cases k with
  | zero => rfl
  | succ k =>
    unfold Lib.splitK
    rw [index_cons_ne h]
    by_cases hm : Lib.index l [c] = -1
    · simp [hm, consH]
    · have hge := Lib.index_ge l [c]
      obtain ⟨j, hj⟩ : ∃ j : Nat, Lib.index l [c] = j := ⟨(Lib.index l [c]).toNat, by omega⟩
      rw [hj]
      have e1 : (((j : Int) == -1) = true) ↔ False := by simp
      have e2 : ((((j : Int) + 1) == -1) = true) ↔ False := by simp; omega
      simp only [e1, if_false]
      simp only [e2, if_false]
      rw [show ((j : Int) + 1).toNat = j + 1 by omega, show ((j : Int)).toNat = j by omega]
      simp [consH]
theorem splitK_on (c : UInt8) : ∀ l : List UInt8, Lib.splitK [c] 0 (Lib.count l [c]) l = splitOn c l
  | [] => by
    rw [Lib.count_miss (by simp [Lib.index])]
    rfl
  | b :: l => by
    by_cases h : b = c
    · subst h
      rw [Lib.count_cons_eq, Nat.add_comm, splitOn, if_pos rfl, Lib.splitK, index_cons_eq, if_neg (by decide)]
      simp only [Int.toNat_zero, Nat.zero_add, List.take_zero, List.length_singleton, List.drop_succ_cons, List.drop_zero]
      rw [splitK_on b l]
    · rw [Lib.count_cons_ne b c l h, splitK_cons_ne h, splitK_on c l, splitOn, if_neg h]
theorem split_f (c : UInt8) (l : List UInt8) (h : l.length ≤ 4000000000) : strings_Split.f (ba l) (ba [c]) = some ((splitOn c l).map ba) := by
  unfold strings_Split.f
  rw [ba_size, ba_size, if_pos (by omega), if_pos (by simp)]
  congr 1
  have h1 := Lib.splitB_data (ba [c]) 0 (Lib.countB (ba l) (ba [c])) (ba l)
  have h2 : Lib.splitK [c] 0 (Lib.countB (ba l) (ba [c])) l = splitOn c l := by
    rw [← splitK_on]
    rfl
  rw [show (ba [c]).data.toList = [c] from rfl, ba_toList, h2] at h1
  rw [← h1, List.map_map]
  conv => lhs; rw [← List.map_id (Lib.splitB _ _ _ _)]
  exact List.map_congr_left fun x _ => (ba_of x).symm
/-! ### the reference -/
theorem bt_ba {l : List UInt8} {i : Nat} (h : i < l.length) : byteAt (ba l) (i : Int) = (l[i].toNat : Int) := by
  rw [byteAt_eq]
  unfold bt
  rw [dif_pos (by rw [Int.toNat_natCast, ba_size]; exact h)]
  rfl
theorem ba_take (l : List UInt8) (i : Nat) : (ba l).extract 0 i = ba (l.take i) := by
  rw [← ba_of ((ba l).extract 0 i), Lib.extract_from_zero, ba_toList]
theorem ba_drop (l : List UInt8) (i : Nat) : (ba l).extract i l.length = ba (l.drop i) := by
  have := Lib.extract_to_end (ba l) i
  rw [ba_size, ba_toList] at this
  rw [← ba_of ((ba l).extract i l.length), this]
theorem l1Cut_ev (c : UInt8) (l : List UInt8) (h : l.length ≤ 4000000000) : Ev (fun k => spec_l1Cut.f k (ba l) (c.toNat : Int)) (ba (cutL c l).1, ba (cutL c l).2.1, (cutL c l).2.2) := by
  unfold spec_l1Cut.f
  have key : ∀ i, i ≤ l.length → Ev (fun k => spec_l1Cut.p6 k (ba l) (c.toNat : Int) (i : Int)) (ba (l.take i ++ (cutL c (l.drop i)).1), ba (cutL c (l.drop i)).2.1, (cutL c (l.drop i)).2.2) := by
    refine down ?_ ?_
    · refine Ev.step (fun k => by rw [spec_l1Cut.p6]) ?_
      rw [List.drop_eq_nil_of_le (Nat.le_refl _), List.take_of_length_le (Nat.le_refl _), ba_size]
      refine Ev.neg (by omega) (Ev.eq ?_)
      simp [cutL]
      rfl
    · intro i hi ih
      refine Ev.step (fun k => by rw [spec_l1Cut.p6]) ?_
      rw [bt_ba hi, w64s (by omega), ba_size, List.drop_eq_getElem_cons hi]
      refine Ev.pos (by omega) (Ev.pos (by omega) (Ev.pos (by omega) ?_))
      by_cases hc : l[i] = c
      · refine Ev.pos (by rw [hc]) (Ev.pos (by omega) (Ev.pos (by omega) (Ev.pos (by omega) (Ev.pos (by omega) (Ev.eq ?_)))))
        rw [cutL, if_pos hc, show ((i : Nat) : Int).toNat = i by omega, show (((i + 1 : Nat) : Int)).toNat = i + 1 by omega, show ((l.length : Nat) : Int).toNat = l.length by omega, ba_take, ba_drop, List.append_nil]
      · refine Ev.neg (fun e => hc (UInt8.toNat_inj.1 (by omega))) (ih.val ?_)
        rw [cutL, if_neg hc, List.take_succ_eq_append_getElem hi, List.append_assoc]
        rfl
  have := key 0 (Nat.zero_le _)
  rw [List.drop_zero, List.take_zero, List.nil_append] at this
  exact this
theorem l1Split_ev (l : List UInt8) (h : l.length ≤ 4000000000) : Ev (fun k => spec_l1Split.f k (ba l)) ((splitOn 32 l).map ba) := by
  unfold spec_l1Split.f
  have key : ∀ (n : Nat) (l : List UInt8) (out : List ByteArray), l.length = n → l.length ≤ 4000000000 → out.length + l.length ≤ 4000000000 → Ev (fun k => spec_l1Split.p8 k (ba l) out true) (out ++ (splitOn 32 l).map ba) := by
    intro n
    induction n using Nat.strongRecOn with
    | ind n ih =>
      intro l out hn hl ho
      refine Ev.step (fun k => by rw [spec_l1Split.p8]) ?_
      refine Ev.pos rfl (Ev.bind (l1Cut_ev 32 l hl) (Ev.pos (by omega) ?_))
      rw [splitOn_cut]
      have hs := cutL_short 32 l
      by_cases c : (cutL 32 l).2.2 = true
      · have hs := hs c
        rw [c, if_pos rfl]
        refine (ih _ (by omega) (cutL 32 l).2.1 (out ++ [ba (cutL 32 l).1]) rfl (by omega) (by rw [List.length_append, List.length_singleton]; omega)).val ?_
        rw [List.append_assoc]
        rfl
      · rw [if_neg c, Bool.eq_false_iff.2 c]
        refine Ev.step (fun k => by rw [spec_l1Split.p8]) ?_
        exact Ev.neg (by simp) (Ev.eq rfl)
  have := key _ l [] rfl h (by simpa using h)
  rw [List.nil_append] at this
  exact this
/-- Lines: the pieces, but not an empty one at the end. -/
def trimL (p : List (List UInt8)) : List (List UInt8) := if p.getLast? = some [] then p.dropLast else p
theorem trimL_cons (a : List UInt8) {p : List (List UInt8)} (h : p ≠ []) : trimL (a :: p) = a :: trimL p := by
  cases p with
  | nil => exact absurd rfl h
  | cons b q =>
    unfold trimL
    rw [List.getLast?_cons_cons]
    split <;> rfl
theorem trimL_one {a : List UInt8} (h : a ≠ []) : trimL [a] = [a] := by
  unfold trimL
  rw [List.getLast?_singleton, if_neg (fun e => h (Option.some.inj e))]
theorem ba_ne {a b : List UInt8} : (ba a).toList = (ba b).toList ↔ a = b := by
  rw [toList_inj]
  exact ⟨fun e => by have := congrArg (fun s => s.data.toList) e; simpa [ba] using this, fun e => by rw [e]⟩
theorem l1Lines_ev (l : List UInt8) (h : l.length ≤ 4000000000) : ∃ b, Ev (fun k => spec_l1Lines.f k (ba l)) ((trimL (splitOn 10 l)).map ba, b) := by
  unfold spec_l1Lines.f
  have key : ∀ (n : Nat) (l : List UInt8) (out : List ByteArray), l.length = n → l.length ≤ 4000000000 → out.length + l.length ≤ 4000000000 → ∃ b, Ev (fun k => spec_l1Lines.p6 k (ba l) out) (out ++ (trimL (splitOn 10 l)).map ba, b) := by
    intro n
    induction n using Nat.strongRecOn with
    | ind n ih =>
      intro l out hn hl ho
      by_cases e : l = []
      · subst e
        refine ⟨true, ?_⟩
        refine Ev.step (fun k => by rw [spec_l1Lines.p6]) ?_
        refine Ev.pos rfl (Ev.eq ?_)
        simp [splitOn, trimL]
      · have ne : ¬ (ba l).toList = (⟨#[]⟩ : ByteArray).toList := fun h => e (ba_ne.1 h)
        have hc := l1Cut_ev 10 l hl
        have hs := cutL_short 10 l
        have hr := cutL_rest 10 l
        rw [splitOn_cut]
        by_cases c : (cutL 10 l).2.2 = true
        · have hs := hs c
          obtain ⟨b, hb⟩ := ih _ (by omega) (cutL 10 l).2.1 (out ++ [ba (cutL 10 l).1]) rfl (by omega) (by rw [List.length_append, List.length_singleton]; omega)
          refine ⟨b, ?_⟩
          refine Ev.step (fun k => by rw [spec_l1Lines.p6]) ?_
          refine Ev.neg ne (Ev.bind hc (Ev.pos (by omega) (Ev.pos c (hb.val ?_))))
          rw [if_pos c, trimL_cons _ (splitOn_ne _ _), List.append_assoc]
          rfl
        · have hr := hr (Bool.eq_false_iff.2 c)
          refine ⟨false, ?_⟩
          refine Ev.step (fun k => by rw [spec_l1Lines.p6]) ?_
          refine Ev.neg ne (Ev.bind hc (Ev.pos (by omega) (Ev.neg c (Ev.eq ?_))))
          rw [if_neg c, trimL_one (by rw [hr.1]; exact e)]
          rfl
  obtain ⟨b, hb⟩ := key _ l [] rfl h (by simpa using h)
  exact ⟨b, by rw [List.nil_append] at hb; exact hb⟩
end Go.Proofs.YtommgpkeicpokaaGreatDoor.Abs.Pu
