/- CardsOf: what the reference and the program come to: the same. For lists of at most 2^40 words. -/
import Derived.Test.YtpeimlpipopeoaaQSets
import Derived.Test.YtpeimlpipopeoaaXSpecCardsOf
import Derived.Test.YtpeimlpipopeoaaXImplCardsOf
namespace Go.Proofs.Ytpeimlpipopeoaa.Pure
open Go.RowKit Go.Proofs.Ytpeimlpipopeoaa.X Go.Proofs.YtpeimlpipopeoaaW.PrintWords Go.Proofs.YtpeimlpipopeoaaW.PrintLast
set_option linter.unusedVariables false
set_option linter.unusedSimpArgs false

/-- The place of a number in a list: 0 or more where it occurs, else -1. -/
theorem l7Place_ev (l : List Int) (x : Int) (hl : l.length ≤ 1099511627776) : ∃ r, Ev (fun k => spec_l7Place.f k l x) r ∧ ((0 ≤ r ∧ r < l.length ∧ rd l r = x ∧ x ∈ l) ∨ (r = -1 ∧ x ∉ l)) := by
  have lp : ∀ (d i : Nat), l.length - i = d → i ≤ l.length → x ∉ l.take i → ∃ r, Ev (fun k => spec_l7Place.l0 k l x (i : Int)) r ∧ ((0 ≤ r ∧ r < l.length ∧ rd l r = x ∧ x ∈ l) ∨ (r = -1 ∧ x ∉ l)) := by
    intro d
    induction d with
    | zero =>
      intro i hd hi hn
      refine ⟨-1, Ev.step (fun k => by rw [spec_l7Place.l0]) (Ev.neg (by omega) (Ev.eq rfl)), .inr ⟨rfl, ?_⟩⟩
      rwa [List.take_of_length_le (by omega)] at hn
    | succ d ih =>
      intro i hd hi hn
      have hlt : i < l.length := by omega
      by_cases e : l[i] = x
      · refine ⟨i, Ev.step (fun k => by rw [spec_l7Place.l0]) ?_, .inl ⟨by omega, by omega, by rw [rd_get hlt, e], e ▸ List.getElem_mem hlt⟩⟩
        rw [rd_get hlt]
        exact Ev.pos (by omega) (Ev.pos (by omega) (Ev.pos e (Ev.eq rfl)))
      · obtain ⟨r, hr, hp⟩ := ih (i + 1) (by omega) (by omega) (by
          rw [take_snoc2 l i hlt, List.mem_append, List.mem_singleton]
          exact fun h => h.elim hn (fun h => e h.symm))
        refine ⟨r, Ev.step (fun k => by rw [spec_l7Place.l0]) ?_, hp⟩
        rw [rd_get hlt, show wrap64 ((i : Int) + 1) = ((i + 1 : Nat) : Int) from by rw [w64 (by omega) (by omega)]; omega]
        exact Ev.pos (by omega) (Ev.pos (by omega) (Ev.neg e hr))
  unfold spec_l7Place.f
  exact lp _ 0 rfl (by omega) (by simp)
/-- The cards of a list: of the eighths, those that differ from the one before. -/
def eighths (l : List Int) : List Int := l.map (· / 8)
def cardsOf (l : List Int) : List Int := if setFrom l 0 then Lib.compact (eighths l) else []
theorem mem_compactUpTo (d : Array Int) : ∀ (m : Nat), m ≤ d.size → (∀ x ∈ Lib.compactUpTo d m, ∃ j, j < m ∧ x = d[j]!) ∧ (∀ j, j < m → d[j]! ∈ Lib.compactUpTo d m)
  | 0, _ => ⟨by simp [Lib.compactUpTo], fun j hj => by omega⟩
  | m + 1, hm => by
    obtain ⟨h1, h2⟩ := mem_compactUpTo d m (by omega)
    rw [Lib.compactUpTo_succ]
    refine ⟨fun x hx => ?_, fun j hj => ?_⟩
    · rcases List.mem_append.1 hx with hx | hx
      · obtain ⟨j, hj, e⟩ := h1 x hx
        exact ⟨j, by omega, e⟩
      · split at hx
        · exact ⟨m, by omega, by simpa using hx⟩
        · cases hx
    · by_cases e : j = m
      · subst e
        by_cases k : Lib.keeps d j = true
        · rw [if_pos k]; simp
        · rw [if_neg k, List.append_nil]
          have k2 : ¬ (j = 0 ∨ d[j]! ≠ d[j - 1]!) := by simpa [Lib.keeps] using k
          have k3 : d[j]! = d[j - 1]! := Classical.byContradiction fun q => k2 (.inr q)
          rw [k3]
          exact h2 (j - 1) (by omega)
      · exact List.mem_append_left _ (h2 j (by omega))
theorem eighths_mono {l : List Int} (hs : setFrom l 0) : ∀ (i j : Nat) (hj : j < l.length) (hij : i ≤ j), l[i] / 8 ≤ l[j] / 8 := by
  intro i j
  induction j with
  | zero =>
    intro hj hij
    obtain rfl : i = 0 := by omega
    exact Int.le_refl _
  | succ j ih =>
    intro hj hij
    by_cases e : i = j + 1
    · subst e
      exact Int.le_refl _
    · have h1 := ih (by omega) (by omega)
      have h2 := (hs (j + 1) hj (by omega)).2.2 (by omega)
      simp only [Nat.add_sub_cancel] at h2
      omega
theorem spec_CardsOf_ev (l : List Int) (hl : l.length ≤ 1099511627776) : Ev (fun k => spec_CardsOf.f k l) (cardsOf l) := by
  unfold spec_CardsOf.f
  refine Ev.bind (spec_SetOk_ev l hl) (Ev.cases (fun c => ?_) (fun c => Ev.eq ?_))
  · have c : setFrom l 0 := by simpa using c
    rw [cardsOf, if_pos c]
    have hd : ∀ j (h : j < l.length), (eighths l).toArray[j]! = l[j] / 8 := by
      intro j h
      rw [getElem!_pos _ j (by simpa [eighths] using h)]
      simp [eighths]
    have hsz : (eighths l).toArray.size = l.length := by simp [eighths]
    have lp : ∀ (d i : Nat), l.length - i = d → i ≤ l.length → Ev (fun k => spec_CardsOf.l0 k l (Lib.compactUpTo (eighths l).toArray i) (i : Int)) (Lib.compact (eighths l)) := by
      intro d
      induction d with
      | zero =>
        intro i hd' hi
        refine Ev.step (fun k => by rw [spec_CardsOf.l0]) (Ev.neg (by omega) (Ev.eq ?_))
        rw [Lib.compact, show (eighths l).length = i from by rw [eighths, List.length_map]; omega]
      | succ d ih =>
        intro i hd' hi
        have hlt : i < l.length := by omega
        have hr := c i hlt (by omega)
        have hlen := compactUpTo_len (eighths l).toArray i
        obtain ⟨h1, h2⟩ := mem_compactUpTo (eighths l).toArray i (by omega)
        refine Ev.step (fun k => by rw [spec_CardsOf.l0]) ?_
        rw [rd_get hlt, Int.tdiv_eq_ediv_of_nonneg hr.1, w64 (x := l[i] / 8) (by omega) (by omega), show wrap64 ((i : Int) + 1) = ((i + 1 : Nat) : Int) from by rw [w64 (by omega) (by omega)]; omega]
        obtain ⟨r, hr2, hp⟩ := l7Place_ev (Lib.compactUpTo (eighths l).toArray i) (l[i] / 8) (by omega)
        refine Ev.pos (by omega) (Ev.pos (by omega) (Ev.bind hr2 ?_))
        have ih := ih (i + 1) (by omega) (by omega)
        rw [Lib.compactUpTo_succ, hd i hlt] at ih
        refine Ev.cases (fun e => Ev.pos (by omega) ?_) (fun e => ?_)
        · have hn : l[i] / 8 ∉ Lib.compactUpTo (eighths l).toArray i := by
            rcases hp with hp | hp
            · omega
            · exact hp.2
          rwa [if_pos] at ih
          simp only [Lib.keeps, decide_eq_true_eq]
          by_cases h0 : i = 0
          · exact .inl h0
          · refine .inr (fun q => hn ?_)
            rw [hd i hlt] at q
            rw [q]
            exact h2 (i - 1) (by omega)
        · have hn : l[i] / 8 ∈ Lib.compactUpTo (eighths l).toArray i := by
            rcases hp with hp | hp
            · exact hp.2.2.2
            · omega
          rw [if_neg, List.append_nil] at ih
          · exact ih
          · simp only [Lib.keeps, decide_eq_true_eq]
            obtain ⟨j, hj, e2⟩ := h1 _ hn
            rw [hd j (by omega)] at e2
            rintro (h0 | h0)
            · omega
            · apply h0
              rw [hd i hlt, hd (i - 1) (by omega)]
              have m1 := eighths_mono c j (i - 1) (by omega) (by omega)
              have m2 := eighths_mono c (i - 1) i hlt (by omega)
              omega
    exact lp _ 0 rfl (by omega)
  · rw [cardsOf, if_neg (by simpa using c)]
theorem impl_CardsOf_ev (l : List Int) (hl : l.length ≤ 1099511627776) : Ev (fun k => impl_CardsOf.f k l) (cardsOf l) := by
  unfold impl_CardsOf.f
  refine Ev.bind (impl_SetOk_ev l hl) (Ev.cases (fun c => ?_) (fun c => Ev.eq ?_))
  · have c : setFrom l 0 := by simpa using c
    rw [cardsOf, if_pos c]
    have lp : ∀ (d i : Nat), l.length - i = d → i ≤ l.length → Ev (fun k => impl_CardsOf.l0 k (eighths (l.take i)) l (l.length : Int) (i : Int)) (Lib.compact (eighths l)) := by
      intro d
      induction d with
      | zero =>
        intro i hd hi
        refine Ev.step (fun k => by rw [impl_CardsOf.l0]) (Ev.neg (by omega) ?_)
        rw [List.take_of_length_le (by omega)]
        exact Ev.bindo (by unfold slices_Compact_int64_int64.f; rw [if_pos (by simpa [eighths] using hl)]) (Ev.eq rfl)
      | succ d ih =>
        intro i hd hi
        have hlt : i < l.length := by omega
        have hr := c i hlt (by omega)
        refine Ev.step (fun k => by rw [impl_CardsOf.l0]) ?_
        rw [rd_get hlt, Int.tdiv_eq_ediv_of_nonneg hr.1, w64 (x := l[i] / 8) (by omega) (by omega), show wrap64 ((i : Int) + 1) = ((i + 1 : Nat) : Int) from by rw [w64 (by omega) (by omega)]; omega]
        refine Ev.pos (by omega) (Ev.pos (by omega) (Ev.pos (by omega) (Ev.pos (by simp [eighths]; omega) ?_)))
        have e : eighths (l.take (i + 1)) = eighths (l.take i) ++ [l[i] / 8] := by
          rw [take_snoc2 l i hlt]
          simp only [eighths, List.map_append, List.map_cons, List.map_nil]
        rw [← e]
        exact ih (i + 1) (by omega) (by omega)
    exact lp _ 0 rfl (by omega)
  · rw [cardsOf, if_neg (by simpa using c)]
theorem cardsOf_length (l : List Int) : (cardsOf l).length ≤ l.length := by
  unfold cardsOf
  split
  · have := compact_len (eighths l)
    simpa [eighths] using this
  · simp
end Go.Proofs.Ytpeimlpipopeoaa.Pure
