/- FnCards: of every drawn set the program and the reference tell the same cards, each the eighth of a member, each once, in order. No condition. -/
import Derived.Test.YtpeimlpipopeoaaXLawsFnCards
import Derived.Test.YtpeimlpipopeoaaQDrawSets
import Derived.Test.YtpeimlpipopeoaaQCards
namespace Go.Proofs.Ytpeimlpipopeoaa.Pure
open Go.RowKit Go.Proofs.Ytpeimlpipopeoaa.X Go.Proofs.YtpeimlpipopeoaaW.PrintWords Go.Proofs.YtpeimlpipopeoaaW.PrintLast
set_option linter.unusedVariables false
set_option linter.unusedSimpArgs false

theorem has_ev (l : List Int) (x : Int) (hl : l.length ≤ 1099511627776) : Ev (fun k => laws_has.f k l x) (decide (x ∈ l)) := by
  have lp : ∀ (d i : Nat), l.length - i = d → i ≤ l.length → x ∉ l.take i → Ev (fun k => laws_has.l0 k l x (i : Int)) (decide (x ∈ l)) := by
    intro d
    induction d with
    | zero =>
      intro i hd hi hn
      rw [List.take_of_length_le (by omega)] at hn
      refine Ev.step (fun k => by rw [laws_has.l0]) (Ev.neg (by omega) (Ev.eq ?_))
      simp [hn]
    | succ d ih =>
      intro i hd hi hn
      have hlt : i < l.length := by omega
      refine Ev.step (fun k => by rw [laws_has.l0]) ?_
      rw [rd_get hlt, show wrap64 ((i : Int) + 1) = ((i + 1 : Nat) : Int) from by rw [w64 (by omega) (by omega)]; omega]
      refine Ev.pos (by omega) (Ev.pos (by omega) (Ev.cases (fun e => Ev.eq ?_) (fun e => ?_)))
      · simp [← e]
      · exact ih (i + 1) (by omega) (by omega) (by
          rw [take_snoc2 l i hlt, List.mem_append, List.mem_singleton]
          exact fun h => h.elim hn (fun h => e h.symm))
  unfold laws_has.f
  exact lp _ 0 rfl (by omega) (by simp)
theorem sameInts_ev (l : List Int) (hl : l.length ≤ 1099511627776) : Ev (fun k => laws_sameInts.f k l l) true := by
  have lp : ∀ (d i : Nat), l.length - i = d → i ≤ l.length → Ev (fun k => laws_sameInts.l0 k l l (i : Int)) true := by
    intro d
    induction d with
    | zero =>
      intro i hd hi
      exact Ev.step (fun k => by rw [laws_sameInts.l0]) (Ev.neg (by omega) (Ev.eq rfl))
    | succ d ih =>
      intro i hd hi
      refine Ev.step (fun k => by rw [laws_sameInts.l0]) ?_
      rw [show wrap64 ((i : Int) + 1) = ((i + 1 : Nat) : Int) from by rw [w64 (by omega) (by omega)]; omega]
      exact Ev.pos (by omega) (Ev.pos (by omega) (Ev.pos (by omega) (Ev.pos rfl (ih (i + 1) (by omega) (by omega)))))
  unfold laws_sameInts.f
  exact Ev.pos rfl (lp _ 0 rfl (by omega))
theorem mem_cardsOf {l : List Int} (h : setFrom l 0) (x : Int) : x ∈ cardsOf l ↔ ∃ y ∈ l, x = y / 8 := by
  rw [cardsOf, if_pos h, Lib.compact]
  obtain ⟨h1, h2⟩ := mem_compactUpTo (eighths l).toArray (eighths l).length (by simp)
  have hlen : (eighths l).length = l.length := by simp [eighths]
  have hd : ∀ j (h : j < l.length), (eighths l).toArray[j]! = l[j] / 8 := by
    intro j h
    rw [getElem!_pos _ j (by simpa [eighths] using h)]
    simp [eighths]
  constructor
  · intro hx
    obtain ⟨j, hj, e⟩ := h1 x hx
    rw [hd j (by omega)] at e
    exact ⟨l[j]'(by omega), List.getElem_mem _, e⟩
  · rintro ⟨y, hy, rfl⟩
    obtain ⟨j, hj, rfl⟩ := List.getElem_of_mem hy
    have := h2 j (by omega)
    rwa [hd j hj] at this
theorem cardsOf_sorted (l : List Int) : List.Pairwise (· < ·) (cardsOf l) := by
  unfold cardsOf
  split
  · rename_i h
    have hlen : (eighths l).length = l.length := by simp [eighths]
    have hd : ∀ j (h : j < l.length), (eighths l).toArray[j]! = l[j] / 8 := by
      intro j h
      rw [getElem!_pos _ j (by simpa [eighths] using h)]
      simp [eighths]
    have lp : ∀ m, m ≤ l.length → List.Pairwise (· < ·) (Lib.compactUpTo (eighths l).toArray m) := by
      intro m
      induction m with
      | zero => intro _; simp [Lib.compactUpTo]
      | succ m ih =>
        intro hm
        rw [Lib.compactUpTo_succ, List.pairwise_append]
        refine ⟨ih (by omega), by split <;> simp, fun a ha b hb => ?_⟩
        split at hb
        · rename_i k
          obtain rfl : b = (eighths l).toArray[m]! := by simpa using hb
          obtain ⟨j, hj, e⟩ := (mem_compactUpTo (eighths l).toArray m (by simp [eighths]; omega)).1 a ha
          have k2 : m = 0 ∨ (eighths l).toArray[m]! ≠ (eighths l).toArray[m - 1]! := by simpa [Lib.keeps] using k
          rcases k2 with k2 | k2
          · omega
          · rw [hd m (by omega), hd (m - 1) (by omega)] at k2
            rw [e, hd m (by omega), hd j (by omega)]
            have m1 := eighths_mono h j (m - 1) (by omega) (by omega)
            have m2 := eighths_mono h (m - 1) m (by omega) (by omega)
            omega
        · cases hb
    rw [Lib.compact]
    exact lp _ (by omega)
  · exact List.Pairwise.nil
theorem FnCards : laws_FnCards.Pure := by
  intro l _ hl8 hb
  refine Ev.rounds ?_
  unfold laws_FnCards.f
  refine Ev.bindo rfl ?_
  refine Ev.cases (fun _ => Ev.eq rfl) (fun c => ?_)
  have hlen : l.length ≤ 1099511627776 := by
    have : ¬ (l.length : Int) > 1048576 := by simpa using c
    omega
  obtain ⟨s, q, hs, hs9, _⟩ := set_ev (Rd.start (l := l) (isBytes_of hb) hlen)
  have hdraw : Ev (fun k => spec_DrawCardsOf.f k l) s := by
    unfold spec_DrawCardsOf.f spec_DrawSetOk.f
    exact Ev.bind (Ev.bindo rfl (Ev.bind hs (Ev.eq rfl))) (Ev.eq rfl)
  have hs40 : s.length ≤ 1099511627776 := by omega
  have hc9 := cardsOf_length s
  refine Ev.bind hdraw (Ev.bind (impl_CardsOf_ev s hs40) (Ev.bind (spec_CardsOf_ev s hs40) (Ev.bind (sameInts_ev _ (by omega)) (Ev.pos rfl (Ev.bind (spec_SetOk_ev s hs40) ?_)))))
  refine Ev.step (fun k => by rw [laws_FnCards.j0]) (Ev.cases (fun _ => ?_) (fun c => ?_))
  · exact Ev.bind (spec_CardsOf_ev s hs40) (Ev.bind (sameInts_ev _ (by omega)) (Ev.eq rfl))
  have hset : setFrom s 0 := by simpa using c
  have lp1 : ∀ (d i : Nat), (cardsOf s).length - i = d → i ≤ (cardsOf s).length → Ev (fun k => laws_FnCards.l1 k (cardsOf s) (eighths s) (i : Int)) true := by
    intro d
    induction d with
    | zero =>
      intro i hd hi
      exact Ev.step (fun k => by rw [laws_FnCards.l1]) (Ev.neg (by omega) (Ev.eq rfl))
    | succ d ih =>
      intro i hd hi
      have hlt : i < (cardsOf s).length := by omega
      have he : (eighths s).length ≤ 1099511627776 := by simp only [eighths, List.length_map]; omega
      have hm : (cardsOf s)[i] ∈ eighths s := by
        obtain ⟨y, hy, e⟩ := (mem_cardsOf hset _).1 (List.getElem_mem hlt)
        exact List.mem_map.2 ⟨y, hy, e.symm⟩
      refine Ev.step (fun k => by rw [laws_FnCards.l1]) (Ev.pos (by omega) (Ev.pos (by omega) (Ev.bind (has_ev _ _ he) ?_)))
      rw [rd_get hlt, show wrap64 ((i : Int) + 1) = ((i + 1 : Nat) : Int) from by rw [w64 (by omega) (by omega)]; omega]
      refine Ev.pos (by simpa using hm) (Ev.cases (fun p => ?_) (fun _ => ih (i + 1) (by omega) (by omega)))
      have hlt1 : i - 1 < (cardsOf s).length := by omega
      rw [show wrap64 ((i : Int) - 1) = ((i - 1 : Nat) : Int) from by rw [w64 (by omega) (by omega)]; omega, rd_get hlt1]
      have := List.pairwise_iff_getElem.1 (cardsOf_sorted s) (i - 1) i hlt1 hlt (by omega)
      exact Ev.pos (by omega) (Ev.pos (by omega) (Ev.neg (by omega) (ih (i + 1) (by omega) (by omega))))
  have lp0 : ∀ (d i : Nat), s.length - i = d → i ≤ s.length → Ev (fun k => laws_FnCards.l0 k s (cardsOf s) (eighths (s.take i)) (i : Int)) true := by
    intro d
    induction d with
    | zero =>
      intro i hd hi
      refine Ev.step (fun k => by rw [laws_FnCards.l0]) (Ev.neg (by omega) ?_)
      rw [List.take_of_length_le (by omega)]
      exact lp1 _ 0 rfl (by omega)
    | succ d ih =>
      intro i hd hi
      have hlt : i < s.length := by omega
      have hr := hset i hlt (by omega)
      refine Ev.step (fun k => by rw [laws_FnCards.l0]) ?_
      rw [rd_get hlt, Int.tdiv_eq_ediv_of_nonneg hr.1, w64 (x := s[i] / 8) (by omega) (by omega), show wrap64 ((i : Int) + 1) = ((i + 1 : Nat) : Int) from by rw [w64 (by omega) (by omega)]; omega]
      have hm : s[i] / 8 ∈ cardsOf s := (mem_cardsOf hset _).2 ⟨_, List.getElem_mem hlt, rfl⟩
      refine Ev.pos (by omega) (Ev.pos (by omega) (Ev.bind (has_ev _ _ (by omega)) (Ev.pos (by simpa using hm) (Ev.pos (by simp [eighths]; omega) ?_))))
      have e : eighths (s.take (i + 1)) = eighths (s.take i) ++ [s[i] / 8] := by
        rw [take_snoc2 s i hlt]
        simp only [eighths, List.map_append, List.map_cons, List.map_nil]
      rw [← e]
      exact ih (i + 1) (by omega) (by omega)
  exact lp0 _ 0 rfl (by omega)
end Go.Proofs.Ytpeimlpipopeoaa.Pure
