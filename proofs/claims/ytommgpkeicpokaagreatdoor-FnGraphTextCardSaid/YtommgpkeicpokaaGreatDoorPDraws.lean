/- The reader of draws: each draw answers, stays within its code, and lies in its range. For codes of at most 2^40 bytes. -/
import Derived.Test.YtommgpkeicpokaaGreatDoorPWord
import Derived.Test.YtommgpkeicpokaaGreatDoorPBits
import Derived.Test.YtommgpkeicpokaaGreatDoorF3
namespace Go.Proofs.YtommgpkeicpokaaGreatDoor.Abs
open Go Go.RowKit
set_option linter.unusedVariables false
set_option linter.unusedSectionVars false
set_option linter.unusedSimpArgs false

/-- A code and a place in it. -/
structure Rd (l : List Int) (p : Int) : Prop where
  bytes : isBytes l
  len : l.length ≤ 1099511627776
  lo : 0 ≤ p
  hi : p ≤ l.length
theorem Rd.start {l : List Int} (hb : isBytes l) (hl : l.length ≤ 1099511627776) : Rd l 0 := ⟨hb, hl, by omega, by omega⟩
theorem next_f {l : List Int} {p : Int} (h : Rd l p) : ∃ b q, spec_l1Rd_next.f l p = some (l, q, b) ∧ 0 ≤ b ∧ b ≤ 255 ∧ Rd l q := by
  obtain ⟨hb, hl, h0, h1⟩ := h
  unfold spec_l1Rd_next.f
  by_cases c : p ≥ (l.length : Int)
  · exact ⟨0, p, by rw [if_pos c], by omega, by omega, hb, hl, h0, h1⟩
  · have hg := isBytes_getD hb p.toNat
    have e : rd l p = l.getD p.toNat 0 := rfl
    rw [if_neg c, w64 (x := p + 1) (by omega) (by omega), w64 (x := p + 1 - 1) (by omega) (by omega), show p + 1 - 1 = p from by omega, if_pos h0, if_pos (by omega), w64 (x := rd l p) (by omega) (by omega)]
    exact ⟨_, _, rfl, by omega, by omega, hb, hl, by omega, by omega⟩
theorem tmod_range {x n : Int} (hx : 0 ≤ x) (hn : 0 < n) : 0 ≤ Int.tmod x n ∧ Int.tmod x n < n := by
  rw [Int.tmod_eq_emod_of_nonneg hx]
  exact ⟨Int.emod_nonneg _ (by omega), Int.emod_lt_of_pos _ hn⟩
/-- below n: one of 0 .. n - 1. -/
theorem below_f {l : List Int} {p : Int} (h : Rd l p) (n : Int) (hn : 1 ≤ n) (hn2 : n ≤ 65536) : ∃ v q, spec_l1Rd_below.f l p n = some (l, q, v) ∧ 0 ≤ v ∧ v < n ∧ Rd l q := by
  unfold spec_l1Rd_below.f
  by_cases c : n ≤ 1
  · exact ⟨0, p, by rw [if_pos c], by omega, by omega, h⟩
  · rw [if_neg c]
    by_cases c2 : n ≤ 256
    · obtain ⟨b, q, e, h0, h1, hq⟩ := next_f h
      have hm := tmod_range h0 (show 0 < n by omega)
      rw [if_pos c2, e, Option.bind_some, if_neg (by omega)]
      exact ⟨_, _, rfl, hm.1, hm.2, hq⟩
    · obtain ⟨b, q, e, h0, h1, hq⟩ := next_f h
      obtain ⟨b2, q2, e2, h2, h3, hq2⟩ := next_f hq
      have hm := tmod_range (show 0 ≤ b * 256 + b2 by omega) (show 0 < n by omega)
      rw [if_neg c2, e, Option.bind_some]
      simp only []
      rw [e2, Option.bind_some, if_neg (by omega)]
      simp only []
      rw [w64 (x := b * 256) (by omega) (by omega), w64 (x := b * 256 + b2) (by omega) (by omega)]
      exact ⟨_, _, rfl, hm.1, hm.2, hq2⟩
theorem once_f {l : List Int} {p : Int} (h : Rd l p) (n : Int) (hn : 1 ≤ n) (hn2 : n ≤ 65536) : ∃ v q, spec_l1Rd_once.f l p n = some (l, q, v) ∧ Rd l q := by
  obtain ⟨v, q, e, _, _, hq⟩ := below_f h n hn hn2
  unfold spec_l1Rd_once.f
  rw [e, Option.bind_some]
  exact ⟨_, _, rfl, hq⟩
/-- word: a number of 64 bits. -/
theorem word_ev {l : List Int} {p : Int} (h : Rd l p) : ∃ v q, Ev (fun k => spec_l1Rd_word.f k l p) (l, q, v) ∧ 0 ≤ v ∧ v < 18446744073709551616 ∧ Rd l q := by
  have lp : ∀ (d i : Nat) (f : Nat → Int) (p : Int), 8 - i = d → i ≤ 8 → (∀ j, 0 ≤ f j ∧ f j ≤ 255) → Rd l p → ∃ v q, Ev (fun k => spec_l1Rd_word.p8 k l p (be f i) (i : Int)) (l, q, v) ∧ 0 ≤ v ∧ v < 18446744073709551616 ∧ Rd l q := by
    intro d
    induction d with
    | zero =>
      intro i f p hd hi hf hp
      obtain rfl : i = 8 := by omega
      have hr := be_range f hf 8
      have e8 : (256 : Int) ^ 8 = 18446744073709551616 := by decide
      exact ⟨_, _, Ev.step (fun k => by rw [spec_l1Rd_word.p8]) (Ev.neg (by omega) (Ev.eq rfl)), hr.1, by omega, hp⟩
    | succ d ih =>
      intro i f p hd hi hf hp
      obtain ⟨b, q, e, h0, h1, hq⟩ := next_f hp
      obtain ⟨v, q2, he, hv⟩ := ih (i + 1) (fun j => if j = i then b else f j) q (by omega) (by omega) (fun j => by
        by_cases c : j = i
        · simp only [if_pos c]; exact ⟨h0, h1⟩
        · simp only [if_neg c]; exact hf j) hq
      refine ⟨v, q2, Ev.step (fun k => by rw [spec_l1Rd_word.p8]) (Ev.pos (by omega) (Ev.bindo e ?_)), hv⟩
      have hb := be_step_u64 (fun j => if j = i then b else f j) (fun j => by
        by_cases c : j = i
        · simp only [if_pos c]; exact ⟨h0, h1⟩
        · simp only [if_neg c]; exact hf j) i (by omega)
      rw [be_congr (f := fun j => if j = i then b else f j) (g := f) i (fun j hj => if_neg (by omega))] at hb
      simp only [if_true] at hb
      simp only []
      rw [shl8_u64, orA_eq, hb, show wrap64 ((i : Int) + 1) = ((i + 1 : Nat) : Int) from by rw [w64 (by omega) (by omega)]; omega]
      exact he
  unfold spec_l1Rd_word.f
  exact lp 8 0 (fun _ => 0) p rfl (by omega) (fun _ => by omega) h
theorem u64_id {x : Int} (h0 : 0 ≤ x) (h1 : x < 18446744073709551616) : IntKind.u64.wrap x = x := by
  simp [IntKind.wrap, IntKind.bits, IntKind.signed]
  omega
/-- near lo hi: one of lo .. hi, or an end of it. -/
theorem near_ev {l : List Int} {p : Int} (h : Rd l p) (lo hi : Int) (h0 : -2305843009213693952 ≤ lo) (h1 : lo ≤ 2305843009213693952) (h2 : -2305843009213693952 ≤ hi) (h3 : hi ≤ 2305843009213693952) :
    ∃ v q, Ev (fun k => spec_l1Rd_near.f k l p lo hi) (l, q, v) ∧ (lo ≤ hi → lo ≤ v ∧ v ≤ hi) ∧ (v = hi ∨ lo ≤ v) ∧ -2305843009213693952 ≤ v ∧ v ≤ 2305843009213693952 ∧ Rd l q := by
  obtain ⟨v, q, e, hv0, hv1, hq⟩ := below_f h 8 (by omega) (by omega)
  unfold spec_l1Rd_near.f
  by_cases c0 : v = 0
  · exact ⟨_, _, Ev.bindo e (Ev.pos c0 (Ev.eq rfl)), fun _ => by omega, by omega, by omega, by omega, hq⟩
  · by_cases c1 : v = 1
    · exact ⟨_, _, Ev.bindo e (Ev.neg c0 (Ev.pos c1 (Ev.eq rfl))), fun _ => by omega, by omega, by omega, by omega, hq⟩
    · by_cases c2 : hi < lo
      · exact ⟨_, _, Ev.bindo e (Ev.neg c0 (Ev.neg c1 (Ev.pos c2 (Ev.eq rfl)))), fun _ => by omega, by omega, by omega, by omega, hq⟩
      · obtain ⟨w, q2, ew, hw0, hw1, hq2⟩ := word_ev hq
        have hm := tmod_range (show 0 ≤ w / 2 by omega) (show 0 < hi - lo + 1 by omega)
        refine ⟨lo + Int.tmod (w / 2) (hi - lo + 1), q2, Ev.bindo e (Ev.neg c0 (Ev.neg c1 (Ev.neg c2 (Ev.bind ew ?_)))), fun _ => by omega, by omega, by omega, by omega, hq2⟩
        rw [w64 (x := hi - lo) (by omega) (by omega), w64 (x := hi - lo + 1) (by omega) (by omega), u64_id (x := hi - lo + 1) (by omega) (by omega)]
        refine Ev.neg (by omega) ?_
        simp only []
        rw [shr1_u64, w64 (x := Int.tmod (w / 2) (hi - lo + 1)) (by omega) (by omega), w64 (x := lo + Int.tmod (w / 2) (hi - lo + 1)) (by omega) (by omega)]
        exact Ev.eq rfl
/-- off lo hi: as near, now and then just outside, or an end of int64. -/
theorem off_ev {l : List Int} {p : Int} (h : Rd l p) (lo hi : Int) (h0 : -2305843009213693952 ≤ lo) (h1 : lo ≤ 2305843009213693952) (h2 : -2305843009213693952 ≤ hi) (h3 : hi ≤ 2305843009213693952) :
    ∃ v q, Ev (fun k => spec_l1Rd_off.f k l p lo hi) (l, q, v) ∧ -9223372036854775808 ≤ v ∧ v ≤ 9223372036854775807 ∧ Rd l q := by
  obtain ⟨o, q, e, hq⟩ := once_f h 24 (by omega) (by omega)
  unfold spec_l1Rd_off.f
  by_cases c : o = true
  · obtain ⟨v, q2, e2, hv0, hv1, hq2⟩ := below_f hq 4 (by omega) (by omega)
    refine ⟨rd [wrap64 (lo - 1), wrap64 (hi + 1), (-9223372036854775808), 9223372036854775807] v, q2, Ev.bindo e (Ev.pos c (Ev.bindo e2 (Ev.pos (by simp only []; omega) (Ev.pos (by simp only [List.length_cons, List.length_nil]; omega) (Ev.eq rfl))))), ?_, ?_, hq2⟩
    all_goals
      obtain rfl | rfl | rfl | rfl : v = 0 ∨ v = 1 ∨ v = 2 ∨ v = 3 := by omega
      · have := wrap64_range (lo - 1); simp [rd]; omega
      · have := wrap64_range (hi + 1); simp [rd]; omega
      · simp [rd]
      · simp [rd]
  · obtain ⟨v, q2, e2, _, _, hv0, hv1, hq2⟩ := near_ev hq lo hi (by omega) (by omega) (by omega) (by omega)
    exact ⟨v, q2, Ev.bindo e (Ev.neg c (Ev.bind e2 (Ev.eq rfl))), by omega, by omega, hq2⟩
end Go.Proofs.YtommgpkeicpokaaGreatDoor.Abs
