/- The reader of draws: each draw answers, stays within its code, and lies in its range. For codes of at most 2^40 bytes. (Merged out of this claim's own texts.) -/
import Derived.Test.YtlljkankongifaaGreatDoorBFnWalked3
import Derived.Test.YtlljkankongifaaGreatDoorProg
import Derived.Shelf.Strings.Builder1
import Derived.Shelf.Strings.Builder2
import Derived.Shelf.Strings.Trim
import Derived.Shelf.Small.Utf8
import Derived.Shelf.Small.Strs
import Derived.Shelf.Strings.BuilderF
import Derived.Shelf.Strings.BuilderK
import Derived.Shelf.Strings.Builder2Cap
import Derived.Shelf.Strings.Search1
import Derived.Shelf.Strings.Prefix
import Derived.Shelf.Strings.Runes
import Derived.Shelf.Strings.AsciiSet
import Derived.Shelf.Bits.Mul64
import Derived.Shelf.Strings.Repeat
import Derived.Shelf.Unicode.DecodeSlow
import Derived.Shelf.Strings.BuilderCap
import Derived.Ground.SlgfProg
import Derived.Shelf.SlicesE.IndexFunc
namespace Go.Proofs.YtlljkankongifaaGreatDoor.Abs
open Go Go.RowKit
set_option linter.unusedVariables false
set_option linter.unusedSectionVars false
set_option linter.unusedSimpArgs false

/-- A code and a place in it. -/
structure Rd (l : List Int) (p : Int) : Prop where
  bytes : isBytes l
  len : l.length ≤ 1099511627776
  lo : 0 ≤ p
  hi : p ≤ l.length
theorem Rd.start {l : List Int} (hb : isBytes l) (hl : l.length ≤ 1099511627776) : Rd l 0 := ⟨hb, hl, by omega, by omega⟩
theorem next_f {l : List Int} {p : Int} (h : Rd l p) : ∃ b q, spec_l1Rd_next.f l p = some (l, q, b) ∧ 0 ≤ b ∧ b ≤ 255 ∧ Rd l q := by
  obtain ⟨hb, hl, h0, h1⟩ := h
  unfold spec_l1Rd_next.f
  by_cases c : p ≥ (l.length : Int)
  · exact ⟨0, p, by rw [if_pos c], by omega, by omega, hb, hl, h0, h1⟩
  · have hg := isBytes_getD hb p.toNat
    have e : rd l p = l.getD p.toNat 0 := rfl
    rw [if_neg c, w64 (x := p + 1) (by omega) (by omega), w64 (x := p + 1 - 1) (by omega) (by omega), show p + 1 - 1 = p from by omega, if_pos h0, if_pos (by omega), w64 (x := rd l p) (by omega) (by omega)]
    exact ⟨_, _, rfl, by omega, by omega, hb, hl, by omega, by omega⟩
theorem tmod_range {x n : Int} (hx : 0 ≤ x) (hn : 0 < n) : 0 ≤ Int.tmod x n ∧ Int.tmod x n < n := by
  rw [Int.tmod_eq_emod_of_nonneg hx]
  exact ⟨Int.emod_nonneg _ (by omega), Int.emod_lt_of_pos _ hn⟩
/-- below n: one of 0 .. n - 1. -/
theorem below_f {l : List Int} {p : Int} (h : Rd l p) (n : Int) (hn : 1 ≤ n) (hn2 : n ≤ 65536) : ∃ v q, spec_l1Rd_below.f l p n = some (l, q, v) ∧ 0 ≤ v ∧ v < n ∧ Rd l q := by
  unfold spec_l1Rd_below.f
  by_cases c : n ≤ 1
  · exact ⟨0, p, by rw [if_pos c], by omega, by omega, h⟩
  · rw [if_neg c]
    by_cases c2 : n ≤ 256
    · obtain ⟨b, q, e, h0, h1, hq⟩ := next_f h
      have hm := tmod_range h0 (show 0 < n by omega)
      rw [if_pos c2, e, Option.bind_some, if_neg (by omega)]
      exact ⟨_, _, rfl, hm.1, hm.2, hq⟩
    · obtain ⟨b, q, e, h0, h1, hq⟩ := next_f h
      obtain ⟨b2, q2, e2, h2, h3, hq2⟩ := next_f hq
      have hm := tmod_range (show 0 ≤ b * 256 + b2 by omega) (show 0 < n by omega)
      rw [if_neg c2, e, Option.bind_some]
      simp only []
      rw [e2, Option.bind_some, if_neg (by omega)]
      simp only []
      rw [w64 (x := b * 256) (by omega) (by omega), w64 (x := b * 256 + b2) (by omega) (by omega)]
      exact ⟨_, _, rfl, hm.1, hm.2, hq2⟩
theorem once_f {l : List Int} {p : Int} (h : Rd l p) (n : Int) (hn : 1 ≤ n) (hn2 : n ≤ 65536) : ∃ v q, spec_l1Rd_once.f l p n = some (l, q, v) ∧ Rd l q := by
  obtain ⟨v, q, e, _, _, hq⟩ := below_f h n hn hn2
  unfold spec_l1Rd_once.f
  rw [e, Option.bind_some]
  exact ⟨_, _, rfl, hq⟩
/-- word: a number of 64 bits. -/
theorem word_ev {l : List Int} {p : Int} (h : Rd l p) : ∃ v q, Ev (fun k => spec_l1Rd_word.f k l p) (l, q, v) ∧ 0 ≤ v ∧ v < 18446744073709551616 ∧ Rd l q := by
  have lp : ∀ (d i : Nat) (f : Nat → Int) (p : Int), 8 - i = d → i ≤ 8 → (∀ j, 0 ≤ f j ∧ f j ≤ 255) → Rd l p → ∃ v q, Ev (fun k => spec_l1Rd_word.p8 k l p (be f i) (i : Int)) (l, q, v) ∧ 0 ≤ v ∧ v < 18446744073709551616 ∧ Rd l q := by
    intro d
    induction d with
    | zero =>
      intro i f p hd hi hf hp
      obtain rfl : i = 8 := by omega
      have hr := be_range f hf 8
      have e8 : (256 : Int) ^ 8 = 18446744073709551616 := by decide
      exact ⟨_, _, Ev.step (fun k => by rw [spec_l1Rd_word.p8]) (Ev.neg (by omega) (Ev.eq rfl)), hr.1, by omega, hp⟩
    | succ d ih =>
      intro i f p hd hi hf hp
      obtain ⟨b, q, e, h0, h1, hq⟩ := next_f hp
      obtain ⟨v, q2, he, hv⟩ := ih (i + 1) (fun j => if j = i then b else f j) q (by omega) (by omega) (fun j => by
        by_cases c : j = i
        · simp only [if_pos c]; exact ⟨h0, h1⟩
        · simp only [if_neg c]; exact hf j) hq
      refine ⟨v, q2, Ev.step (fun k => by rw [spec_l1Rd_word.p8]) (Ev.pos (by omega) (Ev.bindo e ?_)), hv⟩
      have hb := be_step_u64 (fun j => if j = i then b else f j) (fun j => by
        by_cases c : j = i
        · simp only [if_pos c]; exact ⟨h0, h1⟩
        · simp only [if_neg c]; exact hf j) i (by omega)
      rw [be_congr (f := fun j => if j = i then b else f j) (g := f) i (fun j hj => if_neg (by omega))] at hb
      simp only [if_true] at hb
      simp only []
      rw [shl8_u64, orA_eq, hb, show wrap64 ((i : Int) + 1) = ((i + 1 : Nat) : Int) from by rw [w64 (by omega) (by omega)]; omega]
      exact he
  unfold spec_l1Rd_word.f
  exact lp 8 0 (fun _ => 0) p rfl (by omega) (fun _ => by omega) h
theorem u64_id {x : Int} (h0 : 0 ≤ x) (h1 : x < 18446744073709551616) : IntKind.u64.wrap x = x := by
  simp [IntKind.wrap, IntKind.bits, IntKind.signed]
  omega
/-- near lo hi: one of lo .. hi, or an end of it. -/
theorem near_ev {l : List Int} {p : Int} (h : Rd l p) (lo hi : Int) (h0 : -2305843009213693952 ≤ lo) (h1 : lo ≤ 2305843009213693952) (h2 : -2305843009213693952 ≤ hi) (h3 : hi ≤ 2305843009213693952) :
    ∃ v q, Ev (fun k => spec_l1Rd_near.f k l p lo hi) (l, q, v) ∧ (lo ≤ hi → lo ≤ v ∧ v ≤ hi) ∧ (v = hi ∨ lo ≤ v) ∧ -2305843009213693952 ≤ v ∧ v ≤ 2305843009213693952 ∧ Rd l q := by
  obtain ⟨v, q, e, hv0, hv1, hq⟩ := below_f h 8 (by omega) (by omega)
  unfold spec_l1Rd_near.f
  by_cases c0 : v = 0
  · exact ⟨_, _, Ev.bindo e (Ev.pos c0 (Ev.eq rfl)), fun _ => by omega, by omega, by omega, by omega, hq⟩
  · by_cases c1 : v = 1
    · exact ⟨_, _, Ev.bindo e (Ev.neg c0 (Ev.pos c1 (Ev.eq rfl))), fun _ => by omega, by omega, by omega, by omega, hq⟩
    · by_cases c2 : hi < lo
      · exact ⟨_, _, Ev.bindo e (Ev.neg c0 (Ev.neg c1 (Ev.pos c2 (Ev.eq rfl)))), fun _ => by omega, by omega, by omega, by omega, hq⟩
      · obtain ⟨w, q2, ew, hw0, hw1, hq2⟩ := word_ev hq
        have hm := tmod_range (show 0 ≤ w / 2 by omega) (show 0 < hi - lo + 1 by omega)
        refine ⟨lo + Int.tmod (w / 2) (hi - lo + 1), q2, Ev.bindo e (Ev.neg c0 (Ev.neg c1 (Ev.neg c2 (Ev.bind ew ?_)))), fun _ => by omega, by omega, by omega, by omega, hq2⟩
        rw [w64 (x := hi - lo) (by omega) (by omega), w64 (x := hi - lo + 1) (by omega) (by omega), u64_id (x := hi - lo + 1) (by omega) (by omega)]
        refine Ev.neg (by omega) ?_
        simp only []
        rw [shr1_u64, w64 (x := Int.tmod (w / 2) (hi - lo + 1)) (by omega) (by omega), w64 (x := lo + Int.tmod (w / 2) (hi - lo + 1)) (by omega) (by omega)]
        exact Ev.eq rfl
/-- off lo hi: as near, now and then just outside, or an end of int64. -/
theorem off_ev {l : List Int} {p : Int} (h : Rd l p) (lo hi : Int) (h0 : -1099511627776 ≤ lo) (h1 : lo ≤ 1099511627776) (h2 : -1099511627776 ≤ hi) (h3 : hi ≤ 1099511627776) :
    ∃ v q, Ev (fun k => spec_l1Rd_off.f k l p lo hi) (l, q, v) ∧ -9223372036854775808 ≤ v ∧ v ≤ 9223372036854775807 ∧ Rd l q := by
  obtain ⟨o, q, e, hq⟩ := once_f h 24 (by omega) (by omega)
  unfold spec_l1Rd_off.f
  by_cases c : o = true
  · obtain ⟨v, q2, e2, hv0, hv1, hq2⟩ := below_f hq 4 (by omega) (by omega)
    refine ⟨rd [wrap64 (lo - 1), wrap64 (hi + 1), (-9223372036854775808), 9223372036854775807] v, q2, Ev.bindo e (Ev.pos c (Ev.bindo e2 (Ev.pos (by simp only []; omega) (Ev.pos (by simp only [List.length_cons, List.length_nil]; omega) (Ev.eq rfl))))), ?_, ?_, hq2⟩
    all_goals
      obtain rfl | rfl | rfl | rfl : v = 0 ∨ v = 1 ∨ v = 2 ∨ v = 3 := by omega
      · have := wrap64_range (lo - 1); simp [rd]; omega
      · have := wrap64_range (hi + 1); simp [rd]; omega
      · simp [rd]
      · simp [rd]
  · obtain ⟨v, q2, e2, _, _, hv0, hv1, hq2⟩ := near_ev hq lo hi (by omega) (by omega) (by omega) (by omega)
    exact ⟨v, q2, Ev.bindo e (Ev.neg c (Ev.bind e2 (Ev.eq rfl))), by omega, by omega, hq2⟩
end Go.Proofs.YtlljkankongifaaGreatDoor.Abs
namespace Go.Proofs.YtlljkankongifaaGreatDoor.Abs
open Go Go.RowKit
set_option linter.unusedVariables false
set_option linter.unusedSectionVars false
set_option linter.unusedSimpArgs false
theorem kinds_ev {l : List Int} {p : Int} (h : Rd l p) (most : Int) (h1 : 1 ≤ most) (h2 : most ≤ 100) : ∃ s q, Ev (fun k => spec_l1Rd_kinds.f k l p most) (l, q, s) ∧ (1 ≤ s.size ∧ s.size ≤ 100) ∧ Rd l q := by
  have lp : ∀ (d : Nat) (s : ByteArray) (p : Int), 1 ≤ s.size + d ∧ s.size + d ≤ 100 → Rd l p → ∃ s' q, Ev (fun k => spec_l1Rd_kinds.p8 k l p s (d : Int)) (l, q, s') ∧ (1 ≤ s'.size ∧ s'.size ≤ 100) ∧ Rd l q := by
    intro d
    induction d with
    | zero =>
      intro s p hs hp
      exact ⟨_, _, Ev.step (fun k => by rw [spec_l1Rd_kinds.p8]) (Ev.neg (by omega) (Ev.eq rfl)), by omega, hp⟩
    | succ d ih =>
      intro s p hs hp
      obtain ⟨v, q, e, hv0, hv1, hq⟩ := below_f hp 2 (by omega) (by omega)
      have hz : (rdOf ByteArray.empty [(⟨#[105]⟩ : ByteArray), (⟨#[114]⟩ : ByteArray)] v).size = 1 := by
        obtain rfl | rfl : v = 0 ∨ v = 1 := by omega
        · rfl
        · rfl
      obtain ⟨s', q2, e2, hs', hq2⟩ := ih (s ++ rdOf ByteArray.empty [(⟨#[105]⟩ : ByteArray), (⟨#[114]⟩ : ByteArray)] v) q (by rw [ByteArray.size_append, hz]; omega) hq
      refine ⟨s', q2, ?_, hs', hq2⟩
      refine Ev.step (fun k => by rw [spec_l1Rd_kinds.p8]) ?_
      refine Ev.pos (by omega) (Ev.bindo e ?_)
      rw [show wrap64 (((d + 1 : Nat) : Int) - 1) = (d : Int) from by rw [w64 (by omega) (by omega)]; omega]
      refine Ev.pos hv0 (Ev.pos (by simp only []; omega) ?_)
      exact Ev.pos (by simp only [hz]; omega) e2
  obtain ⟨v, q, e, hv0, hv1, hq⟩ := below_f h most (by omega) (by omega)
  obtain ⟨s, q2, e2, hs, hq2⟩ := lp (1 + v).toNat ⟨#[]⟩ q (by show 1 ≤ 0 + _ ∧ 0 + _ ≤ _; omega) hq
  refine ⟨s, q2, ?_, hs, hq2⟩
  unfold spec_l1Rd_kinds.f
  refine Ev.bindo e ?_
  simp only []
  rw [show wrap64 (1 + v) = ((1 + v).toNat : Int) from by rw [w64 (by omega) (by omega)]; omega]
  exact e2
theorem sizes_snoc {ts : List ByteArray} {s : ByteArray} {n : Nat} (h : ∀ x ∈ ts, 1 ≤ x.size ∧ x.size ≤ n) (hz : 1 ≤ s.size ∧ s.size ≤ n) : ∀ x ∈ ts ++ [s], 1 ≤ x.size ∧ x.size ≤ n := by
  intro x hx
  rcases List.mem_append.1 hx with hx | hx
  · exact h x hx
  · simp only [List.mem_singleton] at hx
    subst hx
    exact hz
theorem drawTypes1_ev {l : List Int} {p : Int} (h : Rd l p) : ∃ ts q, Ev (fun k => spec_l1Rd_types.f k l p) (l, q, ts) ∧ 1 ≤ ts.length ∧ ts.length ≤ 100 ∧ (∀ x ∈ ts, 1 ≤ x.size ∧ x.size ≤ 100) ∧ Rd l q := by
  have lp : ∀ (d : Nat) (ts : List ByteArray) (p : Int), 1 ≤ ts.length → ts.length + d ≤ 100 → (∀ x ∈ ts, 1 ≤ x.size ∧ x.size ≤ 100) → Rd l p → ∃ ts' q, Ev (fun k => spec_l1Rd_types.p8 k l p ts (d : Int)) (l, q, ts') ∧ 1 ≤ ts'.length ∧ ts'.length ≤ 100 ∧ (∀ x ∈ ts', 1 ≤ x.size ∧ x.size ≤ 100) ∧ Rd l q := by
    intro d
    induction d with
    | zero =>
      intro ts p h1 h2 hs hp
      exact ⟨_, _, Ev.step (fun k => by rw [spec_l1Rd_types.p8]) (Ev.neg (by omega) (Ev.eq rfl)), h1, by omega, hs, hp⟩
    | succ d ih =>
      intro ts p h1 h2 hs hp
      obtain ⟨b, q, e, hq⟩ := once_f hp 4 (by omega) (by omega)
      have e1 : wrap64 (((d + 1 : Nat) : Int) - 1) = (d : Int) := by rw [w64 (by omega) (by omega)]; omega
      cases b with
      | true =>
        obtain ⟨s, q2, e2, hz, hq2⟩ := kinds_ev hq 23 (by omega) (by omega)
        obtain ⟨ts', q3, e3, hr⟩ := ih (ts ++ [s]) q2 (by simp) (by simp; omega) (sizes_snoc hs hz) hq2
        refine ⟨ts', q3, ?_, hr⟩
        refine Ev.step (fun k => by rw [spec_l1Rd_types.p8]) ?_
        refine Ev.pos (by omega) (Ev.bindo e ?_)
        refine Ev.pos rfl (Ev.bind e2 ?_)
        refine Ev.pos (by omega) ?_
        rw [e1]
        exact e3
      | false =>
        obtain ⟨s, q2, e2, hz, hq2⟩ := kinds_ev hq 5 (by omega) (by omega)
        obtain ⟨ts', q3, e3, hr⟩ := ih (ts ++ [s]) q2 (by simp) (by simp; omega) (sizes_snoc hs hz) hq2
        refine ⟨ts', q3, ?_, hr⟩
        refine Ev.step (fun k => by rw [spec_l1Rd_types.p8]) ?_
        refine Ev.pos (by omega) (Ev.bindo e ?_)
        refine Ev.neg (by simp) (Ev.bind e2 ?_)
        refine Ev.pos (by omega) ?_
        rw [e1]
        exact e3
  obtain ⟨v, q, e, hv0, hv1, hq⟩ := below_f h 4 (by omega) (by omega)
  obtain ⟨n, q2, e2, hn0, hn1, hq2⟩ := below_f hq 3 (by omega) (by omega)
  have hz : 1 ≤ (rdOf ByteArray.empty [(⟨#[105, 114]⟩ : ByteArray), (⟨#[114, 114, 105]⟩ : ByteArray), (⟨#[114, 105]⟩ : ByteArray), (⟨#[105, 114, 114]⟩ : ByteArray)] v).size ∧ (rdOf ByteArray.empty [(⟨#[105, 114]⟩ : ByteArray), (⟨#[114, 114, 105]⟩ : ByteArray), (⟨#[114, 105]⟩ : ByteArray), (⟨#[105, 114, 114]⟩ : ByteArray)] v).size ≤ 100 := by
    obtain rfl | rfl | rfl | rfl : v = 0 ∨ v = 1 ∨ v = 2 ∨ v = 3 := by omega
    · show 1 ≤ 2 ∧ 2 ≤ 100; omega
    · show 1 ≤ 3 ∧ 3 ≤ 100; omega
    · show 1 ≤ 2 ∧ 2 ≤ 100; omega
    · show 1 ≤ 3 ∧ 3 ≤ 100; omega
  obtain ⟨ts, q3, e3, hr⟩ := lp n.toNat [rdOf ByteArray.empty [(⟨#[105, 114]⟩ : ByteArray), (⟨#[114, 114, 105]⟩ : ByteArray), (⟨#[114, 105]⟩ : ByteArray), (⟨#[105, 114, 114]⟩ : ByteArray)] v] q2 (by simp) (by simp only [List.length_cons, List.length_nil]; omega) (fun x hx => by simp only [List.mem_singleton] at hx; subst hx; exact hz) hq2
  refine ⟨ts, q3, ?_, hr⟩
  unfold spec_l1Rd_types.f
  refine Ev.bindo e (Ev.pos hv0 (Ev.pos (by simp only []; omega) (Ev.bindo e2 ?_)))
  simp only []
  rw [show n = ((n.toNat : Nat) : Int) from by omega]
  exact e3
theorem drawTypes_ev {l : List Int} {p : Int} (h : Rd l p) : ∃ ts q, Ev (fun k => spec_l1Rd_types.f k l p) (l, q, ts) ∧ 1 ≤ ts.length ∧ ts.length ≤ 100 ∧ (∀ x ∈ ts, x.size ≤ 100) ∧ Rd l q := by
  obtain ⟨ts, q, e, h1, h2, h3, h4⟩ := drawTypes1_ev h
  exact ⟨ts, q, e, h1, h2, fun x hx => (h3 x hx).2, h4⟩
end Go.Proofs.YtlljkankongifaaGreatDoor.Abs
namespace Go.Proofs.YtlljkankongifaaGreatDoor.Abs.Pu
open Go Go.RowKit
set_option linter.unusedVariables false
set_option linter.unusedSectionVars false
set_option linter.unusedSimpArgs false
theorem kinds2_ev {l : List Int} {p : Int} (h : Rd l p) (most : Int) (h1 : 1 ≤ most) (h2 : most ≤ 23) : ∃ s q, Ev (fun k => spec_l1Rd_kinds.f k l p most) (l, q, s) ∧ typeOk s = true ∧ Rd l q := by
  have lp : ∀ (d : Nat) (s : ByteArray) (p : Int), 1 ≤ s.size + d ∧ s.size + d ≤ 23 → kindsOk s.data.toList = true → Rd l p → ∃ s' q, Ev (fun k => spec_l1Rd_kinds.p8 k l p s (d : Int)) (l, q, s') ∧ typeOk s' = true ∧ Rd l q := by
    intro d
    induction d with
    | zero =>
      intro s p hs hk hp
      refine ⟨s, p, Ev.step (fun k => by rw [spec_l1Rd_kinds.p8]) (Ev.neg (by omega) (Ev.eq rfl)), ?_, hp⟩
      unfold typeOk
      rw [decide_eq_true (by omega), hk]
      rfl
    | succ d ih =>
      intro s p hs hk hp
      obtain ⟨v, q, e, hv0, hv1, hq⟩ := below_f hp 2 (by omega) (by omega)
      have hz : (rdOf ByteArray.empty [(⟨#[105]⟩ : ByteArray), (⟨#[114]⟩ : ByteArray)] v).size = 1 ∧ kindsOk (rdOf ByteArray.empty [(⟨#[105]⟩ : ByteArray), (⟨#[114]⟩ : ByteArray)] v).data.toList = true := by
        obtain rfl | rfl : v = 0 ∨ v = 1 := by omega
        · exact ⟨rfl, rfl⟩
        · exact ⟨rfl, rfl⟩
      obtain ⟨s', q2, e2, hs', hq2⟩ := ih (s ++ rdOf ByteArray.empty [(⟨#[105]⟩ : ByteArray), (⟨#[114]⟩ : ByteArray)] v) q (by rw [ByteArray.size_append, hz.1]; omega) (by
        unfold kindsOk at hk hz ⊢
        rw [ByteArray.data_append, Array.toList_append, List.all_append, hk, hz.2]
        rfl) hq
      refine ⟨s', q2, ?_, hs', hq2⟩
      refine Ev.step (fun k => by rw [spec_l1Rd_kinds.p8]) ?_
      refine Ev.pos (by omega) (Ev.bindo e ?_)
      rw [show wrap64 (((d + 1 : Nat) : Int) - 1) = (d : Int) from by rw [w64 (by omega) (by omega)]; omega]
      refine Ev.pos hv0 (Ev.pos (by simp only []; omega) ?_)
      exact Ev.pos (by simp only [hz.1]; omega) e2
  obtain ⟨v, q, e, hv0, hv1, hq⟩ := below_f h most (by omega) (by omega)
  obtain ⟨s, q2, e2, hs, hq2⟩ := lp (1 + v).toNat ⟨#[]⟩ q (by show 1 ≤ 0 + _ ∧ 0 + _ ≤ _; omega) rfl hq
  refine ⟨s, q2, ?_, hs, hq2⟩
  unfold spec_l1Rd_kinds.f
  refine Ev.bindo e ?_
  simp only []
  rw [show wrap64 (1 + v) = ((1 + v).toNat : Int) from by rw [w64 (by omega) (by omega)]; omega]
  exact e2
theorem all_snoc {ts : List ByteArray} {s : ByteArray} (h : ts.all typeOk = true) (hz : typeOk s = true) : (ts ++ [s]).all typeOk = true := by
  rw [List.all_append, h]
  simp [hz]
theorem types2_ev {l : List Int} {p : Int} (h : Rd l p) : ∃ ts q, Ev (fun k => spec_l1Rd_types.f k l p) (l, q, ts) ∧ typesOk ts = true ∧ Rd l q := by
  have lp : ∀ (d : Nat) (ts : List ByteArray) (p : Int), 1 ≤ ts.length → ts.length + d ≤ 12 → ts.all typeOk = true → Rd l p → ∃ ts' q, Ev (fun k => spec_l1Rd_types.p8 k l p ts (d : Int)) (l, q, ts') ∧ typesOk ts' = true ∧ Rd l q := by
    intro d
    induction d with
    | zero =>
      intro ts p h1 h2 hs hp
      refine ⟨ts, p, Ev.step (fun k => by rw [spec_l1Rd_types.p8]) (Ev.neg (by omega) (Ev.eq rfl)), ?_, hp⟩
      unfold typesOk
      rw [decide_eq_true (by omega), hs]
      rfl
    | succ d ih =>
      intro ts p h1 h2 hs hp
      obtain ⟨b, q, e, hq⟩ := once_f hp 4 (by omega) (by omega)
      have e1 : wrap64 (((d + 1 : Nat) : Int) - 1) = (d : Int) := by rw [w64 (by omega) (by omega)]; omega
      cases b with
      | true =>
        obtain ⟨s, q2, e2, hz, hq2⟩ := kinds2_ev hq 23 (by omega) (by omega)
        obtain ⟨ts', q3, e3, hr⟩ := ih (ts ++ [s]) q2 (by simp) (by simp; omega) (all_snoc hs hz) hq2
        refine ⟨ts', q3, ?_, hr⟩
        refine Ev.step (fun k => by rw [spec_l1Rd_types.p8]) ?_
        rw [e1]
        exact Ev.pos (by omega) (Ev.bindo e (Ev.pos rfl (Ev.bind e2 (Ev.pos (by omega) e3))))
      | false =>
        obtain ⟨s, q2, e2, hz, hq2⟩ := kinds2_ev hq 5 (by omega) (by omega)
        obtain ⟨ts', q3, e3, hr⟩ := ih (ts ++ [s]) q2 (by simp) (by simp; omega) (all_snoc hs hz) hq2
        refine ⟨ts', q3, ?_, hr⟩
        refine Ev.step (fun k => by rw [spec_l1Rd_types.p8]) ?_
        rw [e1]
        exact Ev.pos (by omega) (Ev.bindo e (Ev.neg (by simp) (Ev.bind e2 (Ev.pos (by omega) e3))))
  obtain ⟨v, q, e, hv0, hv1, hq⟩ := below_f h 4 (by omega) (by omega)
  obtain ⟨n, q2, e2, hn0, hn1, hq2⟩ := below_f hq 3 (by omega) (by omega)
  have hz : typeOk (rdOf ByteArray.empty [(⟨#[105, 114]⟩ : ByteArray), (⟨#[114, 114, 105]⟩ : ByteArray), (⟨#[114, 105]⟩ : ByteArray), (⟨#[105, 114, 114]⟩ : ByteArray)] v) = true := by
    obtain rfl | rfl | rfl | rfl : v = 0 ∨ v = 1 ∨ v = 2 ∨ v = 3 := by omega
    all_goals rfl
  obtain ⟨ts, q3, e3, hr⟩ := lp n.toNat [rdOf ByteArray.empty [(⟨#[105, 114]⟩ : ByteArray), (⟨#[114, 114, 105]⟩ : ByteArray), (⟨#[114, 105]⟩ : ByteArray), (⟨#[105, 114, 114]⟩ : ByteArray)] v] q2 (by simp) (by simp only [List.length_cons, List.length_nil]; omega) (by simp only [List.all_cons, List.all_nil, hz]; rfl) hq2
  refine ⟨ts, q3, ?_, hr⟩
  unfold spec_l1Rd_types.f
  refine Ev.bindo e (Ev.pos hv0 (Ev.pos (by simp only []; omega) (Ev.bindo e2 ?_)))
  simp only []
  rw [show n = ((n.toNat : Nat) : Int) from by omega]
  exact e3
theorem config2_ev {l : List Int} {p : Int} (h : Rd l p) : ∃ (c : Cfg) (q : Int), Ev (fun k => spec_l1Rd_config.f k l p) (l, q, c.1, c.2.1, c.2.2.1, c.2.2.2) ∧ configOk c = true ∧ Rd l q := by
  obtain ⟨v1, q1, e1, a1, b1, h1⟩ := below_f h 10 (by omega) (by omega)
  obtain ⟨v2, q2, e2, a2, b2, h2⟩ := below_f h1 40 (by omega) (by omega)
  obtain ⟨ts, q3, e3, ht, h3⟩ := types2_ev h2
  obtain ⟨v4, q4, e4, a4, b4, h4⟩ := below_f h3 14 (by omega) (by omega)
  obtain ⟨o, q5, e5, h5⟩ := once_f h4 3 (by omega) (by omega)
  obtain ⟨v6, q6, e6, a6, b6, h6⟩ := below_f h5 200 (by omega) (by omega)
  have wA : wrap64 (wrap64 (4 + wrap64 (1 + v1)) + wrap64 (4 + v4)) = 9 + v1 + v4 := by
    rw [w64 (x := 1 + v1) (by omega) (by omega), w64 (x := 4 + (1 + v1)) (by omega) (by omega), w64 (x := 4 + v4) (by omega) (by omega), w64 (by omega) (by omega)]; omega
  have wB : wrap64 (9 + v1 + v4 + 40) = 49 + v1 + v4 := by rw [w64 (by omega) (by omega)]; omega
  have wC : wrap64 (4 + v6) = 4 + v6 := w64 (by omega) (by omega)
  have wD : wrap64 (1 + v1) = 1 + v1 := w64 (by omega) (by omega)
  have wE : wrap64 (4 + v2) = 4 + v2 := w64 (by omega) (by omega)
  unfold spec_l1Rd_config.f
  cases o with
  | true =>
    refine ⟨(49 + v1 + v4, 10, 4 + v6, ts), q6, Ev.bindo e1 (Ev.bindo e2 (Ev.bind e3 (Ev.bindo e4 (Ev.bindo e5 (Ev.pos rfl (Ev.bindo e6 (Ev.step (fun k => by rw [spec_l1Rd_config.p16]) (Ev.eq ?_)))))))), ?_, h6⟩
    · simp only [wA, wB, wC]
      clear wA wB wC wD wE
      rw [if_neg (by omega)]
    · clear wA wB wC wD wE
      unfold configOk
      simp only [ht, Bool.and_true, Bool.and_eq_true, decide_eq_true_eq]
      omega
  | false =>
    refine ⟨(9 + v1 + v4, 1 + v1, 4 + v2, ts), q5, Ev.bindo e1 (Ev.bindo e2 (Ev.bind e3 (Ev.bindo e4 (Ev.bindo e5 (Ev.neg (by simp) (Ev.step (fun k => by rw [spec_l1Rd_config.p16]) (Ev.eq ?_))))))), ?_, h5⟩
    · rw [wD] at wA
      simp only [wD, wE, wA]
    · clear wA wB wC wD wE
      unfold configOk
      simp only [ht, Bool.and_true, Bool.and_eq_true, decide_eq_true_eq]
      omega
end Go.Proofs.YtlljkankongifaaGreatDoor.Abs.Pu
namespace Go.Proofs.YtlljkankongifaaGreatDoor.Abs.Pu
open Go Go.RowKit
set_option linter.unusedVariables false
set_option linter.unusedSectionVars false
set_option linter.unusedSimpArgs false
def U32 (c : Int) : Prop := 0 ≤ c ∧ c < 4294967296
theorem wrap_u32 (x : Int) : IntKind.u32.wrap x = x % 4294967296 := by simp [IntKind.wrap, IntKind.bits, IntKind.signed]
theorem xor32_range (x y : Int) : U32 (xorA .u32 x y) := by
  unfold xorA U32
  rw [wrap_u32]
  omega
theorem u64_id' {x : Int} (h : U32 x) : IntKind.u64.wrap x = x := by
  rw [wrap_u64]
  unfold U32 at h
  omega
def crcBit (c : Int) : Int := if c % 2 = 1 then xorA .u32 (shrA .u32 c 1) 3988292384 else shrA .u32 c 1
theorem shr1_u32 (x : Int) : shrA .u32 x 1 = x / 2 := rfl
theorem crcBit_range {c : Int} (h : U32 c) : U32 (crcBit c) := by
  unfold crcBit
  split
  · exact xor32_range _ _
  · rw [shr1_u32]
    unfold U32 at h ⊢
    omega
theorem wraps_u32 (n : Int) (h0 : 0 ≤ n) (h1 : n < 2 ^ 32) : IntKind.u32.wrap n = n := by
  have e : (2 : Int) ^ 32 = 4294967296 := by decide
  rw [e] at h1
  rw [wrap_u32]
  omega
theorem and1_u32 {x : Int} (h : U32 x) : andA .u32 x 1 = x % 2 := by
  have e : (2 : Int) ^ 32 = 4294967296 := by decide
  have h2 := h.2
  have h := Go.bits_mask .u32 32 (by decide) wraps_u32 1 (by decide) x h.1 (by rw [e]; exact h2)
  simpa [andA_eq] using h
def crcIt : Nat → Int → Int
  | 0, c => c
  | n + 1, c => crcIt n (crcBit c)
theorem crcIt_range : ∀ (n : Nat) {c : Int}, U32 c → U32 (crcIt n c)
  | 0, _, h => h
  | n + 1, _, h => crcIt_range n (crcBit_range h)
def crcFrom (s : ByteArray) : Nat → Nat → Int → Int
  | 0, _, c => c
  | d + 1, i, c => crcFrom s d (i + 1) (crcIt 8 (xorA .u32 c (IntKind.wrap .u32 (bt s (i : Int)))))
theorem crcFrom_range (s : ByteArray) : ∀ (d i : Nat) {c : Int}, U32 c → U32 (crcFrom s d i c)
  | 0, _, _, h => h
  | d + 1, i, c, h => crcFrom_range s d (i + 1) (crcIt_range 8 (xor32_range _ _))
def out4 (v : Int) : ByteArray := strOfNums [v / 16777216 % 256, v / 65536 % 256, v / 256 % 256, v % 256]
def crcB (s : ByteArray) : ByteArray := out4 (xorA .u32 4294967295 (crcFrom s s.size 0 4294967295))
theorem crcB_size (s : ByteArray) : (crcB s).size = 4 := strOfNums_size _
theorem U32_top : U32 4294967295 := by unfold U32; omega
theorem spec_l1Crc_ev (s : ByteArray) (hs : s.size ≤ 20000) : Ev (fun k => spec_l1Crc.f k s) (crcB s) := by
  have inner : ∀ (n j : Nat) (c : Int) (i : Nat) (r : ByteArray), j + n = 8 → U32 c → i ≤ 20000 → Ev (fun k => spec_l1Crc.p8 k s (crcIt n c) ((i + 1 : Nat) : Int)) r → Ev (fun k => spec_l1Crc.p22 k s c (i : Int) (j : Int)) r := by
    intro n
    induction n with
    | zero =>
      intro j c i r hj hc hi hr
      refine Ev.step (fun k => by rw [spec_l1Crc.p22]) ?_
      rw [w64s (i := i) (by omega)]
      exact Ev.neg (by omega) hr
    | succ n ih =>
      intro j c i r hj hc hi hr
      have nx := ih (j + 1) (crcBit c) i r (by omega) (crcBit_range hc) hi hr
      unfold crcBit at nx
      refine Ev.step (fun k => by rw [spec_l1Crc.p22]) ?_
      rw [w64s (i := j) (by omega), Int.tmod_eq_emod_of_nonneg hc.1]
      refine Ev.pos (by omega) ?_
      by_cases k : c % 2 = 1
      · rw [if_pos k] at nx
        exact Ev.pos k nx
      · rw [if_neg k] at nx
        exact Ev.neg k nx
  have outer : ∀ (d i : Nat) (c : Int), i + d = s.size → U32 c → Ev (fun k => spec_l1Crc.p8 k s c (i : Int)) (out4 (xorA .u32 4294967295 (crcFrom s d i c))) := by
    intro d
    induction d with
    | zero =>
      intro i c hi hc
      refine Ev.step (fun k => by rw [spec_l1Crc.p8]) ?_
      exact Ev.neg (by omega) (Ev.eq rfl)
    | succ d ih =>
      intro i c hi hc
      refine Ev.step (fun k => by rw [spec_l1Crc.p8]) ?_
      exact Ev.pos (by omega) (Ev.pos (by omega) (Ev.pos (by omega) (inner 8 0 _ i _ rfl (xor32_range _ _) (by omega) (ih (i + 1) _ (by omega) (crcIt_range 8 (xor32_range _ _))))))
  unfold spec_l1Crc.f
  exact outer s.size 0 4294967295 (by omega) U32_top
def sealT (s : ByteArray) : ByteArray := s ++ zerosB (60 - s.size)
def sealR (s : ByteArray) : ByteArray := sealT s ++ crcB (sealT s)
theorem sealT_size {s : ByteArray} (h : s.size ≤ 60) : (sealT s).size = 60 := by
  unfold sealT
  rw [ByteArray.size_append, zerosB_size]
  omega
theorem sealR_size {s : ByteArray} (h : s.size ≤ 60) : (sealR s).size = 64 := by
  unfold sealR
  rw [ByteArray.size_append, crcB_size, sealT_size h]
theorem spec_Sealed_ev (s : ByteArray) (h : s.size ≤ 60) : Ev (fun k => spec_Sealed.f k s) (sealR s) := by
  have hz := spec_l1Zeros_f (60 - s.size) (by omega)
  have hs := zerosB_size (60 - s.size)
  have ht := sealT_size h
  unfold spec_Sealed.f
  rw [w64 (x := 60 - (s.size : Int)) (by omega) (by omega), show 60 - (s.size : Int) = ((60 - s.size : Nat) : Int) from by omega]
  refine Ev.neg (by omega) (Ev.bindo hz (Ev.pos (by omega) ?_))
  have hc := spec_l1Crc_ev (sealT s) (by omega)
  have hcs := crcB_size (sealT s)
  unfold sealT at hc ht hcs
  exact Ev.bind hc (Ev.pos (by rw [ht, hcs]; omega) (Ev.eq rfl))
end Go.Proofs.YtlljkankongifaaGreatDoor.Abs.Pu
namespace Go.Proofs.YtlljkankongifaaGreatDoor.Abs.Pu
open Go Go.RowKit
set_option linter.unusedVariables false
set_option linter.unusedSectionVars false
set_option linter.unusedSimpArgs false
def shortB (n : Int) : ByteArray := strOfNums [n / 256 % 256, n % 256]
theorem shortB_size (n : Int) : (shortB n).size = 2 := strOfNums_size _
theorem byte_ok (x : Int) : 0 ≤ x % 256 ∧ x % 256 ≤ 255 := by omega
theorem isBytes2 (x y : Int) : isBytes [x % 256, y % 256] := by
  intro z hz
  simp only [List.mem_cons, List.not_mem_nil, or_false] at hz
  rcases hz with rfl | rfl
  · exact byte_ok _
  · exact byte_ok _
theorem spec_ShortBytes_ev (n : Int) (h0 : 0 ≤ n) (h1 : n ≤ 65535) : Ev (fun k => spec_ShortBytes.f k n) (shortB n) := by
  have hz := wordB_size n
  unfold spec_ShortBytes.f
  refine Ev.bindo (l1In_f _ _ _) (Ev.pos (by simp; omega) (Ev.bind (spec_WordBytes_ev n) (Ev.pos (by omega) (Ev.eq ?_))))
  refine bytesOf_inj ?_
  have hu : IntKind.u64.wrap n = n := by rw [wrap_u64]; omega
  rw [bytesOf_cut, wordB, hu, bytesOf_strOfNums (wordL_isBytes n), Int.toNat_natCast, strOfNums_size, shortB, bytesOf_strOfNums (isBytes2 _ _)]
  show [byte8 n 6, byte8 n 7] = _
  unfold byte8
  simp
/-- The mask of a type, from a field on. -/
def maskF (t : ByteArray) : Nat → Nat → Int → Int
  | 0, _, m => m
  | d + 1, i, m => maskF t d (i + 1) (if bt t (i : Int) = 114 then orA .i64 m (shlA .i64 1 (i : Int)) else m)
def quad (t : ByteArray) : ByteArray := strOf [(t.size : Int) % 256, shrA .i64 (maskF t t.size 0 0) 16 % 256, shrA .i64 (maskF t t.size 0 0) 8 % 256, maskF t t.size 0 0 % 256]
theorem quad_size (t : ByteArray) : (quad t).size = 4 := strOfNums_size _
def nvg : ByteArray := ⟨#[78, 86, 71, 49]⟩
theorem nvg_size : nvg.size = 4 := rfl
def headB (c : Cfg) : ByteArray := (((nvg ++ shortB c.1) ++ shortB c.2.1) ++ shortB c.2.2.1) ++ strOf [(c.2.2.2.length : Int) % 256]
theorem headB_size (c : Cfg) : (headB c).size = 11 := by
  unfold headB
  have h1 : (strOf [(c.2.2.2.length : Int) % 256]).size = 1 := strOfNums_size _
  simp only [ByteArray.size_append, shortB_size, nvg_size, h1]
def quads (ts : List ByteArray) (s : ByteArray) : ByteArray := ts.foldl (fun s t => s ++ quad t) s
theorem quads_size : ∀ (ts : List ByteArray) (s : ByteArray), (quads ts s).size = s.size + 4 * ts.length
  | [], s => by simp [quads]
  | t :: ts, s => by
    have := quads_size ts (s ++ quad t)
    unfold quads at this ⊢
    rw [List.foldl_cons, this, ByteArray.size_append, quad_size, List.length_cons]
    omega
theorem u64_nat {i : Nat} (h : i ≤ 1000000) : IntKind.u64.wrap (i : Int) = (i : Int) := by rw [wrap_u64]; omega
theorem spec_l3Super_ev (c : Cfg) (hc : configOk c = true) : Ev (fun k => spec_l3Super.f k c.1 c.2.1 c.2.2.1 c.2.2.2) (sealR (quads c.2.2.2 (headB c))) := by
  have hf := configOk_facts hc
  have ht := hf.2.2.2.2.2.2.2
  have htl := types_len ht
  unfold spec_l3Super.f
  have h1 : (strOf [(c.2.2.2.length : Int) % 256]).size = 1 := strOfNums_size _
  refine Ev.bind (spec_ShortBytes_ev c.1 (by omega) (by omega)) (Ev.pos (by rw [shortB_size]; decide) ?_)
  refine Ev.bind (spec_ShortBytes_ev c.2.1 (by omega) (by omega)) (Ev.pos (by simp only [ByteArray.size_append, shortB_size]; decide) ?_)
  refine Ev.bind (spec_ShortBytes_ev c.2.2.1 (by omega) (by omega)) (Ev.pos (by simp only [ByteArray.size_append, shortB_size]; decide) (Ev.pos (by simp only [ByteArray.size_append, shortB_size, h1]; decide) ?_))
  have key : ∀ i, i ≤ c.2.2.2.length → ∀ s : ByteArray, s.size + 4 * (c.2.2.2.length - i) ≤ 60 → Ev (fun k => spec_l3Super.p8 k c.1 c.2.1 c.2.2.1 c.2.2.2 s (i : Int)) (sealR (quads (c.2.2.2.drop i) s)) := by
    refine down ?_ ?_
    · intro s hz
      refine Ev.step (fun k => by rw [spec_l3Super.p8]) ?_
      rw [List.drop_eq_nil_of_le (Nat.le_refl _)]
      exact Ev.neg (by omega) (Ev.bind (spec_Sealed_ev s (by omega)) (Ev.eq rfl))
    · intro i hi ih s hz
      have hg : rdOf ByteArray.empty c.2.2.2 (i : Int) = c.2.2.2[i] := rdg hi
      have hts := type_size ht (i : Int)
      rw [hg] at hts
      have nx := ih (s ++ quad c.2.2.2[i]) (by rw [ByteArray.size_append, quad_size]; omega)
      have hq : quads (c.2.2.2.drop i) s = quads (c.2.2.2.drop (i + 1)) (s ++ quad c.2.2.2[i]) := by
        rw [List.drop_eq_getElem_cons hi]; rfl
      rw [← hq] at nx
      have hqs := quad_size c.2.2.2[i]
      refine Ev.step (fun k => by rw [spec_l3Super.p8]) ?_
      refine Ev.pos (by omega) ?_
      have lp : ∀ (d j : Nat) (m : Int), j + d = (c.2.2.2[i]).size → maskF c.2.2.2[i] d j m = maskF c.2.2.2[i] (c.2.2.2[i]).size 0 0 → Ev (fun k => spec_l3Super.p23 k c.1 c.2.1 c.2.2.1 c.2.2.2 s (i : Int) m (j : Int)) (sealR (quads (c.2.2.2.drop i) s)) := by
        intro d
        induction d with
        | zero =>
          intro j m hj hm
          rw [maskF] at hm
          refine Ev.step (fun k => by rw [spec_l3Super.p23]) ?_
          rw [hg, hm, w64s (i := i) (by omega)]
          unfold quad at nx hqs
          exact Ev.pos (by omega) (Ev.pos (by omega) (Ev.neg (by omega) (Ev.pos (by omega) (Ev.pos (by omega) (Ev.pos (by rw [hqs]; omega) nx)))))
        | succ d ihd =>
          intro j m hj hm
          rw [maskF] at hm
          refine Ev.step (fun k => by rw [spec_l3Super.p23]) ?_
          rw [hg, w64s (i := j) (by omega), u64_nat (by omega)]
          refine Ev.pos (by omega) (Ev.pos (by omega) (Ev.pos (by omega) (Ev.pos (by omega) (Ev.pos (by omega) (Ev.pos (by omega) (Ev.pos (by omega) ?_))))))
          by_cases k : bt c.2.2.2[i] (j : Int) = 114
          · rw [if_pos k] at hm
            exact Ev.pos k (Ev.neg (by omega) (ihd (j + 1) _ (by omega) hm))
          · rw [if_neg k] at hm
            exact Ev.neg k (ihd (j + 1) _ (by omega) hm)
      exact lp (c.2.2.2[i]).size 0 0 (by omega) rfl
  have hh := headB_size c
  exact key 0 (Nat.zero_le _) (headB c) (by omega)
end Go.Proofs.YtlljkankongifaaGreatDoor.Abs.Pu
namespace Go.Proofs.YtlljkankongifaaGreatDoor.Abs.Pu
open Go Go.RowKit
set_option linter.unusedVariables false
set_option linter.unusedSectionVars false
set_option linter.unusedSimpArgs false
theorem format_ev (c : Cfg) (hc : configOk c = true) (hl : c.2.2.2.length ≤ 1048576) (hs : ∀ x ∈ c.2.2.2, x.size ≤ 1048576) : ∃ s : ByteArray, Ev (fun k => spec_Format.f k c.1 c.2.1 c.2.2.1 c.2.2.2) s ∧ (s.size : Int) = 64 * c.1 := by
  have hf := configOk_facts hc
  have htl := types_len hf.2.2.2.2.2.2.2
  have h3 := spec_l3Super_ev c hc
  have hq := quads_size c.2.2.2 (headB c)
  have hh := headB_size c
  have hz3 := sealR_size (s := quads c.2.2.2 (headB c)) (by omega)
  have hw := wordB_size 0
  have hE : Ev (fun k => spec_EpochLine.f k 0) (sealR (wordB 0)) := by
    unfold spec_EpochLine.f
    exact Ev.bindo (l1In_f _ _ _) (Ev.pos (by decide) (Ev.bind (spec_WordBytes_ev 0) (Ev.bind (spec_Sealed_ev _ (by omega)) (Ev.eq rfl))))
  have hzE := sealR_size (s := wordB 0) (by omega)
  have hZ := spec_l1Zeros_f (64 * c.1 - 128).toNat (by omega)
  have hzz := zerosB_size (64 * c.1 - 128).toNat
  refine ⟨(sealR (quads c.2.2.2 (headB c)) ++ sealR (wordB 0)) ++ zerosB (64 * c.1 - 128).toNat, ?_, ?_⟩
  · unfold spec_Format.f
    rw [w64 (x := 64 * c.1) (by omega) (by omega), w64 (x := 64 * c.1 - 128) (by omega) (by omega), show 64 * c.1 - 128 = (((64 * c.1 - 128).toNat : Nat) : Int) from by omega]
    refine Ev.bind (spec_ConfigOk_ev c hl hs) (Ev.pos hc (Ev.bind h3 (Ev.bind hE (Ev.pos (by omega) (Ev.bindo hZ (Ev.pos (by rw [ByteArray.size_append]; omega) (Ev.eq rfl)))))))
  · simp only [ByteArray.size_append]
    omega
end Go.Proofs.YtlljkankongifaaGreatDoor.Abs.Pu
namespace Go.Proofs.YtlljkankongifaaGreatDoor.Abs.Pu
open Go Go.RowKit
set_option linter.unusedVariables false
set_option linter.unusedSectionVars false
set_option linter.unusedSimpArgs false
theorem size2_f {l : List Int} {p : Int} (h : Rd l p) : ∃ v q, spec_l1Rd_size.f l p 4 9 = some (l, q, v) ∧ 1 ≤ v ∧ v ≤ 9 ∧ Rd l q := by
  have hl := h.len
  unfold spec_l1Rd_size.f
  rw [if_neg (by omega), Int.tdiv_eq_ediv_of_nonneg (by omega), w64 (x := (l.length : Int) / 4) (by omega) (by omega), w64 (x := 1 + (l.length : Int) / 4) (by omega) (by omega)]
  split
  · obtain ⟨v, q, e, hv0, hv1, hq⟩ := below_f h 9 (by omega) (by omega)
    refine ⟨_, q, by rw [e]; rfl, ?_, ?_, hq⟩
    all_goals simp only []; rw [w64 (x := 1 + v) (by omega) (by omega)]; omega
  · obtain ⟨v, q, e, hv0, hv1, hq⟩ := below_f h (1 + (l.length : Int) / 4) (by omega) (by omega)
    refine ⟨_, q, by rw [e]; rfl, ?_, ?_, hq⟩
    all_goals simp only []; rw [w64 (x := 1 + v) (by omega) (by omega)]; omega
/-- A node of the types: its references are no negative numbers. -/
structure Node (types : List ByteArray) (o : Int × List Int) : Prop where
  t0 : 0 ≤ o.1
  t1 : o.1 < types.length
  len : o.2.length = (rdOf ByteArray.empty types o.1).size
  refs : ∀ j (h : j < o.2.length), bt (rdOf ByteArray.empty types o.1) (j : Int) = 114 → 0 ≤ o.2[j]
theorem graph_ev {l : List Int} {p : Int} (h : Rd l p) (types : List ByteArray) (ht : typesOk types = true) : ∃ roots nodes q, Ev (fun k => spec_l1Rd_graph.f k l p types 8 9) (l, q, roots, nodes) ∧ roots.length = 8 ∧ (∀ x ∈ roots, 0 ≤ x) ∧ nodes.length ≤ 9 ∧ (∀ o ∈ nodes, Node types o) ∧ Rd l q := by
  have htl := types_len ht
  obtain ⟨n, q0, e0, hn0, hn1, hq0⟩ := size2_f h
  obtain ⟨N, rfl⟩ := Int.eq_ofNat_of_zero_le (show 0 ≤ n by omega)
  have nodesP : ∀ (roots : List Int) (d i : Nat) (nodes : List (Int × List Int)) (p : Int), i + d = N → nodes.length = i → (∀ o ∈ nodes, Node types o) → Rd l p → ∃ nodes' q, Ev (fun k => spec_l1Rd_graph.p33 k l p types roots nodes (N : Int) (i : Int)) (l, q, roots, nodes') ∧ nodes'.length ≤ 9 ∧ (∀ o ∈ nodes', Node types o) ∧ Rd l q := by
    intro roots d
    induction d with
    | zero =>
      intro i nodes p hi hl hN hp
      refine ⟨nodes, p, Ev.step (fun k => by rw [spec_l1Rd_graph.p33]) ?_, by omega, hN, hp⟩
      exact Ev.neg (by omega) (Ev.eq rfl)
    | succ d ih =>
      intro i nodes p hi hl hN hp
      obtain ⟨t, q, et, ht0, ht1, hq⟩ := below_f hp (types.length : Int) (by omega) (by omega)
      have hz := type_size ht t
      have vals : ∀ (e j : Nat) (vs : List Int) (p : Int), j + e = (rdOf ByteArray.empty types t).size → vs.length = j → (∀ j (h : j < vs.length), bt (rdOf ByteArray.empty types t) (j : Int) = 114 → 0 ≤ vs[j]) → Rd l p → ∃ nodes' q, Ev (fun k => spec_l1Rd_graph.p48 k l p types roots nodes (N : Int) (i : Int) t vs (j : Int)) (l, q, roots, nodes') ∧ nodes'.length ≤ 9 ∧ (∀ o ∈ nodes', Node types o) ∧ Rd l q := by
        intro e
        induction e with
        | zero =>
          intro j vs p hj hv hr hp
          obtain ⟨nodes', q, e2, h1, h2, h3⟩ := ih (i + 1) (nodes ++ [(t, vs)]) p (by omega) (by simp [hl]) (fun o ho => by
            rcases List.mem_append.1 ho with ho | ho
            · exact hN o ho
            · simp only [List.mem_singleton] at ho
              subst ho
              exact ⟨ht0, ht1, by simp only []; omega, hr⟩) hp
          refine ⟨nodes', q, Ev.step (fun k => by rw [spec_l1Rd_graph.p48]) ?_, h1, h2, h3⟩
          rw [w64s (i := i) (by omega)]
          exact Ev.pos ht0 (Ev.pos ht1 (Ev.neg (by omega) (Ev.pos (by omega) e2)))
        | succ e ihe =>
          intro j vs p hj hv hr hp
          obtain ⟨a, q1, ea, ha0, ha1, hq1⟩ := below_f hp 100 (by omega) (by omega)
          have snoc : ∀ x : Int, (bt (rdOf ByteArray.empty types t) (j : Int) = 114 → 0 ≤ x) → ∀ j (h : j < (vs ++ [x]).length), bt (rdOf ByteArray.empty types t) (j : Int) = 114 → 0 ≤ (vs ++ [x])[j] := by
            intro x hx j' h' hb
            by_cases c : j' < vs.length
            · rw [List.getElem_append_left c]
              exact hr j' c hb
            · rw [List.length_append, List.length_singleton] at h'
              obtain rfl : j' = j := by omega
              rw [List.getElem_append_right (by omega)]
              simpa using hx hb
          by_cases c : bt (rdOf ByteArray.empty types t) (j : Int) = 114
          · obtain ⟨b, q2, eb, hb0, hb1, hq2⟩ := below_f hq1 ((N : Int) + 3) (by omega) (by omega)
            have hx : (0 : Int) ≤ (if wrap64 (b - 2) < 0 then 0 else wrap64 (b - 2)) := by
              split <;> omega
            obtain ⟨nodes', q, e2, hr2⟩ := ihe (j + 1) (vs ++ [if wrap64 (b - 2) < 0 then 0 else wrap64 (b - 2)]) q2 (by omega) (by simp [hv]) (snoc _ (fun _ => hx)) hq2
            refine ⟨nodes', q, Ev.step (fun k => by rw [spec_l1Rd_graph.p48]) ?_, hr2⟩
            clear hx snoc
            rw [w64s (i := j) (by omega), w64 (x := (N : Int) + 3) (by omega) (by omega)]
            exact Ev.pos ht0 (Ev.pos ht1 (Ev.pos (by omega) (Ev.bindo ea (Ev.pos ht0 (Ev.pos ht1 (Ev.pos (by omega) (Ev.pos (by omega) (Ev.pos c (Ev.bindo eb (Ev.pos (by omega) e2))))))))))
          · obtain ⟨nodes', q, e2, hr2⟩ := ihe (j + 1) (vs ++ [wrap64 (a - 20)]) q1 (by omega) (by simp [hv]) (snoc _ (fun h => absurd h c)) hq1
            refine ⟨nodes', q, Ev.step (fun k => by rw [spec_l1Rd_graph.p48]) ?_, hr2⟩
            clear snoc
            rw [w64s (i := j) (by omega)]
            exact Ev.pos ht0 (Ev.pos ht1 (Ev.pos (by omega) (Ev.bindo ea (Ev.pos ht0 (Ev.pos ht1 (Ev.pos (by omega) (Ev.pos (by omega) (Ev.neg c (Ev.pos (by omega) e2)))))))))
      obtain ⟨nodes', q2, e2, hr2⟩ := vals _ 0 [] q (Nat.zero_add _) rfl (fun j h => absurd h (Nat.not_lt_zero _)) hq
      refine ⟨nodes', q2, Ev.step (fun k => by rw [spec_l1Rd_graph.p33]) ?_, hr2⟩
      exact Ev.pos (by omega) (Ev.bindo et e2)
  have rootsP : ∀ (d i : Nat) (roots : List Int) (p : Int), i + d = 8 → roots.length = i → (∀ x ∈ roots, 0 ≤ x) → Rd l p → ∃ roots' nodes q, Ev (fun k => spec_l1Rd_graph.p10 k l p types 8 roots (N : Int) (i : Int)) (l, q, roots', nodes) ∧ roots'.length = 8 ∧ (∀ x ∈ roots', 0 ≤ x) ∧ nodes.length ≤ 9 ∧ (∀ o ∈ nodes, Node types o) ∧ Rd l q := by
    intro d
    induction d with
    | zero =>
      intro i roots p hi hl hr hp
      obtain ⟨nodes, q, e, h1, h2, h3⟩ := nodesP roots N 0 [] p (Nat.zero_add _) rfl (fun o h => by cases h) hp
      refine ⟨roots, nodes, q, Ev.step (fun k => by rw [spec_l1Rd_graph.p10]) ?_, by omega, hr, h1, h2, h3⟩
      exact Ev.neg (by omega) e
    | succ d ih =>
      intro i roots p hi hl hr hp
      have snoc : ∀ v : Int, 0 ≤ v → ∀ x ∈ roots ++ [v], 0 ≤ x := fun v hv x hx => by
        rcases List.mem_append.1 hx with hx | hx
        · exact hr x hx
        · simp only [List.mem_singleton] at hx
          omega
      obtain ⟨o, q, eo, hq⟩ := once_f hp 2 (by omega) (by omega)
      cases o with
      | true =>
        obtain ⟨v, q2, ev, hv0, hv1, hq2⟩ := below_f hq (N : Int) (by omega) (by omega)
        have hw : wrap64 (1 + v) = 1 + v := w64 (by omega) (by omega)
        obtain ⟨roots', nodes, q3, e3, hr3⟩ := ih (i + 1) (roots ++ [1 + v]) q2 (by omega) (by simp [hl]) (snoc _ (by omega)) hq2
        rw [← hw] at e3
        refine ⟨roots', nodes, q3, Ev.step (fun k => by rw [spec_l1Rd_graph.p10]) ?_, hr3⟩
        clear hw snoc
        rw [w64s (i := i) (by omega)]
        exact Ev.pos (by omega) (Ev.bindo eo (Ev.pos rfl (Ev.bindo ev (Ev.pos (by omega) e3))))
      | false =>
        obtain ⟨roots', nodes, q3, e3, hr3⟩ := ih (i + 1) (roots ++ [0]) q (by omega) (by simp [hl]) (snoc _ (by omega)) hq
        refine ⟨roots', nodes, q3, Ev.step (fun k => by rw [spec_l1Rd_graph.p10]) ?_, hr3⟩
        rw [w64s (i := i) (by omega)]
        exact Ev.pos (by omega) (Ev.bindo eo (Ev.neg (by simp) (Ev.pos (by omega) e3)))
  obtain ⟨roots, nodes, q, e, hr⟩ := rootsP 8 0 [] q0 rfl rfl (fun x h => by cases h) hq0
  refine ⟨roots, nodes, q, ?_, hr⟩
  unfold spec_l1Rd_graph.f
  exact Ev.bindo e0 e
end Go.Proofs.YtlljkankongifaaGreatDoor.Abs.Pu
namespace Go.Proofs.YtlljkankongifaaGreatDoor.Abs.Pu
open Go Go.RowKit
set_option linter.unusedVariables false
set_option linter.unusedSectionVars false
set_option linter.unusedSimpArgs false
/-- The eight words of the roots. -/
def slotsR (s : ByteArray) : List Int := (List.range 8).map fun i => wordv s (128 + 8 * i)
theorem slots_take (s : ByteArray) (i : Nat) (h : i < 8) : (slotsR s).take (i + 1) = (slotsR s).take i ++ [wordv s (128 + 8 * i)] := by
  have hl : (slotsR s).length = 8 := by simp [slotsR]
  rw [take_snoc2 _ _ (by omega)]
  congr 2
  simp [slotsR]
theorem spec_l10Slots_ev (s : ByteArray) (h : 192 ≤ s.size) (hs : s.size ≤ 140737488355328) : Ev (fun k => spec_l10Slots.f k s) (slotsR s) := by
  have hl : (slotsR s).length = 8 := by simp [slotsR]
  have key : ∀ i, i ≤ 8 → Ev (fun k => spec_l10Slots.p8 k s ((slotsR s).take i) (i : Int)) (slotsR s) := by
    refine down ?_ ?_
    · refine Ev.step (fun k => by rw [spec_l10Slots.p8]) ?_
      rw [List.take_of_length_le (by omega)]
      exact Ev.neg (by omega) (Ev.eq rfl)
    · intro i hi ih
      refine Ev.step (fun k => by rw [spec_l10Slots.p8]) ?_
      rw [w64s (i := i) (by omega), show wrap64 (16 + (i : Int)) = ((16 + i : Nat) : Int) from by rw [w64 (by omega) (by omega)]; omega]
      rw [slots_take s i hi, show 128 + 8 * i = 8 * (16 + i) from by omega] at ih
      exact Ev.pos (by omega) (Ev.bind (spec_l9Word_ev s _ (by omega) hs) (Ev.pos (by rw [List.length_take]; omega) ih))
  unfold spec_l10Slots.f
  exact key 0 (by omega)
end Go.Proofs.YtlljkankongifaaGreatDoor.Abs.Pu
namespace Go.Proofs.YtlljkankongifaaGreatDoor.Abs.Pu
open Go Go.RowKit
set_option linter.unusedVariables false
set_option linter.unusedSectionVars false
set_option linter.unusedSimpArgs false
theorem one4 (a b c d : UInt8) {v : Int} (h0 : 0 ≤ v) (h1 : v < 4) : (rdOf ByteArray.empty [(⟨#[a]⟩ : ByteArray), (⟨#[b]⟩ : ByteArray), (⟨#[c]⟩ : ByteArray), (⟨#[d]⟩ : ByteArray)] v).size = 1 := by
  obtain rfl | rfl | rfl | rfl : v = 0 ∨ v = 1 ∨ v = 2 ∨ v = 3 := by omega
  all_goals rfl
theorem hurt_f {l : List Int} {p : Int} (h : Rd l p) (s : ByteArray) (hs : s.size ≤ 60000) : ∃ s' q, spec_l1Rd_hurt.f l p s = some (l, q, s') ∧ s'.size ≤ s.size + 1 ∧ Rd l q := by
  obtain ⟨a, q, ea, ha0, ha1, hq⟩ := below_f h 6 (by omega) (by omega)
  unfold spec_l1Rd_hurt.f
  rw [ea, Option.bind_some]
  simp only []
  by_cases c1 : a = 1
  · obtain ⟨b, q2, eb, hb0, hb1, hq2⟩ := below_f hq ((s.size : Int) + 1) (by omega) (by omega)
    rw [if_pos c1, w64 (x := (s.size : Int) + 1) (by omega) (by omega), eb, Option.bind_some]
    simp only []
    rw [if_pos hb0, if_pos (by omega)]
    exact ⟨_, _, rfl, by rw [ByteArray.size_extract]; omega, hq2⟩
  rw [if_neg c1]
  by_cases c2 : a = 2
  · rw [if_pos c2]
    by_cases c3 : (s.size : Int) > 0
    · obtain ⟨b, q2, eb, hb0, hb1, hq2⟩ := below_f hq (s.size : Int) (by omega) (by omega)
      obtain ⟨d, q3, ed, hd0, hd1, hq3⟩ := below_f hq2 4 (by omega) (by omega)
      have ho := one4 0 55 255 32 hd0 hd1
      rw [if_pos c3, eb, Option.bind_some]
      simp only []
      rw [if_pos hb0, if_pos (by omega), ed, Option.bind_some]
      simp only []
      rw [if_pos hd0, if_pos hd1, w64 (x := b + 1) (by omega) (by omega), if_pos (by rw [ByteArray.size_extract, ho]; omega), if_pos (by omega), if_pos (by omega), if_pos (by rw [ByteArray.size_append, ByteArray.size_extract, ByteArray.size_extract, ho]; omega)]
      exact ⟨_, _, rfl, by rw [ByteArray.size_append, ByteArray.size_append, ByteArray.size_extract, ByteArray.size_extract, ho]; omega, hq3⟩
    · rw [if_neg c3]
      exact ⟨_, _, rfl, by omega, hq⟩
  rw [if_neg c2]
  by_cases c3 : a = 3
  · obtain ⟨d, q3, ed, hd0, hd1, hq3⟩ := below_f hq 4 (by omega) (by omega)
    have ho := one4 0 49 10 32 hd0 hd1
    rw [if_pos c3, ed, Option.bind_some]
    simp only []
    rw [if_pos hd0, if_pos hd1, if_pos (by rw [ho]; omega)]
    exact ⟨_, _, rfl, by rw [ByteArray.size_append, ho]; omega, hq3⟩
  · rw [if_neg c3]
    exact ⟨_, _, rfl, by omega, hq⟩
end Go.Proofs.YtlljkankongifaaGreatDoor.Abs.Pu
namespace Go.Proofs.YtlljkankongifaaGreatDoor.Abs.Pu
open Go Go.RowKit
set_option linter.unusedVariables false
set_option linter.unusedSectionVars false
set_option linter.unusedSimpArgs false
def Ints (l : List Int) : Prop := ∀ x ∈ l, -9223372036854775808 ≤ x ∧ x ≤ 9223372036854775807
theorem Ints.snoc {l : List Int} (h : Ints l) {x : Int} (hx : -9223372036854775808 ≤ x ∧ x ≤ 9223372036854775807) : Ints (l ++ [x]) := by
  intro y hy
  rcases List.mem_append.1 hy with hy | hy
  · exact h y hy
  · simp only [List.mem_singleton] at hy
    subst hy
    exact hx
theorem Ints.set {l : List Int} (h : Ints l) (i : Nat) {x : Int} (hx : -9223372036854775808 ≤ x ∧ x ≤ 9223372036854775807) : Ints (l.set i x) := by
  intro y hy
  rcases List.mem_or_eq_of_mem_set hy with hy | rfl
  · exact h y hy
  · exact hx
theorem Ints.at_ {l : List Int} (h : Ints l) (i : Int) : -9223372036854775808 ≤ rd l i ∧ rd l i ≤ 9223372036854775807 := by
  unfold rd
  rw [List.getD_eq_getElem?_getD]
  cases hg : l[i.toNat]? with
  | none => exact ⟨by decide, by decide⟩
  | some x => exact h x (List.mem_of_getElem? hg)
theorem wrap_ok (x : Int) : -9223372036854775808 ≤ wrap64 x ∧ wrap64 x ≤ 9223372036854775807 := wrap64_range x
theorem ref_ev {l : List Int} {p : Int} (h : Rd l p) : ∃ v q, Ev (fun k => spec_l1Rd_ref.f k l p) (l, q, v) ∧ (-9223372036854775808 ≤ v ∧ v ≤ 9223372036854775807) ∧ Rd l q := by
  obtain ⟨a, q, ea, ha0, ha1, hq⟩ := below_f h 12 (by omega) (by omega)
  obtain ⟨v, q2, e2, hv0, hv1, hq2⟩ := below_f hq 20 (by omega) (by omega)
  unfold spec_l1Rd_ref.f
  by_cases c0 : a = 0
  · obtain ⟨v, q2, e2, hv0, hv1, hq2⟩ := off_ev hq 0 254 (by omega) (by omega) (by omega) (by omega)
    exact ⟨_, _, Ev.bindo ea (Ev.pos c0 (Ev.bind e2 (Ev.eq rfl))), ⟨hv0, hv1⟩, hq2⟩
  by_cases c1 : a = 1
  · obtain ⟨v, q2, e2, hv0, hv1, hq2⟩ := off_ev hq 0 799 (by omega) (by omega) (by omega) (by omega)
    exact ⟨_, _, Ev.bindo ea (Ev.neg c0 (Ev.pos c1 (Ev.bind e2 (Ev.eq rfl)))), ⟨hv0, hv1⟩, hq2⟩
  by_cases c2 : a = 2
  · exact ⟨0, q, Ev.bindo ea (Ev.neg c0 (Ev.neg c1 (Ev.pos c2 (Ev.eq rfl)))), ⟨by decide, by decide⟩, hq⟩
  by_cases c3 : a = 3
  · exact ⟨0, q, Ev.bindo ea (Ev.neg c0 (Ev.neg c1 (Ev.neg c2 (Ev.pos c3 (Ev.eq rfl))))), ⟨by decide, by decide⟩, hq⟩
  by_cases c4 : a = 4
  · exact ⟨_, _, Ev.bindo ea (Ev.neg c0 (Ev.neg c1 (Ev.neg c2 (Ev.neg c3 (Ev.pos c4 (Ev.bindo e2 (Ev.eq rfl))))))), wrap_ok _, hq2⟩
  by_cases c5 : a = 5
  · exact ⟨_, _, Ev.bindo ea (Ev.neg c0 (Ev.neg c1 (Ev.neg c2 (Ev.neg c3 (Ev.neg c4 (Ev.pos c5 (Ev.bindo e2 (Ev.eq rfl)))))))), wrap_ok _, hq2⟩
  by_cases c6 : a = 6
  · exact ⟨_, _, Ev.bindo ea (Ev.neg c0 (Ev.neg c1 (Ev.neg c2 (Ev.neg c3 (Ev.neg c4 (Ev.neg c5 (Ev.pos c6 (Ev.bindo e2 (Ev.eq rfl))))))))), wrap_ok _, hq2⟩
  · exact ⟨_, _, Ev.bindo ea (Ev.neg c0 (Ev.neg c1 (Ev.neg c2 (Ev.neg c3 (Ev.neg c4 (Ev.neg c5 (Ev.neg c6 (Ev.bindo e2 (Ev.eq rfl))))))))), wrap_ok _, hq2⟩
end Go.Proofs.YtlljkankongifaaGreatDoor.Abs.Pu
namespace Go.Proofs.YtlljkankongifaaGreatDoor.Abs.Pu
open Go Go.RowKit
set_option linter.unusedVariables false
set_option linter.unusedSectionVars false
set_option linter.unusedSimpArgs false
theorem bytesR_le {types : List ByteArray} (ht : typesOk types = true) (t : Int) (vs : List Int) : (bytesR types (t, vs)).size ≤ 64 * runL types t := by
  unfold bytesR
  split
  · rename_i h
    rw [objB8_size ht (objOk8_facts h).2.2.2.2.1]
    exact Nat.le_refl _
  · exact Nat.zero_le _
theorem lies_f (at_ : List Int) (hl : at_.length ≤ 1000) {x : Int} (h : 0 ≤ x) (hb : ∀ a ∈ at_, 0 ≤ a ∧ a ≤ 200) : ∃ v, spec_l10Lies.f at_ x = some v ∧ (v = 0 ∨ ∃ a ∈ at_, v = 2 * a) := by
  unfold spec_l10Lies.f
  by_cases c0 : x = 0
  · exact ⟨0, by rw [if_pos c0], Or.inl rfl⟩
  by_cases c1 : x > (at_.length : Int)
  · exact ⟨0, by rw [if_neg c0, if_pos c1], Or.inl rfl⟩
  have hi : (x - 1).toNat < at_.length := by omega
  have hr : rd at_ (x - 1) = at_[(x - 1).toNat] := by
    have := rd_get hi
    rwa [Int.toNat_of_nonneg (by omega)] at this
  have hm := hb _ (List.getElem_mem hi)
  refine ⟨2 * at_[(x - 1).toNat], ?_, Or.inr ⟨_, List.getElem_mem hi, rfl⟩⟩
  rw [if_neg c0, if_neg c1, w64 (x := x - 1) (by omega) (by omega), if_pos (by omega), if_pos (by omega), hr, w64 (by omega) (by omega)]
theorem laid_ev {l : List Int} {p : Int} (h : Rd l p) (c : Cfg) (hc : configOk c = true) : ∃ image q, Ev (fun k => spec_l1Rd_laid.f k l p c.1 c.2.1 c.2.2.1 c.2.2.2) (l, q, image) ∧ image.size ≤ 9000 ∧ Rd l q := by
  have hf := configOk_facts hc
  have ht := hf.2.2.2.2.2.2.2
  have htl := types_len ht
  have hsm := type_size ht
  have hsz : ∀ x ∈ c.2.2.2, x.size ≤ 1048576 := fun x hx => by
    obtain ⟨j, hj, rfl⟩ := List.getElem_of_mem hx
    have := hsm (j : Int)
    rw [rdg hj] at this
    omega
  obtain ⟨roots, nodes, q0, e0, hrl, hr0, hnl, hN, hq0⟩ := graph_ev h c.2.2.2 ht
  obtain ⟨im0, e1, hz0⟩ := format_ev c hc (by omega) hsz
  -- the end
  have p139 : ∀ (im : ByteArray) (at_ : List Int) (b : Bool) (p : Int), (im.size : Int) = 64 * c.1 → (∀ a ∈ at_, 4 + c.2.1 ≤ a ∧ a ≤ c.1 - 1) → Rd l p → ∃ im' q, Ev (fun k => spec_l1Rd_laid.p139 k l p im at_ b) (l, q, im') ∧ im'.size ≤ 9000 ∧ Rd l q := by
    intro im at_ b p hz ha hp
    cases b with
    | false => exact ⟨im, p, Ev.step (fun k => by rw [spec_l1Rd_laid.p139]) (Ev.neg (by simp) (Ev.eq rfl)), by omega, hp⟩
    | true =>
      by_cases k1 : 0 < at_.length
      · obtain ⟨v, q, ev, hv0, hv1, hq⟩ := below_f hp 4 (by omega) (by omega)
        obtain ⟨w, q2, ew, hw0, hw1, hq2⟩ := below_f hq 30 (by omega) (by omega)
        have hm : rd at_ 0 ∈ at_ := by
          rw [show (0 : Int) = ((0 : Nat) : Int) from rfl, rd_get k1]
          exact List.getElem_mem k1
        have h1 := ha _ hm
        obtain ⟨a, ea⟩ := Int.eq_ofNat_of_zero_le (show 0 ≤ rd at_ 0 by omega)
        obtain ⟨b, rfl⟩ := Int.eq_ofNat_of_zero_le hv0
        have hwb := wordB_size (wrap64 (2 * w))
        have hla : ((64 * a + 8 * b : Nat) : Int) + 8 ≤ 64 * c.1 := by omega
        have hl2 := l2With_f im (wordB (wrap64 (2 * w))) (64 * a + 8 * b) (by omega) (by omega)
        have hrs := repl_size (s := im) (t := wordB (wrap64 (2 * w))) (p := 64 * a + 8 * b) (by omega)
        refine ⟨_, q2, Ev.step (fun k => by rw [spec_l1Rd_laid.p139]) ?_, by rw [hrs]; omega, hq2⟩
        have ea' : rd at_ 0 = (a : Int) := ea
        rw [ea', w64 (x := 64 * (a : Int)) (by omega) (by omega)]
        refine Ev.pos rfl (Ev.pos (by omega) (Ev.pos (by omega) (Ev.bindo ev (Ev.bindo ew (Ev.bind (spec_WordBytes_ev _) ?_)))))
        simp only []
        rw [w64 (x := 8 * (b : Int)) (by omega) (by omega), w64 (x := 64 * (a : Int) + 8 * (b : Int)) (by omega) (by omega), show 64 * (a : Int) + 8 * (b : Int) = ((64 * a + 8 * b : Nat) : Int) from by omega]
        exact Ev.bindo hl2 (Ev.eq rfl)
      · exact ⟨im, p, Ev.step (fun k => by rw [spec_l1Rd_laid.p139]) (Ev.pos rfl (Ev.neg (by omega) (Ev.eq rfl))), by omega, hp⟩
  have p117 : ∀ (im : ByteArray) (at_ : List Int) (p : Int), (im.size : Int) = 64 * c.1 → (∀ a ∈ at_, 4 + c.2.1 ≤ a ∧ a ≤ c.1 - 1) → Rd l p → ∃ im' q, Ev (fun k => spec_l1Rd_laid.p117 k l p im at_) (l, q, im') ∧ im'.size ≤ 9000 ∧ Rd l q := by
    intro im at_ p hz ha hp
    obtain ⟨v, q, ev, hv0, hv1, hq⟩ := below_f hp 24 (by omega) (by omega)
    by_cases c0 : v = 0
    · obtain ⟨s', q4, e4, hs4, hq4⟩ := hurt_f hq im (by omega)
      exact ⟨s', q4, Ev.step (fun k => by rw [spec_l1Rd_laid.p117]) (Ev.bindo ev (Ev.pos c0 (Ev.bindo e4 (Ev.eq rfl)))), by omega, hq4⟩
    by_cases c1 : v = 1
    · obtain ⟨w, q2, ew, hw0, hw1, hq2⟩ := below_f hq (8 * c.1) (by omega) (by omega)
      obtain ⟨x, q3, ex, _, hq3⟩ := ref_ev hq2
      obtain ⟨b, rfl⟩ := Int.eq_ofNat_of_zero_le hw0
      have hwb := wordB_size x
      have hl2 := l2With_f im (wordB x) (b * 8) (by omega) (by omega)
      have hrs := repl_size (s := im) (t := wordB x) (p := b * 8) (by omega)
      refine ⟨_, q3, Ev.step (fun k => by rw [spec_l1Rd_laid.p117]) ?_, by rw [hrs]; omega, hq3⟩
      rw [hz, show wrap64 (Int.tdiv (64 * c.1) 8) = 8 * c.1 from by rw [Int.tdiv_eq_ediv_of_nonneg (by omega), w64 (by omega) (by omega)]; omega]
      refine Ev.bindo ev (Ev.neg c0 (Ev.pos c1 (Ev.bindo ew (Ev.bind ex (Ev.bind (spec_WordBytes_ev _) ?_)))))
      simp only []
      rw [w64 (x := (b : Int) * 8) (by omega) (by omega), show (b : Int) * 8 = ((b * 8 : Nat) : Int) from by omega]
      exact Ev.bindo hl2 (Ev.eq rfl)
    by_cases c2 : v = 2
    · obtain ⟨im', q4, e4, hr⟩ := p139 im at_ true q hz ha hq
      exact ⟨im', q4, Ev.step (fun k => by rw [spec_l1Rd_laid.p117]) (Ev.bindo ev (Ev.neg c0 (Ev.neg c1 (Ev.pos c2 e4)))), hr⟩
    · obtain ⟨im', q4, e4, hr⟩ := p139 im at_ (decide (v = 3)) q hz ha hq
      exact ⟨im', q4, Ev.step (fun k => by rw [spec_l1Rd_laid.p117]) (Ev.bindo ev (Ev.neg c0 (Ev.neg c1 (Ev.neg c2 e4)))), hr⟩
  -- the roots
  have p94 : ∀ (at_ : List Int) (p : Int), at_.length ≤ 9 → (∀ a ∈ at_, 4 + c.2.1 ≤ a ∧ a ≤ c.1 - 1) → Rd l p → ∀ (d i : Nat) (im : ByteArray), i + d = 8 → (im.size : Int) = 64 * c.1 → (∀ k, k < i → dataRefB c (wordv im (128 + 8 * k)) = true) → ∃ im' q, Ev (fun k => spec_l1Rd_laid.p94 k l p c.1 c.2.1 c.2.2.1 c.2.2.2 roots nodes im at_ (i : Int)) (l, q, im') ∧ im'.size ≤ 9000 ∧ Rd l q := by
    intro at_ p hal ha hp d
    induction d with
    | zero =>
      intro i im hi hz hd
      have hi8 : i = 8 := by omega
      subst hi8
      obtain ⟨o, q, eo, hq⟩ := once_f hp 2 (by omega) (by omega)
      have fin : ∀ im2 : ByteArray, (im2.size : Int) = 64 * c.1 → ∃ im' q', Ev (fun k => spec_l1Rd_laid.p117 k l q im2 at_) (l, q', im') ∧ im'.size ≤ 9000 ∧ Rd l q' := fun im2 h2 => p117 im2 at_ q h2 ha hq
      cases o with
      | false =>
        obtain ⟨im', q', e', hr⟩ := fin im hz
        refine ⟨im', q', Ev.step (fun k => by rw [spec_l1Rd_laid.p94]) ?_, hr⟩
        exact Ev.neg (by omega) (Ev.bindo eo (Ev.neg (by simp) e'))
      | true =>
        have himg : isImageB c im = true := by unfold isImageB; rw [hc, decide_eq_true hz]; rfl
        have hall : (slotsR im).all (dataRefB c) = true := by
          rw [List.all_eq_true]
          intro x hx
          obtain ⟨k, hk, rfl⟩ := List.mem_map.1 hx
          exact hd k (by have := List.mem_range.1 hk; omega)
        have hsl := spec_l10Slots_ev im (by omega) (by omega)
        obtain ⟨M, eM, hM⟩ := spec_l10Map_ev c im (slotsR im) (by omega) hsz (by simp [slotsR]) himg hall
        by_cases k1 : M.toList = (⟨#[]⟩ : ByteArray).toList
        · obtain ⟨im', q', e', hr⟩ := fin im hz
          refine ⟨im', q', Ev.step (fun k => by rw [spec_l1Rd_laid.p94]) ?_, hr⟩
          exact Ev.neg (by omega) (Ev.bindo eo (Ev.pos rfl (Ev.bind hsl (Ev.bind eM (Ev.pos k1 e')))))
        · have hl2 := l2With_f im M 192 (by omega) (by omega)
          have hrs := repl_size (s := im) (t := M) (p := 192) (by omega)
          obtain ⟨im', q', e', hr⟩ := fin (replB im 192 M) (by rw [hrs]; exact hz)
          refine ⟨im', q', Ev.step (fun k => by rw [spec_l1Rd_laid.p94]) ?_, hr⟩
          exact Ev.neg (by omega) (Ev.bindo eo (Ev.pos rfl (Ev.bind hsl (Ev.bind eM (Ev.neg k1 (Ev.bindo hl2 e'))))))
    | succ d ih =>
      intro i im hi hz hd
      have hi2 : i < roots.length := by omega
      obtain ⟨v, ev, hv⟩ := lies_f at_ (by omega) (hr0 _ (List.getElem_mem hi2)) (fun a hm => by have := ha a hm; omega)
      have hvr : dataRefB c v = true ∧ -9223372036854775808 ≤ v ∧ v ≤ 9223372036854775807 := by
        rcases hv with rfl | ⟨a, hm, rfl⟩
        · exact ⟨by unfold dataRefB; rfl, by omega, by omega⟩
        · have h1 := ha a hm
          have hk : refk (2 * a) = 1 := by
            unfold refk
            rw [if_neg (by omega), if_pos (by omega)]
          have hd2 : isDataB c (2 * a / 2) = true := by
            unfold isDataB
            rw [show 2 * a / 2 = a from by omega, decide_eq_true h1.1, decide_eq_true h1.2]
            rfl
          exact ⟨by unfold dataRefB; rw [hk, hd2, decide_eq_true rfl]; simp, by omega, by omega⟩
      have hwb := wordB_size v
      have hl2 := l2With_f im (wordB v) (128 + 8 * i) (by omega) (by omega)
      have hrs := repl_size (s := im) (t := wordB v) (p := 128 + 8 * i) (by omega)
      obtain ⟨im', q', e', hr⟩ := ih (i + 1) (replB im (128 + 8 * i) (wordB v)) (by omega) (by rw [hrs]; exact hz) (fun k hk => by
        by_cases e : k = i
        · rw [e, wordv_repl_same v (by omega) hvr.2.1 hvr.2.2]
          exact hvr.1
        · rw [wordv_repl_other (by omega) (by omega)]
          exact hd k (by omega))
      refine ⟨im', q', Ev.step (fun k => by rw [spec_l1Rd_laid.p94]) ?_, hr⟩
      rw [rd_get hi2, w64s (i := i) (by omega), w64 (x := 8 * (i : Int)) (by omega) (by omega), w64 (x := 128 + 8 * (i : Int)) (by omega) (by omega), show 128 + 8 * (i : Int) = ((128 + 8 * i : Nat) : Int) from by omega]
      exact Ev.pos (by omega) (Ev.pos (by omega) (Ev.pos (by omega) (Ev.bindo ev (Ev.bind (spec_WordBytes_ev v) (Ev.bindo hl2 e')))))
  -- the objects
  have p54 : ∀ (ts at_ : List Int) (p : Int), at_.length ≤ ts.length → (∃ k, nodes.map (fun o => o.1) = ts ++ k) → (∀ j (h : j < at_.length) (h' : j < ts.length), 4 + c.2.1 ≤ at_[j] ∧ at_[j] + runL c.2.2.2 ts[j] ≤ c.1) → Rd l p → ∀ (d i : Nat) (im : ByteArray), i + d = at_.length → (im.size : Int) = 64 * c.1 → ∃ im' q, Ev (fun k => spec_l1Rd_laid.p54 k l p c.1 c.2.1 c.2.2.1 c.2.2.2 roots nodes im ts at_ (i : Int)) (l, q, im') ∧ im'.size ≤ 9000 ∧ Rd l q := by
    intro ts at_ p hal hpre ha hp d
    obtain ⟨kk, hkk⟩ := hpre
    have htsl : ts.length ≤ 9 := by
      have := congrArg List.length hkk
      rw [List.length_map, List.length_append] at this
      omega
    have ha2 : ∀ a ∈ at_, 4 + c.2.1 ≤ a ∧ a ≤ c.1 - 1 := fun a hm => by
      obtain ⟨j, hj, rfl⟩ := List.getElem_of_mem hm
      have := ha j hj (by omega)
      have := runL_bound ht ts[j]
      omega
    induction d with
    | zero =>
      intro i im hi hz
      obtain ⟨im', q', e', hr⟩ := p94 at_ p (by omega) ha2 hp 8 0 im rfl hz (fun k hk => absurd hk (Nat.not_lt_zero _))
      refine ⟨im', q', Ev.step (fun k => by rw [spec_l1Rd_laid.p54]) ?_, hr⟩
      exact Ev.neg (by omega) e'
    | succ d ih =>
      intro i im hi hz
      have hi1 : i < at_.length := by omega
      have hi2 : i < ts.length := by omega
      have hi3 : i < nodes.length := by
        have := congrArg List.length hkk
        rw [List.length_map, List.length_append] at this
        omega
      have hA := ha i hi1 hi2
      have hnode := hN _ (List.getElem_mem hi3)
      have hts : ts[i] = nodes[i].1 := by
        have h1 : (nodes.map (fun o => o.1))[i]? = (ts ++ kk)[i]? := by rw [hkk]
        rw [List.getElem?_append_left hi2, List.getElem?_eq_getElem hi2, List.getElem?_map, List.getElem?_eq_getElem hi3] at h1
        simpa using h1.symm
      have hg : rdOf (0, []) nodes (i : Int) = nodes[i] := rdg hi3
      have hb := runL_bound ht ts[i]
      have hts2 := hsm ts[i]
      rw [hts] at hA hb hts2
      obtain ⟨n1, n2, n3, n4⟩ := hnode
      generalize nodes[i] = o at *
      have vals : ∀ (e j : Nat) (vs : List Int), j + e = o.2.length → vs.length = j → ∃ im' q, Ev (fun k => spec_l1Rd_laid.p69 k l p c.1 c.2.1 c.2.2.1 c.2.2.2 roots nodes im ts at_ (i : Int) o.1 vs (j : Int)) (l, q, im') ∧ im'.size ≤ 9000 ∧ Rd l q := by
        intro e
        induction e with
        | zero =>
          intro j vs hj hv
          have hO := spec_ObjectBytes_ev c.2.2.2 (o.1, vs) (by omega) hsz
          have hbl := bytesR_le ht o.1 vs
          obtain ⟨a, ea⟩ := Int.eq_ofNat_of_zero_le (show 0 ≤ at_[i] by omega)
          have ea' : at_[i] = (a : Int) := ea
          have hl2 := l2With_f im (bytesR c.2.2.2 (o.1, vs)) (64 * a) (by omega) (by omega)
          have hrs := repl_size (s := im) (t := bytesR c.2.2.2 (o.1, vs)) (p := 64 * a) (by omega)
          obtain ⟨im', q', e', hr⟩ := ih (i + 1) (replB im (64 * a) (bytesR c.2.2.2 (o.1, vs))) (by omega) (by rw [hrs]; exact hz)
          refine ⟨im', q', Ev.step (fun k => by rw [spec_l1Rd_laid.p69]) ?_, hr⟩
          rw [hg, rd_get hi1, ea', w64s (i := i) (by omega), w64 (x := 64 * (a : Int)) (by omega) (by omega), show 64 * (a : Int) = ((64 * a : Nat) : Int) from by omega]
          exact Ev.pos (by omega) (Ev.pos (by omega) (Ev.neg (by omega) (Ev.pos (by omega) (Ev.pos (by omega) (Ev.bind hO (Ev.bindo hl2 e'))))))
        | succ e ihe =>
          intro j vs hj hv
          have hjl : j < o.2.length := by omega
          by_cases k1 : bt (rdOf ByteArray.empty c.2.2.2 o.1) (j : Int) = 114
          · obtain ⟨v, ev, _⟩ := lies_f at_ (by omega) (n4 j hjl k1) (fun a hm => by have := ha2 a hm; omega)
            obtain ⟨im', q', e', hr⟩ := ihe (j + 1) (vs ++ [v]) (by omega) (by simp [hv])
            refine ⟨im', q', Ev.step (fun k => by rw [spec_l1Rd_laid.p69]) ?_, hr⟩
            rw [hg, rd_get hjl, w64s (i := j) (by omega)]
            exact Ev.pos (by omega) (Ev.pos (by omega) (Ev.pos (by omega) (Ev.pos (by omega) (Ev.pos (by omega) (Ev.pos (by omega) (Ev.pos (by omega) (Ev.pos n1 (Ev.pos n2 (Ev.pos (by omega) (Ev.pos (by omega) (Ev.pos k1 (Ev.bindo ev (Ev.pos (by omega) e')))))))))))))
          · obtain ⟨im', q', e', hr⟩ := ihe (j + 1) (vs ++ [o.2[j]]) (by omega) (by simp [hv])
            refine ⟨im', q', Ev.step (fun k => by rw [spec_l1Rd_laid.p69]) ?_, hr⟩
            rw [hg, rd_get hjl, w64s (i := j) (by omega)]
            exact Ev.pos (by omega) (Ev.pos (by omega) (Ev.pos (by omega) (Ev.pos (by omega) (Ev.pos (by omega) (Ev.pos (by omega) (Ev.pos (by omega) (Ev.pos n1 (Ev.pos n2 (Ev.pos (by omega) (Ev.pos (by omega) (Ev.neg k1 (Ev.pos (by omega) e'))))))))))))
      obtain ⟨im', q', e', hr⟩ := vals o.2.length 0 [] (Nat.zero_add _) rfl
      refine ⟨im', q', Ev.step (fun k => by rw [spec_l1Rd_laid.p54]) ?_, hr⟩
      rw [rd_get hi2, hts]
      exact Ev.pos (by omega) (Ev.pos (by omega) (Ev.pos (by omega) e'))
  -- fewer objects, until they have room
  have isT : ∀ ts : List Int, (∃ k, nodes.map (fun o => o.1) = ts ++ k) → ∀ t ∈ ts, isTy c t = true := fun ts ⟨k, hk⟩ t hm => by
    have : t ∈ nodes.map (fun o => o.1) := by rw [hk]; exact List.mem_append_left _ hm
    obtain ⟨o, ho, rfl⟩ := List.mem_map.1 this
    have := hN o ho
    unfold isTy
    rw [decide_eq_true this.t0, decide_eq_true (by have := this.t1; omega)]
    rfl
  have lenT : ∀ ts : List Int, (∃ k, nodes.map (fun o => o.1) = ts ++ k) → ts.length ≤ 9 := fun ts ⟨k, hk⟩ => by
    have := congrArg List.length hk
    rw [List.length_map, List.length_append] at this
    omega
  have p37 : ∀ (m : ByteArray) (p : Int), mapOk m → Rd l p → ∀ (d i : Nat) (ts : List Int), i + d = 9 → (∃ k, nodes.map (fun o => o.1) = ts ++ k) → ∃ im' q, Ev (fun k => spec_l1Rd_laid.p37 k l p c.1 c.2.1 c.2.2.1 c.2.2.2 roots nodes im0 ts m (fin2 (planF c ts m [])).1 (fin2 (planF c ts m [])).2.2 (i : Int)) (l, q, im') ∧ im'.size ≤ 9000 ∧ Rd l q := by
    intro m p hm hp d
    have go : ∀ (i : Nat) (ts : List Int) (b : Bool), b = false → (∃ k, nodes.map (fun o => o.1) = ts ++ k) → ∃ im' q, Ev (fun k => spec_l1Rd_laid.p41 k l p c.1 c.2.1 c.2.2.1 c.2.2.2 roots nodes im0 ts m (fin2 (planF c ts m [])).1 (i : Int) b) (l, q, im') ∧ im'.size ≤ 9000 ∧ Rd l q := by
      intro i ts b hb hpre
      cases hpl : planF c ts m [] with
      | none =>
        obtain ⟨im', q', e', hr⟩ := p54 ts [] p (Nat.zero_le _) hpre (fun j h => absurd h (Nat.not_lt_zero _)) hp 0 0 im0 rfl hz0
        refine ⟨im', q', Ev.step (fun k => by rw [spec_l1Rd_laid.p41]) ?_, hr⟩
        rw [hb]
        exact Ev.neg (by simp) e'
      | some r =>
        obtain ⟨K, hK, hKl, hKf⟩ := planF_facts hc ts m [] (L := r.1) (m' := r.2) hm hpl
        rw [List.nil_append] at hK
        rw [← hK] at hKl hKf
        obtain ⟨im', q', e', hr⟩ := p54 ts r.1 p (by omega) hpre hKf hp r.1.length 0 im0 (Nat.zero_add _) hz0
        refine ⟨im', q', Ev.step (fun k => by rw [spec_l1Rd_laid.p41]) ?_, hr⟩
        rw [hb]
        exact Ev.neg (by simp) e'
    induction d with
    | zero =>
      intro i ts hi hpre
      obtain ⟨im', q', e', hr⟩ := go i ts false rfl hpre
      refine ⟨im', q', Ev.step (fun k => by rw [spec_l1Rd_laid.p37]) ?_, hr⟩
      exact Ev.neg (by omega) e'
    | succ d ih =>
      intro i ts hi hpre
      cases hb : (fin2 (planF c ts m [])).2.2 with
      | true =>
        obtain ⟨im', q', e', hr⟩ := go i ts (!true) rfl hpre
        refine ⟨im', q', Ev.step (fun k => by rw [spec_l1Rd_laid.p37]) ?_, hr⟩
        exact Ev.pos (by omega) e'
      | false =>
        have hl := lenT ts hpre
        have hpre2 : ∃ k, nodes.map (fun o => o.1) = ts.take (ts.length / 2) ++ k := by
          obtain ⟨k, hk⟩ := hpre
          exact ⟨ts.drop (ts.length / 2) ++ k, by rw [hk, ← List.append_assoc, List.take_append_drop]⟩
        obtain ⟨im', q', e', hr⟩ := ih (i + 1) (ts.take (ts.length / 2)) (by omega) hpre2
        have hP := spec_l10Plan_ev c m (ts.take (ts.length / 2)) hc hm (isT _ hpre2) (by rw [List.length_take]; omega)
        refine ⟨im', q', Ev.step (fun k => by rw [spec_l1Rd_laid.p37]) ?_, hr⟩
        refine Ev.pos (by omega) (Ev.step (fun k => by rw [spec_l1Rd_laid.p41]) ?_)
        rw [show wrap64 (Int.tdiv (ts.length : Int) 2) = ((ts.length / 2 : Nat) : Int) from by rw [Int.tdiv_eq_ediv_of_nonneg (by omega), w64 (by omega) (by omega)]; omega, Int.toNat_natCast, List.drop_zero, w64s (i := i) (by omega)]
        exact Ev.pos rfl (Ev.pos (by omega) (Ev.pos (by omega) (Ev.bind hP e')))
  have pre0 : ∃ k, nodes.map (fun o => o.1) = nodes.map (fun o => o.1) ++ k := ⟨[], by simp⟩
  have p12 : ∀ i, i ≤ nodes.length → ∃ im' q, Ev (fun k => spec_l1Rd_laid.p12 k l q0 c.1 c.2.1 c.2.2.1 c.2.2.2 roots nodes im0 ((nodes.map (fun o => o.1)).take i) (i : Int)) (l, q, im') ∧ im'.size ≤ 9000 ∧ Rd l q := by
    refine down ?_ ?_
    · obtain ⟨o, q, eo, hq⟩ := once_f hq0 3 (by omega) (by omega)
      have hml : (nodes.map (fun o => o.1)).length = nodes.length := by simp
      have fin : ∀ m, mapOk m → ∃ im' q', Ev (fun k => (spec_l10Plan.f k c.1 c.2.1 c.2.2.1 c.2.2.2 m (nodes.map (fun o => o.1))).bind fun t6 => spec_l1Rd_laid.p37 k l q c.1 c.2.1 c.2.2.1 c.2.2.2 roots nodes im0 (nodes.map (fun o => o.1)) m t6.1 t6.2.2 0) (l, q', im') ∧ im'.size ≤ 9000 ∧ Rd l q' := fun m hm => by
        obtain ⟨im', q', e', hr⟩ := p37 m q hm hq 9 0 _ rfl pre0
        exact ⟨im', q', Ev.bind (spec_l10Plan_ev c m _ hc hm (isT _ pre0) (by rw [hml]; omega)) e', hr⟩
      rw [List.take_of_length_le (by omega)]
      cases o with
      | true =>
        obtain ⟨m, em, hm⟩ := l6MapOf_ok [4 + c.2.1, 6 + c.2.1] (by simp) (fun x hx => by
          simp only [List.mem_cons, List.not_mem_nil, or_false] at hx
          omega)
        obtain ⟨im', q', e', hr⟩ := fin m hm
        refine ⟨im', q', Ev.step (fun k => by rw [spec_l1Rd_laid.p12]) ?_, hr⟩
        rw [w64 (x := 4 + c.2.1) (by omega) (by omega), w64 (x := 6 + c.2.1) (by omega) (by omega)]
        exact Ev.neg (by omega) (Ev.bindo (spec_l1Zeros_f 64 (by omega)) (Ev.bindo eo (Ev.pos rfl (Ev.bind em e'))))
      | false =>
        obtain ⟨im', q', e', hr⟩ := fin (zerosB 64) zerosB_map
        refine ⟨im', q', Ev.step (fun k => by rw [spec_l1Rd_laid.p12]) ?_, hr⟩
        exact Ev.neg (by omega) (Ev.bindo (spec_l1Zeros_f 64 (by omega)) (Ev.bindo eo (Ev.neg (by simp) e')))
    · intro i hi ⟨im', q', e', hr⟩
      have hml : (nodes.map (fun o => o.1)).length = nodes.length := by simp
      rw [take_snoc2 _ i (by omega), List.getElem_map] at e'
      have hg : rdOf (0, []) nodes (i : Int) = nodes[i] := rdg hi
      refine ⟨im', q', Ev.step (fun k => by rw [spec_l1Rd_laid.p12]) ?_, hr⟩
      rw [hg, w64s (i := i) (by omega)]
      exact Ev.pos (by omega) (Ev.pos (by omega) (Ev.pos (by omega) (Ev.pos (by rw [List.length_take]; omega) e')))
  obtain ⟨im', q', e', hr⟩ := p12 0 (Nat.zero_le _)
  refine ⟨im', q', ?_, hr⟩
  unfold spec_l1Rd_laid.f
  exact Ev.bind e0 (Ev.bind e1 e')
end Go.Proofs.YtlljkankongifaaGreatDoor.Abs.Pu
namespace Go.Proofs.YtlljkankongifaaGreatDoor.Abs.Pu
open Go Go.RowKit
set_option linter.unusedVariables false
set_option linter.unusedSectionVars false
set_option linter.unusedSimpArgs false
theorem mem_linesFrom (t : Int → Bool) : ∀ (d : Nat) (i x : Int), x ∈ linesFrom t i d ↔ (i ≤ x ∧ x < i + d ∧ t x = true)
  | 0, i, x => by simp [linesFrom]; omega
  | d + 1, i, x => by
    have ih := mem_linesFrom t d (i + 1) x
    simp only [linesFrom]
    by_cases c : t i = true
    · rw [if_pos c, List.mem_cons, ih]
      constructor
      · rintro (rfl | h)
        · exact ⟨by omega, by omega, c⟩
        · exact ⟨by omega, by omega, h.2.2⟩
      · rintro ⟨h0, h1, h2⟩
        by_cases e : x = i
        · exact .inl e
        · exact .inr ⟨by omega, by omega, h2⟩
    · rw [if_neg c, ih]
      constructor
      · rintro ⟨h0, h1, h2⟩
        exact ⟨by omega, by omega, h2⟩
      · rintro ⟨h0, h1, h2⟩
        refine ⟨?_, by omega, h2⟩
        by_cases e : x = i
        · subst e; exact absurd h2 c
        · omega
theorem linesFrom_sorted (t : Int → Bool) : ∀ (d : Nat) (i : Int), (linesFrom t i d).Pairwise (· < ·)
  | 0, i => List.Pairwise.nil
  | d + 1, i => by
    have ih := linesFrom_sorted t d (i + 1)
    simp only [linesFrom]
    split
    · refine List.pairwise_cons.2 ⟨fun x hx => ?_, ih⟩
      have := (mem_linesFrom t d (i + 1) x).1 hx
      omega
    · exact ih
theorem impl_LinesOf_ev (s : ByteArray) : Ev (fun k => impl_LinesOf.f k s) (linesOf s) := by
  unfold impl_LinesOf.f
  refine Ev.bindo (impl_isMap_f s) (Ev.cases (fun c => ?_) (fun c => Ev.eq ?_))
  · have c : mapOk s := by simpa using c
    have l : ∀ (d i : Nat) (acc : List Int), 128 - i = d → i ≤ 128 → acc.length ≤ i → Ev (fun k => impl_LinesOf.p16 k s acc (i : Int)) (acc ++ linesFrom (tkn s) i d) := by
      intro d
      induction d with
      | zero =>
        intro i acc hd hi ha
        refine Ev.step (fun k => by rw [impl_LinesOf.p16]) ?_
        exact Ev.neg (by omega) (Ev.eq (by simp [linesFrom]))
      | succ d ih =>
        intro i acc hd hi ha
        refine Ev.step (fun k => by rw [impl_LinesOf.p16]) ?_
        refine Ev.pos (by omega) (Ev.bindo (impl_isTaken_f s i (by have := c.1; omega) (by omega)) ?_)
        rw [show wrap64 ((i : Int) + 1) = ((i + 1 : Nat) : Int) from by rw [w64 (by omega) (by omega)]; omega]
        refine Ev.cases (fun e => Ev.pos (by omega) ?_) (fun e => ?_)
        · refine Ev.val (ih (i + 1) (acc ++ [(i : Int)]) (by omega) (by omega) (by simp; omega)) ?_
          simp [linesFrom, e]
        · refine Ev.val (ih (i + 1) acc (by omega) (by omega) (by omega)) ?_
          simp [linesFrom, e]
    exact Ev.val (l 128 0 [] rfl (by omega) (by simp)) (by simp [linesOf, c])
  · have c : ¬ mapOk s := by simpa using c
    simp [linesOf, c]
end Go.Proofs.YtlljkankongifaaGreatDoor.Abs.Pu
namespace Go.Proofs.YtlljkankongifaaGreatDoor.Abs.Pu
open Go Go.RowKit
set_option linter.unusedVariables false
set_option linter.unusedSectionVars false
set_option linter.unusedSimpArgs false
def oldO (c : Cfg) (image : ByteArray) (line : Int) : (Int × List Int) × Bool := if isImageB c image = true then oldR c image line else ((0, []), false)
theorem impl_OldObject_ev (c : Cfg) (image : ByteArray) (line : Int) (hs : ∀ x ∈ c.2.2.2, x.size ≤ 1048576) : Ev (fun k => impl_OldObject.f k c.1 c.2.1 c.2.2.1 c.2.2.2 image line) (out3 (oldO c image line)) := by
  unfold impl_OldObject.f oldO
  refine Ev.bind (impl_isImage_ev c image hs) (Ev.cases (fun h => ?_) (fun h => by rw [if_neg h]; exact Ev.eq rfl))
  obtain ⟨hc, hz⟩ := isImageB_facts h
  rw [if_pos h]
  exact Ev.bind (impl_oldObject_ev c image line hc hz hs) (Ev.eq rfl)
end Go.Proofs.YtlljkankongifaaGreatDoor.Abs.Pu
namespace Go.Proofs.YtlljkankongifaaGreatDoor.Abs
open Go Go.RowKit
set_option linter.unusedVariables false
set_option linter.unusedSectionVars false
set_option linter.unusedSimpArgs false

theorem impl_isYoung_f (a : Int) : impl_isYoung.f a = some (decide (refk a = 2)) := by
  unfold impl_isYoung.f
  rw [impl_RefKind_f, Option.bind_some]
end Go.Proofs.YtlljkankongifaaGreatDoor.Abs
namespace Go.Proofs.YtlljkankongifaaGreatDoor.Abs.Pu
open Go Go.RowKit
set_option linter.unusedVariables false
set_option linter.unusedSectionVars false
set_option linter.unusedSimpArgs false
theorem has_ev (l : List Int) (x : Int) (hl : l.length ≤ 1099511627776) : Ev (fun k => laws_has.f k l x) (decide (x ∈ l)) := by
  have lp : ∀ (d i : Nat), l.length - i = d → i ≤ l.length → x ∉ l.take i → Ev (fun k => laws_has.p6 k l x (i : Int)) (decide (x ∈ l)) := by
    intro d
    induction d with
    | zero =>
      intro i hd hi hn
      rw [List.take_of_length_le (by omega)] at hn
      refine Ev.step (fun k => by rw [laws_has.p6]) (Ev.neg (by omega) (Ev.eq ?_))
      simp [hn]
    | succ d ih =>
      intro i hd hi hn
      have hlt : i < l.length := by omega
      refine Ev.step (fun k => by rw [laws_has.p6]) ?_
      rw [rd_get hlt, show wrap64 ((i : Int) + 1) = ((i + 1 : Nat) : Int) from by rw [w64 (by omega) (by omega)]; omega]
      refine Ev.pos (by omega) (Ev.pos (by omega) (Ev.pos (by omega) (Ev.cases (fun e => Ev.eq ?_) (fun e => ?_))))
      · simp [← e]
      · exact ih (i + 1) (by omega) (by omega) (by
          rw [take_snoc2 l i hlt, List.mem_append, List.mem_singleton]
          exact fun h => h.elim hn (fun h => e h.symm))
  unfold laws_has.f
  exact lp _ 0 rfl (by omega) (by simp)
end Go.Proofs.YtlljkankongifaaGreatDoor.Abs.Pu
namespace Go.Proofs.YtlljkankongifaaGreatDoor.Abs.Pu
open Go Go.RowKit
set_option linter.unusedVariables false
set_option linter.unusedSectionVars false
set_option linter.unusedSimpArgs false
theorem sameInts_ev (l : List Int) (hl : l.length ≤ 1099511627776) : Ev (fun k => laws_sameInts.f k l l) true := by
  have lp : ∀ (d i : Nat), l.length - i = d → i ≤ l.length → Ev (fun k => laws_sameInts.p14 k l l (i : Int)) true := by
    intro d
    induction d with
    | zero =>
      intro i hd hi
      exact Ev.step (fun k => by rw [laws_sameInts.p14]) (Ev.neg (by omega) (Ev.eq rfl))
    | succ d ih =>
      intro i hd hi
      refine Ev.step (fun k => by rw [laws_sameInts.p14]) ?_
      rw [show wrap64 ((i : Int) + 1) = ((i + 1 : Nat) : Int) from by rw [w64 (by omega) (by omega)]; omega]
      exact Ev.pos (by omega) (Ev.pos (by omega) (Ev.pos (by omega) (Ev.pos (by omega) (Ev.pos (by omega) (Ev.pos rfl (ih (i + 1) (by omega) (by omega)))))))
  unfold laws_sameInts.f
  exact Ev.pos rfl (lp _ 0 rfl (by omega))
end Go.Proofs.YtlljkankongifaaGreatDoor.Abs.Pu
namespace Go.Proofs.YtlljkankongifaaGreatDoor.Abs.Pu
open Go Go.RowKit
set_option linter.unusedVariables false
set_option linter.unusedSectionVars false
set_option linter.unusedSimpArgs false
theorem MapT.lines {m : ByteArray} {T : List Int} (h : MapT m T) : (∀ x, x ∈ linesOf m ↔ x ∈ T) ∧ (linesOf m).length = T.length := by
  have e : linesOf m = linesFrom (tkn m) 0 128 := by unfold linesOf; rw [if_pos h.ok]
  have hm : ∀ x, x ∈ linesOf m ↔ x ∈ T := fun x => by
    rw [e, mem_linesFrom]
    refine ⟨fun k => ?_, fun k => ?_⟩
    · have := (h.tk x.toNat (by omega)).1 (by rw [Int.toNat_of_nonneg (by omega)]; exact k.2.2)
      rwa [Int.toNat_of_nonneg (by omega)] at this
    · have hr := h.rg x k
      refine ⟨by omega, by omega, ?_⟩
      have := (h.tk x.toNat (by omega)).2 (by rw [Int.toNat_of_nonneg (by omega)]; exact k)
      rwa [Int.toNat_of_nonneg (by omega)] at this
  refine ⟨hm, ?_⟩
  have hnd : (linesOf m).Nodup := by
    rw [e]
    exact (linesFrom_sorted (tkn m) 128 0).imp (fun h => by omega)
  have h1 := nodup_len (linesOf m) T hnd (fun x hx => (hm x).1 hx)
  have h2 := nodup_len T (linesOf m) h.nd (fun x hx => (hm x).2 hx)
  omega
theorem placeOf_f {v : Int} (h : refk v = 1) : impl_PlaceOf.f v = some (v / 2) := by
  have := refk_one h
  unfold impl_PlaceOf.f impl_isOld.f
  rw [impl_RefKind_f, Option.bind_some, Option.bind_some, if_pos (by simpa using h), Int.tdiv_eq_ediv_of_nonneg (by omega), w64 (by omega) (by omega)]
theorem takenL_take (c : Cfg) : ∀ (ls : List Int) (os : List (Int × List Int)) (j : Nat) (h : j < ls.length) (h' : j < os.length) (x : Int), x ∈ linesR ls[j] (runO c os[j]) → x ∈ takenL c ls os
  | a :: ls, b :: os, 0, _, _, x, hx => by rw [takenL]; exact List.mem_append_left _ hx
  | a :: ls, b :: os, j + 1, h, h', x, hx => by
    rw [takenL]
    exact List.mem_append_right _ (takenL_take c ls os j (by simpa using h) (by simpa using h') x hx)
theorem refsB_at {p : Int → Bool} {t : ByteArray} : ∀ (l : List Int) (i : Nat), refsB p t i l = true → ∀ q (hq : q < l.length), bt t ((i + q : Nat) : Int) = 114 → p l[q] = true
  | v :: l, i, h, 0, _, hb => by
    rw [refsB, if_pos (by simpa using hb), Bool.and_eq_true] at h
    exact h.1
  | v :: l, i, h, q + 1, hq, hb => by
    have h2 : refsB p t (i + 1) l = true := by
      rw [refsB] at h
      split at h
      · rw [Bool.and_eq_true] at h; exact h.2
      · exact h
    exact refsB_at l (i + 1) h2 q (by simpa using hq) (by rw [show i + 1 + q = i + (q + 1) from by omega]; exact hb)
theorem nodup_tk {l : List Int} (h : l.Nodup) {i : Nat} (hi : i < l.length) : l[i] ∉ l.take i := by
  intro hm
  obtain ⟨j, hj, e⟩ := List.getElem_of_mem hm
  rw [List.length_take] at hj
  rw [List.getElem_take] at e
  exact List.pairwise_iff_getElem.1 h j i (by omega) hi (by omega) e
theorem sum_take_le (c : Cfg) : ∀ (os : List (Int × List Int)) (i : Nat), (∀ o ∈ os, runO c o ≤ 3) → ((os.take i).map (runO c)).sum ≤ 3 * os.length
  | [], i, _ => by simp
  | o :: os, 0, _ => by simp
  | o :: os, i + 1, h => by
    have := sum_take_le c os i (fun x hx => h x (List.mem_cons_of_mem _ hx))
    have h1 := h o (by simp)
    rw [List.take_succ_cons, List.map_cons, List.sum_cons, List.length_cons]
    omega
theorem walked_yes {c : Cfg} {image : ByteArray} {refs L : List Int} {O : List (Int × List Int)} {M : ByteArray} (hs : ∀ x ∈ c.2.2.2, x.size ≤ 1048576) (hw : walkR c image refs = some (L, O, M)) (p q : Bool) (M' : ByteArray) (L' : List Int) (b1 b2 : Bool) : Ev (fun k => laws_FnWalked.p23 k c.1 c.2.1 c.2.2.1 c.2.2.2 image L b1 L' b2 M true M' p false) true := by
  obtain ⟨hc, hz, st⟩ := walkR_end hw
  obtain ⟨hL, hO⟩ := walkR_len hw
  have himg : isImageB c image = true := by unfold isImageB; rw [hc, decide_eq_true hz]; rfl
  have hf := configOk_facts hc
  have ht := hf.2.2.2.2.2.2.2
  have htl := types_len ht
  have hmt := st.mt
  rw [List.take_of_length_le (Nat.le_refl _)] at hmt
  obtain ⟨hmem, hlen⟩ := hmt.lines
  rw [takenL_length c L O hO.symm] at hlen
  have hLo := impl_LinesOf_ev M
  have hTl : (linesOf M).length ≤ 128 := by
    have := nodup_len (takenL c L O) ((List.range 128).map fun n : Nat => (n : Int)) hmt.nd (fun x hx => by
      have := hmt.rg x hx
      exact List.mem_map.2 ⟨x.toNat, List.mem_range.2 (by omega), by omega⟩)
    rw [takenL_length c L O hO.symm] at this
    simp only [List.length_map, List.length_range] at this
    omega
  refine Ev.step (fun k => by rw [laws_FnWalked.p23]) ?_
  refine Ev.neg (by simp) (Ev.bind hLo ?_)
  generalize hT : linesOf M = T at *
  have loop : ∀ i, i ≤ L.length → Ev (fun k => laws_FnWalked.p36 k c.1 c.2.1 c.2.2.1 c.2.2.2 image L true ((((O.take i).map (runO c)).sum : Nat) : Int) T (i : Int)) true := by
    refine down ?_ ?_
    · refine Ev.step (fun k => by rw [laws_FnWalked.p36]) ?_
      have eO : O.take L.length = O := List.take_of_length_le (by omega)
      rw [eO, ← hlen]
      exact Ev.neg (by omega) (Ev.pos rfl (Ev.eq (by simp)))
    · intro i hi ih
      have hi2 : i < O.length := by omega
      have hobj := st.obj i hi2
      have hcls := st.cls i hi2
      obtain ⟨y1, y2, y3, y4⟩ := oldR_yes hc hz (line := rd L (i : Int)) (by rw [hobj])
      rw [hobj] at y2 y3 y4
      simp only [] at y2 y3 y4
      obtain ⟨o1, o2, o3, o4, o5, o6, o7⟩ := objOk8_facts y2
      have hdat := isDataB_facts y1
      have hb := runL_bound ht O[i].1
      have hts := type_size ht O[i].1
      have hOld := impl_OldObject_ev c image (rd L (i : Int)) hs
      have hoe : oldO c image (rd L (i : Int)) = (O[i], true) := by unfold oldO; rw [if_pos himg, hobj]
      rw [hoe] at hOld
      have hnt := nodup_tk st.li.nd hi
      have hrun : impl_RunOf.f (rdOf ByteArray.empty c.2.2.2 O[i].1) = some (runL c.2.2.2 O[i].1 : Int) := by
        unfold impl_RunOf.f
        rw [isType_f _ (by omega), Option.bind_some, if_pos (type_at ht o2 o3), impl_runOf_f ht]
        rfl
      have htk := takenL_take c L O i hi hi2
      have hro : runO c O[i] = runL c.2.2.2 O[i].1 := rfl
      have hsum : ((O.take (i + 1)).map (runO c)).sum = ((O.take i).map (runO c)).sum + runL c.2.2.2 O[i].1 := by
        rw [take_snoc2 O i hi2, List.map_append, List.sum_append]
        simp [runO]
      have hsl : ((O.take i).map (runO c)).sum ≤ 128 := by
        have h1 : (O.map (runO c)).sum = ((O.take i).map (runO c)).sum + ((O.drop i).map (runO c)).sum := by
          rw [← List.sum_append, ← List.map_append, List.take_append_drop]
        omega
      have hkd : kdO c O[i] = rdOf ByteArray.empty c.2.2.2 O[i].1 := rfl
      rw [hsum] at ih
      rw [rd_get hi] at hdat y3
      have hgi : rd L (i : Int) = L[i] := rd_get hi
      rw [hgi] at hOld
      rw [hro] at htk
      generalize ((O.take i).map (runO c)).sum = n at *
      generalize hrr : runL c.2.2.2 O[i].1 = r at *
      have hhas := has_ev ((L.take i).drop 0) L[i] (by rw [List.drop_zero, List.length_take]; omega)
      rw [List.drop_zero, decide_eq_false hnt] at hhas
      have g1 : (i : Int) < (L.length : Int) := by omega
      have g2 : (i : Int) ≤ (L.length : Int) := by omega
      have g3 : (0 : Int) ≤ (i : Int) := by omega
      refine Ev.step (fun k => by rw [laws_FnWalked.p36]) ?_
      rw [hgi, Int.toNat_natCast, List.drop_zero]
      refine Ev.pos g1 (Ev.pos g3 (Ev.pos g1 (Ev.bind hOld ?_)))
      refine Ev.pos rfl (Ev.pos g3 (Ev.pos g2 (Ev.pos g3 (Ev.pos g1 (Ev.bind hhas ?_)))))
      refine Ev.step (fun k => by rw [laws_FnWalked.p50]) ?_
      simp only [out3]
      refine Ev.neg (by simp) (Ev.pos o2 (Ev.pos o3 (Ev.bindo hrun ?_)))
      have gw : wrap64 ((n : Int) + (r : Int)) = ((n + r : Nat) : Int) := by rw [w64 (by omega) (by omega)]; omega
      rw [gw]
      clear gw hOld hhas hobj hoe
      have valsP : Ev (fun k => laws_FnWalked.p83 k c.1 c.2.1 c.2.2.1 c.2.2.2 image L true ((n + r : Nat) : Int) T (i : Int) O[i].1 O[i].2 0) true := by
        generalize O[i] = o at *
        refine each_ev (n := o.2.length) (g := fun k j => laws_FnWalked.p83 k c.1 c.2.1 c.2.2.1 c.2.2.2 image L true ((n + r : Nat) : Int) T (i : Int) o.1 o.2 j) (fun j hj ihj => ?_) ?_
        · have hcl := hcls j hj
          have hdr := refsB_at (p := dataRefB c) o.2 0 y4 j hj
          rw [Nat.zero_add, ← hkd] at hdr
          refine Ev.step (fun k => by rw [laws_FnWalked.p83]) ?_
          rw [rd_get hj, w64s (i := j) (by omega)]
          refine Ev.pos (by omega) (Ev.pos o2 (Ev.pos o3 (Ev.pos (by omega) (Ev.pos (by omega) ?_))))
          by_cases k1 : bt (rdOf ByteArray.empty c.2.2.2 o.1) (j : Int) = 114
          · refine Ev.pos k1 (Ev.pos (by omega) (Ev.pos (by omega) ?_))
            by_cases k2 : o.2[j] = 0
            · exact Ev.pos k2 ihj
            · have hm := hcl k1 k2
              have hd := hdr k1
              have hrk : refk o.2[j] = 1 := by
                unfold dataRefB at hd
                rw [decide_eq_false k2, Bool.false_or, Bool.and_eq_true, decide_eq_true_eq] at hd
                exact hd.1
              exact Ev.neg k2 (Ev.pos (by omega) (Ev.pos (by omega) (Ev.bindo (placeOf_f hrk) (Ev.bind (has_ev L _ (by omega)) (Ev.pos (decide_eq_true hm) ihj)))))
          · exact Ev.neg k1 ihj
        · refine Ev.step (fun k => by rw [laws_FnWalked.p83]) ?_
          rw [w64s (i := i) (by omega)]
          exact Ev.neg (by omega) ih
      have runP : ∀ j, j ≤ r → Ev (fun k => laws_FnWalked.p63 k c.1 c.2.1 c.2.2.1 c.2.2.2 image L true ((n + r : Nat) : Int) T (i : Int) O[i].1 O[i].2 (r : Int) (j : Int)) true := by
        refine down ?_ ?_
        · refine Ev.step (fun k => by rw [laws_FnWalked.p63]) ?_
          exact Ev.neg (by omega) valsP
        · intro j hj ihj
          have hm : L[i] + (j : Int) ∈ T := (hmem _).2 (htk _ (mem_linesR.2 (by omega)))
          refine Ev.step (fun k => by rw [laws_FnWalked.p63]) ?_
          rw [hgi, w64 (x := L[i] + (j : Int)) (by omega) (by omega), w64s (i := j) (by omega)]
          exact Ev.pos (by omega) (Ev.pos g3 (Ev.pos g1 (Ev.bind (has_ev T _ (by omega)) (Ev.pos (decide_eq_true hm) ihj))))
      exact runP 0 (Nat.zero_le _)
  have := loop 0 (Nat.zero_le _)
  simpa using this
end Go.Proofs.YtlljkankongifaaGreatDoor.Abs.Pu
namespace Go.Proofs.YtlljkankongifaaGreatDoor.Abs.Pu
open Go Go.RowKit
set_option linter.unusedVariables false
set_option linter.unusedSectionVars false
set_option linter.unusedSimpArgs false
theorem drawWalk_ev {l : List Int} (hb : isBytes l) (hl : l.length ≤ 1099511627776) : ∃ (c : Cfg) (image : ByteArray) (refs : List Int), Ev (fun k => spec_DrawWalk.f k l) (c.1, c.2.1, c.2.2.1, c.2.2.2, image, refs) ∧ configOk c = true ∧ refs.length ≤ 100 := by
  obtain ⟨c, q, e, hc, hq⟩ := config2_ev (Rd.start hb hl)
  obtain ⟨im, q2, e2, hz, hq2⟩ := laid_ev hq c hc
  obtain ⟨n, q3, e3, hn0, hn1, hq3⟩ := below_f hq2 6 (by omega) (by omega)
  have hf := configOk_facts hc
  have lp : ∀ (sl : List Int) (d : Nat) (refs : List Int) (p : Int), 1 ≤ sl.length → sl.length ≤ 100 → refs.length + d ≤ 50 → Rd l p → ∃ refs', Ev (fun k => spec_DrawWalk.p22 k 0 0 0 l p c.1 c.2.1 c.2.2.1 c.2.2.2 im refs sl (d : Int)) (c.1, c.2.1, c.2.2.1, c.2.2.2, im, refs') ∧ refs'.length ≤ 100 := by
    intro sl d
    have sn : ∀ (l : List Int) (x : Int), (l ++ [x]).length = l.length + 1 := fun l x => by simp
    induction d with
    | zero =>
      intro refs p h1 h2 hr hp
      obtain ⟨o, q, eo, hq⟩ := once_f hp 16 (by omega) (by omega)
      cases o with
      | true =>
        obtain ⟨v, q2, ev, _, _⟩ := ref_ev hq
        refine ⟨refs ++ [v], Ev.step (fun k => by rw [spec_DrawWalk.p22]) ?_, by rw [sn]; omega⟩
        exact Ev.neg (by omega) (Ev.bindo eo (Ev.pos rfl (Ev.bind ev (Ev.pos (by omega) (Ev.eq rfl)))))
      | false =>
        refine ⟨refs, Ev.step (fun k => by rw [spec_DrawWalk.p22]) ?_, by omega⟩
        exact Ev.neg (by omega) (Ev.bindo eo (Ev.neg (by simp) (Ev.eq rfl)))
    | succ d ih =>
      intro refs p h1 h2 hr hp
      obtain ⟨v, q, ev, hv0, hv1, hq⟩ := below_f hp (sl.length : Int) (by omega) (by omega)
      obtain ⟨refs', e', hr'⟩ := ih (refs ++ [rd sl v]) q h1 h2 (by rw [sn]; omega) hq
      refine ⟨refs', Ev.step (fun k => by rw [spec_DrawWalk.p22]) ?_, hr'⟩
      rw [show wrap64 (((d + 1 : Nat) : Int) - 1) = (d : Int) from by rw [w64 (by omega) (by omega)]; omega]
      exact Ev.pos (by omega) (Ev.bindo ev (Ev.pos hv0 (Ev.pos hv1 (Ev.pos (by omega) e'))))
  unfold spec_DrawWalk.f
  by_cases k : 192 ≤ im.size
  · have hsl := spec_l10Slots_ev im k (by omega)
    obtain ⟨refs', e4, hr⟩ := lp (slotsR im) n.toNat [] q3 (by simp [slotsR]) (by simp [slotsR]) (by simp only [List.length_nil]; omega) hq3
    rw [show ((n.toNat : Nat) : Int) = n from by omega] at e4
    exact ⟨c, im, refs', Ev.bindo rfl (Ev.bind e (Ev.bind e2 (Ev.pos (by simp only []; omega) (Ev.bind hsl (Ev.bindo e3 e4))))), hc, hr⟩
  · obtain ⟨refs', e4, hr⟩ := lp [0, wrap64 (2 * wrap64 (4 + c.2.1))] n.toNat [] q3 (by simp) (by simp) (by simp only [List.length_nil]; omega) hq3
    rw [show ((n.toNat : Nat) : Int) = n from by omega] at e4
    exact ⟨c, im, refs', Ev.bindo rfl (Ev.bind e (Ev.bind e2 (Ev.neg (by simp only []; omega) (Ev.bindo e3 e4)))), hc, hr⟩
theorem FnWalked : laws_FnWalked.Pure := by
  intro l hb
  have hb := hb.2
  refine Ev.rounds ?_
  unfold laws_FnWalked.f laws_big.f
  refine Ev.bindo rfl (Ev.cases (fun _ => Ev.eq rfl) (fun c0 => ?_))
  simp only [decide_eq_true_eq] at c0
  obtain ⟨c, image, refs, e, hc, hr⟩ := drawWalk_ev (isBytes_of hb) (by omega)
  have hf := configOk_facts hc
  have ht := hf.2.2.2.2.2.2.2
  have htl := types_len ht
  have hs : ∀ x ∈ c.2.2.2, x.size ≤ 1048576 := fun x hx => by
    obtain ⟨j, hj, rfl⟩ := List.getElem_of_mem hx
    have := type_size ht (j : Int)
    rw [rdg hj] at this
    omega
  have w1 := impl_Walk_ev c image refs hs (by omega)
  have w2 := spec_Walk_ev c image refs (by omega) hs (by omega)
  have m1 := impl_LiveMap_ev c image refs hs (by omega)
  have m2 := spec_LiveMap_ev c image refs (by omega) hs (by omega)
  have hlen := walkW_length c image refs
  have q := sameInts_ev (walkW c image refs).1 (by omega)
  refine Ev.bind e (Ev.bind w1 (Ev.bind w2 (Ev.bind m1 (Ev.bind m2 (Ev.pos rfl (Ev.bind q (Ev.pos rfl (Ev.pos rfl (Ev.pos rfl ?_)))))))))
  cases h : walkR c image refs with
  | none =>
    have hW : walkW c image refs = ([], false) := by
      unfold walkW
      rw [h]
      exact ite_self _
    rw [hW] at q ⊢
    refine Ev.step (fun k => by rw [laws_FnWalked.p23]) ?_
    exact Ev.pos rfl (Ev.pos rfl (Ev.bind q (Ev.pos rfl (Ev.pos rfl (Ev.eq (by simp))))))
  | some r =>
    obtain ⟨L, O, M⟩ := r
    have hW : walkW c image refs = (L, true) := by
      unfold walkW
      rw [if_pos (by omega), h]
    have hM : liveR c image refs = (M, true) := by
      unfold liveR
      rw [if_pos (by omega), h]
    rw [hW, hM]
    exact walked_yes hs h true true M L true true
end Go.Proofs.YtlljkankongifaaGreatDoor.Abs.Pu
namespace Go.Proofs
open Go.Shelf
def Tryz.lays231_ren : Go.Shelf.Ren := ⟨fun | 231 => 124 | n => n, fun | 9 => 9 | 5 => 5 | 3 => 3 | 4 => 4 | n => n, fun | n => n⟩
theorem Tryz.lays231 : Go.Proofs.Lays.n231 Tryz.prog Tryz.lays231_ren := {
  mixed := by kernel_rfl
  f231 := Tryz.func124.trans (congrArg some (by kernel_rfl))
  t3 := Tryz.underlying3
  a3 := Tryz.isAgg3
  z3 := Tryz.sizeOf3
  v3 := Tryz.zeroValue3
  t4 := Tryz.underlying4
  a4 := Tryz.isAgg4
  z4 := Tryz.sizeOf4
  v4 := Tryz.zeroValue4
  t5 := Tryz.underlying5
  a5 := Tryz.isAgg5
  z5 := Tryz.sizeOf5
  v5 := Tryz.zeroValue5
  t9 := Tryz.underlying9
  a9 := Tryz.isAgg9
  z9 := Tryz.sizeOf9
  v9 := Tryz.zeroValue9 }
open Go.RowKit in
/-- strings.trimLeftByte (no doc; what TrimLeft and Trim call at a cutset of one ASCII byte): the leading bytes that are c are cut off. The world is as it was. (LAID: no walk: one application.) -/
theorem Tryz.strings_trimLeftByte (s : ByteArray) (c : UInt8) (w : World) :
    Calls Tryz.prog 124 #[.string s, .int .u8 c.toNat] w fun e w' => e = .returned (.string ⟨(Lib.trimLeftB s.data.toList c).toArray⟩) ∧ w' = w := Any.strings_trimLeftByte Tryz.lays231 s c w
def Tryz.lays232_ren : Go.Shelf.Ren := ⟨fun | 232 => 125 | n => n, fun | 9 => 9 | 5 => 5 | 3 => 3 | 4 => 4 | n => n, fun | n => n⟩
theorem Tryz.lays232 : Go.Proofs.Lays.n232 Tryz.prog Tryz.lays232_ren := {
  mixed := by kernel_rfl
  f232 := Tryz.func125.trans (congrArg some (by kernel_rfl))
  t3 := Tryz.underlying3
  a3 := Tryz.isAgg3
  z3 := Tryz.sizeOf3
  v3 := Tryz.zeroValue3
  t4 := Tryz.underlying4
  a4 := Tryz.isAgg4
  z4 := Tryz.sizeOf4
  v4 := Tryz.zeroValue4
  t5 := Tryz.underlying5
  a5 := Tryz.isAgg5
  z5 := Tryz.sizeOf5
  v5 := Tryz.zeroValue5
  t9 := Tryz.underlying9
  a9 := Tryz.isAgg9
  z9 := Tryz.sizeOf9
  v9 := Tryz.zeroValue9 }
open Go.RowKit in
/-- strings.trimRightByte (no doc; what TrimRight and Trim call at a cutset of one ASCII byte): the trailing bytes that are c are cut off. The world is as it was. ('hs': a string's length is a number that an int holds.) (LAID: no walk: one application.) -/
theorem Tryz.strings_trimRightByte (s : ByteArray) (c : UInt8) (w : World) (hs : s.size ≤ 9223372036854775807) :
    Calls Tryz.prog 125 #[.string s, .int .u8 c.toNat] w fun e w' => e = .returned (.string ⟨(Lib.trimRightB s.data.toList c).toArray⟩) ∧ w' = w := Any.strings_trimRightByte Tryz.lays232 s c w hs
def Tryz.lays160_ren : Go.Shelf.Ren := ⟨fun | 160 => 101 | 232 => 125 | 231 => 124 | 227 => 126 | 234 => 128 | 233 => 127 | 236 => 130 | 235 => 129 | 228 => 147 | 271 => 150 | 151 => 149 | 197 => 148 | 120 => 164 | 152 => 163 | 260 => 162 | 137 => 168 | 119 => 169 | 224 => 170 | 225 => 171 | 217 => 172 | 266 => 173 | n => n, fun | 9 => 9 | 4 => 4 | 3 => 3 | 5 => 5 | 117 => 133 | 116 => 132 | 0 => 0 | 124 => 136 | 21 => 21 | 105 => 153 | 46 => 117 | 119 => 168 | 139 => 171 | 138 => 170 | n => n, fun | 3 => 0 | 4 => 1 | n => n⟩
theorem Tryz.lays160 : Go.Proofs.Lays.n160 Tryz.prog Tryz.lays160_ren := {
  mixed := by kernel_rfl
  f119 := Tryz.func169.trans (congrArg some (by kernel_rfl))
  f120 := Tryz.func164.trans (congrArg some (by kernel_rfl))
  f137 := Tryz.func168.trans (congrArg some (by kernel_rfl))
  f151 := Tryz.func149.trans (congrArg some (by kernel_rfl))
  f152 := Tryz.func163.trans (congrArg some (by kernel_rfl))
  f160 := Tryz.func101.trans (congrArg some (by kernel_rfl))
  f197 := Tryz.func148.trans (congrArg some (by kernel_rfl))
  f217 := Tryz.func172.trans (congrArg some (by kernel_rfl))
  f224 := Tryz.func170.trans (congrArg some (by kernel_rfl))
  f225 := Tryz.func171.trans (congrArg some (by kernel_rfl))
  f227 := Tryz.func126.trans (congrArg some (by kernel_rfl))
  f228 := Tryz.func147.trans (congrArg some (by kernel_rfl))
  f231 := Tryz.func124.trans (congrArg some (by kernel_rfl))
  f232 := Tryz.func125.trans (congrArg some (by kernel_rfl))
  f233 := Tryz.func127.trans (congrArg some (by kernel_rfl))
  f234 := Tryz.func128.trans (congrArg some (by kernel_rfl))
  f235 := Tryz.func129.trans (congrArg some (by kernel_rfl))
  f236 := Tryz.func130.trans (congrArg some (by kernel_rfl))
  f260 := Tryz.func162.trans (congrArg some (by kernel_rfl))
  f266 := Tryz.func173.trans (congrArg some (by kernel_rfl))
  f271 := Tryz.func150.trans (congrArg some (by kernel_rfl))
  t0 := Tryz.underlying0
  a0 := Tryz.isAgg0
  z0 := Tryz.sizeOf0
  v0 := Tryz.zeroValue0
  t3 := Tryz.underlying3
  a3 := Tryz.isAgg3
  z3 := Tryz.sizeOf3
  v3 := Tryz.zeroValue3
  t4 := Tryz.underlying4
  a4 := Tryz.isAgg4
  z4 := Tryz.sizeOf4
  v4 := Tryz.zeroValue4
  t5 := Tryz.underlying5
  a5 := Tryz.isAgg5
  z5 := Tryz.sizeOf5
  v5 := Tryz.zeroValue5
  t9 := Tryz.underlying9
  a9 := Tryz.isAgg9
  z9 := Tryz.sizeOf9
  v9 := Tryz.zeroValue9
  t21 := Tryz.underlying21
  a21 := Tryz.isAgg21
  z21 := Tryz.sizeOf21
  v21 := Tryz.zeroValue21
  t46 := Tryz.underlying117
  a46 := Tryz.isAgg117
  z46 := Tryz.sizeOf117
  v46 := Tryz.zeroValue117
  t105 := Tryz.underlying153
  a105 := Tryz.isAgg153
  z105 := Tryz.sizeOf153
  v105 := Tryz.zeroValue153
  t116 := Tryz.underlying132
  a116 := Tryz.isAgg132
  z116 := Tryz.sizeOf132
  t117 := Tryz.underlying133
  a117 := Tryz.isAgg133
  z117 := Tryz.sizeOf133
  v117 := Tryz.zeroValue133
  t119 := Tryz.underlying168
  a119 := Tryz.isAgg168
  z119 := Tryz.sizeOf168
  t124 := Tryz.underlying136
  a124 := Tryz.isAgg136
  z124 := Tryz.sizeOf136
  v124 := Tryz.zeroValue136
  t138 := Tryz.underlying170
  a138 := Tryz.isAgg170
  z138 := Tryz.sizeOf170
  v138 := Tryz.zeroValue170
  t139 := Tryz.underlying171
  a139 := Tryz.isAgg171
  z139 := Tryz.sizeOf171
  v139 := Tryz.zeroValue171
  g3 := by kernel_rfl
  g4 := by kernel_rfl }
open Go.RowKit in
/-- strings.Trim: "Trim returns a slice of the string s with all leading and trailing Unicode code points contained in cutset removed.": AT A cutset OF ONE ASCII BYTE. THE WORLD BEHIND IT: as it was, or (where s is not empty) with ONE DRAW MORE off the tape: the statement 'return trimLeftByte(trimRightByte(s, c), c)' draws its order of evaluation. (LAID: no walk: one application.) -/
theorem Tryz.strings_Trim_one (s : ByteArray) (c : UInt8) (hc : c.toNat < 128) (w : World) (hs : s.size ≤ 9223372036854775807) :
    Calls Tryz.prog 101 #[.string s, .string ⟨#[c]⟩] w fun e w' => e = .returned (.string ⟨(Lib.trimB s.data.toList c).toArray⟩) ∧ (w' = w ∨ w' = w.drew) := Any.strings_Trim_one Tryz.lays160 s c hc w hs
def Tryz.lays119_ren : Go.Shelf.Ren := ⟨fun | 119 => 169 | n => n, fun | 21 => 21 | 4 => 4 | n => n, fun | n => n⟩
theorem Tryz.lays119 : Go.Proofs.Lays.n119 Tryz.prog Tryz.lays119_ren := {
  mixed := by kernel_rfl
  f119 := Tryz.func169.trans (congrArg some (by kernel_rfl))
  t4 := Tryz.underlying4
  a4 := Tryz.isAgg4
  z4 := Tryz.sizeOf4
  v4 := Tryz.zeroValue4
  t21 := Tryz.underlying21
  a21 := Tryz.isAgg21
  z21 := Tryz.sizeOf21
  v21 := Tryz.zeroValue21 }
/-- utf8.ValidRune: "ValidRune reports whether r can be legally encoded as UTF-8. Code points that are out of range or a surrogate half are illegal.": IT RETURNS 'Lib.validRune r'; the world is as it was. (LAID: no walk: one application.) -/
theorem Tryz.utf8_ValidRune (r : Int) (w : World) :
    Calls Tryz.prog 169 #[.int .i32 r] w fun e w' => e = .returned (.bool (Lib.validRune r)) ∧ w' = w := Any.utf8_ValidRune Tryz.lays119 r w
def Tryz.lays120_ren : Go.Shelf.Ren := ⟨fun | 120 => 164 | n => n, fun | 5 => 5 | 4 => 4 | n => n, fun | n => n⟩
theorem Tryz.lays120 : Go.Proofs.Lays.n120 Tryz.prog Tryz.lays120_ren := {
  mixed := by kernel_rfl
  f120 := Tryz.func164.trans (congrArg some (by kernel_rfl))
  t4 := Tryz.underlying4
  a4 := Tryz.isAgg4
  z4 := Tryz.sizeOf4
  v4 := Tryz.zeroValue4
  t5 := Tryz.underlying5
  a5 := Tryz.isAgg5
  z5 := Tryz.sizeOf5
  v5 := Tryz.zeroValue5 }
/-- utf8.RuneStart: "RuneStart reports whether the byte could be the first byte of an encoded, possibly invalid rune. Second and subsequent bytes always have the top two bits set to 10.": IT RETURNS 'Lib.runeStart b'; the world is as it was. ('h0', 'h1': b is a byte: a caller has it of every byte that it was handed.) (LAID: no walk: one application.) -/
theorem Tryz.utf8_RuneStart (b : Int) (w : World) (h0 : 0 ≤ b) (h1 : b < 256) :
    Calls Tryz.prog 164 #[.int .u8 b] w fun e w' => e = .returned (.bool (Lib.runeStart b)) ∧ w' = w := Any.utf8_RuneStart Tryz.lays120 b w h0 h1
def Tryz.lays137_ren : Go.Shelf.Ren := ⟨fun | 137 => 168 | 217 => 172 | 266 => 173 | n => n, fun | 9 => 9 | 5 => 5 | 3 => 3 | n => n, fun | n => n⟩
theorem Tryz.lays137 : Go.Proofs.Lays.n137 Tryz.prog Tryz.lays137_ren := {
  mixed := by kernel_rfl
  f137 := Tryz.func168.trans (congrArg some (by kernel_rfl))
  f217 := Tryz.func172.trans (congrArg some (by kernel_rfl))
  f266 := Tryz.func173.trans (congrArg some (by kernel_rfl))
  t3 := Tryz.underlying3
  a3 := Tryz.isAgg3
  z3 := Tryz.sizeOf3
  v3 := Tryz.zeroValue3
  t5 := Tryz.underlying5
  a5 := Tryz.isAgg5
  z5 := Tryz.sizeOf5
  v5 := Tryz.zeroValue5
  t9 := Tryz.underlying9
  a9 := Tryz.isAgg9
  z9 := Tryz.sizeOf9
  v9 := Tryz.zeroValue9 }
open Go.RowKit in
/-- strings.IndexByte: "IndexByte returns the index of the first instance of c in s, or -1 if c is not present in s.": IT RETURNS 'Lib.indexByte s c'; the world is as it was. (LAID: no walk: one application.) -/
theorem Tryz.strings_IndexByte (s : ByteArray) (c : Int) (w : World) :
    Calls Tryz.prog 168 #[.string s, .int .u8 c] w fun e w' => e = .returned (.int .i64 (Lib.indexByte s.data.toList c.toNat.toUInt8)) ∧ w' = w := Any.strings_IndexByte Tryz.lays137 s c w
def Tryz.lays217_ren : Go.Shelf.Ren := ⟨fun | 217 => 172 | 266 => 173 | n => n, fun | 9 => 9 | 5 => 5 | 3 => 3 | n => n, fun | n => n⟩
theorem Tryz.lays217 : Go.Proofs.Lays.n217 Tryz.prog Tryz.lays217_ren := {
  mixed := by kernel_rfl
  f217 := Tryz.func172.trans (congrArg some (by kernel_rfl))
  f266 := Tryz.func173.trans (congrArg some (by kernel_rfl))
  t3 := Tryz.underlying3
  a3 := Tryz.isAgg3
  z3 := Tryz.sizeOf3
  v3 := Tryz.zeroValue3
  t5 := Tryz.underlying5
  a5 := Tryz.isAgg5
  z5 := Tryz.sizeOf5
  v5 := Tryz.zeroValue5
  t9 := Tryz.underlying9
  a9 := Tryz.isAgg9
  z9 := Tryz.sizeOf9
  v9 := Tryz.zeroValue9 }
open Go.RowKit Go.Lib in
/-- internal/stringslite.IndexByte (what strings.IndexByte calls): IT RETURNS 'Lib.indexByte s c'; the world is as it was. (LAID: no walk: one application.) -/
theorem Tryz.stringslite_IndexByte (s : ByteArray) (c : Int) (w : World) :
    Calls Tryz.prog 172 #[.string s, .int .u8 c] w fun e w' => e = .returned (.int .i64 (Lib.indexByte s.data.toList c.toNat.toUInt8)) ∧ w' = w := Any.stringslite_IndexByte Tryz.lays217 s c w
def Tryz.lays224_ren : Go.Shelf.Ren := ⟨fun | 224 => 170 | n => n, fun | 3 => 3 | n => n, fun | n => n⟩
theorem Tryz.lays224 : Go.Proofs.Lays.n224 Tryz.prog Tryz.lays224_ren := {
  mixed := by kernel_rfl
  f224 := Tryz.func170.trans (congrArg some (by kernel_rfl))
  t3 := Tryz.underlying3
  a3 := Tryz.isAgg3
  z3 := Tryz.sizeOf3
  v3 := Tryz.zeroValue3 }
open Go.RowKit Go.Lib in
/-- internal/bytealg.Cutover: "Cutover reports the number of failures of IndexByte we should tolerate before switching over to Index. n is the number of bytes processed so far.": on amd64: (n + 16) / 8. (LAID: no walk: one application.) -/
theorem Tryz.bytealg_Cutover (n : Int) (h0 : 0 ≤ n) (h1 : n < 4611686018427387904) (w : World) :
    Calls Tryz.prog 170 #[.int .i64 n] w fun e w' => e = .returned (.int .i64 ((n + 16) / 8)) ∧ w' = w := Any.bytealg_Cutover Tryz.lays224 n h0 h1 w
def Tryz.lays206_ren : Go.Shelf.Ren := ⟨fun | 206 => 153 | n => n, fun | 9 => 9 | 4 => 4 | 3 => 3 | n => n, fun | n => n⟩
theorem Tryz.lays206 : Go.Proofs.Lays.n206 Tryz.prog Tryz.lays206_ren := {
  mixed := by kernel_rfl
  f206 := Tryz.func153.trans (congrArg some (by kernel_rfl))
  t3 := Tryz.underlying3
  a3 := Tryz.isAgg3
  z3 := Tryz.sizeOf3
  v3 := Tryz.zeroValue3
  t4 := Tryz.underlying4
  a4 := Tryz.isAgg4
  z4 := Tryz.sizeOf4
  v4 := Tryz.zeroValue4
  t9 := Tryz.underlying9
  a9 := Tryz.isAgg9
  z9 := Tryz.sizeOf9
  v9 := Tryz.zeroValue9 }
open Go.RowKit Go.Lib in
/-- internal/stringslite.HasPrefix (what strings.HasPrefix calls). (LAID: no walk: one application.) -/
theorem Tryz.stringslite_HasPrefix (s p : ByteArray) (w : World) :
    Calls Tryz.prog 153 #[.string s, .string p] w fun e w' => e = .returned (.bool (Lib.hasPrefix s.data.toList p.data.toList)) ∧ w' = w := Any.stringslite_HasPrefix Tryz.lays206 s p w
def Tryz.lays99_ren : Go.Shelf.Ren := ⟨fun | 99 => 132 | 206 => 153 | n => n, fun | 9 => 9 | 4 => 4 | 3 => 3 | n => n, fun | n => n⟩
theorem Tryz.lays99 : Go.Proofs.Lays.n99 Tryz.prog Tryz.lays99_ren := {
  mixed := by kernel_rfl
  f99 := Tryz.func132.trans (congrArg some (by kernel_rfl))
  f206 := Tryz.func153.trans (congrArg some (by kernel_rfl))
  t3 := Tryz.underlying3
  a3 := Tryz.isAgg3
  z3 := Tryz.sizeOf3
  v3 := Tryz.zeroValue3
  t4 := Tryz.underlying4
  a4 := Tryz.isAgg4
  z4 := Tryz.sizeOf4
  v4 := Tryz.zeroValue4
  t9 := Tryz.underlying9
  a9 := Tryz.isAgg9
  z9 := Tryz.sizeOf9
  v9 := Tryz.zeroValue9 }
open Go.RowKit Go.Lib in
/-- strings.HasPrefix: "HasPrefix reports whether the string s begins with prefix.": IT RETURNS 'Lib.hasPrefix s prefix'; the world is as it was. (LAID: no walk: one application.) -/
theorem Tryz.strings_HasPrefix (s p : ByteArray) (w : World) :
    Calls Tryz.prog 132 #[.string s, .string p] w fun e w' => e = .returned (.bool (Lib.hasPrefix s.data.toList p.data.toList)) ∧ w' = w := Any.strings_HasPrefix Tryz.lays99 s p w
def Tryz.lays152_ren : Go.Shelf.Ren := ⟨fun | 152 => 163 | 137 => 168 | 119 => 169 | 224 => 170 | 225 => 171 | 217 => 172 | 266 => 173 | n => n, fun | 9 => 9 | 21 => 21 | 3 => 3 | 4 => 4 | 5 => 5 | 0 => 0 | 46 => 117 | n => n, fun | n => n⟩
theorem Tryz.lays152 : Go.Proofs.Lays.n152 Tryz.prog Tryz.lays152_ren := {
  mixed := by kernel_rfl
  f119 := Tryz.func169.trans (congrArg some (by kernel_rfl))
  f137 := Tryz.func168.trans (congrArg some (by kernel_rfl))
  f152 := Tryz.func163.trans (congrArg some (by kernel_rfl))
  f217 := Tryz.func172.trans (congrArg some (by kernel_rfl))
  f224 := Tryz.func170.trans (congrArg some (by kernel_rfl))
  f225 := Tryz.func171.trans (congrArg some (by kernel_rfl))
  f266 := Tryz.func173.trans (congrArg some (by kernel_rfl))
  t0 := Tryz.underlying0
  a0 := Tryz.isAgg0
  z0 := Tryz.sizeOf0
  v0 := Tryz.zeroValue0
  t3 := Tryz.underlying3
  a3 := Tryz.isAgg3
  z3 := Tryz.sizeOf3
  v3 := Tryz.zeroValue3
  t4 := Tryz.underlying4
  a4 := Tryz.isAgg4
  z4 := Tryz.sizeOf4
  v4 := Tryz.zeroValue4
  t5 := Tryz.underlying5
  a5 := Tryz.isAgg5
  z5 := Tryz.sizeOf5
  v5 := Tryz.zeroValue5
  t9 := Tryz.underlying9
  a9 := Tryz.isAgg9
  z9 := Tryz.sizeOf9
  v9 := Tryz.zeroValue9
  t21 := Tryz.underlying21
  a21 := Tryz.isAgg21
  z21 := Tryz.sizeOf21
  v21 := Tryz.zeroValue21
  t46 := Tryz.underlying117
  a46 := Tryz.isAgg117
  z46 := Tryz.sizeOf117
  v46 := Tryz.zeroValue117 }
open Go.RowKit Go.Lib in
theorem Tryz.strings_IndexRune_ascii (s : ByteArray) (r : Int) (w : World) (h0 : 0 ≤ r) (h1 : r < 128) :
    Calls Tryz.prog 163 #[.string s, .int .i32 r] w fun e w' => e = .returned (.int .i64 (Lib.indexByte s.data.toList r.toNat.toUInt8)) ∧ w' = w := Any.strings_IndexRune_ascii Tryz.lays152 s r w h0 h1
def Tryz.lays151_ren : Go.Shelf.Ren := ⟨fun | 151 => 149 | 152 => 163 | 137 => 168 | 119 => 169 | 224 => 170 | 225 => 171 | 217 => 172 | 266 => 173 | n => n, fun | 9 => 9 | 21 => 21 | 4 => 4 | 3 => 3 | 5 => 5 | 0 => 0 | 46 => 117 | n => n, fun | n => n⟩
theorem Tryz.lays151 : Go.Proofs.Lays.n151 Tryz.prog Tryz.lays151_ren := {
  mixed := by kernel_rfl
  f119 := Tryz.func169.trans (congrArg some (by kernel_rfl))
  f137 := Tryz.func168.trans (congrArg some (by kernel_rfl))
  f151 := Tryz.func149.trans (congrArg some (by kernel_rfl))
  f152 := Tryz.func163.trans (congrArg some (by kernel_rfl))
  f217 := Tryz.func172.trans (congrArg some (by kernel_rfl))
  f224 := Tryz.func170.trans (congrArg some (by kernel_rfl))
  f225 := Tryz.func171.trans (congrArg some (by kernel_rfl))
  f266 := Tryz.func173.trans (congrArg some (by kernel_rfl))
  t0 := Tryz.underlying0
  a0 := Tryz.isAgg0
  z0 := Tryz.sizeOf0
  v0 := Tryz.zeroValue0
  t3 := Tryz.underlying3
  a3 := Tryz.isAgg3
  z3 := Tryz.sizeOf3
  v3 := Tryz.zeroValue3
  t4 := Tryz.underlying4
  a4 := Tryz.isAgg4
  z4 := Tryz.sizeOf4
  v4 := Tryz.zeroValue4
  t5 := Tryz.underlying5
  a5 := Tryz.isAgg5
  z5 := Tryz.sizeOf5
  v5 := Tryz.zeroValue5
  t9 := Tryz.underlying9
  a9 := Tryz.isAgg9
  z9 := Tryz.sizeOf9
  v9 := Tryz.zeroValue9
  t21 := Tryz.underlying21
  a21 := Tryz.isAgg21
  z21 := Tryz.sizeOf21
  v21 := Tryz.zeroValue21
  t46 := Tryz.underlying117
  a46 := Tryz.isAgg117
  z46 := Tryz.sizeOf117
  v46 := Tryz.zeroValue117 }
open Go.RowKit Go.Lib in
theorem Tryz.strings_ContainsRune_ascii (s : ByteArray) (r : Int) (w : World) (h0 : 0 ≤ r) (h1 : r < 128) :
    Calls Tryz.prog 149 #[.string s, .int .i32 r] w fun e w' => e = .returned (.bool (decide (0 ≤ Lib.indexByte s.data.toList r.toNat.toUInt8))) ∧ w' = w := Any.strings_ContainsRune_ascii Tryz.lays151 s r w h0 h1
def Tryz.lays227_ren : Go.Shelf.Ren := ⟨fun | 227 => 126 | n => n, fun | 9 => 9 | 116 => 132 | 4 => 4 | 0 => 0 | 3 => 3 | 5 => 5 | n => n, fun | n => n⟩
theorem Tryz.lays227 : Go.Proofs.Lays.n227 Tryz.prog Tryz.lays227_ren := {
  mixed := by kernel_rfl
  f227 := Tryz.func126.trans (congrArg some (by kernel_rfl))
  t0 := Tryz.underlying0
  a0 := Tryz.isAgg0
  z0 := Tryz.sizeOf0
  v0 := Tryz.zeroValue0
  t3 := Tryz.underlying3
  a3 := Tryz.isAgg3
  z3 := Tryz.sizeOf3
  v3 := Tryz.zeroValue3
  t4 := Tryz.underlying4
  a4 := Tryz.isAgg4
  z4 := Tryz.sizeOf4
  v4 := Tryz.zeroValue4
  t5 := Tryz.underlying5
  a5 := Tryz.isAgg5
  z5 := Tryz.sizeOf5
  v5 := Tryz.zeroValue5
  t9 := Tryz.underlying9
  a9 := Tryz.isAgg9
  z9 := Tryz.sizeOf9
  v9 := Tryz.zeroValue9
  t116 := Tryz.underlying132
  a116 := Tryz.isAgg132
  z116 := Tryz.sizeOf132 }
open Go.RowKit Go.Lib in
theorem Tryz.strings_makeASCIISet (hv116 : ∀ w, (zeroValue 132).run Tryz.prog w = .ok (.agg (Array.replicate 256 (.bool false))) w) (chars : ByteArray) (w : World) (hs : chars.size < 4294967281) (hascii : ∀ (j : Nat) b, chars.data.toList[j]? = some b → b.toNat < 128) :
    Calls Tryz.prog 126 #[.string chars] w fun e w' => e = .returned (.tuple #[.agg (Lib.setCells chars.data.toList), .bool true]) ∧ w' = w.alloc (.cells (Lib.setCells chars.data.toList) 132) := Any.strings_makeASCIISet Tryz.lays227 hv116 (by kernel_rfl) chars w hs hascii
def Tryz.lays228_ren : Go.Shelf.Ren := ⟨fun | 228 => 147 | n => n, fun | 124 => 136 | 5 => 5 | 4 => 4 | 0 => 0 | 116 => 132 | n => n, fun | n => n⟩
theorem Tryz.lays228 : Go.Proofs.Lays.n228 Tryz.prog Tryz.lays228_ren := {
  mixed := by kernel_rfl
  f228 := Tryz.func147.trans (congrArg some (by kernel_rfl))
  t0 := Tryz.underlying0
  a0 := Tryz.isAgg0
  z0 := Tryz.sizeOf0
  v0 := Tryz.zeroValue0
  t4 := Tryz.underlying4
  a4 := Tryz.isAgg4
  z4 := Tryz.sizeOf4
  v4 := Tryz.zeroValue4
  t5 := Tryz.underlying5
  a5 := Tryz.isAgg5
  z5 := Tryz.sizeOf5
  v5 := Tryz.zeroValue5
  t116 := Tryz.underlying132
  a116 := Tryz.isAgg132
  z116 := Tryz.sizeOf132
  t124 := Tryz.underlying136
  a124 := Tryz.isAgg136
  z124 := Tryz.sizeOf136
  v124 := Tryz.zeroValue136 }
open Go.RowKit Go.Lib in
/-- '(as *asciiSet) contains(c)': 'as[c]': the set lies at block b, whole. (LAID: no walk: one application.) -/
theorem Tryz.asciiSet_contains (b : Nat) (x : UInt8) (v : Bool) (w : World) (hc : w.cell? ⟨b, x.toNat, none⟩ = some (.bool v)) :
    Calls Tryz.prog 147 #[.pointer (some ⟨b, 0, none⟩), .int .u8 x.toNat] w fun e w' => e = .returned (.bool v) ∧ w' = w := Any.asciiSet_contains Tryz.lays228 b x v w hc
def Tryz.lays264_ren : Go.Shelf.Ren := ⟨fun | 264 => 152 | n => n, fun | 53 => 126 | 46 => 117 | n => n, fun | n => n⟩
theorem Tryz.lays264 : Go.Proofs.Lays.n264 Tryz.prog Tryz.lays264_ren := {
  mixed := by kernel_rfl
  f264 := Tryz.func152.trans (congrArg some (by kernel_rfl))
  t46 := Tryz.underlying117
  a46 := Tryz.isAgg117
  z46 := Tryz.sizeOf117
  v46 := Tryz.zeroValue117
  t53 := Tryz.underlying126
  a53 := Tryz.isAgg126
  z53 := Tryz.sizeOf126
  v53 := Tryz.zeroValue126 }
open Go.RowKit Go.Lib in
theorem Tryz.bits_Mul64 (x y : Nat) (hx : x < 18446744073709551616) (hy : y < 18446744073709551616) (w : World) :
    Calls Tryz.prog 152 #[.int .u64 x, .int .u64 y] w fun e w' => e = .returned (.tuple #[.int .u64 ((x * y / 18446744073709551616 : Nat) : Int), .int .u64 ((x * y % 18446744073709551616 : Nat) : Int)]) ∧ w' = w := Any.bits_Mul64 Tryz.lays264 x y hx hy w
def Tryz.lays212_ren : Go.Shelf.Ren := ⟨fun | 212 => 131 | 263 => 151 | 264 => 152 | n => n, fun | 46 => 117 | 51 => 156 | 146 => 157 | 53 => 126 | 148 => 159 | n => n, fun | n => n⟩
theorem Tryz.lays212 : Go.Proofs.Lays.n212 Tryz.prog Tryz.lays212_ren := {
  mixed := by kernel_rfl
  f212 := Tryz.func131.trans (congrArg some (by kernel_rfl))
  f263 := Tryz.func151.trans (congrArg some (by kernel_rfl))
  f264 := Tryz.func152.trans (congrArg some (by kernel_rfl))
  t46 := Tryz.underlying117
  a46 := Tryz.isAgg117
  z46 := Tryz.sizeOf117
  v46 := Tryz.zeroValue117
  t51 := Tryz.underlying156
  a51 := Tryz.isAgg156
  z51 := Tryz.sizeOf156
  v51 := Tryz.zeroValue156
  t53 := Tryz.underlying126
  a53 := Tryz.isAgg126
  z53 := Tryz.sizeOf126
  v53 := Tryz.zeroValue126
  t146 := Tryz.underlying157
  a146 := Tryz.isAgg157
  z146 := Tryz.sizeOf157
  v146 := Tryz.zeroValue157
  t148 := Tryz.underlying159
  a148 := Tryz.isAgg159
  z148 := Tryz.sizeOf159
  v148 := Tryz.zeroValue159 }
open Go.RowKit Go.Lib in
/-- math/bits.Mul: "Mul returns the full-width product of x and y": on a machine of 64 bits: Mul64's. (LAID: no walk: one application.) -/
theorem Tryz.bits_Mul (x y : Nat) (hx : x < 18446744073709551616) (hy : y < 18446744073709551616) (w : World) :
    Calls Tryz.prog 131 #[.int .u64 x, .int .u64 y] w fun e w' => e = .returned (.tuple #[.int .u64 ((x * y / 18446744073709551616 : Nat) : Int), .int .u64 ((x * y % 18446744073709551616 : Nat) : Int)]) ∧ w' = w := Any.bits_Mul Tryz.lays212 x y hx hy w
def Tryz.lays105_ren : Go.Shelf.Ren := ⟨fun | 105 => 105 | 212 => 131 | 99 => 132 | 165 => 133 | 166 => 134 | 170 => 135 | 169 => 136 | 263 => 151 | 264 => 152 | 206 => 153 | 240 => 154 | 241 => 155 | 276 => 165 | 277 => 166 | n => n, fun | 9 => 9 | 3 => 3 | 4 => 4 | 20 => 20 | 0 => 0 | 46 => 117 | 109 => 137 | 5 => 5 | 72 => 142 | 76 => 146 | 51 => 156 | 146 => 157 | 53 => 126 | 148 => 159 | 70 => 140 | 37 => 47 | 75 => 145 | 127 => 161 | 164 => 164 | 80 => 148 | n => n, fun | n => n⟩
theorem Tryz.lays105 : Go.Proofs.Lays.n105 Tryz.prog Tryz.lays105_ren := {
  mixed := by kernel_rfl
  f99 := Tryz.func132.trans (congrArg some (by kernel_rfl))
  f105 := Tryz.func105.trans (congrArg some (by kernel_rfl))
  f165 := Tryz.func133.trans (congrArg some (by kernel_rfl))
  f166 := Tryz.func134.trans (congrArg some (by kernel_rfl))
  f169 := Tryz.func136.trans (congrArg some (by kernel_rfl))
  f170 := Tryz.func135.trans (congrArg some (by kernel_rfl))
  f206 := Tryz.func153.trans (congrArg some (by kernel_rfl))
  f212 := Tryz.func131.trans (congrArg some (by kernel_rfl))
  f240 := Tryz.func154.trans (congrArg some (by kernel_rfl))
  f241 := Tryz.func155.trans (congrArg some (by kernel_rfl))
  f263 := Tryz.func151.trans (congrArg some (by kernel_rfl))
  f264 := Tryz.func152.trans (congrArg some (by kernel_rfl))
  f276 := Tryz.func165.trans (congrArg some (by kernel_rfl))
  f277 := Tryz.func166.trans (congrArg some (by kernel_rfl))
  t0 := Tryz.underlying0
  a0 := Tryz.isAgg0
  z0 := Tryz.sizeOf0
  v0 := Tryz.zeroValue0
  t3 := Tryz.underlying3
  a3 := Tryz.isAgg3
  z3 := Tryz.sizeOf3
  v3 := Tryz.zeroValue3
  t4 := Tryz.underlying4
  a4 := Tryz.isAgg4
  z4 := Tryz.sizeOf4
  v4 := Tryz.zeroValue4
  t5 := Tryz.underlying5
  a5 := Tryz.isAgg5
  z5 := Tryz.sizeOf5
  v5 := Tryz.zeroValue5
  t9 := Tryz.underlying9
  a9 := Tryz.isAgg9
  z9 := Tryz.sizeOf9
  v9 := Tryz.zeroValue9
  t20 := Tryz.underlying20
  a20 := Tryz.isAgg20
  z20 := Tryz.sizeOf20
  v20 := Tryz.zeroValue20
  t37 := Tryz.underlying47
  a37 := Tryz.isAgg47
  z37 := Tryz.sizeOf47
  v37 := Tryz.zeroValue47
  t46 := Tryz.underlying117
  a46 := Tryz.isAgg117
  z46 := Tryz.sizeOf117
  v46 := Tryz.zeroValue117
  t51 := Tryz.underlying156
  a51 := Tryz.isAgg156
  z51 := Tryz.sizeOf156
  v51 := Tryz.zeroValue156
  t53 := Tryz.underlying126
  a53 := Tryz.isAgg126
  z53 := Tryz.sizeOf126
  v53 := Tryz.zeroValue126
  t70 := Tryz.underlying140
  a70 := Tryz.isAgg140
  z70 := Tryz.sizeOf140
  v70 := Tryz.zeroValue140
  t72 := Tryz.underlying142
  a72 := Tryz.isAgg142
  z72 := Tryz.sizeOf142
  v72 := Tryz.zeroValue142
  t75 := Tryz.underlying145
  a75 := Tryz.isAgg145
  z75 := Tryz.sizeOf145
  v75 := Tryz.zeroValue145
  t76 := Tryz.underlying146
  a76 := Tryz.isAgg146
  z76 := Tryz.sizeOf146
  v76 := Tryz.zeroValue146
  t109 := Tryz.underlying137
  a109 := Tryz.isAgg137
  z109 := Tryz.sizeOf137
  v109 := Tryz.zeroValue137
  t127 := Tryz.underlying161
  a127 := Tryz.isAgg161
  z127 := Tryz.sizeOf161
  v127 := Tryz.zeroValue161
  t146 := Tryz.underlying157
  a146 := Tryz.isAgg157
  z146 := Tryz.sizeOf157
  v146 := Tryz.zeroValue157
  t148 := Tryz.underlying159
  a148 := Tryz.isAgg159
  z148 := Tryz.sizeOf159
  v148 := Tryz.zeroValue159
  t164 := Tryz.underlying164
  a164 := Tryz.isAgg164
  z164 := Tryz.sizeOf164
  v164 := Tryz.zeroValue164 }
theorem Tryz.Builder_Extra_105 : Builder.Extra Tryz.prog Tryz.lays105_ren := {
  sizeBuilder := by kernel_rfl
  liesBuilder := by kernel_rfl
  t5 := Tryz.underlying5
  a5 := Tryz.isAgg5
  z5 := Tryz.sizeOf5
  v5 := Tryz.zeroValue5
  infoByte := by kernel_rfl
  cellsByte := by kernel_rfl
  sizeByte := by kernel_rfl
  neB5 := by decide }
open Go.RowKit Go.Lib in
/-- THE MAIN CASE: at least two copies of a string that is not empty. (LAID: no walk: one application.) -/
theorem Tryz.strings_Repeat_main (s : ByteArray) (c : Nat) (w : World) (hc2 : 2 ≤ c) (hc : c ≤ 9223372036854775807) (hlen : s.size * c ≤ 140737488355328) (h0 : 0 < s.size) :
    Calls Tryz.prog 105 #[.string s, .int .i64 c] w fun e w' => e = .returned (.string ⟨(Lib.repeatL s.data.toList c).toArray⟩) ∧ Below w.heap.size w w' := Any.strings_Repeat_main Tryz.lays105 Tryz.Builder_Extra_105 s c w hc2 hc hlen h0
open Go.RowKit Go.Lib in
theorem Tryz.strings_Repeat_zero (s : ByteArray) (w : World) :
    Calls Tryz.prog 105 #[.string s, .int .i64 0] w fun e w' => e = .returned (.string ⟨#[]⟩) ∧ w' = w := Any.strings_Repeat_zero Tryz.lays105 s w
open Go.RowKit Go.Lib in
theorem Tryz.strings_Repeat_one (s : ByteArray) (w : World) :
    Calls Tryz.prog 105 #[.string s, .int .i64 1] w fun e w' => e = .returned (.string s) ∧ w' = w := Any.strings_Repeat_one Tryz.lays105 s w
open Go.RowKit Go.Lib in
/-- Copies of the empty string. (LAID: no walk: one application.) -/
theorem Tryz.strings_Repeat_empty (s : ByteArray) (c : Nat) (w : World) (hc2 : 2 ≤ c) (hc : c ≤ 9223372036854775807) (h0 : s.size = 0) :
    Calls Tryz.prog 105 #[.string s, .int .i64 c] w fun e w' => e = .returned (.string ⟨#[]⟩) ∧ w' = w := Any.strings_Repeat_empty Tryz.lays105 s c w hc2 hc h0
open Go.RowKit Go.Lib in
/-- count < 0: "It panics if count is negative". (LAID: no walk: one application.) -/
theorem Tryz.strings_Repeat_negative (s : ByteArray) (c : Int) (w : World) (hc : c < 0) :
    Calls Tryz.prog 105 #[.string s, .int .i64 c] w fun e w' => e = .panicked [{ v := repeatPanic Tryz.lays105_ren "strings: negative Repeat count", recovered := false }] ∧ w' = w := Any.strings_Repeat_negative Tryz.lays105 s c w hc
open Go.RowKit Go.Lib in
/-- len(s) * count is no int: ".. or if the result of (len(s) * count) overflows". (LAID: no walk: one application.) -/
theorem Tryz.strings_Repeat_overflow (s : ByteArray) (c : Nat) (w : World) (hc : c ≤ 9223372036854775807) (hs : s.size ≤ 9223372036854775807) (hbig : 9223372036854775807 < s.size * c) :
    Calls Tryz.prog 105 #[.string s, .int .i64 c] w fun e w' => e = .panicked [{ v := repeatPanic Tryz.lays105_ren "strings: Repeat output length overflow", recovered := false }] ∧ w' = w := Any.strings_Repeat_overflow Tryz.lays105 s c w hc hs hbig
open Go.RowKit Go.Lib in
/-- **strings.Repeat: count ≥ 0, the result within one allocation: count copies of s.** (LAID: no walk: one application.) -/
theorem Tryz.strings_Repeat (s : ByteArray) (c : Nat) (w : World) (hc : c ≤ 9223372036854775807) (hlen : s.size * c ≤ 140737488355328) :
    Calls Tryz.prog 105 #[.string s, .int .i64 c] w fun e w' => e = .returned (.string ⟨(Lib.repeatL s.data.toList c).toArray⟩) ∧ Below w.heap.size w w' := Any.strings_Repeat Tryz.lays105 Tryz.Builder_Extra_105 s c w hc hlen
def Tryz.lays260_ren : Go.Shelf.Ren := ⟨fun | 260 => 162 | n => n, fun | 9 => 9 | 21 => 21 | 3 => 3 | 4 => 4 | 5 => 5 | 119 => 168 | 0 => 0 | 46 => 117 | 139 => 171 | 138 => 170 | n => n, fun | 3 => 0 | 4 => 1 | n => n⟩
theorem Tryz.lays260 : Go.Proofs.Lays.n260 Tryz.prog Tryz.lays260_ren := {
  mixed := by kernel_rfl
  f260 := Tryz.func162.trans (congrArg some (by kernel_rfl))
  t0 := Tryz.underlying0
  a0 := Tryz.isAgg0
  z0 := Tryz.sizeOf0
  v0 := Tryz.zeroValue0
  t3 := Tryz.underlying3
  a3 := Tryz.isAgg3
  z3 := Tryz.sizeOf3
  v3 := Tryz.zeroValue3
  t4 := Tryz.underlying4
  a4 := Tryz.isAgg4
  z4 := Tryz.sizeOf4
  v4 := Tryz.zeroValue4
  t5 := Tryz.underlying5
  a5 := Tryz.isAgg5
  z5 := Tryz.sizeOf5
  v5 := Tryz.zeroValue5
  t9 := Tryz.underlying9
  a9 := Tryz.isAgg9
  z9 := Tryz.sizeOf9
  v9 := Tryz.zeroValue9
  t21 := Tryz.underlying21
  a21 := Tryz.isAgg21
  z21 := Tryz.sizeOf21
  v21 := Tryz.zeroValue21
  t46 := Tryz.underlying117
  a46 := Tryz.isAgg117
  z46 := Tryz.sizeOf117
  v46 := Tryz.zeroValue117
  t119 := Tryz.underlying168
  a119 := Tryz.isAgg168
  z119 := Tryz.sizeOf168
  t138 := Tryz.underlying170
  a138 := Tryz.isAgg170
  z138 := Tryz.sizeOf170
  v138 := Tryz.zeroValue170
  t139 := Tryz.underlying171
  a139 := Tryz.isAgg171
  z139 := Tryz.sizeOf171
  v139 := Tryz.zeroValue171
  g3 := by kernel_rfl
  g4 := by kernel_rfl }
open Go.RowKit Go.Lib in
theorem Tryz.utf8_decodeRuneInStringSlow (s : ByteArray) (w : World) (hT : Lib.Utf8Tabs 0 1 w) :
    Calls Tryz.prog 162 #[.string s] w fun e w' => e = .returned (.tuple #[.int .i32 (Lib.decodeGo s).1, .int .i64 (Lib.decodeGo s).2]) ∧ Below w.heap.size w w' := Any.utf8_decodeRuneInStringSlow Tryz.lays260 s w hT
end Go.Proofs
