/- FnTaken: of every drawn map and run, what is taken can be given, and then all is as it was; so many are free less. No condition. (Merged out of this claim's own texts.) -/
import Derived.Test.YtnhladaobcnmhaaBFnTaken3
import Derived.Laws.BitsLemmas
import Derived.Test.YtnhladaobcnmhaaRows
import Derived.WalkKit
import Derived.ProofKit
import Derived.OpenShut
import Derived.ShutString
import Derived.ChangeOld
import Derived.Below
import Derived.SizedLaws
import Derived.Test.YtnhladaobcnmhaaWSized
namespace Go.Proofs.Ytnhladaobcnmhaa.Pure
open Go.RowKit Go.Proofs.Ytnhladaobcnmhaa.X Go.Proofs.YtnhladaobcnmhaaW.PrintWords Go.Proofs.YtnhladaobcnmhaaW.PrintLast Go.Proofs.YtnhladaobcnmhaaW.PrintMore
set_option linter.unusedVariables false
set_option linter.unusedSimpArgs false

/-- Strictly increasing, all in 0..127, place by place, up to place i. -/
def lineTo (l : List Int) (i : Nat) : Prop := ∀ j (h : j < l.length), j < i → 0 ≤ l[j] ∧ l[j] ≤ 127 ∧ ∀ (h0 : 0 < j), l[j - 1]'(by omega) < l[j]
instance (l : List Int) (i : Nat) : Decidable (lineTo l i) := by unfold lineTo; infer_instance
theorem lineTo_next {l : List Int} {i : Nat} (h : i < l.length) (hs : lineTo l i) (h1 : 0 ≤ l[i]) (h2 : l[i] ≤ 127) (h3 : ∀ (h0 : 0 < i), l[i - 1]'(by omega) < l[i]) : lineTo l (i + 1) := by
  intro j hj hi
  by_cases e : j = i
  · subst e; exact ⟨h1, h2, h3⟩
  · exact hs j hj (by omega)
theorem lineTo_all {l : List Int} {i : Nat} (hi : l.length ≤ i) (hs : lineTo l i) : lineTo l l.length := fun j hj _ => hs j hj (by omega)
theorem lineTo_mem {l : List Int} (hs : lineTo l l.length) : ∀ x ∈ l, 0 ≤ x ∧ x ≤ 127 := by
  intro x hx
  obtain ⟨j, hj, rfl⟩ := List.getElem_of_mem hx
  have := hs j hj hj
  exact ⟨this.1, this.2.1⟩
/-- The lines are set one behind the other. -/
def setAll (xs : List Int) : List Int → List Int
  | [] => xs
  | n :: l => setAll (change1 xs n.toNat true) l
theorem setAll_isBytes : ∀ (l : List Int) {xs : List Int}, isBytes xs → isBytes (setAll xs l)
  | [], _, h => h
  | _ :: l, _, h => setAll_isBytes l (change1_isBytes h _ _)
theorem setAll_length : ∀ (l : List Int) (xs : List Int), (setAll xs l).length = xs.length
  | [], _ => rfl
  | _ :: l, xs => by rw [setAll, setAll_length l, change1_length]
theorem setAll_snoc (l : List Int) (x : Int) : ∀ xs : List Int, setAll xs (l ++ [x]) = change1 (setAll xs l) x.toNat true := by
  induction l with
  | nil => intro xs; rfl
  | cons y l ih => intro xs; exact ih _
def mapOf (l : List Int) : ByteArray := if lineTo l l.length then strOfNums (setAll (List.replicate 64 0) l) else ⟨#[]⟩
theorem or_change {xs : List Int} (hx : isBytes xs) (i : Nat) (hi : i / 8 < xs.length) : xs.set (i / 8) (Go.bits .or .u8 (xs.getD (i / 8) 0) (2 ^ (i % 8) % 256)) = change1 xs i true := by
  have hb := isBytes_getD hx (i / 8)
  have hs := byte_set hb.1 hb.2 (show i % 8 < 8 by omega)
  refine bytes_ext (isBytes_set hx _ hs.1.1 hs.1.2) (change1_isBytes hx i true) (by rw [List.length_set, change1_length]) (fun j hj => ?_)
  rw [set1_bit hx hi, bitL_set hi]
  split
  · rename_i e
    rw [hs.2 _ (by omega)]
    unfold bitL
    rw [e]
    congr 1
    exact decide_eq_decide.2 (by omega)
  · rename_i e
    rw [show decide (j = i) = false from decide_eq_false (fun q => e (by rw [q]))]
    simp
theorem shl_u8 (r : Nat) (hr : r < 8) : shl .u8 1 (r : Int) = 2 ^ r % 256 := by
  unfold shl
  rw [Int.toNat_natCast, show min r IntKind.u8.bits = r from Nat.min_eq_left (by show r ≤ 8; omega), IntKind.wrap_u8, Int.one_mul]
theorem spec_l6MapOf_ev (l : List Int) (hl : l.length ≤ 1099511627776) (hs : ∀ x ∈ l, 0 ≤ x ∧ x ≤ 127) : Ev (fun k => spec_l6MapOf.f k l) (strOfNums (setAll (List.replicate 64 0) l)) := by
  have lp : ∀ (d i : Nat), l.length - i = d → i ≤ l.length → Ev (fun k => spec_l6MapOf.l0 k l (setAll (List.replicate 64 0) (l.take i)) (i : Int)) (strOfNums (setAll (List.replicate 64 0) l)) := by
    intro d
    induction d with
    | zero =>
      intro i hd hi
      refine Ev.step (fun k => by rw [spec_l6MapOf.l0]) (Ev.neg (by omega) (Ev.eq ?_))
      rw [List.take_of_length_le (by omega)]
    | succ d ih =>
      intro i hd hi
      have hlt : i < l.length := by omega
      have hr := hs _ (List.getElem_mem hlt)
      obtain ⟨w, hw⟩ : ∃ w : Nat, l[i] = (w : Int) := ⟨l[i].toNat, by omega⟩
      have hlen : (setAll (List.replicate 64 0) (l.take i)).length = 64 := by rw [setAll_length, List.length_replicate]
      have hby := setAll_isBytes (l.take i) (isBytes_replicate 64)
      refine Ev.step (fun k => by rw [spec_l6MapOf.l0]) ?_
      rw [rd_get hlt, hw, Int.tdiv_eq_ediv_of_nonneg (by omega), Int.tmod_eq_emod_of_nonneg (by omega), w64 (x := (w : Int) / 8) (by omega) (by omega)]
      rw [show (w : Int) / 8 = ((w / 8 : Nat) : Int) from by omega, show IntKind.u64.wrap ((w : Int) % 8) = ((w % 8 : Nat) : Int) from by simp [IntKind.wrap, IntKind.bits, IntKind.signed]; omega]
      refine Ev.pos (by omega) (Ev.pos (by omega) (Ev.pos (by omega) (Ev.pos (by omega) (Ev.pos (by omega) ?_))))
      rw [shl_u8 _ (by omega), rd_eq, Int.toNat_natCast, or_change hby w (by omega), show wrap64 ((i : Int) + 1) = ((i + 1 : Nat) : Int) from by rw [w64 (by omega) (by omega)]; omega]
      have e : setAll (List.replicate 64 0) (l.take (i + 1)) = change1 (setAll (List.replicate 64 0) (l.take i)) w true := by
        rw [take_snoc2 l i hlt, setAll_snoc, hw, Int.toNat_natCast]
      rw [← e]
      exact ih (i + 1) (by omega) (by omega)
  unfold spec_l6MapOf.f
  refine Ev.pos (by decide) ?_
  have h := lp _ 0 rfl (by omega)
  simpa [setAll] using h
theorem spec_MapOf_ev (l : List Int) (hl : l.length ≤ 1099511627776) : Ev (fun k => spec_MapOf.f k l) (mapOf l) := by
  have lp : ∀ (d i : Nat), l.length - i = d → i ≤ l.length → lineTo l i → Ev (fun k => spec_MapOf.l0 k l (i : Int)) (mapOf l) := by
    intro d
    induction d with
    | zero =>
      intro i hd hi hs
      have ha := lineTo_all (by omega) hs
      refine Ev.step (fun k => by rw [spec_MapOf.l0]) (Ev.neg (by omega) (Ev.bind (spec_l6MapOf_ev l hl (lineTo_mem ha)) (Ev.eq ?_)))
      rw [mapOf, if_pos ha]
    | succ d ih =>
      intro i hd hi hs
      have hlt : i < l.length := by omega
      refine Ev.step (fun k => by rw [spec_MapOf.l0]) ?_
      refine Ev.pos (by omega) (Ev.pos (by omega) (Ev.bindo (l1In_f _ _ _) ?_))
      rw [rd_get hlt, show wrap64 ((i : Int) + 1) = ((i + 1 : Nat) : Int) from by rw [w64 (by omega) (by omega)]; omega]
      refine Ev.cases (fun e => ?_) (fun e => Ev.eq ?_)
      · have e : 0 ≤ l[i] ∧ l[i] ≤ 127 := by simpa using e
        refine Ev.cases (fun e2 => ?_) (fun e2 => ih (i + 1) (by omega) (by omega) (lineTo_next hlt hs e.1 e.2 (fun h => by omega)))
        have hp : i - 1 < l.length := by omega
        rw [show wrap64 ((i : Int) - 1) = ((i - 1 : Nat) : Int) from by rw [w64 (by omega) (by omega)]; omega, rd_get hp]
        refine Ev.pos (by omega) (Ev.pos (by omega) (Ev.cases (fun e3 => Ev.eq ?_) (fun e3 => ih (i + 1) (by omega) (by omega) (lineTo_next hlt hs e.1 e.2 (fun h => by omega)))))
        rw [mapOf, if_neg (fun h => by have := (h i hlt hlt).2.2 (by omega); omega)]
      · rw [mapOf, if_neg (fun h => e (by have := h i hlt hlt; simp [this.1, this.2.1]))]
  unfold spec_MapOf.f
  exact lp _ 0 rfl (by omega) (fun j hj hi => absurd hi (by omega))
theorem changed_strOf (xs : List Int) (hx : isBytes xs) (w : Nat) : changed (strOfNums xs) true w 1 = strOfNums (change1 xs w true) := by
  unfold changed
  rw [bytesOf_strOfNums hx]
  rfl
theorem impl_MapOf_ev (l : List Int) (hl : l.length ≤ 1099511627776) : Ev (fun k => impl_MapOf.f k l) (mapOf l) := by
  have lp : ∀ (d i : Nat), l.length - i = d → i ≤ l.length → lineTo l i → Ev (fun k => impl_MapOf.l0 k l (strOfNums (setAll (List.replicate 64 0) (l.take i))) l (l.length : Int) (i : Int)) (mapOf l) := by
    intro d
    induction d with
    | zero =>
      intro i hd hi hs
      have ha := lineTo_all (by omega) hs
      refine Ev.step (fun k => by rw [impl_MapOf.l0]) (Ev.neg (by omega) (Ev.eq ?_))
      rw [mapOf, if_pos ha, List.take_of_length_le (by omega)]
    | succ d ih =>
      intro i hd hi hs
      have hlt : i < l.length := by omega
      refine Ev.step (fun k => by rw [impl_MapOf.l0]) ?_
      refine Ev.pos (by omega) (Ev.pos (by omega) (Ev.pos (by omega) (Ev.bindo (within_f _ _ _) ?_)))
      rw [rd_get hlt, show wrap64 ((i : Int) + 1) = ((i + 1 : Nat) : Int) from by rw [w64 (by omega) (by omega)]; omega]
      refine Ev.cases (fun e => ?_) (fun e => Ev.eq ?_)
      · have e : 0 ≤ l[i] ∧ l[i] ≤ 127 := by simpa using e
        obtain ⟨w, hw⟩ : ∃ w : Nat, l[i] = (w : Int) := ⟨l[i].toNat, by omega⟩
        have hby := setAll_isBytes (l.take i) (isBytes_replicate 64)
        have hsz : (strOfNums (setAll (List.replicate 64 0) (l.take i))).size = 64 := by rw [strOfNums_size, setAll_length, List.length_replicate]
        have hc := changedMap_f (strOfNums (setAll (List.replicate 64 0) (l.take i))) w 1 true (by omega) (by omega)
        have e4 : setAll (List.replicate 64 0) (l.take (i + 1)) = change1 (setAll (List.replicate 64 0) (l.take i)) w true := by
          rw [take_snoc2 l i hlt, setAll_snoc, hw, Int.toNat_natCast]
        rw [changed_strOf _ hby, ← e4] at hc
        rw [hw] at e ⊢
        refine Ev.cases (fun e2 => ?_) (fun e2 => Ev.bindo hc (ih (i + 1) (by omega) (by omega) (lineTo_next hlt hs (by omega) (by omega) (fun h => by omega))))
        have hp : i - 1 < l.length := by omega
        rw [show wrap64 ((i : Int) - 1) = ((i - 1 : Nat) : Int) from by rw [w64 (by omega) (by omega)]; omega, rd_get hp]
        refine Ev.pos (by omega) (Ev.pos (by omega) (Ev.cases (fun e3 => Ev.eq ?_) (fun e3 => Ev.bindo hc (ih (i + 1) (by omega) (by omega) (lineTo_next hlt hs (by omega) (by omega) (fun h => by omega))))))
        rw [mapOf, if_neg (fun h => by have := (h i hlt hlt).2.2 (by omega); omega)]
      · rw [mapOf, if_neg (fun h => e (by have := h i hlt hlt; simp [this.1, this.2.1]))]
  unfold impl_MapOf.f
  refine Ev.bindo (impl_zeros_f 64 (by omega)) ?_
  have h := lp _ 0 rfl (by omega) (fun j hj hi => absurd hi (by omega))
  simpa [setAll, zerosB] using h
end Go.Proofs.Ytnhladaobcnmhaa.Pure
namespace Go.Proofs.Ytnhladaobcnmhaa.Pure
open Go.RowKit Go.Proofs.YtnhladaobcnmhaaW.PrintWords Go.Proofs.YtnhladaobcnmhaaW.PrintLast
set_option linter.unusedVariables false
set_option linter.unusedSimpArgs false

theorem or_low (a b : Nat) (ha : a % 256 = 0) (hb : b < 256) : a ||| b = a + b := by
  have hq : a = 2 ^ 8 * (a / 2 ^ 8) := by
    have := Nat.div_add_mod a (2 ^ 8)
    omega
  rw [hq, ← Nat.two_pow_add_eq_or_of_lt (by simpa using hb) (a / 2 ^ 8)]
theorem or8_u64 (x y : Int) (h0 : 0 ≤ x) (h1 : x < 18446744073709551616) (hx : x % 256 = 0) (hy : 0 ≤ y) (hy1 : y < 256) : Go.bits .or .u64 x y = x + y := by
  unfold Go.bits
  simp only [BitVec.toNat_or, BitVec.toNat_ofInt]
  rw [show IntKind.u64.bits = 64 from rfl, or_low _ _ (by omega) (by omega)]
  simp only [IntKind.wrap, IntKind.bits, IntKind.signed]
  simp
  omega
theorem or8_i64 (x y : Int) (h0 : -9223372036854775808 ≤ x) (h1 : x ≤ 9223372036854775807) (hx : x % 256 = 0) (hy : 0 ≤ y) (hy1 : y < 256) : Go.bits .or .i64 x y = x + y := by
  unfold Go.bits
  simp only [BitVec.toNat_or, BitVec.toNat_ofInt]
  rw [show IntKind.i64.bits = 64 from rfl, or_low _ _ (by omega) (by omega)]
  rw [IntKind.wrap_i64]
  omega

/-- The value of the first n bytes, the highest one first. -/
def be (f : Nat → Int) : Nat → Int
  | 0 => 0
  | n + 1 => be f n * 256 + f n
theorem be_range (f : Nat → Int) (hf : ∀ i, 0 ≤ f i ∧ f i ≤ 255) : ∀ n, 0 ≤ be f n ∧ be f n < 256 ^ n
  | 0 => by simp [be]
  | n + 1 => by
    have h := be_range f hf n
    have h2 := hf n
    simp only [be, Int.pow_succ]
    omega
theorem be_congr {f g : Nat → Int} (n : Nat) (h : ∀ i, i < n → f i = g i) : be f n = be g n := by
  induction n with
  | zero => rfl
  | succ n ih => simp only [be]; rw [ih (fun i hi => h i (by omega)), h n (by omega)]
theorem wrap64_mod (x y : Int) (h : x % 18446744073709551616 = y % 18446744073709551616) : wrap64 x = wrap64 y := by
  unfold wrap64
  omega
theorem wrap64_range (x : Int) : -9223372036854775808 ≤ wrap64 x ∧ wrap64 x ≤ 9223372036854775807 := by
  unfold wrap64
  omega
/-- The int64 in the eight bytes from place p on. -/
def wordv (s : ByteArray) (p : Nat) : Int := wrap64 (be (fun i => bt s ((p + i : Nat) : Int)) 8)
theorem bt_extract (s : ByteArray) (a b i : Nat) (h : a + i < b) (hb : b ≤ s.size) : bt (s.extract a b) (i : Int) = bt s ((a + i : Nat) : Int) := by
  have h1 : i < (s.extract a b).size := by rw [ByteArray.size_extract]; omega
  have h2 : a + i < s.size := by omega
  rw [← bt_at _ _ (by rw [Int.toNat_natCast]; exact h1), ← bt_at _ _ (by rw [Int.toNat_natCast]; exact h2)]
  simp only [Int.toNat_natCast]
  rw [ByteArray.getElem_extract]
/-- A step of reading: shifted by a byte, the next one laid in. -/
theorem be_step_u64 (f : Nat → Int) (hf : ∀ i, 0 ≤ f i ∧ f i ≤ 255) (n : Nat) (hn : n < 8) : Go.bits .or .u64 (IntKind.u64.wrap (be f n * 256)) (IntKind.u64.wrap (f n)) = be f (n + 1) := by
  have hr := be_range f hf n
  have h2 := hf n
  have h3 : (256 : Int) ^ n ≤ 256 ^ 7 := by
    obtain rfl | rfl | rfl | rfl | rfl | rfl | rfl | rfl : n = 0 ∨ n = 1 ∨ n = 2 ∨ n = 3 ∨ n = 4 ∨ n = 5 ∨ n = 6 ∨ n = 7 := by omega
    all_goals decide
  have h4 : be f n < 72057594037927936 := by have : (256 : Int) ^ 7 = 72057594037927936 := by decide
                                             omega
  have hw : ∀ x : Int, 0 ≤ x → x < 18446744073709551616 → IntKind.u64.wrap x = x := by
    intro x hx0 hx1
    simp [IntKind.wrap, IntKind.bits, IntKind.signed]
    omega
  rw [hw _ (by omega) (by omega), hw _ (by omega) (by omega), or8_u64 _ _ (by omega) (by omega) (by omega) h2.1 (by omega)]
  rfl
theorem be_step_i64 (f : Nat → Int) (hf : ∀ i, 0 ≤ f i ∧ f i ≤ 255) (n : Nat) : Go.bits .or .i64 (wrap64 (wrap64 (be f n) * 256)) (wrap64 (f n)) = wrap64 (be f (n + 1)) := by
  have h2 := hf n
  have hr := wrap64_range (wrap64 (be f n) * 256)
  have e : wrap64 (wrap64 (be f n) * 256) = wrap64 (be f n * 256) := wrap64_mod _ _ (by unfold wrap64; omega)
  have hd : wrap64 (be f n * 256) % 256 = 0 := by unfold wrap64; omega
  rw [e] at hr ⊢
  rw [w64 (x := f n) (by omega) (by omega), or8_i64 _ _ hr.1 hr.2 hd h2.1 (by omega)]
  simp only [be]
  unfold wrap64
  omega
end Go.Proofs.Ytnhladaobcnmhaa.Pure
namespace Go.Proofs.Ytnhladaobcnmhaa.Pure
open Go.RowKit Go.Proofs.Ytnhladaobcnmhaa.X Go.Proofs.YtnhladaobcnmhaaW.PrintWords Go.Proofs.YtnhladaobcnmhaaW.PrintLast
set_option linter.unusedVariables false
set_option linter.unusedSimpArgs false

/-- A code and a place in it. -/
structure Rd (l : List Int) (p : Int) : Prop where
  bytes : isBytes l
  len : l.length ≤ 1099511627776
  lo : 0 ≤ p
  hi : p ≤ l.length
theorem Rd.start {l : List Int} (hb : isBytes l) (hl : l.length ≤ 1099511627776) : Rd l 0 := ⟨hb, hl, by omega, by omega⟩
theorem next_f {l : List Int} {p : Int} (h : Rd l p) : ∃ b q, spec_l1Rd_next.f l p = some (b, q) ∧ 0 ≤ b ∧ b ≤ 255 ∧ Rd l q := by
  obtain ⟨hb, hl, h0, h1⟩ := h
  unfold spec_l1Rd_next.f
  by_cases c : p ≥ (l.length : Int)
  · exact ⟨0, p, by rw [if_pos c], by omega, by omega, hb, hl, h0, h1⟩
  · have hg := isBytes_getD hb p.toNat
    have e : rd l p = l.getD p.toNat 0 := rfl
    rw [if_neg c, w64 (x := p + 1) (by omega) (by omega), w64 (x := p + 1 - 1) (by omega) (by omega), show p + 1 - 1 = p from by omega, if_pos h0, if_pos (by omega), w64 (x := rd l p) (by omega) (by omega)]
    exact ⟨_, _, rfl, by omega, by omega, hb, hl, by omega, by omega⟩
theorem tmod_range {x n : Int} (hx : 0 ≤ x) (hn : 0 < n) : 0 ≤ Int.tmod x n ∧ Int.tmod x n < n := by
  rw [Int.tmod_eq_emod_of_nonneg hx]
  exact ⟨Int.emod_nonneg _ (by omega), Int.emod_lt_of_pos _ hn⟩
/-- below n: one of 0 .. n - 1. -/
theorem below_f {l : List Int} {p : Int} (h : Rd l p) (n : Int) (hn : 1 ≤ n) (hn2 : n ≤ 65536) : ∃ v q, spec_l1Rd_below.f l p n = some (v, q) ∧ 0 ≤ v ∧ v < n ∧ Rd l q := by
  unfold spec_l1Rd_below.f
  by_cases c : n ≤ 1
  · exact ⟨0, p, by rw [if_pos c], by omega, by omega, h⟩
  · rw [if_neg c]
    by_cases c2 : n ≤ 256
    · obtain ⟨b, q, e, h0, h1, hq⟩ := next_f h
      have hm := tmod_range h0 (show 0 < n by omega)
      rw [if_pos c2, e, Option.bind_some, if_neg (by omega)]
      exact ⟨_, _, rfl, hm.1, hm.2, hq⟩
    · obtain ⟨b, q, e, h0, h1, hq⟩ := next_f h
      obtain ⟨b2, q2, e2, h2, h3, hq2⟩ := next_f hq
      have hm := tmod_range (show 0 ≤ b * 256 + b2 by omega) (show 0 < n by omega)
      rw [if_neg c2, e, Option.bind_some]
      simp only []
      rw [e2, Option.bind_some, if_neg (by omega)]
      simp only []
      rw [w64 (x := b * 256) (by omega) (by omega), w64 (x := b * 256 + b2) (by omega) (by omega)]
      exact ⟨_, _, rfl, hm.1, hm.2, hq2⟩
theorem once_f {l : List Int} {p : Int} (h : Rd l p) (n : Int) (hn : 1 ≤ n) (hn2 : n ≤ 65536) : ∃ v q, spec_l1Rd_once.f l p n = some (v, q) ∧ Rd l q := by
  obtain ⟨v, q, e, _, _, hq⟩ := below_f h n hn hn2
  unfold spec_l1Rd_once.f
  rw [e, Option.bind_some]
  exact ⟨_, _, rfl, hq⟩
/-- word: a number of 64 bits. -/
theorem word_ev {l : List Int} {p : Int} (h : Rd l p) : ∃ v q, Ev (fun k => spec_l1Rd_word.f k l p) (v, q) ∧ 0 ≤ v ∧ v < 18446744073709551616 ∧ Rd l q := by
  have lp : ∀ (d i : Nat) (f : Nat → Int) (p : Int), 8 - i = d → i ≤ 8 → (∀ j, 0 ≤ f j ∧ f j ≤ 255) → Rd l p → ∃ v q, Ev (fun k => spec_l1Rd_word.l0 k (be f i) (i : Int) l p) (v, q) ∧ 0 ≤ v ∧ v < 18446744073709551616 ∧ Rd l q := by
    intro d
    induction d with
    | zero =>
      intro i f p hd hi hf hp
      obtain rfl : i = 8 := by omega
      have hr := be_range f hf 8
      have e8 : (256 : Int) ^ 8 = 18446744073709551616 := by decide
      exact ⟨_, _, Ev.step (fun k => by rw [spec_l1Rd_word.l0]) (Ev.neg (by omega) (Ev.eq rfl)), hr.1, by omega, hp⟩
    | succ d ih =>
      intro i f p hd hi hf hp
      obtain ⟨b, q, e, h0, h1, hq⟩ := next_f hp
      obtain ⟨v, q2, he, hv⟩ := ih (i + 1) (fun j => if j = i then b else f j) q (by omega) (by omega) (fun j => by
        by_cases c : j = i
        · simp only [if_pos c]; exact ⟨h0, h1⟩
        · simp only [if_neg c]; exact hf j) hq
      refine ⟨v, q2, Ev.step (fun k => by rw [spec_l1Rd_word.l0]) (Ev.pos (by omega) (Ev.bindo e ?_)), hv⟩
      have hb := be_step_u64 (fun j => if j = i then b else f j) (fun j => by
        by_cases c : j = i
        · simp only [if_pos c]; exact ⟨h0, h1⟩
        · simp only [if_neg c]; exact hf j) i (by omega)
      rw [be_congr (f := fun j => if j = i then b else f j) (g := f) i (fun j hj => if_neg (by omega))] at hb
      simp only [if_true] at hb
      simp only []
      rw [hb, show wrap64 ((i : Int) + 1) = ((i + 1 : Nat) : Int) from by rw [w64 (by omega) (by omega)]; omega]
      exact he
  unfold spec_l1Rd_word.f
  exact lp 8 0 (fun _ => 0) p rfl (by omega) (fun _ => by omega) h
theorem u64_id {x : Int} (h0 : 0 ≤ x) (h1 : x < 18446744073709551616) : IntKind.u64.wrap x = x := by
  simp [IntKind.wrap, IntKind.bits, IntKind.signed]
  omega
/-- near lo hi: one of lo .. hi, or an end of it. -/
theorem near_ev {l : List Int} {p : Int} (h : Rd l p) (lo hi : Int) (h0 : -2305843009213693952 ≤ lo) (h1 : lo ≤ 2305843009213693952) (h2 : -2305843009213693952 ≤ hi) (h3 : hi ≤ 2305843009213693952) :
    ∃ v q, Ev (fun k => spec_l1Rd_near.f k l p lo hi) (v, q) ∧ (lo ≤ hi → lo ≤ v ∧ v ≤ hi) ∧ (v = hi ∨ lo ≤ v) ∧ -2305843009213693952 ≤ v ∧ v ≤ 2305843009213693952 ∧ Rd l q := by
  obtain ⟨v, q, e, hv0, hv1, hq⟩ := below_f h 8 (by omega) (by omega)
  unfold spec_l1Rd_near.f
  by_cases c0 : v = 0
  · exact ⟨_, _, Ev.bindo e (Ev.pos c0 (Ev.eq rfl)), fun _ => by omega, by omega, by omega, by omega, hq⟩
  · by_cases c1 : v = 1
    · exact ⟨_, _, Ev.bindo e (Ev.neg c0 (Ev.pos c1 (Ev.eq rfl))), fun _ => by omega, by omega, by omega, by omega, hq⟩
    · by_cases c2 : hi < lo
      · exact ⟨_, _, Ev.bindo e (Ev.neg c0 (Ev.neg c1 (Ev.pos c2 (Ev.eq rfl)))), fun _ => by omega, by omega, by omega, by omega, hq⟩
      · obtain ⟨w, q2, ew, hw0, hw1, hq2⟩ := word_ev hq
        have hm := tmod_range (show 0 ≤ w / 2 by omega) (show 0 < hi - lo + 1 by omega)
        refine ⟨lo + Int.tmod (w / 2) (hi - lo + 1), q2, Ev.bindo e (Ev.neg c0 (Ev.neg c1 (Ev.neg c2 (Ev.bind ew ?_)))), fun _ => by omega, by omega, by omega, by omega, hq2⟩
        rw [w64 (x := hi - lo) (by omega) (by omega), w64 (x := hi - lo + 1) (by omega) (by omega), u64_id (x := hi - lo + 1) (by omega) (by omega)]
        refine Ev.neg (by omega) ?_
        simp only []
        rw [w64 (x := Int.tmod (w / 2) (hi - lo + 1)) (by omega) (by omega), w64 (x := lo + Int.tmod (w / 2) (hi - lo + 1)) (by omega) (by omega)]
        exact Ev.eq rfl
/-- off lo hi: as near, now and then just outside, or an end of int64. -/
theorem off_ev {l : List Int} {p : Int} (h : Rd l p) (lo hi : Int) (h0 : -1099511627776 ≤ lo) (h1 : lo ≤ 1099511627776) (h2 : -1099511627776 ≤ hi) (h3 : hi ≤ 1099511627776) :
    ∃ v q, Ev (fun k => spec_l1Rd_off.f k l p lo hi) (v, q) ∧ -9223372036854775808 ≤ v ∧ v ≤ 9223372036854775807 ∧ Rd l q := by
  obtain ⟨o, q, e, hq⟩ := once_f h 24 (by omega) (by omega)
  unfold spec_l1Rd_off.f
  by_cases c : o = true
  · obtain ⟨v, q2, e2, hv0, hv1, hq2⟩ := below_f hq 4 (by omega) (by omega)
    refine ⟨rd [wrap64 (lo - 1), wrap64 (hi + 1), (-9223372036854775808), 9223372036854775807] v, q2, Ev.bindo e (Ev.pos c (Ev.bindo rfl (Ev.bindo e2 (Ev.pos (by simp only []; omega) (Ev.pos (by simp only [List.length_cons, List.length_nil]; omega) (Ev.eq rfl)))))), ?_, ?_, hq2⟩
    all_goals
      obtain rfl | rfl | rfl | rfl : v = 0 ∨ v = 1 ∨ v = 2 ∨ v = 3 := by omega
      · have := wrap64_range (lo - 1); simp [rd]; omega
      · have := wrap64_range (hi + 1); simp [rd]; omega
      · simp [rd]
      · simp [rd]
  · obtain ⟨v, q2, e2, _, _, hv0, hv1, hq2⟩ := near_ev hq lo hi (by omega) (by omega) (by omega) (by omega)
    exact ⟨v, q2, Ev.bindo e (Ev.neg c (Ev.bind e2 (Ev.eq rfl))), by omega, by omega, hq2⟩
end Go.Proofs.Ytnhladaobcnmhaa.Pure
namespace Go.Proofs.Ytnhladaobcnmhaa.Pure
open Go.RowKit Go.Proofs.Ytnhladaobcnmhaa.X Go.Proofs.YtnhladaobcnmhaaW.PrintWords Go.Proofs.YtnhladaobcnmhaaW.PrintLast
set_option linter.unusedVariables false
set_option linter.unusedSimpArgs false
theorem hurt_f {l : List Int} {p : Int} (h : Rd l p) (s : ByteArray) (hs : s.size ≤ 65535) : ∃ t q, spec_l1Rd_hurt.f l p s = some (t, q) ∧ t.size ≤ s.size + 1 ∧ Rd l q := by
  obtain ⟨v, q, e, hv0, hv1, hq⟩ := below_f h 6 (by omega) (by omega)
  unfold spec_l1Rd_hurt.f
  rw [e, Option.bind_some]
  simp only []
  by_cases c1 : v = 1
  · obtain ⟨x, q2, e2, hx0, hx1, hq2⟩ := below_f hq ((s.size : Int) + 1) (by omega) (by omega)
    rw [if_pos c1, w64 (x := (s.size : Int) + 1) (by omega) (by omega), e2, Option.bind_some]
    simp only []
    rw [if_pos hx0, if_pos (by omega)]
    exact ⟨_, _, rfl, by rw [ByteArray.size_extract]; omega, hq2⟩
  · rw [if_neg c1]
    by_cases c2 : v = 2
    · rw [if_pos c2]
      by_cases c3 : (s.size : Int) > 0
      · obtain ⟨x, q2, e2, hx0, hx1, hq2⟩ := below_f hq (s.size : Int) (by omega) (by omega)
        obtain ⟨y, q3, e3, hy0, hy1, hq3⟩ := below_f hq2 4 (by omega) (by omega)
        have hz : (rdOf ByteArray.empty [(⟨#[0]⟩ : ByteArray), (⟨#[55]⟩ : ByteArray), (⟨#[255]⟩ : ByteArray), (⟨#[32]⟩ : ByteArray)] y).size = 1 := by
          obtain rfl | rfl | rfl | rfl : y = 0 ∨ y = 1 ∨ y = 2 ∨ y = 3 := by omega
          all_goals rfl
        rw [if_pos c3, e2, Option.bind_some]
        simp only []
        rw [if_pos hx0, if_pos (by omega), Option.bind_some, e3, Option.bind_some]
        simp only []
        rw [if_pos hy0, if_pos (by simp only [List.length_cons, List.length_nil]; omega), w64 (x := x + 1) (by omega) (by omega)]
        generalize rdOf ByteArray.empty [(⟨#[0]⟩ : ByteArray), (⟨#[55]⟩ : ByteArray), (⟨#[255]⟩ : ByteArray), (⟨#[32]⟩ : ByteArray)] y = z at *
        have h1 : (s.extract 0 x.toNat).size ≤ s.size := by rw [ByteArray.size_extract]; omega
        have h2 : (s.extract (x + 1).toNat s.size).size ≤ s.size - (x + 1).toNat := by rw [ByteArray.size_extract]; omega
        have h3 : (s.extract 0 x.toNat).size ≤ x.toNat := by rw [ByteArray.size_extract]; omega
        rw [if_pos (by omega), if_pos (by omega), if_pos (by omega), if_pos (by rw [ByteArray.size_append]; omega)]
        exact ⟨_, _, rfl, by rw [ByteArray.size_append, ByteArray.size_append]; omega, hq3⟩
      · rw [if_neg c3]
        exact ⟨_, _, rfl, by omega, hq⟩
    · rw [if_neg c2]
      by_cases c3 : v = 3
      · obtain ⟨y, q3, e3, hy0, hy1, hq3⟩ := below_f hq 4 (by omega) (by omega)
        have hz : (rdOf ByteArray.empty [(⟨#[0]⟩ : ByteArray), (⟨#[49]⟩ : ByteArray), (⟨#[10]⟩ : ByteArray), (⟨#[32]⟩ : ByteArray)] y).size = 1 := by
          obtain rfl | rfl | rfl | rfl : y = 0 ∨ y = 1 ∨ y = 2 ∨ y = 3 := by omega
          all_goals rfl
        rw [if_pos c3, Option.bind_some, e3, Option.bind_some]
        simp only []
        rw [if_pos hy0, if_pos (by simp only [List.length_cons, List.length_nil]; omega)]
        generalize rdOf ByteArray.empty [(⟨#[0]⟩ : ByteArray), (⟨#[49]⟩ : ByteArray), (⟨#[10]⟩ : ByteArray), (⟨#[32]⟩ : ByteArray)] y = z at *
        rw [if_pos (by omega)]
        exact ⟨_, _, rfl, by rw [ByteArray.size_append]; omega, hq3⟩
      · rw [if_neg c3]
        exact ⟨_, _, rfl, by omega, hq⟩
end Go.Proofs.Ytnhladaobcnmhaa.Pure
namespace Go.Proofs.Ytnhladaobcnmhaa.Pure
open Go.RowKit Go.Proofs.Ytnhladaobcnmhaa.X Go.Proofs.YtnhladaobcnmhaaW.PrintWords Go.Proofs.YtnhladaobcnmhaaW.PrintLast
set_option linter.unusedVariables false
set_option linter.unusedSimpArgs false
/-- Lines in order, each below b. -/
structure Asc (l : List Int) (b : Int) : Prop where
  range : ∀ x ∈ l, 0 ≤ x ∧ x < b
  sorted : l.Pairwise (· < ·)
theorem Asc.snoc {l : List Int} {b c : Int} (h : Asc l b) (h0 : 0 ≤ b) (hc : b < c) : Asc (l ++ [b]) c := by
  refine ⟨fun x hx => ?_, List.pairwise_append.2 ⟨h.sorted, by simp, fun x hx y hy => ?_⟩⟩
  · rcases List.mem_append.1 hx with hx | hx
    · have := h.range x hx; omega
    · obtain rfl : x = b := by simpa using hx
      omega
  · obtain rfl : y = b := by simpa using hy
    exact (h.range x hx).2
theorem Asc.nil (b : Int) : Asc [] b := ⟨by simp, List.Pairwise.nil⟩
theorem lines_ev {l : List Int} {p : Int} (h : Rd l p) : ∃ v q, Ev (fun k => spec_l1Rd_lines.f k l p) (v, q) ∧ Asc v 128 ∧ v.length ≤ 128 ∧ Rd l q := by
  obtain ⟨s, q, e, hs0, hs1, hq⟩ := below_f h 12 (by omega) (by omega)
  have lp : ∀ (d : Nat) (i : Int) (acc : List Int) (p : Int), (128 - i).toNat ≤ d → 0 ≤ i → i ≤ 256 → Asc acc i → Asc acc 128 → (acc.length : Int) ≤ i → acc.length ≤ 128 → Rd l p →
      ∃ v q, Ev (fun k => spec_l1Rd_lines.l0 k acc (1 + s) i l p) (v, q) ∧ Asc v 128 ∧ v.length ≤ 128 ∧ Rd l q := by
    intro d
    induction d with
    | zero =>
      intro i acc p hd h0 h1 ha hb hl1 hl2 hp
      exact ⟨_, _, Ev.step (fun k => by rw [spec_l1Rd_lines.l0]) (Ev.neg (by omega) (Ev.eq rfl)), hb, hl2, hp⟩
    | succ d ih =>
      intro i acc p hd h0 h1 ha hb hl1 hl2 hp
      by_cases c : i < 128
      · obtain ⟨x, q, e, hx0, hx1, hq⟩ := below_f hp (1 + s) (by omega) (by omega)
        have hl : (acc ++ [i]).length = acc.length + 1 := by rw [List.length_append, List.length_singleton]
        obtain ⟨v, q2, he, hv⟩ := ih (i + 1 + x) (acc ++ [i]) q (by omega) (by omega) (by omega) (ha.snoc h0 (by omega)) (ha.snoc h0 c) (by omega) (by omega) hq
        refine ⟨v, q2, Ev.step (fun k => by rw [spec_l1Rd_lines.l0]) (Ev.pos c ?_), hv⟩
        refine Ev.pos (by omega) (Ev.bindo e ?_)
        simp only []
        rw [w64 (x := i + 1) (by omega) (by omega), w64 (x := i + 1 + x) (by omega) (by omega)]
        exact he
      · exact ⟨_, _, Ev.step (fun k => by rw [spec_l1Rd_lines.l0]) (Ev.neg c (Ev.eq rfl)), hb, hl2, hp⟩
  obtain ⟨x, q2, e2, hx0, hx1, hq2⟩ := below_f hq (1 + s) (by omega) (by omega)
  obtain ⟨v, q3, he, hv⟩ := lp 128 x [] q2 (by omega) hx0 (by omega) (Asc.nil _) (Asc.nil _) (by simp only [List.length_nil]; omega) (by simp) hq2
  refine ⟨v, q3, ?_, hv⟩
  unfold spec_l1Rd_lines.f
  refine Ev.bindo e ?_
  simp only []
  rw [w64 (x := 1 + s) (by omega) (by omega)]
  exact Ev.bindo e2 he
theorem aMap_ev {l : List Int} {p : Int} (h : Rd l p) : ∃ m q, Ev (fun k => spec_l1Rd_aMap.f k l p) (m, q) ∧ m.size ≤ 65 ∧ Rd l q := by
  obtain ⟨v, q, e, hv, hl, hq⟩ := lines_ev h
  obtain ⟨o, q2, e2, hq2⟩ := once_f hq 20 (by omega) (by omega)
  have em := spec_l6MapOf_ev v (by omega) (fun x hx => by have := hv.range x hx; omega)
  have hm : (strOfNums (setAll (List.replicate 64 0) v)).size = 64 := by rw [strOfNums_size, setAll_length, List.length_replicate]
  generalize strOfNums (setAll (List.replicate 64 0) v) = m at *
  unfold spec_l1Rd_aMap.f
  by_cases c : o = true
  · obtain ⟨t, q3, e3, ht, hq3⟩ := hurt_f hq2 m (by omega)
    exact ⟨t, q3, Ev.bind e (Ev.bind em (Ev.bindo e2 (Ev.pos c (Ev.bindo e3 (Ev.eq rfl))))), by omega, hq3⟩
  · exact ⟨m, q2, Ev.bind e (Ev.bind em (Ev.bindo e2 (Ev.neg c (Ev.eq rfl)))), by omega, hq2⟩
end Go.Proofs.Ytnhladaobcnmhaa.Pure
namespace Go.Proofs.Ytnhladaobcnmhaa.Pure
open Go.RowKit Go.Proofs.Ytnhladaobcnmhaa.X Go.Proofs.YtnhladaobcnmhaaW.PrintWords Go.Proofs.YtnhladaobcnmhaaW.PrintLast
set_option linter.unusedVariables false
set_option linter.unusedSimpArgs false
theorem sorted_ext : ∀ (l k : List Int), l.Pairwise (· < ·) → k.Pairwise (· < ·) → (∀ x, x ∈ l ↔ x ∈ k) → l = k
  | [], [], _, _, _ => rfl
  | [], b :: k, _, _, h => by have := (h b).2 (List.mem_cons_self ..); simp at this
  | a :: l, [], _, _, h => by have := (h a).1 (List.mem_cons_self ..); simp at this
  | a :: l, b :: k, hl, hk, h => by
    rw [List.pairwise_cons] at hl hk
    have hab : a = b := by
      have h1 := (h a).1 (List.mem_cons_self ..)
      have h2 := (h b).2 (List.mem_cons_self ..)
      rcases List.mem_cons.1 h1 with h1 | h1
      · exact h1
      · rcases List.mem_cons.1 h2 with h2 | h2
        · exact h2.symm
        · have := hl.1 b h2
          have := hk.1 a h1
          omega
    subst hab
    refine congrArg (a :: ·) (sorted_ext l k hl.2 hk.2 fun x => ⟨fun hx => ?_, fun hx => ?_⟩)
    · have := hl.1 x hx
      rcases List.mem_cons.1 ((h x).1 (List.mem_cons_of_mem _ hx)) with e | e
      · omega
      · exact e
    · have := hk.1 x hx
      rcases List.mem_cons.1 ((h x).2 (List.mem_cons_of_mem _ hx)) with e | e
      · omega
      · exact e
theorem mem_linesFrom (t : Int → Bool) : ∀ (d : Nat) (i x : Int), x ∈ linesFrom t i d ↔ (i ≤ x ∧ x < i + d ∧ t x = true)
  | 0, i, x => by simp [linesFrom]; omega
  | d + 1, i, x => by
    have ih := mem_linesFrom t d (i + 1) x
    simp only [linesFrom]
    by_cases c : t i = true
    · rw [if_pos c, List.mem_cons, ih]
      constructor
      · rintro (rfl | h)
        · exact ⟨by omega, by omega, c⟩
        · exact ⟨by omega, by omega, h.2.2⟩
      · rintro ⟨h0, h1, h2⟩
        by_cases e : x = i
        · exact .inl e
        · exact .inr ⟨by omega, by omega, h2⟩
    · rw [if_neg c, ih]
      constructor
      · rintro ⟨h0, h1, h2⟩
        exact ⟨by omega, by omega, h2⟩
      · rintro ⟨h0, h1, h2⟩
        refine ⟨?_, by omega, h2⟩
        by_cases e : x = i
        · subst e; exact absurd h2 c
        · omega
theorem linesFrom_sorted (t : Int → Bool) : ∀ (d : Nat) (i : Int), (linesFrom t i d).Pairwise (· < ·)
  | 0, i => List.Pairwise.nil
  | d + 1, i => by
    have ih := linesFrom_sorted t d (i + 1)
    simp only [linesFrom]
    split
    · refine List.pairwise_cons.2 ⟨fun x hx => ?_, ih⟩
      have := (mem_linesFrom t d (i + 1) x).1 hx
      omega
    · exact ih
theorem lineTo_iff (l : List Int) : lineTo l l.length ↔ l.Pairwise (· < ·) ∧ ∀ x ∈ l, 0 ≤ x ∧ x ≤ 127 := by
  refine ⟨fun h => ⟨?_, lineTo_mem h⟩, fun h => fun j hj _ => ⟨(h.2 _ (List.getElem_mem hj)).1, (h.2 _ (List.getElem_mem hj)).2, fun h0 => List.pairwise_iff_getElem.1 h.1 (j - 1) j (by omega) hj (by omega)⟩⟩
  rw [List.pairwise_iff_getElem]
  intro i j hi
  induction j with
  | zero => intro _ hij; omega
  | succ j ih =>
    intro hj hij
    have h1 := (h (j + 1) hj hj).2.2 (by omega)
    simp only [Nat.add_sub_cancel] at h1
    by_cases e : i = j
    · subst e; exact h1
    · have := ih (by omega) (by omega)
      omega
theorem setAll_bit : ∀ (l : List Int) {xs : List Int}, isBytes xs → (∀ x ∈ l, 0 ≤ x ∧ x.toNat / 8 < xs.length) → ∀ j : Nat, bitL (setAll xs l) j = (bitL xs j || decide ((j : Int) ∈ l))
  | [], xs, _, _, j => by simp [setAll]
  | n :: l, xs, hx, h, j => by
    have hn := h n (List.mem_cons_self ..)
    rw [setAll, setAll_bit l (change1_isBytes hx _ _) (fun x hx2 => by rw [change1_length]; exact h x (List.mem_cons_of_mem _ hx2)), set1_bit hx hn.2 j]
    have e : decide (j = n.toNat) = decide ((j : Int) = n) := by
      have := hn.1
      exact decide_eq_decide.2 (by omega)
    rw [e]
    simp [List.mem_cons, Bool.or_assoc]
theorem setAll_drop : ∀ (l : List Int) (xs : List Int), (∀ x ∈ l, 0 ≤ x ∧ x ≤ 127) → (setAll xs l).drop 16 = xs.drop 16
  | [], xs, _ => rfl
  | n :: l, xs, h => by
    have hn := h n (List.mem_cons_self ..)
    rw [setAll, setAll_drop l _ (fun x hx => h x (List.mem_cons_of_mem _ hx))]
    unfold change1
    rw [if_pos rfl, List.drop_set_of_lt (by omega), List.drop_set_of_lt (by omega)]
theorem bytesOf_extract (s : ByteArray) (i : Nat) : bytesOf (s.extract i s.size) = (bytesOf s).drop i := by
  unfold bytesOf
  rw [ByteArray.data_extract, Array.toList_extract]
  have e : s.size = s.data.toList.length := by rw [Array.length_toList]; rfl
  rw [List.extract_eq_take_drop, List.take_of_length_le (by rw [List.length_drop]; omega), List.map_drop]
theorem mapOk_iff (s : ByteArray) : mapOk s ↔ (bytesOf s).length = 64 ∧ (bytesOf s).drop 16 = List.replicate 48 0 := by
  unfold mapOk
  rw [bytesOf_length]
  refine and_congr_right fun h => ⟨fun k => ?_, fun k => bytesOf_inj ?_⟩
  · rw [← bytesOf_extract, k, bytesOf_zerosB]
  · rw [bytesOf_extract, k, bytesOf_zerosB]
theorem bitL_zeros (n j : Nat) : bitL (List.replicate n 0) j = false := by
  unfold bitL
  have e : (List.replicate n (0 : Int)).getD (j / 8) 0 = 0 := by
    rw [List.getD_eq_getElem?_getD, List.getElem?_replicate]
    split <;> rfl
  rw [e]
  simp [bitv]
/-- The map of lines in order has just these lines. -/
theorem linesOf_mapOf {l : List Int} (h : lineTo l l.length) : linesOf (mapOf l) = l := by
  obtain ⟨hs, hr⟩ := (lineTo_iff l).1 h
  have hb : isBytes (setAll (List.replicate 64 0) l) := setAll_isBytes l (isBytes_replicate 64)
  have e : bytesOf (mapOf l) = setAll (List.replicate 64 0) l := by rw [mapOf, if_pos h, bytesOf_strOfNums hb]
  have hm : mapOk (mapOf l) := (mapOk_iff _).2 (by
    rw [e, setAll_length, setAll_drop l _ hr, List.length_replicate]
    exact ⟨rfl, by simp⟩)
  rw [linesOf, if_pos hm]
  refine sorted_ext _ _ (linesFrom_sorted _ _ _) hs fun x => ?_
  rw [mem_linesFrom]
  constructor
  · rintro ⟨h0, h1, h2⟩
    rw [tk, e, setAll_bit l (isBytes_replicate 64) (fun y hy => by have := hr y hy; rw [List.length_replicate]; omega), bitL_zeros, Bool.false_or] at h2
    rw [Int.toNat_of_nonneg h0] at h2
    simpa using h2
  · intro hx
    have h0 := hr x hx
    refine ⟨h0.1, by omega, ?_⟩
    rw [tk, e, setAll_bit l (isBytes_replicate 64) (fun y hy => by have := hr y hy; rw [List.length_replicate]; omega), Int.toNat_of_nonneg h0.1]
    simp [hx]
/-- A map is the map of its lines. -/
theorem mapOf_linesOf {s : ByteArray} (h : mapOk s) : mapOf (linesOf s) = s := by
  have hl : lineTo (linesOf s) (linesOf s).length := (lineTo_iff _).2 (by
    rw [linesOf, if_pos h]
    refine ⟨linesFrom_sorted _ _ _, fun x hx => ?_⟩
    have := (mem_linesFrom _ _ _ _).1 hx
    omega)
  have hr := ((lineTo_iff _).1 hl).2
  have hb : isBytes (setAll (List.replicate 64 0) (linesOf s)) := setAll_isBytes _ (isBytes_replicate 64)
  obtain ⟨h64, hd⟩ := (mapOk_iff s).1 h
  rw [mapOf, if_pos hl]
  refine bytesOf_inj ?_
  rw [bytesOf_strOfNums hb]
  refine bytes_ext hb (bytesOf_isBytes s) (by rw [setAll_length, List.length_replicate, h64]) fun j hj => ?_
  rw [setAll_length, List.length_replicate] at hj
  by_cases c : j < 128
  · rw [setAll_bit _ (isBytes_replicate 64) (fun y hy => by have := hr y hy; rw [List.length_replicate]; omega), bitL_zeros, Bool.false_or]
    have e : bitL (bytesOf s) j = tk s (j : Int) := by simp [tk]
    rw [e, linesOf, if_pos h]
    cases ht : tk s (j : Int) with
    | true => simp [mem_linesFrom, ht]; omega
    | false => simp [mem_linesFrom, ht]
  · have hz : ∀ xs : List Int, xs.drop 16 = List.replicate 48 0 → bitL xs j = false := by
      intro xs hx
      unfold bitL
      have e : xs.getD (j / 8) 0 = 0 := by
        have e2 : xs[j / 8]? = (xs.drop 16)[j / 8 - 16]? := by rw [List.getElem?_drop, show 16 + (j / 8 - 16) = j / 8 from by omega]
        rw [List.getD_eq_getElem?_getD, e2, hx, List.getElem?_replicate]
        split <;> rfl
      rw [e]
      simp [bitv]
    rw [hz _ (by rw [setAll_drop _ _ hr]; simp), hz _ hd]
end Go.Proofs.Ytnhladaobcnmhaa.Pure
namespace Go.Proofs.Ytnhladaobcnmhaa.Pure
open Go.RowKit Go.Proofs.Ytnhladaobcnmhaa.X Go.Proofs.YtnhladaobcnmhaaW.PrintWords Go.Proofs.YtnhladaobcnmhaaW.PrintLast
set_option linter.unusedVariables false
set_option linter.unusedSimpArgs false
theorem freeFrom_add (t : Int → Bool) : ∀ (d e : Nat) (i : Int), freeFrom t i (d + e) = freeFrom t i d + freeFrom t (i + d) e
  | 0, e, i => by simp [freeFrom]
  | d + 1, e, i => by
    have ih := freeFrom_add t d e (i + 1)
    rw [show d + 1 + e = (d + e) + 1 from by omega]
    simp only [freeFrom]
    rw [ih, show i + 1 + (d : Int) = i + ((d + 1 : Nat) : Int) from by omega]
    omega
theorem freeFrom_congr {t u : Int → Bool} : ∀ (d : Nat) (i : Int), (∀ j, i ≤ j → j < i + d → t j = u j) → freeFrom t i d = freeFrom u i d
  | 0, i, _ => rfl
  | d + 1, i, h => by
    simp only [freeFrom]
    rw [freeFrom_congr d (i + 1) (fun j h0 h1 => h j (by omega) (by omega)), h i (by omega) (by omega)]
theorem freeFrom_all {t : Int → Bool} {b : Bool} : ∀ (d : Nat) (i : Int), (∀ j, i ≤ j → j < i + d → t j = b) → freeFrom t i d = if b = true then 0 else (d : Int)
  | 0, i, _ => by simp [freeFrom]
  | d + 1, i, h => by
    simp only [freeFrom]
    rw [freeFrom_all d (i + 1) (fun j h0 h1 => h j (by omega) (by omega)), h i (by omega) (by omega)]
    cases b <;> simp
    omega
theorem FnTaken : laws_FnTaken.Pure := by
  intro l _ hl8 hb
  refine Ev.rounds ?_
  unfold laws_FnTaken.f
  refine Ev.bindo rfl ?_
  refine Ev.cases (fun _ => Ev.eq rfl) (fun c => ?_)
  have hlen : l.length ≤ 1099511627776 := by
    have : ¬ (l.length : Int) > 1048576 := by simpa using c
    omega
  have hrd := Rd.start (isBytes_of hb) hlen
  obtain ⟨m, a, n, hd⟩ : ∃ m a n, Ev (fun k => spec_DrawTakeRun.f k l) (m, a, n) := by
    obtain ⟨m, q, e, _, hq⟩ := aMap_ev hrd
    obtain ⟨x, q2, e2, hx0, hx1, hq2⟩ := below_f hq 3 (by omega) (by omega)
    have hg := spec_Gaps_ev m 0 128
    have hgl : (if areaOk m 0 128 then gapsOf m 0 128 else []).length ≤ 128 := by
      split
      · have h := (gapsOf_gap m 0 128 (by omega)).length (by omega)
        omega
      · simp
    generalize (if areaOk m 0 128 then gapsOf m 0 128 else []) = g at *
    unfold spec_DrawTakeRun.f
    have jf : ∀ q : Int, Rd l q → ∃ m' a n, Ev (fun k => spec_DrawTakeRun.j0 k m (wrap64 (1 + x)) g false l q) (m', a, n) := by
      intro q hq
      obtain ⟨y, q3, e3, _, _, hq3⟩ := off_ev hq 0 127 (by omega) (by omega) (by omega) (by omega)
      obtain ⟨z, q4, e4, _, _, hq4⟩ := off_ev hq3 1 128 (by omega) (by omega) (by omega) (by omega)
      refine ⟨m, y, z, Ev.step (fun k => by rw [spec_DrawTakeRun.j0]) (Ev.neg (by simp) ?_)⟩
      refine Ev.bind e3 ?_
      refine Ev.bind e4 ?_
      exact Ev.eq rfl
    by_cases c : (g.length : Int) > 0
    · obtain ⟨o, q3, e3, hq3⟩ := once_f hq2 5 (by omega) (by omega)
      cases o with
      | true =>
        obtain ⟨m', a, n, h⟩ := jf q3 hq3
        exact ⟨m', a, n, Ev.bindo rfl (Ev.bind e (Ev.bindo e2 (Ev.bind hg (Ev.pos c (Ev.bindo e3 h)))))⟩
      | false =>
        obtain ⟨y, q4, e4, hy0, hy1, hq4⟩ := below_f hq3 (g.length : Int) (by omega) (by omega)
        refine ⟨m, (rd_T46 g y).f0, mn (rd_T46 g y).f1 (wrap64 (1 + x)), Ev.bindo rfl (Ev.bind e (Ev.bindo e2 (Ev.bind hg (Ev.pos c (Ev.bindo e3 (Ev.step (fun k => by rw [spec_DrawTakeRun.j0]) ?_))))))⟩
        refine Ev.pos rfl ?_
        refine Ev.bindo e4 ?_
        exact Ev.pos hy0 (Ev.pos hy1 (Ev.eq rfl))
    · obtain ⟨m', a, n, h⟩ := jf q2 hq2
      exact ⟨m', a, n, Ev.bindo rfl (Ev.bind e (Ev.bindo e2 (Ev.bind hg (Ev.neg c h))))⟩
  refine Ev.bind hd (Ev.bind (impl_TakeRun_ev m a n) (Ev.bind (spec_TakeRun_ev m a n) (Ev.pos rfl (Ev.neg (by simp) ?_))))
  refine Ev.step (fun k => by rw [laws_FnTaken.j0]) (Ev.cases (fun _ => Ev.pos rfl (Ev.eq (by simp))) (fun c => ?_))
  simp only []
  have hok : runOk m a n ∧ (∀ j : Nat, a.toNat ≤ j → j < a.toNat + n.toNat → bitL (bytesOf m) j = !true) := by
    unfold runResult at c
    split at c
    · rename_i h1
      split at c
      · rename_i h2
        exact ⟨h1, h2⟩
      · simp at c
    · simp at c
  obtain ⟨hr, hf⟩ := hok
  rw [show runResult m true a n = (changed m true a.toNat n.toNat, true) from by rw [runResult, if_pos hr, if_pos hf]]
  obtain ⟨hm, ⟨hn1, hn2⟩, ha0, ha1⟩ := id hr
  obtain ⟨x, rfl⟩ := Int.eq_ofNat_of_zero_le ha0
  obtain ⟨y, rfl⟩ := Int.eq_ofNat_of_zero_le (show 0 ≤ n by omega)
  simp only [Int.toNat_natCast] at hf ⊢
  obtain ⟨h64, hdr⟩ := (mapOk_iff m).1 hm
  have hbm := bytesOf_isBytes m
  have hbt := changeL_isBytes hbm x true y
  have et : bytesOf (changed m true x y) = changeL (bytesOf m) x true y := by rw [changed, bytesOf_strOfNums hbt]
  have hlen8 : x + y ≤ 8 * (bytesOf m).length := by omega
  have hbit : ∀ j : Nat, bitL (changeL (bytesOf m) x true y) j = if x ≤ j ∧ j < x + y then true else bitL (bytesOf m) j := changeL_bit hbm x true y hlen8
  have htl : (changeL (bytesOf m) x true y).length = 64 := by rw [changeL_length, h64]
  have hdrop : ∀ n, x + n ≤ 128 → (changeL (bytesOf m) x true n).drop 16 = (bytesOf m).drop 16 := by
    intro n
    induction n with
    | zero => intro _; rfl
    | succ n ih =>
      intro h
      rw [changeL]
      unfold change1
      rw [if_pos rfl, List.drop_set_of_lt (by omega), List.drop_set_of_lt (by omega), ih (by omega)]
  have hmt : mapOk (changed m true x y) := (mapOk_iff _).2 (by rw [et]; exact ⟨htl, by rw [hdrop y (by omega), hdr]⟩)
  have hrt : runOk (changed m true x y) x y := ⟨hmt, ⟨hn1, hn2⟩, ha0, ha1⟩
  have hgive : runResult (changed m true x y) false x y = (m, true) := by
    have ht : ∀ j : Nat, x ≤ j → j < x + y → bitL (bytesOf (changed m true x y)) j = !false := by
      intro j h0 h1
      rw [et, hbit j, if_pos ⟨h0, h1⟩]
      rfl
    rw [runResult, if_pos hrt, Int.toNat_natCast, Int.toNat_natCast, if_pos ht]
    refine congrArg (fun s => (s, true)) (bytesOf_inj ?_)
    have hb2 := changeL_isBytes hbt x false y
    rw [changed, et, bytesOf_strOfNums hb2]
    refine bytes_ext hb2 hbm (by rw [changeL_length, changeL_length]) fun j hj => ?_
    rw [changeL_bit hbt x false y (by omega) j, hbit j]
    by_cases cj : x ≤ j ∧ j < x + y
    · rw [if_pos cj, hf j cj.1 cj.2]
      rfl
    · rw [if_neg cj, if_neg cj]
  have htwice : (runResult (changed m true x y) true x y).2 = false := by
    rw [runResult, if_pos hrt, Int.toNat_natCast, Int.toNat_natCast, if_neg]
    intro h
    have := h x (by omega) (by omega)
    rw [et, hbit x, if_pos ⟨by omega, by omega⟩] at this
    simp at this
  have hft := impl_FreeOf_ev (changed m true x y) 0 128
  have hfm := spec_FreeOf_ev m 0 128
  rw [if_pos ⟨hmt, by omega, by omega, by omega⟩] at hft
  rw [if_pos ⟨hm, by omega, by omega, by omega⟩] at hfm
  refine Ev.bind (impl_GiveRun_ev _ _ _) (Ev.bind (impl_TakeRun_ev _ _ _) ?_)
  rw [hgive, htwice]
  refine Ev.pos rfl (Ev.pos rfl (Ev.neg (by simp) (Ev.bind hft (Ev.bind hfm (Ev.eq ?_)))))
  have htk : ∀ j : Int, 0 ≤ j → tk (changed m true x y) j = if (x : Int) ≤ j ∧ j < x + y then true else tk m j := by
    intro j hj
    obtain ⟨i, rfl⟩ := Int.eq_ofNat_of_zero_le hj
    unfold tk
    rw [et, Int.toNat_natCast, hbit i]
    by_cases ci : x ≤ i ∧ i < x + y
    · rw [if_pos ci, if_pos (by omega)]
    · rw [if_neg ci, if_neg (by omega)]
  have e128 : ((128 : Int) - 0).toNat = x + (y + (128 - (x + y))) := by omega
  rw [e128, freeFrom_add, freeFrom_add, freeFrom_add, freeFrom_add,
    freeFrom_congr (t := tk (changed m true x y)) (u := tk m) x 0 (fun j h0 h1 => by rw [htk j h0, if_neg (by omega)]),
    freeFrom_congr (t := tk (changed m true x y)) (u := tk m) (128 - (x + y)) (0 + (x : Int) + (y : Int)) (fun j h0 h1 => by rw [htk j (by omega), if_neg (by omega)]),
    freeFrom_all (t := tk (changed m true x y)) (b := true) y (0 + (x : Int)) (fun j h0 h1 => by rw [htk j (by omega), if_pos (by omega)]),
    freeFrom_all (t := tk m) (b := false) y (0 + (x : Int)) (fun j h0 h1 => by
      have := hf j.toNat (by omega) (by omega)
      simpa [tk] using this)]
  have r1 := freeFrom_range (tk m) x 0
  have r2 := freeFrom_range (tk m) (128 - (x + y)) (0 + (x : Int) + (y : Int))
  generalize freeFrom (tk m) 0 x = f1 at *
  generalize freeFrom (tk m) (0 + (x : Int) + (y : Int)) (128 - (x + y)) = f2 at *
  rw [if_pos rfl, if_neg (by simp), w64 (by omega) (by omega), beq_iff_eq]
  omega
end Go.Proofs.Ytnhladaobcnmhaa.Pure
namespace Go.Proofs.Ytnhladaobcnmhaa.fnTaken
open Go.ChangeShapes Go.WideShapes Go.ChangeAt Go.RowKit
open Go.ChangeMaps (open_string shut_string)
set_option linter.unusedVariables false
theorem own : ownKnob Try.prog.godebug = none := by kernel_rfl
theorem laidOut : laidOutB Try.prog = true := by kernel_rfl
def IsRow (k : IntKind) (w : World) (a : Option Addr) (len cap : Nat) (zs : List Int) : Prop :=
  (a = none ∧ len = 0 ∧ cap = 0 ∧ zs = []) ∨
  ∃ x, a = some x ∧ len ≤ cap ∧ cap ≤ maxLen ∧ zs.length = cap ∧ (∀ i, i < zs.length → w.cell? (x.add i) = some (.int k (zs.getD i 0))) ∧ ∀ n ∈ zs, (Lit.int k n).wf = true
set_option maxRecDepth 100000 in
theorem lifted (os : Os) (started : os.Started) (H : Type) (enc : TypeId × Value → H) :
    ReturnsInHanded {} Try.checked os 10 .any (Rows.fnTakenSpec.pre6 enc Try.prog Try.f10 Rows.fnTakenRow.domain false) (Rows.fnTakenSpec.post enc Try.prog Try.f10 false true false false) := by
  refine returnsInHanded_of_change_sized (C := Try.checked) own started (by kernel_rfl) Try.func10
    (ChangeSpec.witness6 (enc := enc) (C := Try.checked) false ⟨#[], #[.slice none 0 0], []⟩ 8 (by kernel_rfl) (by kernel_rfl) (by kernel_rfl) (by kernel_rfl)) ?_
  intro W base args ds gs before hval0 hW hcnd hsz0 _
  have hsz : (DataW.weightsEach Try.prog (Try.f10.params.toList ++ Rows.fnTakenSpec.plain.varTypes Try.prog) (ds ++ gs)).all (· ≤ reachBytes) = true := hsz0
  have hval : ∀ (j : Nat) t v, Try.f10.params[j]? = some t → args[j]? = some v → Value.okWide Try.prog W .any base t v := hval0
  have hW' := hW
  obtain ⟨p, q, hA0, hV, rfl, hfz, hnd⟩ := hW
  have hA : DataW.TrodAll enc Try.prog W 0 (fun _ => true) true Try.f10.params.toList args.toList ds p := hA0
  rw [Try.params10] at hA hval hsz
  obtain ⟨v0, vs0, d0, ds0, p0, q0, hargs, rfl, rfl, h0, r0⟩ := trodAll_cons hA
  obtain ⟨rfl, rfl, rfl⟩ := trodAll_nil r0
  obtain rfl : args = #[v0] := by cases args; simp_all
  obtain ⟨rfl, rfl⟩ := trodVars_none hV
  obtain ⟨a0, len0, cap0, rfl⟩ := okWide_slice Try.underlying29 (hval 0 29 v0 rfl rfl)
  have k0 := h0
  have lt0 : ∀ x ∈ p0, x.block < W.heap.size := by obtain ⟨m, hm⟩ := k0; exact DataW.trod_lt m _ _ _ hm
  obtain ⟨z0, w0⟩ : ∃ zs, IsRow .u8 W a0 len0 cap0 zs := by
    obtain ⟨fuel, hf⟩ := h0
    rcases open_ints Try.underlying29 Try.underlying5 (by kernel_rfl) hf with ⟨hcs, _⟩ | ⟨x, l, c, zs, hcs, _, hl, hm, hz, _, hcell, hwz⟩
    · simp [Value.cells] at hcs
      obtain ⟨rfl, rfl, rfl⟩ := hcs
      exact ⟨[], .inl ⟨rfl, rfl, rfl, rfl⟩⟩
    · simp [Value.cells] at hcs
      obtain ⟨rfl, rfl, rfl⟩ := hcs
      exact ⟨zs, .inr ⟨_, rfl, hl, hm, by simpa using hz, hcell, hwz⟩⟩
  have y0 : len0 * 1 ≤ 140737488351232 := Go.Proofs.YtnhladaobcnmhaaW.PrintWords.sized_ints hsz (j := 0) (t := 29) rfl rfl Try.underlying29 Try.underlying5 (by kernel_rfl) (by kernel_rfl) h0
  clear hA0 hval0 hsz0 hsz
  refine (X.laws_FnTaken.walk Pure.FnTaken a0 len0 cap0 z0 W w0 y0).mono fun e W' ⟨he, bel⟩ => ?_
  subst he
  exact ⟨_, rfl, _, _, _, [], _, [], hW', trodAll_mk1 (shut_bool Try.underlying4 _), (trodAll_cons_mk (Below.trod laidOut (by kernel_rfl) (of_decide_eq_true (by kernel_rfl)) k0 bel lt0) trodAll_mk0), rfl, bel.frame _, fun h => by cases h⟩
theorem over : Rows.fnTakenRow.holds Try.pinned (OpenSpec.ofChange Rows.fnTakenSpec) :=
  OpenClaim.holds_of_wide 10 Try.f10 rfl rfl rfl rfl rfl rfl rfl ⟨rfl, rfl, rfl, rfl, rfl⟩ rfl rfl rfl rfl rfl (by kernel_rfl) Try.func10 (by kernel_rfl)
    (of_decide_eq_true (by kernel_rfl)) (by unfold Func.isWrapper; first | (rw [if_pos (by decide +kernel)]; kernel_rfl) | (rw [if_neg (by decide +kernel)]; exact ⟨rfl, rfl⟩))
    (fun os started H enc _ => lifted os started H enc)
theorem proved : Rows.FnTakenSaid := over
#print axioms proved
end Go.Proofs.Ytnhladaobcnmhaa.fnTaken
namespace Go.Proofs.Ytnhladaobcnmhaa
/-- The row, under a short name, for the claim. -/
theorem fnTaken_holds : Rows.FnTakenSaid := fnTaken.proved
end Go.Proofs.Ytnhladaobcnmhaa
