/- FnPatched: where each remembered word's reference is to be an old one none is young behind it; no other word of a drawn image changes. No condition. (Merged out of this claim's own texts.) -/
import Derived.Test.YtnhladaobcnmhaaBFnPatched3
import Derived.Test.YtnhladaobcnmhaaWMore
import Derived.Laws.BitsLemmas
import Derived.Test.YtnhladaobcnmhaaRows
import Derived.WalkKit
import Derived.ProofKit
import Derived.OpenShut
import Derived.ShutString
import Derived.ChangeOld
import Derived.Below
import Derived.SizedLaws
import Derived.Test.YtnhladaobcnmhaaWSized
namespace Go.Proofs.Ytnhladaobcnmhaa.Pure
open Go.RowKit Go.Proofs.YtnhladaobcnmhaaW.PrintWords Go.Proofs.YtnhladaobcnmhaaW.PrintLast
set_option linter.unusedVariables false
set_option linter.unusedSimpArgs false

theorem w64 {x : Int} (h0 : -9223372036854775808 ≤ x) (h1 : x ≤ 9223372036854775807) : wrap64 x = x := by
  unfold wrap64
  omega

section
variable {α β : Type}
theorem Ev.pos {c : Prop} [Decidable c] {A B : Nat → Option α} {r : α} (h : c) (k : Ev A r) : Ev (fun n => if c then A n else B n) r := by
  obtain ⟨K, k⟩ := k
  exact ⟨K, fun n hn => by simp only [if_pos h]; exact k n hn⟩
theorem Ev.neg {c : Prop} [Decidable c] {A B : Nat → Option α} {r : α} (h : ¬ c) (k : Ev B r) : Ev (fun n => if c then A n else B n) r := by
  obtain ⟨K, k⟩ := k
  exact ⟨K, fun n hn => by simp only [if_neg h]; exact k n hn⟩
theorem Ev.cases {c : Prop} [Decidable c] {A B : Nat → Option α} {r : α} (h : c → Ev A r) (k : ¬ c → Ev B r) : Ev (fun n => if c then A n else B n) r := by
  by_cases hc : c
  · exact Ev.pos hc (h hc)
  · exact Ev.neg hc (k hc)
theorem Ev.eq {r r' : α} (h : r = r') : Ev (fun _ => some r) r' := ⟨0, fun _ _ => by rw [h]⟩
theorem Ev.val {g : Nat → Option α} {r r' : α} (h : Ev g r) (e : r = r') : Ev g r' := e ▸ h
theorem Ev.bindo {g : Option α} {f : Nat → α → Option β} {a : α} {r : β} (h : g = some a) (k : Ev (fun n => f n a) r) : Ev (fun n => g.bind (f n)) r := by
  obtain ⟨K, k⟩ := k
  exact ⟨K, fun n hn => by simp only [h, Option.bind_some]; exact k n hn⟩
theorem Ev.det {g : Nat → Option α} {r r' : α} (h : Ev g r) (k : Ev g r') : r = r' := by
  obtain ⟨K, h⟩ := h
  obtain ⟨K', k⟩ := k
  have h1 := h (max K K') (by omega)
  have h2 := k (max K K') (by omega)
  rw [h1] at h2
  exact Option.some.inj h2
end

/-! ### lists by place -/
theorem rd_get {l : List Int} {i : Nat} (h : i < l.length) : rd l (i : Int) = l[i] := by
  unfold rd
  simp [List.getD_eq_getElem?_getD, List.getElem?_eq_getElem h]
theorem rd_eq {l : List Int} {i : Nat} : rd l (i : Int) = l.getD i 0 := by
  unfold rd
  simp
theorem take_snoc2 {α : Type} (l : List α) (i : Nat) (h : i < l.length) : l.take (i + 1) = l.take i ++ [l[i]] := by
  rw [List.take_succ_eq_append_getElem h]
/-- k, k + 1, .., n numbers. -/
def marks (k : Int) (n : Nat) : List Int := (List.range n).map fun i : Nat => k + (i : Int)
theorem marks_length (k : Int) (n : Nat) : (marks k n).length = n := by simp [marks]
theorem marks_get (k : Int) (n i : Nat) (h : i < n) : rd (marks k n) (i : Int) = k + i := by
  have h' : i < (marks k n).length := by rw [marks_length]; exact h
  rw [rd_get h']
  simp [marks]
end Go.Proofs.Ytnhladaobcnmhaa.Pure
namespace Go.Proofs.Ytnhladaobcnmhaa.Pure
open Go.RowKit Go.Proofs.YtnhladaobcnmhaaW.PrintWords Go.Proofs.YtnhladaobcnmhaaW.PrintLast
set_option linter.unusedVariables false
set_option linter.unusedSimpArgs false

theorem or_low (a b : Nat) (ha : a % 256 = 0) (hb : b < 256) : a ||| b = a + b := by
  have hq : a = 2 ^ 8 * (a / 2 ^ 8) := by
    have := Nat.div_add_mod a (2 ^ 8)
    omega
  rw [hq, ← Nat.two_pow_add_eq_or_of_lt (by simpa using hb) (a / 2 ^ 8)]
theorem or8_u64 (x y : Int) (h0 : 0 ≤ x) (h1 : x < 18446744073709551616) (hx : x % 256 = 0) (hy : 0 ≤ y) (hy1 : y < 256) : Go.bits .or .u64 x y = x + y := by
  unfold Go.bits
  simp only [BitVec.toNat_or, BitVec.toNat_ofInt]
  rw [show IntKind.u64.bits = 64 from rfl, or_low _ _ (by omega) (by omega)]
  simp only [IntKind.wrap, IntKind.bits, IntKind.signed]
  simp
  omega
theorem or8_i64 (x y : Int) (h0 : -9223372036854775808 ≤ x) (h1 : x ≤ 9223372036854775807) (hx : x % 256 = 0) (hy : 0 ≤ y) (hy1 : y < 256) : Go.bits .or .i64 x y = x + y := by
  unfold Go.bits
  simp only [BitVec.toNat_or, BitVec.toNat_ofInt]
  rw [show IntKind.i64.bits = 64 from rfl, or_low _ _ (by omega) (by omega)]
  rw [IntKind.wrap_i64]
  omega

/-- The value of the first n bytes, the highest one first. -/
def be (f : Nat → Int) : Nat → Int
  | 0 => 0
  | n + 1 => be f n * 256 + f n
theorem be_range (f : Nat → Int) (hf : ∀ i, 0 ≤ f i ∧ f i ≤ 255) : ∀ n, 0 ≤ be f n ∧ be f n < 256 ^ n
  | 0 => by simp [be]
  | n + 1 => by
    have h := be_range f hf n
    have h2 := hf n
    simp only [be, Int.pow_succ]
    omega
theorem be_congr {f g : Nat → Int} (n : Nat) (h : ∀ i, i < n → f i = g i) : be f n = be g n := by
  induction n with
  | zero => rfl
  | succ n ih => simp only [be]; rw [ih (fun i hi => h i (by omega)), h n (by omega)]
theorem wrap64_mod (x y : Int) (h : x % 18446744073709551616 = y % 18446744073709551616) : wrap64 x = wrap64 y := by
  unfold wrap64
  omega
theorem wrap64_range (x : Int) : -9223372036854775808 ≤ wrap64 x ∧ wrap64 x ≤ 9223372036854775807 := by
  unfold wrap64
  omega
/-- The int64 in the eight bytes from place p on. -/
def wordv (s : ByteArray) (p : Nat) : Int := wrap64 (be (fun i => bt s ((p + i : Nat) : Int)) 8)
theorem bt_extract (s : ByteArray) (a b i : Nat) (h : a + i < b) (hb : b ≤ s.size) : bt (s.extract a b) (i : Int) = bt s ((a + i : Nat) : Int) := by
  have h1 : i < (s.extract a b).size := by rw [ByteArray.size_extract]; omega
  have h2 : a + i < s.size := by omega
  rw [← bt_at _ _ (by rw [Int.toNat_natCast]; exact h1), ← bt_at _ _ (by rw [Int.toNat_natCast]; exact h2)]
  simp only [Int.toNat_natCast]
  rw [ByteArray.getElem_extract]
/-- A step of reading: shifted by a byte, the next one laid in. -/
theorem be_step_u64 (f : Nat → Int) (hf : ∀ i, 0 ≤ f i ∧ f i ≤ 255) (n : Nat) (hn : n < 8) : Go.bits .or .u64 (IntKind.u64.wrap (be f n * 256)) (IntKind.u64.wrap (f n)) = be f (n + 1) := by
  have hr := be_range f hf n
  have h2 := hf n
  have h3 : (256 : Int) ^ n ≤ 256 ^ 7 := by
    obtain rfl | rfl | rfl | rfl | rfl | rfl | rfl | rfl : n = 0 ∨ n = 1 ∨ n = 2 ∨ n = 3 ∨ n = 4 ∨ n = 5 ∨ n = 6 ∨ n = 7 := by omega
    all_goals decide
  have h4 : be f n < 72057594037927936 := by have : (256 : Int) ^ 7 = 72057594037927936 := by decide
                                             omega
  have hw : ∀ x : Int, 0 ≤ x → x < 18446744073709551616 → IntKind.u64.wrap x = x := by
    intro x hx0 hx1
    simp [IntKind.wrap, IntKind.bits, IntKind.signed]
    omega
  rw [hw _ (by omega) (by omega), hw _ (by omega) (by omega), or8_u64 _ _ (by omega) (by omega) (by omega) h2.1 (by omega)]
  rfl
theorem be_step_i64 (f : Nat → Int) (hf : ∀ i, 0 ≤ f i ∧ f i ≤ 255) (n : Nat) : Go.bits .or .i64 (wrap64 (wrap64 (be f n) * 256)) (wrap64 (f n)) = wrap64 (be f (n + 1)) := by
  have h2 := hf n
  have hr := wrap64_range (wrap64 (be f n) * 256)
  have e : wrap64 (wrap64 (be f n) * 256) = wrap64 (be f n * 256) := wrap64_mod _ _ (by unfold wrap64; omega)
  have hd : wrap64 (be f n * 256) % 256 = 0 := by unfold wrap64; omega
  rw [e] at hr ⊢
  rw [w64 (x := f n) (by omega) (by omega), or8_i64 _ _ hr.1 hr.2 hd h2.1 (by omega)]
  simp only [be]
  unfold wrap64
  omega
end Go.Proofs.Ytnhladaobcnmhaa.Pure
namespace Go.Proofs.Ytnhladaobcnmhaa.Pure
open Go.RowKit Go.Proofs.YtnhladaobcnmhaaW.PrintWords Go.Proofs.YtnhladaobcnmhaaW.PrintLast Go.Proofs.YtnhladaobcnmhaaW.PrintMore
set_option linter.unusedVariables false
set_option linter.unusedSimpArgs false

/-! ### texts and lists of bytes -/
def isBytes (xs : List Int) : Prop := ∀ x ∈ xs, 0 ≤ x ∧ x ≤ 255
theorem bytesOf_isBytes (s : ByteArray) : isBytes (bytesOf s) := by
  intro x hx
  obtain ⟨b, _, rfl⟩ := List.mem_map.1 hx
  have := b.toNat_lt
  omega
theorem isBytes_of {xs : List Int} (h : ∀ x ∈ xs, (Go.Lit.int .u8 x).wf = true) : isBytes xs := by
  intro x hx
  have := h x hx
  simp [Go.Lit.wf, Go.IntKind.min, Go.IntKind.max, Go.IntKind.signed, Go.IntKind.bits] at this
  omega
theorem isBytes_set {xs : List Int} (h : isBytes xs) (i : Nat) {v : Int} (h0 : 0 ≤ v) (h1 : v ≤ 255) : isBytes (xs.set i v) := by
  intro x hx
  rcases List.mem_or_eq_of_mem_set hx with h2 | rfl
  · exact h x h2
  · exact ⟨h0, h1⟩
theorem isBytes_getD {xs : List Int} (h : isBytes xs) (i : Nat) : 0 ≤ xs.getD i 0 ∧ xs.getD i 0 ≤ 255 := by
  rcases Nat.lt_or_ge i xs.length with hi | hi
  · rw [List.getD_eq_getElem?_getD, List.getElem?_eq_getElem hi]
    exact h _ (List.getElem_mem hi)
  · rw [List.getD_eq_getElem?_getD, List.getElem?_eq_none hi]
    simp
theorem isBytes_replicate (n : Nat) : isBytes (List.replicate n 0) := by
  intro x hx
  rw [List.eq_of_mem_replicate hx]
  omega
theorem strOfNums_size (xs : List Int) : (strOfNums xs).size = xs.length := by
  show (List.toArray _).size = _
  simp
theorem bytesOf_strOfNums {xs : List Int} (h : isBytes xs) : bytesOf (strOfNums xs) = xs := by
  unfold bytesOf strOfNums
  simp only [List.map_map]
  conv => rhs; rw [← List.map_id xs]
  refine List.map_congr_left (fun x hx => ?_)
  have := h x hx
  simp
  omega
theorem strOfNums_bytesOf (s : ByteArray) : strOfNums (bytesOf s) = s := by
  unfold bytesOf strOfNums
  simp [Function.comp_def]
theorem bytesOf_inj {s t : ByteArray} (h : bytesOf s = bytesOf t) : s = t := by rw [← strOfNums_bytesOf s, h, strOfNums_bytesOf]
theorem toList_bytesOf (s : ByteArray) : s.toList.map (fun b => (b.toNat : Int)) = bytesOf s := by
  unfold bytesOf
  rw [ByteArray.toList_eq]
theorem toList_inj {s t : ByteArray} : s.toList = t.toList ↔ s = t :=
  ⟨fun h => bytesOf_inj (by rw [← toList_bytesOf, ← toList_bytesOf, h]), fun h => by rw [h]⟩
theorem toList_beq (s t : ByteArray) : (s.toList == t.toList) = decide (s = t) := by
  rw [Bool.eq_iff_iff]
  simp [toList_inj]
theorem bt_bytesOf (s : ByteArray) (i : Nat) : bt s (i : Int) = (bytesOf s).getD i 0 := by
  rw [← rd_bytesOf, rd_eq]

/-! ### a byte's bits -/
def bitv (x : Int) (r : Nat) : Bool := x / 2 ^ r % 2 == 1
theorem bitv_nat (n r : Nat) : bitv (n : Int) r = n.testBit r := by
  unfold bitv
  rw [Nat.testBit_eq_decide_div_mod_eq]
  have e : (n : Int) / 2 ^ r % 2 = ((n / 2 ^ r % 2 : Nat) : Int) := by simp
  rw [e, Bool.eq_iff_iff, beq_iff_eq, decide_eq_true_eq]
  omega
theorem wrap_u8_nat {n : Nat} (h : n < 256) : IntKind.u8.wrap (n : Int) = n := by
  rw [IntKind.wrap_u8]
  omega
theorem cast_mod {m : Nat} (h : m < 256) : (m : Int) % 256 = (m : Int) := by omega
theorem two_pow_lt {r : Nat} (hr : r < 8) : (2 ^ r : Nat) < 256 := by
  have : (2 ^ r : Nat) ≤ 2 ^ 7 := Nat.pow_le_pow_right (by decide) (by omega)
  omega
section
variable {x : Int} (h0 : 0 ≤ x) (h1 : x ≤ 255) {r : Nat} (hr : r < 8)
include h0 h1 hr
theorem byte_xor : (0 ≤ Go.bits .xor .u8 x (2 ^ r % 256) ∧ Go.bits .xor .u8 x (2 ^ r % 256) ≤ 255) ∧ ∀ q, q < 8 → bitv (Go.bits .xor .u8 x (2 ^ r % 256)) q = (bitv x q != decide (q = r)) := by
  obtain ⟨n, rfl⟩ := Int.eq_ofNat_of_zero_le h0
  have hp := two_pow_lt hr
  have e : (2 : Int) ^ r % 256 = ((2 ^ r : Nat) : Int) := by rw [show (2 : Int) ^ r = ((2 ^ r : Nat) : Int) from (Int.natCast_pow 2 r).symm]; exact cast_mod hp
  have hlt := ((BitVec.ofNat 8 n) ^^^ (BitVec.ofNat 8 (2 ^ r))).isLt
  have g : Go.bits .xor .u8 (n : Int) (2 ^ r % 256) = ((((BitVec.ofNat 8 n) ^^^ (BitVec.ofNat 8 (2 ^ r))).toNat : Nat) : Int) := by
    rw [e]
    unfold Go.bits
    simp only [BitVec.ofInt_natCast]
    exact wrap_u8_nat (Nat.lt_of_lt_of_eq hlt (by decide))
  rw [g]
  refine ⟨⟨by omega, by simp only [Nat.reducePow] at hlt; omega⟩, fun q hq => ?_⟩
  rw [bitv_nat, bitv_nat, BitVec.testBit_toNat, BitVec.getLsbD_xor, BitVec.getLsbD_ofNat, BitVec.getLsbD_ofNat, Nat.testBit_two_pow]
  simp [hq, eq_comm]
theorem byte_clear : (0 ≤ Go.bits .andNot .u8 x (2 ^ r % 256) ∧ Go.bits .andNot .u8 x (2 ^ r % 256) ≤ 255) ∧ ∀ q, q < 8 → bitv (Go.bits .andNot .u8 x (2 ^ r % 256)) q = (bitv x q && !decide (q = r)) := by
  obtain ⟨n, rfl⟩ := Int.eq_ofNat_of_zero_le h0
  have hp := two_pow_lt hr
  have e : (2 : Int) ^ r % 256 = ((2 ^ r : Nat) : Int) := by rw [show (2 : Int) ^ r = ((2 ^ r : Nat) : Int) from (Int.natCast_pow 2 r).symm]; exact cast_mod hp
  have hlt := ((BitVec.ofNat 8 n) &&& ~~~(BitVec.ofNat 8 (2 ^ r))).isLt
  have g : Go.bits .andNot .u8 (n : Int) (2 ^ r % 256) = ((((BitVec.ofNat 8 n) &&& ~~~(BitVec.ofNat 8 (2 ^ r))).toNat : Nat) : Int) := by
    rw [e]
    unfold Go.bits
    simp only [BitVec.ofInt_natCast]
    exact wrap_u8_nat (Nat.lt_of_lt_of_eq hlt (by decide))
  rw [g]
  refine ⟨⟨by omega, by simp only [Nat.reducePow] at hlt; omega⟩, fun q hq => ?_⟩
  rw [bitv_nat, bitv_nat, BitVec.testBit_toNat, BitVec.getLsbD_and, BitVec.getLsbD_not, BitVec.getLsbD_ofNat, BitVec.getLsbD_ofNat, Nat.testBit_two_pow]
  simp [hq, eq_comm]
theorem byte_set : (0 ≤ Go.bits .or .u8 x (2 ^ r % 256) ∧ Go.bits .or .u8 x (2 ^ r % 256) ≤ 255) ∧ ∀ q, q < 8 → bitv (Go.bits .or .u8 x (2 ^ r % 256)) q = (bitv x q || decide (q = r)) := by
  obtain ⟨n, rfl⟩ := Int.eq_ofNat_of_zero_le h0
  have hp := two_pow_lt hr
  have e : (2 : Int) ^ r % 256 = ((2 ^ r : Nat) : Int) := by rw [show (2 : Int) ^ r = ((2 ^ r : Nat) : Int) from (Int.natCast_pow 2 r).symm]; exact cast_mod hp
  have hlt := ((BitVec.ofNat 8 n) ||| (BitVec.ofNat 8 (2 ^ r))).isLt
  have g : Go.bits .or .u8 (n : Int) (2 ^ r % 256) = ((((BitVec.ofNat 8 n) ||| (BitVec.ofNat 8 (2 ^ r))).toNat : Nat) : Int) := by
    rw [e]
    unfold Go.bits
    simp only [BitVec.ofInt_natCast]
    exact wrap_u8_nat (Nat.lt_of_lt_of_eq hlt (by decide))
  rw [g]
  refine ⟨⟨by omega, by simp only [Nat.reducePow] at hlt; omega⟩, fun q hq => ?_⟩
  rw [bitv_nat, bitv_nat, BitVec.testBit_toNat, BitVec.getLsbD_or, BitVec.getLsbD_ofNat, BitVec.getLsbD_ofNat, Nat.testBit_two_pow]
  simp [hq, eq_comm]
end
theorem byte_ext {x y : Int} (h0 : 0 ≤ x) (h1 : x ≤ 255) (h2 : 0 ≤ y) (h3 : y ≤ 255) (h : ∀ q, q < 8 → bitv x q = bitv y q) : x = y := by
  obtain ⟨n, rfl⟩ := Int.eq_ofNat_of_zero_le h0
  obtain ⟨m, rfl⟩ := Int.eq_ofNat_of_zero_le h2
  refine congrArg _ (Nat.eq_of_testBit_eq (fun i => ?_))
  rcases Nat.lt_or_ge i 8 with hi | hi
  · simpa [bitv_nat] using h i hi
  · have hp : (2 : Nat) ^ 8 ≤ 2 ^ i := Nat.pow_le_pow_right (by decide) hi
    rw [Nat.testBit_lt_two_pow (by omega), Nat.testBit_lt_two_pow (by omega)]
/-- Bit i of a list of bytes. -/
def bitL (xs : List Int) (i : Nat) : Bool := bitv (xs.getD (i / 8) 0) (i % 8)
theorem bytes_ext {xs ys : List Int} (hx : isBytes xs) (hy : isBytes ys) (hl : xs.length = ys.length) (h : ∀ i, i < 8 * xs.length → bitL xs i = bitL ys i) : xs = ys := by
  refine List.ext_getElem hl (fun m h1 h2 => ?_)
  have gx := hx _ (List.getElem_mem h1)
  have gy := hy _ (List.getElem_mem h2)
  refine byte_ext gx.1 gx.2 gy.1 gy.2 (fun q hq => ?_)
  have e := h (8 * m + q) (by omega)
  unfold bitL at e
  rw [show (8 * m + q) / 8 = m from by omega, show (8 * m + q) % 8 = q from by omega] at e
  simpa [List.getD_eq_getElem?_getD, h1, h2] using e
/-- A byte changed: which bits change. -/
theorem bitL_set {xs : List Int} {i : Nat} (hi : i < xs.length) (v : Int) (j : Nat) : bitL (xs.set i v) j = if j / 8 = i then bitv v (j % 8) else bitL xs j := by
  unfold bitL
  split
  · rename_i h
    rw [h, List.getD_eq_getElem?_getD, List.getElem?_set_self hi]
    rfl
  · rename_i h
    rw [List.getD_eq_getElem?_getD, List.getElem?_set_ne (fun e => h e.symm), ← List.getD_eq_getElem?_getD]
end Go.Proofs.Ytnhladaobcnmhaa.Pure
namespace Go.Proofs.Ytnhladaobcnmhaa.Pure
open Go.RowKit Go.Proofs.YtnhladaobcnmhaaW.PrintWords Go.Proofs.YtnhladaobcnmhaaW.PrintLast
set_option linter.unusedVariables false
set_option linter.unusedSimpArgs false

def byte8 (u : Int) (i : Nat) : Int := u / 2 ^ (56 - 8 * i) % 256
def wordL (u : Int) : List Int := [byte8 u 0, byte8 u 1, byte8 u 2, byte8 u 3, byte8 u 4, byte8 u 5, byte8 u 6, byte8 u 7]
def wordB (n : Int) : ByteArray := strOfNums (wordL (IntKind.u64.wrap n))
theorem wordB_size (n : Int) : (wordB n).size = 8 := by rw [wordB, strOfNums_size]; rfl
theorem wordL_isBytes (u : Int) : isBytes (wordL u) := by
  intro x hx
  simp only [wordL, List.mem_cons, List.not_mem_nil, or_false, byte8] at hx
  omega
theorem wrap_u64 (x : Int) : IntKind.u64.wrap x = x % 18446744073709551616 := by
  simp [IntKind.wrap, IntKind.bits, IntKind.signed]
theorem wordv_wordB (n : Int) (h0 : -9223372036854775808 ≤ n) (h1 : n ≤ 9223372036854775807) : wordv (wordB n) 0 = n := by
  have hb : ∀ i, bt (wordB n) ((0 + i : Nat) : Int) = (wordL (IntKind.u64.wrap n)).getD i 0 := by
    intro i
    rw [bt_bytesOf, wordB, bytesOf_strOfNums (wordL_isBytes _), Nat.zero_add]
  unfold wordv
  simp only [hb]
  rw [wrap_u64]
  generalize hu : n % 18446744073709551616 = u
  have hu0 : 0 ≤ u ∧ u < 18446744073709551616 := by omega
  have e : be (fun i => (wordL u).getD i 0) 8 = u := by
    simp only [be, wordL, List.getD_cons_zero, List.getD_cons_succ, byte8]
    simp only [Nat.mul_zero, Nat.sub_zero, Nat.reduceMul, Nat.reduceSub, Int.reducePow, Int.pow_zero, Int.ediv_one]
    omega
  rw [e]
  unfold wrap64
  omega
/-- An image with other bytes from a place on. -/
def repl (s : ByteArray) (p : Nat) (t : ByteArray) : ByteArray := (s.extract 0 p ++ t) ++ s.extract (p + t.size) s.size
theorem repl_size {s t : ByteArray} {p : Nat} (h : p + t.size ≤ s.size) : (repl s p t).size = s.size := by
  simp only [repl, ByteArray.size_append, ByteArray.size_extract]
  omega
theorem bytesOf_append (s t : ByteArray) : bytesOf (s ++ t) = bytesOf s ++ bytesOf t := by
  unfold bytesOf
  rw [ByteArray.data_append, Array.toList_append, List.map_append]
theorem bytesOf_cut (s : ByteArray) (a b : Nat) : bytesOf (s.extract a b) = ((bytesOf s).drop a).take (b - a) := by
  unfold bytesOf
  rw [ByteArray.data_extract, Array.toList_extract, List.extract_eq_take_drop, List.map_take, List.map_drop]
theorem bytesOf_repl {s t : ByteArray} {p : Nat} (h : p + t.size ≤ s.size) : bytesOf (repl s p t) = (bytesOf s).take p ++ (bytesOf t ++ (bytesOf s).drop (p + t.size)) := by
  unfold repl
  rw [bytesOf_append, bytesOf_append, bytesOf_cut, bytesOf_cut, List.drop_zero, Nat.sub_zero, List.append_assoc]
  rw [List.take_of_length_le (l := (bytesOf s).drop (p + t.size)) (by rw [List.length_drop, bytesOf_length]; omega)]
theorem bt_repl {s t : ByteArray} {p : Nat} (h : p + t.size ≤ s.size) (i : Nat) : bt (repl s p t) (i : Int) = if p ≤ i ∧ i < p + t.size then bt t ((i - p : Nat) : Int) else bt s (i : Int) := by
  rw [bt_bytesOf, bt_bytesOf, bt_bytesOf, bytesOf_repl h]
  have hl := bytesOf_length s
  have ht := bytesOf_length t
  have htk : ((bytesOf s).take p).length = p := by rw [List.length_take]; omega
  simp only [List.getD_eq_getElem?_getD]
  by_cases c0 : i < p
  · rw [if_neg (by omega), List.getElem?_append_left (by omega), List.getElem?_take_of_lt c0]
  · rw [List.getElem?_append_right (by omega), htk]
    by_cases c1 : i < p + t.size
    · rw [if_pos (by omega), List.getElem?_append_left (by omega)]
    · rw [if_neg (by omega), List.getElem?_append_right (by omega), List.getElem?_drop, show p + t.size + (i - p - (bytesOf t).length) = i from by omega]
theorem wordv_repl_same {s : ByteArray} {p : Nat} (n : Int) (h : p + 8 ≤ s.size) (h0 : -9223372036854775808 ≤ n) (h1 : n ≤ 9223372036854775807) : wordv (repl s p (wordB n)) p = n := by
  have e := wordv_wordB n h0 h1
  have hz := wordB_size n
  unfold wordv at e ⊢
  refine Eq.trans (congrArg wrap64 (be_congr 8 (fun i hi => ?_))) e
  rw [bt_repl (by omega), if_pos (by omega), show p + i - p = 0 + i from by omega]
theorem wordv_repl_other {s t : ByteArray} {p q : Nat} (h : p + t.size ≤ s.size) (hd : q + 8 ≤ p ∨ p + t.size ≤ q) : wordv (repl s p t) q = wordv s q := by
  unfold wordv
  refine congrArg wrap64 (be_congr 8 (fun i hi => ?_))
  rw [bt_repl h, if_neg (by omega)]
theorem extract_ext {s t : ByteArray} {a b : Nat} (hs : b ≤ s.size) (ht : b ≤ t.size) (h : ∀ i : Nat, a ≤ i → i < b → bt s (i : Int) = bt t (i : Int)) : s.extract a b = t.extract a b := by
  refine bytesOf_inj ?_
  rw [bytesOf_cut, bytesOf_cut]
  refine List.ext_getElem (by simp only [List.length_take, List.length_drop, bytesOf_length]; omega) fun i h1 h2 => ?_
  simp only [List.length_take, List.length_drop, bytesOf_length] at h1 h2
  have hi := h (a + i) (by omega) (by omega)
  rw [bt_bytesOf, bt_bytesOf, List.getD_eq_getElem?_getD, List.getD_eq_getElem?_getD, List.getElem?_eq_getElem (by rw [bytesOf_length]; omega), List.getElem?_eq_getElem (by rw [bytesOf_length]; omega)] at hi
  simpa using hi
theorem wordv_range (s : ByteArray) (p : Nat) : -9223372036854775808 ≤ wordv s p ∧ wordv s p ≤ 9223372036854775807 := wrap64_range _
end Go.Proofs.Ytnhladaobcnmhaa.Pure
namespace Go.Proofs.Ytnhladaobcnmhaa.Pure
open Go.RowKit Go.Proofs.Ytnhladaobcnmhaa.X Go.Proofs.YtnhladaobcnmhaaW.PrintWords Go.Proofs.YtnhladaobcnmhaaW.PrintLast
set_option linter.unusedVariables false
set_option linter.unusedSimpArgs false
theorem spec_WordBytes_ev (n : Int) : Ev (fun k => spec_WordBytes.f k n) (wordB n) := by
  have hu : 0 ≤ IntKind.u64.wrap n ∧ IntKind.u64.wrap n < 18446744073709551616 := by rw [wrap_u64]; omega
  have set1 : ∀ (u : Int) (i : Nat), i < 8 → ((wordL u).take i ++ List.replicate (8 - i) 0).set i (byte8 u i) = (wordL u).take (i + 1) ++ List.replicate (8 - (i + 1)) 0 := by
    intro u i hi
    obtain rfl | rfl | rfl | rfl | rfl | rfl | rfl | rfl : i = 0 ∨ i = 1 ∨ i = 2 ∨ i = 3 ∨ i = 4 ∨ i = 5 ∨ i = 6 ∨ i = 7 := by omega
    all_goals rfl
  have lp : ∀ (d i : Nat), 8 - i = d → i ≤ 8 → Ev (fun k => spec_WordBytes.l0 k n ((wordL (IntKind.u64.wrap n)).take i ++ List.replicate (8 - i) 0) (i : Int)) (wordB n) := by
    intro d
    induction d with
    | zero =>
      intro i hd hi
      obtain rfl : i = 8 := by omega
      refine Ev.step (fun k => by rw [spec_WordBytes.l0]) ?_
      refine Ev.neg (by decide) (Ev.eq ?_)
      rfl
    | succ d ih =>
      intro i hd hi
      have hi8 : i < 8 := by omega
      have hl : ((wordL (IntKind.u64.wrap n)).take i ++ List.replicate (8 - i) 0).length = 8 := by
        rw [List.length_append, List.length_take, List.length_replicate, show (wordL (IntKind.u64.wrap n)).length = 8 from rfl]; omega
      have ih := ih (i + 1) (by omega) (by omega)
      rw [← set1 _ i hi8] at ih
      refine Ev.step (fun k => by rw [spec_WordBytes.l0]) ?_
      rw [w64 (x := 8 * (i : Int)) (by omega) (by omega), w64 (x := 56 - 8 * (i : Int)) (by omega) (by omega), show IntKind.u64.wrap (56 - 8 * (i : Int)) = ((56 - 8 * i : Nat) : Int) from by rw [wrap_u64]; omega,
        show wrap64 ((i : Int) + 1) = ((i + 1 : Nat) : Int) from by rw [w64 (by omega) (by omega)]; omega, Int.toNat_natCast,
        show shr .u64 (IntKind.u64.wrap n) ((56 - 8 * i : Nat) : Int) % 256 = byte8 (IntKind.u64.wrap n) i from by
          unfold shr byte8
          rw [Int.toNat_natCast, show min (56 - 8 * i) IntKind.u64.bits = 56 - 8 * i from Nat.min_eq_left (by show 56 - 8 * i ≤ 64; omega)]]
      exact Ev.pos (by omega) (Ev.pos (by omega) (Ev.pos (by omega) (Ev.pos (by rw [hl]; omega) ih)))
  unfold spec_WordBytes.f
  exact Ev.pos (by decide) (lp 8 0 rfl (by omega))
theorem impl_bigBytes_ev (u : Int) (h0 : 0 ≤ u) : Ev (fun k => impl_bigBytes.f k u 8) (strOfNums (wordL u)) := by
  have set1 : ∀ (i : Nat), i < 8 → (List.replicate (8 - i) 0 ++ (wordL u).drop (8 - i)).set (7 - i) (byte8 u (7 - i)) = List.replicate (8 - (i + 1)) 0 ++ (wordL u).drop (8 - (i + 1)) := by
    intro i hi
    obtain rfl | rfl | rfl | rfl | rfl | rfl | rfl | rfl : i = 0 ∨ i = 1 ∨ i = 2 ∨ i = 3 ∨ i = 4 ∨ i = 5 ∨ i = 6 ∨ i = 7 := by omega
    all_goals rfl
  have lp : ∀ (d i : Nat), 8 - i = d → i ≤ 8 → Ev (fun k => impl_bigBytes.l0 k (u / 2 ^ (8 * i)) 8 (List.replicate (8 - i) 0 ++ (wordL u).drop (8 - i)) 8 (i : Int)) (strOfNums (wordL u)) := by
    intro d
    induction d with
    | zero =>
      intro i hd hi
      obtain rfl : i = 8 := by omega
      refine Ev.step (fun k => by rw [impl_bigBytes.l0]) ?_
      refine Ev.neg (by decide) (Ev.eq ?_)
      rfl
    | succ d ih =>
      intro i hd hi
      have hi8 : i < 8 := by omega
      have hl : (List.replicate (8 - i) 0 ++ (wordL u).drop (8 - i)).length = 8 := by
        rw [List.length_append, List.length_drop, List.length_replicate, show (wordL u).length = 8 from rfl]; omega
      have ih := ih (i + 1) (by omega) (by omega)
      rw [← set1 i hi8] at ih
      refine Ev.step (fun k => by rw [impl_bigBytes.l0]) ?_
      rw [w64 (x := 8 - 1) (by omega) (by omega), w64 (x := 8 - 1 - (i : Int)) (by omega) (by omega), show (8 - 1 - (i : Int)) = ((7 - i : Nat) : Int) from by omega,
        show wrap64 ((i : Int) + 1) = ((i + 1 : Nat) : Int) from by rw [w64 (by omega) (by omega)]; omega, Int.toNat_natCast,
        show u / 2 ^ (8 * i) % 256 = byte8 u (7 - i) from by unfold byte8; rw [show 56 - 8 * (7 - i) = 8 * i from by omega],
        show u / 2 ^ (8 * i) / 256 = u / 2 ^ (8 * (i + 1)) from by
          rw [Int.ediv_ediv_of_nonneg (Int.pow_nonneg (by decide)), show (8 * (i + 1)) = 8 * i + 8 from by omega, Int.pow_add]; rfl]
      exact Ev.pos (by omega) (Ev.pos (by omega) (Ev.pos (by rw [hl]; omega) ih))
  unfold impl_bigBytes.f
  refine Ev.pos (by decide) (Ev.pos (by decide) (Ev.bindo rfl ?_))
  have h := lp 8 0 rfl (by omega)
  rw [Nat.mul_zero, Int.pow_zero, Int.ediv_one] at h
  exact h
theorem impl_WordBytes_ev (n : Int) : Ev (fun k => impl_WordBytes.f k n) (wordB n) := by
  unfold impl_WordBytes.f
  exact Ev.bind (impl_bigBytes_ev _ (by rw [wrap_u64]; omega)) (Ev.eq rfl)
end Go.Proofs.Ytnhladaobcnmhaa.Pure
namespace Go.Proofs.Ytnhladaobcnmhaa.Pure
open Go.RowKit Go.Proofs.Ytnhladaobcnmhaa.X Go.Proofs.YtnhladaobcnmhaaW.PrintWords Go.Proofs.YtnhladaobcnmhaaW.PrintLast
set_option linter.unusedVariables false
set_option linter.unusedSimpArgs false

/-- Strictly increasing, all in 0..1023. -/
def setOkB : List Int → Bool
  | [] => true
  | [x] => decide (0 ≤ x) && decide (x ≤ 1023)
  | x :: y :: l => decide (0 ≤ x) && decide (x ≤ 1023) && decide (x < y) && setOkB (y :: l)
/-- The same, place by place, from place i on. -/
def setFrom (l : List Int) (i : Nat) : Prop := ∀ j (h : j < l.length), i ≤ j → 0 ≤ l[j] ∧ l[j] ≤ 1023 ∧ ∀ (h0 : 0 < j), l[j - 1]'(by omega) < l[j]
instance (l : List Int) (i : Nat) : Decidable (setFrom l i) := by unfold setFrom; infer_instance
theorem l1In_f (a lo hi : Int) : spec_l1In.f a lo hi = some (decide (lo ≤ a) && decide (a ≤ hi)) := by
  unfold spec_l1In.f
  split
  · rename_i h; simp [show lo ≤ a from h]
  · rename_i h; have : ¬ lo ≤ a := h; simp [this]
theorem within_f (a lo hi : Int) : impl_within.f a lo hi = some (decide (lo ≤ a) && decide (a ≤ hi)) := by
  unfold impl_within.f
  split
  · rename_i h; simp [show lo ≤ a from h]
  · rename_i h; have : ¬ lo ≤ a := h; simp [this]
theorem setFrom_step {l : List Int} {i : Nat} (h : i < l.length) (h1 : 0 ≤ l[i]) (h2 : l[i] ≤ 1023) (h3 : ∀ (h0 : 0 < i), l[i - 1]'(by omega) < l[i]) : setFrom l i ↔ setFrom l (i + 1) :=
  ⟨fun hs j hj hi => hs j hj (by omega), fun hs j hj hi => by
    by_cases e : j = i
    · subst e; exact ⟨h1, h2, h3⟩
    · exact hs j hj (by omega)⟩
theorem spec_SetOk_l (l : List Int) (hl : l.length ≤ 1099511627776) (d : Nat) : ∀ (i : Nat), l.length - i = d → i ≤ l.length → Ev (fun k => spec_SetOk.l0 k l (i : Int)) (decide (setFrom l i)) := by
  induction d with
  | zero =>
    intro i hd hi
    refine Ev.step (fun k => by rw [spec_SetOk.l0]) ?_
    exact Ev.neg (by omega) (Ev.eq (decide_eq_true (fun j hj hij => absurd hj (by omega))).symm)
  | succ d ih =>
    intro i hd hi
    have hlt : i < l.length := by omega
    refine Ev.step (fun k => by rw [spec_SetOk.l0]) ?_
    refine Ev.pos (by omega) (Ev.pos (by omega) ?_)
    refine Ev.bindo (l1In_f _ _ _) ?_
    rw [show wrap64 ((i : Int) + 1) = ((i + 1 : Nat) : Int) from by rw [w64 (by omega) (by omega)]; omega, rd_get hlt]
    refine Ev.cases (fun e => ?_) (fun e => Ev.eq ?_)
    · simp only [Bool.and_eq_true, decide_eq_true_eq] at e
      refine Ev.cases (fun e2 => ?_) (fun e2 => ?_)
      · have hp : i - 1 < l.length := by omega
        rw [show wrap64 ((i : Int) - 1) = ((i - 1 : Nat) : Int) from by rw [w64 (by omega) (by omega)]; omega, rd_get hp]
        refine Ev.pos (by omega) (Ev.pos (by omega) ?_)
        refine Ev.cases (fun e3 => Ev.eq ?_) (fun e3 => ?_)
        · exact (decide_eq_false (fun h => by have := (h i hlt (by omega)).2.2 (by omega); omega)).symm
        · refine Ev.val (ih (i + 1) (by omega) (by omega)) (decide_eq_decide.2 (setFrom_step hlt e.1 e.2 (fun _ => by omega)).symm)
      · refine Ev.val (ih (i + 1) (by omega) (by omega)) (decide_eq_decide.2 (setFrom_step hlt e.1 e.2 (fun h0 => by omega)).symm)
    · exact (decide_eq_false (fun h => e (by have := h i hlt (by omega); simp [this.1, this.2.1]))).symm
theorem spec_SetOk_ev (l : List Int) (hl : l.length ≤ 1099511627776) : Ev (fun k => spec_SetOk.f k l) (decide (setFrom l 0)) := by
  unfold spec_SetOk.f
  exact spec_SetOk_l l hl _ 0 rfl (by omega)
theorem impl_SetOk_l (l : List Int) (hl : l.length ≤ 1099511627776) (d : Nat) : ∀ (i : Nat), l.length - i = d → i ≤ l.length → Ev (fun k => impl_SetOk.l0 k l l (l.length : Int) (i : Int)) (decide (setFrom l i)) := by
  induction d with
  | zero =>
    intro i hd hi
    refine Ev.step (fun k => by rw [impl_SetOk.l0]) ?_
    exact Ev.neg (by omega) (Ev.eq (decide_eq_true (fun j hj hij => absurd hj (by omega))).symm)
  | succ d ih =>
    intro i hd hi
    have hlt : i < l.length := by omega
    refine Ev.step (fun k => by rw [impl_SetOk.l0]) ?_
    refine Ev.pos (by omega) (Ev.pos (by omega) (Ev.pos (by omega) ?_))
    refine Ev.bindo (within_f _ _ _) ?_
    rw [show wrap64 ((i : Int) + 1) = ((i + 1 : Nat) : Int) from by rw [w64 (by omega) (by omega)]; omega, rd_get hlt]
    refine Ev.cases (fun e => ?_) (fun e => Ev.eq ?_)
    · simp only [Bool.and_eq_true, decide_eq_true_eq] at e
      refine Ev.cases (fun e2 => ?_) (fun e2 => ?_)
      · have hp : i - 1 < l.length := by omega
        rw [show wrap64 ((i : Int) - 1) = ((i - 1 : Nat) : Int) from by rw [w64 (by omega) (by omega)]; omega, rd_get hp]
        refine Ev.pos (by omega) (Ev.pos (by omega) ?_)
        refine Ev.cases (fun e3 => Ev.eq ?_) (fun e3 => ?_)
        · exact (decide_eq_false (fun h => by have := (h i hlt (by omega)).2.2 (by omega); omega)).symm
        · refine Ev.val (ih (i + 1) (by omega) (by omega)) (decide_eq_decide.2 (setFrom_step hlt e.1 e.2 (fun _ => by omega)).symm)
      · refine Ev.val (ih (i + 1) (by omega) (by omega)) (decide_eq_decide.2 (setFrom_step hlt e.1 e.2 (fun h0 => by omega)).symm)
    · exact (decide_eq_false (fun h => e (by have := h i hlt (by omega); simp [this.1, this.2.1]))).symm
theorem impl_SetOk_ev (l : List Int) (hl : l.length ≤ 1099511627776) : Ev (fun k => impl_SetOk.f k l) (decide (setFrom l 0)) := by
  unfold impl_SetOk.f
  exact impl_SetOk_l l hl _ 0 rfl (by omega)
end Go.Proofs.Ytnhladaobcnmhaa.Pure
namespace Go.Proofs.Ytnhladaobcnmhaa.Pure
open Go.RowKit Go.Proofs.Ytnhladaobcnmhaa.X Go.Proofs.YtnhladaobcnmhaaW.PrintWords Go.Proofs.YtnhladaobcnmhaaW.PrintLast
set_option linter.unusedVariables false
set_option linter.unusedSimpArgs false

def refk (a : Int) : Int := if a = 0 then 0 else if 2 ≤ a ∧ a ≤ 254 ∧ a % 2 = 0 then 1 else if 1 ≤ a ∧ a ≤ 799 ∧ a % 2 = 1 then 2 else -1
theorem refk_cases (a : Int) : refk a = 0 ∨ refk a = 1 ∨ refk a = 2 ∨ refk a = -1 := by
  unfold refk
  repeat' split
  all_goals simp
theorem tmod2 {a : Int} (h : 0 ≤ a) : Int.tmod a 2 = a % 2 := Int.tmod_eq_emod_of_nonneg h
theorem spec_RefKind_ev (a : Int) : Ev (fun k => spec_RefKind.f k a) (refk a) := by
  have j : ∀ b : Bool, (b = true → 2 ≤ a ∧ a ≤ 254 ∧ a % 2 = 0) → (b = false → ¬ (2 ≤ a ∧ a ≤ 254 ∧ a % 2 = 0)) → ¬ a = 0 → Ev (fun k => spec_RefKind.j0 k a b) (refk a) := by
    intro b h1 h2 h0
    refine Ev.step (fun k => by rw [spec_RefKind.j0]) ?_
    refine Ev.cases (fun e => Ev.eq ?_) (fun e => ?_)
    · unfold refk; rw [if_neg h0, if_pos (h1 e)]
    · have h2 := h2 (by simpa using e)
      refine Ev.bindo (l1In_f _ _ _) (Ev.cases (fun c => ?_) (fun c => Ev.eq ?_))
      · simp only [Bool.and_eq_true, decide_eq_true_eq] at c
        rw [tmod2 (by omega)]
        refine Ev.cases (fun c2 => Ev.eq ?_) (fun c2 => Ev.eq ?_)
        · unfold refk; rw [if_neg h0, if_neg h2, if_pos ⟨c.1, c.2, c2⟩]
        · unfold refk; rw [if_neg h0, if_neg h2, if_neg (by omega)]
      · unfold refk; rw [if_neg h0, if_neg h2, if_neg (fun x => c (by simp [x.1, x.2.1]))]
  unfold spec_RefKind.f
  refine Ev.cases (fun e => Ev.eq ?_) (fun e => ?_)
  · unfold refk; rw [if_pos e]
  · refine Ev.bindo (l1In_f _ _ _) (Ev.cases (fun c => ?_) (fun c => ?_))
    · simp only [Bool.and_eq_true, decide_eq_true_eq] at c
      rw [tmod2 (by omega)]
      exact j _ (fun h => ⟨c.1, c.2, by simpa using h⟩) (fun h x => by simp [x.2.2] at h) e
    · exact j _ (fun h => by cases h) (fun _ x => c (by simp [x.1, x.2.1])) e
theorem impl_RefKind_ev (a : Int) : Ev (fun k => impl_RefKind.f k a) (refk a) := by
  have j : ∀ b : Bool, (b = true → 2 ≤ a ∧ a ≤ 254 ∧ a % 2 = 0) → (b = false → ¬ (2 ≤ a ∧ a ≤ 254 ∧ a % 2 = 0)) → ¬ a = 0 → Ev (fun k => impl_RefKind.j0 k a b) (refk a) := by
    intro b h1 h2 h0
    refine Ev.step (fun k => by rw [impl_RefKind.j0]) ?_
    refine Ev.cases (fun e => Ev.eq ?_) (fun e => ?_)
    · unfold refk; rw [if_neg h0, if_pos (h1 e)]
    · have h2 := h2 (by simpa using e)
      refine Ev.bindo (within_f _ _ _) (Ev.cases (fun c => ?_) (fun c => Ev.eq ?_))
      · simp only [Bool.and_eq_true, decide_eq_true_eq] at c
        rw [tmod2 (by omega)]
        refine Ev.cases (fun c2 => Ev.eq ?_) (fun c2 => Ev.eq ?_)
        · unfold refk; rw [if_neg h0, if_neg h2, if_pos ⟨c.1, c.2, c2⟩]
        · unfold refk; rw [if_neg h0, if_neg h2, if_neg (by omega)]
      · unfold refk; rw [if_neg h0, if_neg h2, if_neg (fun x => c (by simp [x.1, x.2.1]))]
  unfold impl_RefKind.f
  refine Ev.cases (fun e => Ev.eq ?_) (fun e => ?_)
  · unfold refk; rw [if_pos e]
  · refine Ev.bindo (within_f _ _ _) (Ev.cases (fun c => ?_) (fun c => ?_))
    · simp only [Bool.and_eq_true, decide_eq_true_eq] at c
      rw [tmod2 (by omega)]
      exact j _ (fun h => ⟨c.1, c.2, by simpa using h⟩) (fun h x => by simp [x.2.2] at h) e
    · exact j _ (fun h => by cases h) (fun _ x => c (by simp [x.1, x.2.1])) e
theorem impl_isYoung_ev (a : Int) : Ev (fun k => impl_isYoung.f k a) (decide (refk a = 2)) := by
  unfold impl_isYoung.f
  refine Ev.bind (impl_RefKind_ev a) (Ev.eq ?_)
  by_cases h : refk a = 2 <;> simp [h]
end Go.Proofs.Ytnhladaobcnmhaa.Pure
namespace Go.Proofs.Ytnhladaobcnmhaa.Pure
open Go.RowKit Go.Proofs.Ytnhladaobcnmhaa.X Go.Proofs.YtnhladaobcnmhaaW.PrintWords Go.Proofs.YtnhladaobcnmhaaW.PrintLast
set_option linter.unusedVariables false
set_option linter.unusedSimpArgs false

theorem bt_byte (s : ByteArray) : ∀ p i : Nat, 0 ≤ bt s ((p + i : Nat) : Int) ∧ bt s ((p + i : Nat) : Int) ≤ 255 := fun p i => bt_range s _
theorem spec_ReadWord_ev (s : ByteArray) (h : s.size = 8) : Ev (fun k => spec_ReadWord.f k s) (wordv s 0, true) := by
  have l : ∀ d i : Nat, 8 - i = d → i ≤ 8 → Ev (fun k => spec_ReadWord.l0 k s (be (fun i => bt s ((0 + i : Nat) : Int)) i) (i : Int)) (wordv s 0, true) := by
    intro d
    induction d with
    | zero =>
      intro i hd hi
      refine Ev.step (fun k => by rw [spec_ReadWord.l0]) ?_
      obtain rfl : i = 8 := by omega
      exact Ev.neg (by omega) (Ev.eq rfl)
    | succ d ih =>
      intro i hd hi
      refine Ev.step (fun k => by rw [spec_ReadWord.l0]) ?_
      refine Ev.pos (by omega) (Ev.pos (by omega) (Ev.pos (by omega) ?_))
      have e := be_step_u64 (fun i => bt s ((0 + i : Nat) : Int)) (fun i => bt_byte s 0 i) i (by omega)
      simp only [Nat.zero_add] at e ih ⊢
      rw [e, show wrap64 ((i : Int) + 1) = ((i + 1 : Nat) : Int) from by rw [w64 (by omega) (by omega)]; omega]
      exact ih (i + 1) (by omega) (by omega)
  unfold spec_ReadWord.f
  exact Ev.pos (by omega) (l 8 0 rfl (by omega))
theorem impl_wordAt_ev (s : ByteArray) (p : Nat) (h : p + 8 ≤ s.size) (hs : s.size ≤ 140737488355328) : Ev (fun k => impl_wordAt.f k s (p : Int)) (wordv s p) := by
  have l : ∀ d i : Nat, 8 - i = d → i ≤ 8 → Ev (fun k => impl_wordAt.l0 k s (p : Int) (wrap64 (be (fun i => bt s ((p + i : Nat) : Int)) i)) (i : Int)) (wordv s p) := by
    intro d
    induction d with
    | zero =>
      intro i hd hi
      refine Ev.step (fun k => by rw [impl_wordAt.l0]) ?_
      obtain rfl : i = 8 := by omega
      exact Ev.neg (by omega) (Ev.eq rfl)
    | succ d ih =>
      intro i hd hi
      refine Ev.step (fun k => by rw [impl_wordAt.l0]) ?_
      rw [show wrap64 ((p : Int) + (i : Int)) = ((p + i : Nat) : Int) from by rw [w64 (by omega) (by omega)]; omega]
      refine Ev.pos (by omega) (Ev.pos (by omega) (Ev.pos (by omega) ?_))
      have e := be_step_i64 (fun i => bt s ((p + i : Nat) : Int)) (fun i => bt_byte s p i) i
      rw [e, show wrap64 ((i : Int) + 1) = ((i + 1 : Nat) : Int) from by rw [w64 (by omega) (by omega)]; omega]
      exact ih (i + 1) (by omega) (by omega)
  unfold impl_wordAt.f
  have h := l 8 0 rfl (by omega)
  rw [show wrap64 (be (fun i => bt s ((p + i : Nat) : Int)) 0) = 0 from by simp only [be]; exact w64 (by omega) (by omega)] at h
  exact h
theorem wordv_extract (s : ByteArray) (p : Nat) (h : p + 8 ≤ s.size) : wordv (s.extract p (p + 8)) 0 = wordv s p := by
  unfold wordv
  refine congrArg wrap64 (be_congr 8 (fun i hi => ?_))
  rw [Nat.zero_add]
  exact bt_extract s p (p + 8) i (by omega) h
theorem spec_l9Word_ev (s : ByteArray) (w : Nat) (h : 8 * w + 8 ≤ s.size) (hs : s.size ≤ 140737488355328) : Ev (fun k => spec_l9Word.f k s (w : Int)) (wordv s (8 * w)) := by
  unfold spec_l9Word.f
  rw [show wrap64 (8 * (w : Int)) = ((8 * w : Nat) : Int) from by rw [w64 (by omega) (by omega)]; omega, show wrap64 (((8 * w : Nat) : Int) + 8) = ((8 * w + 8 : Nat) : Int) from by rw [w64 (by omega) (by omega)]; omega]
  refine Ev.pos (by omega) (Ev.pos (by omega) (Ev.pos (by omega) ?_))
  simp only [Int.toNat_natCast]
  refine Ev.bind (spec_ReadWord_ev _ (by rw [ByteArray.size_extract]; omega)) (Ev.eq ?_)
  exact wordv_extract s (8 * w) h

def imageOk (s : ByteArray) : Prop := s.size % 64 = 0 ∧ 1 ≤ s.size / 64 ∧ s.size / 64 ≤ 128
instance (s : ByteArray) : Decidable (imageOk s) := by unfold imageOk; infer_instance
theorem spec_l9Image_f (s : ByteArray) (hs : s.size ≤ 140737488355328) : spec_l9Image.f s = some (decide (imageOk s)) := by
  unfold spec_l9Image.f imageOk
  split
  · rename_i h
    have h2 : s.size % 64 = 0 := by omega
    rw [l1In_f, w64 (by omega) (by omega)]
    simp only [Option.bind_some, h2, true_and]
    refine congrArg some ?_
    rw [← Bool.decide_and]
    exact decide_eq_decide.2 (by omega)
  · rename_i h
    have h2 : ¬ s.size % 64 = 0 := by omega
    simp [h2]
/-- The young references in the words of a set; nothing, if one is none. -/
def youngs (s : ByteArray) : List Int → Option (List Int)
  | [] => some []
  | w :: l => if 8 * w + 8 ≤ s.size ∧ refk (wordv s (8 * w.toNat)) = 2 then (youngs s l).map (wordv s (8 * w.toNat) :: ·) else none
def youngWords (s : ByteArray) (l : List Int) : List Int × Bool :=
  if setFrom l 0 ∧ imageOk s then match youngs s l with | some r => (r, true) | none => ([], false) else ([], false)
theorem youngs_length {s : ByteArray} : ∀ {l r : List Int}, youngs s l = some r → r.length = l.length
  | [], r, h => by simp [youngs] at h; simp [← h]
  | w :: l, r, h => by
    simp only [youngs] at h
    split at h
    · obtain ⟨q, hq, rfl⟩ := Option.map_eq_some_iff.1 h
      simp [youngs_length hq]
    · cases h
def fin (acc : List Int) : Option (List Int) → List Int × Bool
  | some r => (acc ++ r, true)
  | none => ([], false)
theorem fin_cons (acc : List Int) (x : Int) (o : Option (List Int)) : fin acc (o.map (x :: ·)) = fin (acc ++ [x]) o := by
  cases o <;> simp [fin]
theorem spec_YoungWords_l (s : ByteArray) (l : List Int) (hs : s.size ≤ 140737488355328) (hl : l.length ≤ 1099511627776) (hset : setFrom l 0) (d : Nat) : ∀ (i : Nat) (acc : List Int), l.length - i = d → i ≤ l.length → acc.length = i →
    Ev (fun k => spec_YoungWords.l0 k s l acc (i : Int)) (fin acc (youngs s (l.drop i))) := by
  induction d with
  | zero =>
    intro i acc hd hi ha
    refine Ev.step (fun k => by rw [spec_YoungWords.l0]) ?_
    refine Ev.neg (by omega) (Ev.eq ?_)
    rw [List.drop_eq_nil_of_le (by omega)]
    simp [youngs, fin]
  | succ d ih =>
    intro i acc hd hi ha
    have hlt : i < l.length := by omega
    have hr := hset i hlt (by omega)
    obtain ⟨w, hw⟩ : ∃ w : Nat, l[i] = (w : Int) := ⟨l[i].toNat, by omega⟩
    refine Ev.step (fun k => by rw [spec_YoungWords.l0]) ?_
    rw [rd_get hlt, hw, show wrap64 (8 * (w : Int)) = ((8 * w : Nat) : Int) from by rw [w64 (by omega) (by omega)]; omega, show wrap64 (((8 * w : Nat) : Int) + 8) = ((8 * w + 8 : Nat) : Int) from by rw [w64 (by omega) (by omega)]; omega]
    rw [List.drop_eq_getElem_cons hlt, hw]
    refine Ev.pos (by omega) (Ev.pos (by omega) (Ev.cases (fun c => Ev.eq ?_) (fun c => ?_)))
    · rw [youngs, if_neg (by omega)]; rfl
    · have h8 : 8 * w + 8 ≤ s.size := by omega
      refine Ev.bind (spec_l9Word_ev s w h8 hs) (Ev.bind (spec_RefKind_ev _) (Ev.cases (fun c2 => ?_) (fun c2 => Ev.eq ?_)))
      · refine Ev.bind (spec_l9Word_ev s w h8 hs) (Ev.pos (by omega) ?_)
        rw [show wrap64 ((i : Int) + 1) = ((i + 1 : Nat) : Int) from by rw [w64 (by omega) (by omega)]; omega]
        rw [youngs, if_pos ⟨by omega, by simpa using c2⟩, fin_cons]
        simp only [Int.toNat_natCast]
        exact ih (i + 1) _ (by omega) (by omega) (by simp [ha])
      · rw [youngs, if_neg (fun x => c2 (by simpa using x.2))]; rfl
theorem spec_YoungWords_ev (s : ByteArray) (l : List Int) (hs : s.size ≤ 140737488355328) (hl : l.length ≤ 1099511627776) : Ev (fun k => spec_YoungWords.f k s l) (youngWords s l) := by
  unfold spec_YoungWords.f
  refine Ev.bind (spec_SetOk_ev l hl) (Ev.cases (fun c => ?_) (fun c => ?_))
  · have c : setFrom l 0 := by simpa using c
    refine Ev.bindo (spec_l9Image_f s hs) ?_
    refine Ev.step (fun k => by rw [spec_YoungWords.j0]) ?_
    refine Ev.cases (fun c2 => Ev.eq ?_) (fun c2 => ?_)
    · rw [youngWords, if_neg (fun x => by simp [x.2] at c2)]
    · have c2 : imageOk s := by simpa using c2
      refine Ev.val (spec_YoungWords_l s l hs hl c _ 0 [] rfl (by omega) rfl) ?_
      rw [youngWords, if_pos ⟨c, c2⟩, List.drop_zero]
      cases youngs s l <;> simp [fin]
  · refine Ev.step (fun k => by rw [spec_YoungWords.j0]) ?_
    refine Ev.pos rfl (Ev.eq ?_)
    rw [youngWords, if_neg (fun x => c (by simp [x.1]))]
theorem impl_YoungWords_l (s : ByteArray) (l : List Int) (hs : s.size ≤ 140737488355328) (him : imageOk s) (hl : l.length ≤ 1099511627776) (hset : setFrom l 0) (d : Nat) : ∀ (i : Nat) (acc : List Int), l.length - i = d → i ≤ l.length → acc.length = i →
    Ev (fun k => impl_YoungWords.l0 k s acc l (l.length : Int) (i : Int)) (fin acc (youngs s (l.drop i))) := by
  induction d with
  | zero =>
    intro i acc hd hi ha
    refine Ev.step (fun k => by rw [impl_YoungWords.l0]) ?_
    refine Ev.neg (by omega) (Ev.eq ?_)
    rw [List.drop_eq_nil_of_le (by omega)]
    simp [youngs, fin]
  | succ d ih =>
    intro i acc hd hi ha
    have hlt : i < l.length := by omega
    have hr := hset i hlt (by omega)
    have him2 := him.1
    obtain ⟨w, hw⟩ : ∃ w : Nat, l[i] = (w : Int) := ⟨l[i].toNat, by omega⟩
    refine Ev.step (fun k => by rw [impl_YoungWords.l0]) ?_
    rw [rd_get hlt, hw, show wrap64 (8 * (w : Int)) = ((8 * w : Nat) : Int) from by rw [w64 (by omega) (by omega)]; omega, w64 (x := (s.size : Int) / 8) (by omega) (by omega)]
    rw [List.drop_eq_getElem_cons hlt, hw]
    refine Ev.pos (by omega) (Ev.pos (by omega) (Ev.pos (by omega) (Ev.cases (fun c => Ev.eq ?_) (fun c => ?_))))
    · rw [youngs, if_neg (by omega)]; rfl
    · have h8 : 8 * w + 8 ≤ s.size := by omega
      refine Ev.bind (impl_wordAt_ev s (8 * w) h8 hs) (Ev.bind (impl_isYoung_ev _) (Ev.cases (fun c2 => ?_) (fun c2 => Ev.eq ?_)))
      · refine Ev.bind (impl_wordAt_ev s (8 * w) h8 hs) (Ev.pos (by omega) ?_)
        rw [show wrap64 ((i : Int) + 1) = ((i + 1 : Nat) : Int) from by rw [w64 (by omega) (by omega)]; omega]
        rw [youngs, if_pos ⟨by omega, by simpa using c2⟩, fin_cons]
        simp only [Int.toNat_natCast]
        exact ih (i + 1) _ (by omega) (by omega) (by simp [ha])
      · rw [youngs, if_neg (fun x => c2 (by simpa using x.2))]; rfl
theorem impl_YoungWords_ev (s : ByteArray) (l : List Int) (hs : s.size ≤ 140737488355328) (hl : l.length ≤ 1099511627776) : Ev (fun k => impl_YoungWords.f k s l) (youngWords s l) := by
  have j : ∀ b : Bool, (b = true → ¬ (setFrom l 0 ∧ imageOk s)) → (b = false → setFrom l 0 ∧ imageOk s) → Ev (fun k => impl_YoungWords.j0 k s l b) (youngWords s l) := by
    intro b h1 h2
    refine Ev.step (fun k => by rw [impl_YoungWords.j0]) ?_
    refine Ev.cases (fun c => Ev.eq ?_) (fun c => ?_)
    · rw [youngWords, if_neg (h1 c)]
    · have h2 := h2 (by simpa using c)
      refine Ev.val (impl_YoungWords_l s l hs h2.2 hl h2.1 _ 0 [] rfl (by omega) rfl) ?_
      rw [youngWords, if_pos h2, List.drop_zero]
      cases youngs s l <;> simp [fin]
  unfold impl_YoungWords.f
  refine Ev.bind (impl_SetOk_ev l hl) (Ev.cases (fun c => ?_) (fun c => ?_))
  · have c : setFrom l 0 := by simpa using c
    refine Ev.cases (fun c2 => ?_) (fun c2 => ?_)
    · rw [w64 (x := (s.size : Int) / 64) (by omega) (by omega)]
      refine Ev.bindo (within_f _ _ _) ?_
      refine j _ (fun h x => ?_) (fun h => ⟨c, ?_⟩)
      · have := x.2
        unfold imageOk at this
        simp at h
        omega
      · unfold imageOk
        simp at h
        omega
    · exact j _ (fun _ x => c2 (by have := x.2.1; omega)) (fun h => by cases h)
  · exact j _ (fun _ x => c (by simp [x.1])) (fun h => by cases h)
end Go.Proofs.Ytnhladaobcnmhaa.Pure
namespace Go.Proofs.Ytnhladaobcnmhaa.Pure
open Go.RowKit Go.Proofs.Ytnhladaobcnmhaa.X Go.Proofs.YtnhladaobcnmhaaW.PrintWords Go.Proofs.YtnhladaobcnmhaaW.PrintLast
set_option linter.unusedVariables false
set_option linter.unusedSimpArgs false
/-- The place of a number in a list, from i on; -1 where it is not. -/
def placeFrom (x : Int) : List Int → Int → Int
  | [], _ => -1
  | y :: l, i => if x = y then i else placeFrom x l (i + 1)
theorem placeFrom_cases (x : Int) : ∀ (l : List Int) (i : Int), (placeFrom x l i = -1 ∧ x ∉ l) ∨ ∃ (k : Nat) (h : k < l.length), placeFrom x l i = i + k ∧ l[k] = x
  | [], i => .inl ⟨rfl, by simp⟩
  | y :: l, i => by
    by_cases c : x = y
    · exact .inr ⟨0, by simp, by rw [placeFrom, if_pos c]; simp, by simp [c]⟩
    · rcases placeFrom_cases x l (i + 1) with ⟨h1, h2⟩ | ⟨k, h1, h2, h3⟩
      · exact .inl ⟨by rw [placeFrom, if_neg c, h1], by simp [c, h2]⟩
      · exact .inr ⟨k + 1, by simp; omega, by rw [placeFrom, if_neg c, h2]; omega, by simpa using h3⟩
theorem index_ev (l : List Int) (x : Int) (hl : l.length ≤ 1099511627776) : Ev (fun k => slices_Index_int64_int64.f k l x) (placeFrom x l 0) := by
  have lp : ∀ (d i : Nat), l.length - i = d → i ≤ l.length → Ev (fun k => slices_Index_int64_int64.l0 k l x (l.length : Int) (i : Int)) (placeFrom x (l.drop i) (i : Int)) := by
    intro d
    induction d with
    | zero =>
      intro i hd hi
      rw [List.drop_eq_nil_of_le (by omega)]
      refine Ev.step (fun k => by rw [slices_Index_int64_int64.l0]) ?_
      refine Ev.neg (by omega) (Ev.eq ?_)
      rfl
    | succ d ih =>
      intro i hd hi
      have hlt : i < l.length := by omega
      refine Ev.step (fun k => by rw [slices_Index_int64_int64.l0]) ?_
      rw [rd_get hlt, show wrap64 ((i : Int) + 1) = ((i + 1 : Nat) : Int) from by rw [w64 (by omega) (by omega)]; omega, List.drop_eq_getElem_cons hlt]
      simp only [placeFrom]
      refine Ev.pos (by omega) (Ev.pos (by omega) (Ev.pos (by omega) (Ev.cases (fun c => Ev.eq ?_) (fun c => ?_))))
      · rw [if_pos c]
      · rw [if_neg c]
        exact ih (i + 1) (by omega) (by omega)
  unfold slices_Index_int64_int64.f
  exact lp _ 0 rfl (by omega)
theorem replaced_f (s : ByteArray) (p : Nat) (t : ByteArray) (h : p + t.size ≤ s.size) (hs : s.size ≤ 140737488355328) : impl_replaced.f s (p : Int) t = some (repl s p t) := by
  unfold impl_replaced.f
  have h1 : (s.extract 0 p).size = p := by rw [ByteArray.size_extract]; omega
  rw [w64 (x := (p : Int) + (t.size : Int)) (by omega) (by omega), Int.toNat_natCast, show ((p : Int) + (t.size : Int)).toNat = p + t.size from by omega]
  rw [if_pos (by omega), if_pos (by omega), if_pos (by rw [h1]; omega), if_pos (by omega), if_pos (by omega), if_pos (by rw [ByteArray.size_append, ByteArray.size_extract, ByteArray.size_extract]; omega)]
  rfl
/-- An image whose remembered words are replaced, one after another. -/
def patchL (frm dest : List Int) : ByteArray → List (Int × Int) → ByteArray
  | s, [] => s
  | s, (w, r) :: l => patchL frm dest (if placeFrom r frm 0 ≥ 0 then repl s (8 * w.toNat) (wordB (rd dest (placeFrom r frm 0))) else s) l
theorem patchL_size (frm dest : List Int) : ∀ (l : List (Int × Int)) (s : ByteArray), (∀ x ∈ l, 8 * x.1.toNat + 8 ≤ s.size) → (patchL frm dest s l).size = s.size
  | [], s, _ => rfl
  | (w, r) :: l, s, h => by
    have hw := h (w, r) (List.mem_cons_self ..)
    rw [patchL]
    split
    · have e := repl_size (s := s) (t := wordB (rd dest (placeFrom r frm 0))) (p := 8 * w.toNat) (by rw [wordB_size]; exact hw)
      rw [patchL_size frm dest l _ (fun x hx => by rw [e]; exact h x (List.mem_cons_of_mem _ hx)), e]
    · exact patchL_size frm dest l s (fun x hx => h x (List.mem_cons_of_mem _ hx))
/-- A word that is not remembered stays. -/
theorem patchL_bt (frm dest : List Int) (i : Nat) : ∀ (l : List (Int × Int)) (s : ByteArray), (∀ x ∈ l, 8 * x.1.toNat + 8 ≤ s.size) → (∀ x ∈ l, i < 8 * x.1.toNat ∨ 8 * x.1.toNat + 8 ≤ i) → bt (patchL frm dest s l) (i : Int) = bt s (i : Int)
  | [], s, _, _ => rfl
  | (w, r) :: l, s, h, hd => by
    have hw := h (w, r) (List.mem_cons_self ..)
    have hi := hd (w, r) (List.mem_cons_self ..)
    have hz := wordB_size (rd dest (placeFrom r frm 0))
    rw [patchL]
    split
    · have e := repl_size (s := s) (t := wordB (rd dest (placeFrom r frm 0))) (p := 8 * w.toNat) (by omega)
      rw [patchL_bt frm dest i l _ (fun x hx => by rw [e]; exact h x (List.mem_cons_of_mem _ hx)) (fun x hx => hd x (List.mem_cons_of_mem _ hx)), bt_repl (by omega), if_neg (by simp only [] at hi; omega)]
    · exact patchL_bt frm dest i l s (fun x hx => h x (List.mem_cons_of_mem _ hx)) (fun x hx => hd x (List.mem_cons_of_mem _ hx))
theorem patchL_word (frm dest : List Int) (q : Nat) (l : List (Int × Int)) (s : ByteArray) (h : ∀ x ∈ l, 8 * x.1.toNat + 8 ≤ s.size) (hd : ∀ x ∈ l, x.1.toNat ≠ q) : wordv (patchL frm dest s l) (8 * q) = wordv s (8 * q) := by
  unfold wordv
  refine congrArg wrap64 (be_congr 8 (fun i hi => ?_))
  exact patchL_bt frm dest (8 * q + i) l s h (fun x hx => by have := hd x hx; omega)
theorem noneNeg_ev (dest : List Int) (h : ∀ x ∈ dest, refk x ≠ -1) : Ev (fun k => slices_ContainsFunc_impl_areForwards_1.f k dest) false := by
  unfold slices_ContainsFunc_impl_areForwards_1.f
  induction dest with
  | nil => exact Ev.eq rfl
  | cons x l ih =>
    have ih := ih (fun y hy => h y (List.mem_cons_of_mem _ hy))
    have hx : Ev (fun k => impl_areForwards_1.f k x) false := by
      unfold impl_areForwards_1.f
      refine Ev.bind (impl_RefKind_ev x) (Ev.eq ?_)
      have h1 := h x (List.mem_cons_self ..)
      have h2 := refk_cases x
      simp only [decide_eq_false_iff_not]
      omega
    exact Ev.bind hx (Ev.neg (by simp) ih)
theorem impl_Patched_ev (s : ByteArray) (set frm dest lst : List Int) (hs : s.size ≤ 131072) (hset : set.length ≤ 1099511627776) (hf : frm.length ≤ 1099511627776) (hy : youngWords s set = (lst, true)) (hll : lst.length = set.length) (hle : frm.length = dest.length) (h400 : dest.length ≤ 400) (hto : ∀ x ∈ dest, refk x ≠ -1)
    (hfit : ∀ x ∈ set, 0 ≤ x ∧ 8 * x.toNat + 8 ≤ s.size) : Ev (fun k => impl_Patched.f k s set frm dest) (patchL frm dest s (set.zip lst), true) := by
  unfold impl_Patched.f impl_areForwards.f
  refine Ev.bind (impl_YoungWords_ev s set (by omega) hset) ?_
  rw [hy]
  refine Ev.pos rfl (Ev.bind (Ev.pos (by omega) (Ev.pos (by omega) (Ev.bind (noneNeg_ev dest hto) (Ev.eq rfl)))) ?_)
  refine Ev.step (fun k => by rw [impl_Patched.j0]) (Ev.neg (by simp) ?_)
  simp only []
  have lp : ∀ (d i : Nat) (x : ByteArray), lst.length - i = d → i ≤ lst.length → x.size = s.size → Ev (fun k => impl_Patched.l0 k x set frm dest lst (lst.length : Int) (i : Int)) (patchL frm dest x ((set.zip lst).drop i), true) := by
    intro d
    induction d with
    | zero =>
      intro i x hd hi hx
      rw [List.drop_eq_nil_of_le (by rw [List.length_zip]; omega)]
      refine Ev.step (fun k => by rw [impl_Patched.l0]) ?_
      refine Ev.neg (by omega) (Ev.eq ?_)
      rfl
    | succ d ih =>
      intro i x hd hi hx
      have hlt : i < lst.length := by omega
      have hlt2 : i < set.length := by omega
      have hw := hfit set[i] (List.getElem_mem hlt2)
      have hz : (set.zip lst).drop i = (set[i], lst[i]) :: (set.zip lst).drop (i + 1) := by
        rw [List.drop_eq_getElem_cons (by rw [List.length_zip]; omega), List.getElem_zip]
      refine Ev.step (fun k => by rw [impl_Patched.l0]) ?_
      rw [rd_get hlt, rd_get hlt2, hz, show wrap64 ((i : Int) + 1) = ((i + 1 : Nat) : Int) from by rw [w64 (by omega) (by omega)]; omega]
      refine Ev.pos (by omega) (Ev.pos (by omega) (Ev.pos (by omega) (Ev.bind (index_ev frm lst[i] hf) ?_)))
      rw [patchL]
      have hp := placeFrom_cases lst[i] frm 0
      generalize placeFrom lst[i] frm 0 = p at *
      refine Ev.cases (fun c => ?_) (fun c => ?_)
      · rw [if_pos c]
        obtain ⟨k, hk, e, _⟩ : ∃ (k : Nat) (h : k < frm.length), p = 0 + k ∧ frm[k] = lst[i] := by
          rcases hp with hp | hp
          · omega
          · exact hp
        clear hp
        have hz2 := wordB_size (rd dest p)
        refine Ev.pos (by omega) (Ev.pos (by omega) (Ev.pos (by omega) (Ev.bind (impl_WordBytes_ev _) ?_)))
        rw [w64 (x := 8 * set[i]) (by omega) (by omega), show 8 * set[i] = ((8 * set[i].toNat : Nat) : Int) from by omega]
        refine Ev.bindo (replaced_f x _ _ (by omega) (by omega)) ?_
        exact ih (i + 1) _ (by omega) (by omega) (by rw [repl_size (by omega), hx])
      · rw [if_neg c]
        clear hp
        exact ih (i + 1) x (by omega) (by omega) hx
  exact lp _ 0 s rfl (by omega) rfl
theorem youngWords_true {s : ByteArray} {set lst : List Int} (h : youngWords s set = (lst, true)) : setFrom set 0 ∧ imageOk s ∧ youngs s set = some lst := by
  unfold youngWords at h
  split at h
  · rename_i c
    cases hy : youngs s set with
    | none => rw [hy] at h; simp at h
    | some r =>
      rw [hy] at h
      simp only [Prod.mk.injEq, and_true] at h
      exact ⟨c.1, c.2, by rw [h]⟩
  · simp at h
theorem youngs_fit {s : ByteArray} : ∀ {set lst : List Int}, youngs s set = some lst → ∀ x ∈ set, 8 * x + 8 ≤ s.size
  | [], _, _, x, hx => by simp at hx
  | w :: l, r, h, x, hx => by
    simp only [youngs] at h
    split at h
    · rename_i c
      rcases List.mem_cons.1 hx with rfl | hx
      · exact c.1
      · cases hy : youngs s l with
        | none => rw [hy] at h; simp at h
        | some r2 => exact youngs_fit hy x hx
    · simp at h
end Go.Proofs.Ytnhladaobcnmhaa.Pure
namespace Go.Proofs.Ytnhladaobcnmhaa.Pure
open Go.RowKit Go.Proofs.Ytnhladaobcnmhaa.X Go.Proofs.YtnhladaobcnmhaaW.PrintWords Go.Proofs.YtnhladaobcnmhaaW.PrintLast
set_option linter.unusedVariables false
set_option linter.unusedSimpArgs false
theorem sameInts_ev (l : List Int) (hl : l.length ≤ 1099511627776) : Ev (fun k => laws_sameInts.f k l l) true := by
  have lp : ∀ (d i : Nat), l.length - i = d → i ≤ l.length → Ev (fun k => laws_sameInts.l0 k l l (i : Int)) true := by
    intro d
    induction d with
    | zero =>
      intro i hd hi
      exact Ev.step (fun k => by rw [laws_sameInts.l0]) (Ev.neg (by omega) (Ev.eq rfl))
    | succ d ih =>
      intro i hd hi
      refine Ev.step (fun k => by rw [laws_sameInts.l0]) ?_
      rw [show wrap64 ((i : Int) + 1) = ((i + 1 : Nat) : Int) from by rw [w64 (by omega) (by omega)]; omega]
      exact Ev.pos (by omega) (Ev.pos (by omega) (Ev.pos (by omega) (Ev.pos rfl (ih (i + 1) (by omega) (by omega)))))
  unfold laws_sameInts.f
  exact Ev.pos rfl (lp _ 0 rfl (by omega))
end Go.Proofs.Ytnhladaobcnmhaa.Pure
namespace Go.Proofs.Ytnhladaobcnmhaa.Pure
open Go.RowKit Go.Proofs.Ytnhladaobcnmhaa.X Go.Proofs.YtnhladaobcnmhaaW.PrintWords Go.Proofs.YtnhladaobcnmhaaW.PrintLast
set_option linter.unusedVariables false
set_option linter.unusedSimpArgs false
theorem has_ev (l : List Int) (x : Int) (hl : l.length ≤ 1099511627776) : Ev (fun k => laws_has.f k l x) (decide (x ∈ l)) := by
  have lp : ∀ (d i : Nat), l.length - i = d → i ≤ l.length → x ∉ l.take i → Ev (fun k => laws_has.l0 k l x (i : Int)) (decide (x ∈ l)) := by
    intro d
    induction d with
    | zero =>
      intro i hd hi hn
      rw [List.take_of_length_le (by omega)] at hn
      refine Ev.step (fun k => by rw [laws_has.l0]) (Ev.neg (by omega) (Ev.eq ?_))
      simp [hn]
    | succ d ih =>
      intro i hd hi hn
      have hlt : i < l.length := by omega
      refine Ev.step (fun k => by rw [laws_has.l0]) ?_
      rw [rd_get hlt, show wrap64 ((i : Int) + 1) = ((i + 1 : Nat) : Int) from by rw [w64 (by omega) (by omega)]; omega]
      refine Ev.pos (by omega) (Ev.pos (by omega) (Ev.cases (fun e => Ev.eq ?_) (fun e => ?_)))
      · simp [← e]
      · exact ih (i + 1) (by omega) (by omega) (by
          rw [take_snoc2 l i hlt, List.mem_append, List.mem_singleton]
          exact fun h => h.elim hn (fun h => e h.symm))
  unfold laws_has.f
  exact lp _ 0 rfl (by omega) (by simp)
end Go.Proofs.Ytnhladaobcnmhaa.Pure
namespace Go.Proofs.Ytnhladaobcnmhaa.Pure
open Go.RowKit Go.Proofs.Ytnhladaobcnmhaa.X Go.Proofs.YtnhladaobcnmhaaW.PrintWords Go.Proofs.YtnhladaobcnmhaaW.PrintLast
set_option linter.unusedVariables false
set_option linter.unusedSimpArgs false

/-- A code and a place in it. -/
structure Rd (l : List Int) (p : Int) : Prop where
  bytes : isBytes l
  len : l.length ≤ 1099511627776
  lo : 0 ≤ p
  hi : p ≤ l.length
theorem Rd.start {l : List Int} (hb : isBytes l) (hl : l.length ≤ 1099511627776) : Rd l 0 := ⟨hb, hl, by omega, by omega⟩
theorem next_f {l : List Int} {p : Int} (h : Rd l p) : ∃ b q, spec_l1Rd_next.f l p = some (b, q) ∧ 0 ≤ b ∧ b ≤ 255 ∧ Rd l q := by
  obtain ⟨hb, hl, h0, h1⟩ := h
  unfold spec_l1Rd_next.f
  by_cases c : p ≥ (l.length : Int)
  · exact ⟨0, p, by rw [if_pos c], by omega, by omega, hb, hl, h0, h1⟩
  · have hg := isBytes_getD hb p.toNat
    have e : rd l p = l.getD p.toNat 0 := rfl
    rw [if_neg c, w64 (x := p + 1) (by omega) (by omega), w64 (x := p + 1 - 1) (by omega) (by omega), show p + 1 - 1 = p from by omega, if_pos h0, if_pos (by omega), w64 (x := rd l p) (by omega) (by omega)]
    exact ⟨_, _, rfl, by omega, by omega, hb, hl, by omega, by omega⟩
theorem tmod_range {x n : Int} (hx : 0 ≤ x) (hn : 0 < n) : 0 ≤ Int.tmod x n ∧ Int.tmod x n < n := by
  rw [Int.tmod_eq_emod_of_nonneg hx]
  exact ⟨Int.emod_nonneg _ (by omega), Int.emod_lt_of_pos _ hn⟩
/-- below n: one of 0 .. n - 1. -/
theorem below_f {l : List Int} {p : Int} (h : Rd l p) (n : Int) (hn : 1 ≤ n) (hn2 : n ≤ 65536) : ∃ v q, spec_l1Rd_below.f l p n = some (v, q) ∧ 0 ≤ v ∧ v < n ∧ Rd l q := by
  unfold spec_l1Rd_below.f
  by_cases c : n ≤ 1
  · exact ⟨0, p, by rw [if_pos c], by omega, by omega, h⟩
  · rw [if_neg c]
    by_cases c2 : n ≤ 256
    · obtain ⟨b, q, e, h0, h1, hq⟩ := next_f h
      have hm := tmod_range h0 (show 0 < n by omega)
      rw [if_pos c2, e, Option.bind_some, if_neg (by omega)]
      exact ⟨_, _, rfl, hm.1, hm.2, hq⟩
    · obtain ⟨b, q, e, h0, h1, hq⟩ := next_f h
      obtain ⟨b2, q2, e2, h2, h3, hq2⟩ := next_f hq
      have hm := tmod_range (show 0 ≤ b * 256 + b2 by omega) (show 0 < n by omega)
      rw [if_neg c2, e, Option.bind_some]
      simp only []
      rw [e2, Option.bind_some, if_neg (by omega)]
      simp only []
      rw [w64 (x := b * 256) (by omega) (by omega), w64 (x := b * 256 + b2) (by omega) (by omega)]
      exact ⟨_, _, rfl, hm.1, hm.2, hq2⟩
theorem once_f {l : List Int} {p : Int} (h : Rd l p) (n : Int) (hn : 1 ≤ n) (hn2 : n ≤ 65536) : ∃ v q, spec_l1Rd_once.f l p n = some (v, q) ∧ Rd l q := by
  obtain ⟨v, q, e, _, _, hq⟩ := below_f h n hn hn2
  unfold spec_l1Rd_once.f
  rw [e, Option.bind_some]
  exact ⟨_, _, rfl, hq⟩
/-- word: a number of 64 bits. -/
theorem word_ev {l : List Int} {p : Int} (h : Rd l p) : ∃ v q, Ev (fun k => spec_l1Rd_word.f k l p) (v, q) ∧ 0 ≤ v ∧ v < 18446744073709551616 ∧ Rd l q := by
  have lp : ∀ (d i : Nat) (f : Nat → Int) (p : Int), 8 - i = d → i ≤ 8 → (∀ j, 0 ≤ f j ∧ f j ≤ 255) → Rd l p → ∃ v q, Ev (fun k => spec_l1Rd_word.l0 k (be f i) (i : Int) l p) (v, q) ∧ 0 ≤ v ∧ v < 18446744073709551616 ∧ Rd l q := by
    intro d
    induction d with
    | zero =>
      intro i f p hd hi hf hp
      obtain rfl : i = 8 := by omega
      have hr := be_range f hf 8
      have e8 : (256 : Int) ^ 8 = 18446744073709551616 := by decide
      exact ⟨_, _, Ev.step (fun k => by rw [spec_l1Rd_word.l0]) (Ev.neg (by omega) (Ev.eq rfl)), hr.1, by omega, hp⟩
    | succ d ih =>
      intro i f p hd hi hf hp
      obtain ⟨b, q, e, h0, h1, hq⟩ := next_f hp
      obtain ⟨v, q2, he, hv⟩ := ih (i + 1) (fun j => if j = i then b else f j) q (by omega) (by omega) (fun j => by
        by_cases c : j = i
        · simp only [if_pos c]; exact ⟨h0, h1⟩
        · simp only [if_neg c]; exact hf j) hq
      refine ⟨v, q2, Ev.step (fun k => by rw [spec_l1Rd_word.l0]) (Ev.pos (by omega) (Ev.bindo e ?_)), hv⟩
      have hb := be_step_u64 (fun j => if j = i then b else f j) (fun j => by
        by_cases c : j = i
        · simp only [if_pos c]; exact ⟨h0, h1⟩
        · simp only [if_neg c]; exact hf j) i (by omega)
      rw [be_congr (f := fun j => if j = i then b else f j) (g := f) i (fun j hj => if_neg (by omega))] at hb
      simp only [if_true] at hb
      simp only []
      rw [hb, show wrap64 ((i : Int) + 1) = ((i + 1 : Nat) : Int) from by rw [w64 (by omega) (by omega)]; omega]
      exact he
  unfold spec_l1Rd_word.f
  exact lp 8 0 (fun _ => 0) p rfl (by omega) (fun _ => by omega) h
theorem u64_id {x : Int} (h0 : 0 ≤ x) (h1 : x < 18446744073709551616) : IntKind.u64.wrap x = x := by
  simp [IntKind.wrap, IntKind.bits, IntKind.signed]
  omega
/-- near lo hi: one of lo .. hi, or an end of it. -/
theorem near_ev {l : List Int} {p : Int} (h : Rd l p) (lo hi : Int) (h0 : -2305843009213693952 ≤ lo) (h1 : lo ≤ 2305843009213693952) (h2 : -2305843009213693952 ≤ hi) (h3 : hi ≤ 2305843009213693952) :
    ∃ v q, Ev (fun k => spec_l1Rd_near.f k l p lo hi) (v, q) ∧ (lo ≤ hi → lo ≤ v ∧ v ≤ hi) ∧ (v = hi ∨ lo ≤ v) ∧ -2305843009213693952 ≤ v ∧ v ≤ 2305843009213693952 ∧ Rd l q := by
  obtain ⟨v, q, e, hv0, hv1, hq⟩ := below_f h 8 (by omega) (by omega)
  unfold spec_l1Rd_near.f
  by_cases c0 : v = 0
  · exact ⟨_, _, Ev.bindo e (Ev.pos c0 (Ev.eq rfl)), fun _ => by omega, by omega, by omega, by omega, hq⟩
  · by_cases c1 : v = 1
    · exact ⟨_, _, Ev.bindo e (Ev.neg c0 (Ev.pos c1 (Ev.eq rfl))), fun _ => by omega, by omega, by omega, by omega, hq⟩
    · by_cases c2 : hi < lo
      · exact ⟨_, _, Ev.bindo e (Ev.neg c0 (Ev.neg c1 (Ev.pos c2 (Ev.eq rfl)))), fun _ => by omega, by omega, by omega, by omega, hq⟩
      · obtain ⟨w, q2, ew, hw0, hw1, hq2⟩ := word_ev hq
        have hm := tmod_range (show 0 ≤ w / 2 by omega) (show 0 < hi - lo + 1 by omega)
        refine ⟨lo + Int.tmod (w / 2) (hi - lo + 1), q2, Ev.bindo e (Ev.neg c0 (Ev.neg c1 (Ev.neg c2 (Ev.bind ew ?_)))), fun _ => by omega, by omega, by omega, by omega, hq2⟩
        rw [w64 (x := hi - lo) (by omega) (by omega), w64 (x := hi - lo + 1) (by omega) (by omega), u64_id (x := hi - lo + 1) (by omega) (by omega)]
        refine Ev.neg (by omega) ?_
        simp only []
        rw [w64 (x := Int.tmod (w / 2) (hi - lo + 1)) (by omega) (by omega), w64 (x := lo + Int.tmod (w / 2) (hi - lo + 1)) (by omega) (by omega)]
        exact Ev.eq rfl
/-- off lo hi: as near, now and then just outside, or an end of int64. -/
theorem off_ev {l : List Int} {p : Int} (h : Rd l p) (lo hi : Int) (h0 : -1099511627776 ≤ lo) (h1 : lo ≤ 1099511627776) (h2 : -1099511627776 ≤ hi) (h3 : hi ≤ 1099511627776) :
    ∃ v q, Ev (fun k => spec_l1Rd_off.f k l p lo hi) (v, q) ∧ -9223372036854775808 ≤ v ∧ v ≤ 9223372036854775807 ∧ Rd l q := by
  obtain ⟨o, q, e, hq⟩ := once_f h 24 (by omega) (by omega)
  unfold spec_l1Rd_off.f
  by_cases c : o = true
  · obtain ⟨v, q2, e2, hv0, hv1, hq2⟩ := below_f hq 4 (by omega) (by omega)
    refine ⟨rd [wrap64 (lo - 1), wrap64 (hi + 1), (-9223372036854775808), 9223372036854775807] v, q2, Ev.bindo e (Ev.pos c (Ev.bindo rfl (Ev.bindo e2 (Ev.pos (by simp only []; omega) (Ev.pos (by simp only [List.length_cons, List.length_nil]; omega) (Ev.eq rfl)))))), ?_, ?_, hq2⟩
    all_goals
      obtain rfl | rfl | rfl | rfl : v = 0 ∨ v = 1 ∨ v = 2 ∨ v = 3 := by omega
      · have := wrap64_range (lo - 1); simp [rd]; omega
      · have := wrap64_range (hi + 1); simp [rd]; omega
      · simp [rd]
      · simp [rd]
  · obtain ⟨v, q2, e2, _, _, hv0, hv1, hq2⟩ := near_ev hq lo hi (by omega) (by omega) (by omega) (by omega)
    exact ⟨v, q2, Ev.bindo e (Ev.neg c (Ev.bind e2 (Ev.eq rfl))), by omega, by omega, hq2⟩
end Go.Proofs.Ytnhladaobcnmhaa.Pure
namespace Go.Proofs.Ytnhladaobcnmhaa.Pure
open Go.RowKit Go.Proofs.Ytnhladaobcnmhaa.X Go.Proofs.YtnhladaobcnmhaaW.PrintWords Go.Proofs.YtnhladaobcnmhaaW.PrintLast
set_option linter.unusedVariables false
set_option linter.unusedSimpArgs false

theorem set_ev {l : List Int} {p : Int} (h : Rd l p) : ∃ v q, Ev (fun k => spec_l1Rd_set.f k l p) (v, q) ∧ v.length ≤ 9 ∧ Rd l q := by
  have lp : ∀ (d : Nat) (i at_ : Int) (acc : List Int) (p : Int), i.toNat = d → 0 ≤ i → i + acc.length ≤ 7 → 0 ≤ at_ → at_ ≤ 30 * (7 - i) → Rd l p →
      ∃ v q, Ev (fun k => spec_l1Rd_set.l0 k acc at_ i l p) (v, q) ∧ v.length ≤ 9 ∧ Rd l q := by
    intro d
    induction d with
    | zero =>
      intro i at_ acc p hd h0 ha h1 h2 hp
      obtain ⟨v, q, e, hv0, hv1, hq⟩ := below_f hp 20 (by omega) (by omega)
      by_cases c0 : v = 0
      · obtain ⟨x, q2, e2, _, _, hq2⟩ := off_ev hq 0 1023 (by omega) (by omega) (by omega) (by omega)
        refine ⟨acc ++ [x], q2, Ev.step (fun k => by rw [spec_l1Rd_set.l0]) (Ev.neg (by omega) (Ev.bindo e (Ev.pos c0 (Ev.bind e2 ?_)))), ?_, hq2⟩
        · exact Ev.pos (by omega) (Ev.eq rfl)
        · rw [List.length_append, List.length_singleton]; omega
      · by_cases c1 : v = 1
        · refine ⟨acc ++ [1022, 1023], q, Ev.step (fun k => by rw [spec_l1Rd_set.l0]) (Ev.neg (by omega) (Ev.bindo e (Ev.neg c0 (Ev.pos c1 ?_)))), ?_, hq⟩
          · refine Ev.bindo rfl ?_
            refine Ev.pos ?_ (Ev.eq rfl)
            simp only [List.length_cons, List.length_nil]; omega
          · simp only [List.length_append, List.length_cons, List.length_nil]; omega
        · exact ⟨_, _, Ev.step (fun k => by rw [spec_l1Rd_set.l0]) (Ev.neg (by omega) (Ev.bindo e (Ev.neg c0 (Ev.neg c1 (Ev.eq rfl))))), by omega, hq⟩
    | succ d ih =>
      intro i at_ acc p hd h0 ha h1 h2 hp
      obtain ⟨v, q, e, hv0, hv1, hq⟩ := below_f hp 30 (by omega) (by omega)
      have hl2 : (acc ++ [at_ + (1 + v)]).length = acc.length + 1 := by rw [List.length_append, List.length_singleton]
      obtain ⟨r, q2, hr, hl, hq2⟩ := ih (i - 1) (at_ + (1 + v)) (acc ++ [at_ + (1 + v)]) q (by omega) (by omega) (by omega) (by omega) (by omega) hq
      refine ⟨r, q2, Ev.step (fun k => by rw [spec_l1Rd_set.l0]) (Ev.pos (by omega) (Ev.bindo e ?_)), hl, hq2⟩
      refine Ev.pos (by omega) ?_
      simp only []
      rw [w64 (x := 1 + v) (by omega) (by omega), w64 (x := at_ + (1 + v)) (by omega) (by omega), w64 (x := i - 1) (by omega) (by omega)]
      exact hr
  obtain ⟨v, q, e, hv0, hv1, hq⟩ := below_f h 8 (by omega) (by omega)
  obtain ⟨r, q2, hr, hl⟩ := lp v.toNat v 0 [] q rfl hv0 (by simp only [List.length_nil]; omega) (by omega) (by omega) hq
  refine ⟨r, q2, ?_, hl⟩
  unfold spec_l1Rd_set.f
  exact Ev.bindo e hr
end Go.Proofs.Ytnhladaobcnmhaa.Pure
namespace Go.Proofs.Ytnhladaobcnmhaa.Pure
open Go.RowKit Go.Proofs.Ytnhladaobcnmhaa.X Go.Proofs.YtnhladaobcnmhaaW.PrintWords Go.Proofs.YtnhladaobcnmhaaW.PrintLast
set_option linter.unusedVariables false
set_option linter.unusedSimpArgs false
theorem hurt_f {l : List Int} {p : Int} (h : Rd l p) (s : ByteArray) (hs : s.size ≤ 65535) : ∃ t q, spec_l1Rd_hurt.f l p s = some (t, q) ∧ t.size ≤ s.size + 1 ∧ Rd l q := by
  obtain ⟨v, q, e, hv0, hv1, hq⟩ := below_f h 6 (by omega) (by omega)
  unfold spec_l1Rd_hurt.f
  rw [e, Option.bind_some]
  simp only []
  by_cases c1 : v = 1
  · obtain ⟨x, q2, e2, hx0, hx1, hq2⟩ := below_f hq ((s.size : Int) + 1) (by omega) (by omega)
    rw [if_pos c1, w64 (x := (s.size : Int) + 1) (by omega) (by omega), e2, Option.bind_some]
    simp only []
    rw [if_pos hx0, if_pos (by omega)]
    exact ⟨_, _, rfl, by rw [ByteArray.size_extract]; omega, hq2⟩
  · rw [if_neg c1]
    by_cases c2 : v = 2
    · rw [if_pos c2]
      by_cases c3 : (s.size : Int) > 0
      · obtain ⟨x, q2, e2, hx0, hx1, hq2⟩ := below_f hq (s.size : Int) (by omega) (by omega)
        obtain ⟨y, q3, e3, hy0, hy1, hq3⟩ := below_f hq2 4 (by omega) (by omega)
        have hz : (rdOf ByteArray.empty [(⟨#[0]⟩ : ByteArray), (⟨#[55]⟩ : ByteArray), (⟨#[255]⟩ : ByteArray), (⟨#[32]⟩ : ByteArray)] y).size = 1 := by
          obtain rfl | rfl | rfl | rfl : y = 0 ∨ y = 1 ∨ y = 2 ∨ y = 3 := by omega
          all_goals rfl
        rw [if_pos c3, e2, Option.bind_some]
        simp only []
        rw [if_pos hx0, if_pos (by omega), Option.bind_some, e3, Option.bind_some]
        simp only []
        rw [if_pos hy0, if_pos (by simp only [List.length_cons, List.length_nil]; omega), w64 (x := x + 1) (by omega) (by omega)]
        generalize rdOf ByteArray.empty [(⟨#[0]⟩ : ByteArray), (⟨#[55]⟩ : ByteArray), (⟨#[255]⟩ : ByteArray), (⟨#[32]⟩ : ByteArray)] y = z at *
        have h1 : (s.extract 0 x.toNat).size ≤ s.size := by rw [ByteArray.size_extract]; omega
        have h2 : (s.extract (x + 1).toNat s.size).size ≤ s.size - (x + 1).toNat := by rw [ByteArray.size_extract]; omega
        have h3 : (s.extract 0 x.toNat).size ≤ x.toNat := by rw [ByteArray.size_extract]; omega
        rw [if_pos (by omega), if_pos (by omega), if_pos (by omega), if_pos (by rw [ByteArray.size_append]; omega)]
        exact ⟨_, _, rfl, by rw [ByteArray.size_append, ByteArray.size_append]; omega, hq3⟩
      · rw [if_neg c3]
        exact ⟨_, _, rfl, by omega, hq⟩
    · rw [if_neg c2]
      by_cases c3 : v = 3
      · obtain ⟨y, q3, e3, hy0, hy1, hq3⟩ := below_f hq 4 (by omega) (by omega)
        have hz : (rdOf ByteArray.empty [(⟨#[0]⟩ : ByteArray), (⟨#[49]⟩ : ByteArray), (⟨#[10]⟩ : ByteArray), (⟨#[32]⟩ : ByteArray)] y).size = 1 := by
          obtain rfl | rfl | rfl | rfl : y = 0 ∨ y = 1 ∨ y = 2 ∨ y = 3 := by omega
          all_goals rfl
        rw [if_pos c3, Option.bind_some, e3, Option.bind_some]
        simp only []
        rw [if_pos hy0, if_pos (by simp only [List.length_cons, List.length_nil]; omega)]
        generalize rdOf ByteArray.empty [(⟨#[0]⟩ : ByteArray), (⟨#[49]⟩ : ByteArray), (⟨#[10]⟩ : ByteArray), (⟨#[32]⟩ : ByteArray)] y = z at *
        rw [if_pos (by omega)]
        exact ⟨_, _, rfl, by rw [ByteArray.size_append]; omega, hq3⟩
      · rw [if_neg c3]
        exact ⟨_, _, rfl, by omega, hq⟩
end Go.Proofs.Ytnhladaobcnmhaa.Pure
namespace Go.Proofs.Ytnhladaobcnmhaa.Pure
open Go.RowKit Go.Proofs.Ytnhladaobcnmhaa.X Go.Proofs.YtnhladaobcnmhaaW.PrintWords Go.Proofs.YtnhladaobcnmhaaW.PrintLast
set_option linter.unusedVariables false
set_option linter.unusedSimpArgs false
theorem l2With_f (s : ByteArray) (p : Nat) (t : ByteArray) (h : p + t.size ≤ s.size) (hs : s.size ≤ 140737488355328) : spec_l2With.f s (p : Int) t = some (repl s p t) := by
  unfold spec_l2With.f
  have h1 : (s.extract 0 p).size = p := by rw [ByteArray.size_extract]; omega
  rw [w64 (x := (p : Int) + (t.size : Int)) (by omega) (by omega), Int.toNat_natCast, show ((p : Int) + (t.size : Int)).toNat = p + t.size from by omega]
  rw [if_pos (by omega), if_pos (by omega), if_pos (by rw [h1]; omega), if_pos (by omega), if_pos (by omega), if_pos (by rw [ByteArray.size_append, ByteArray.size_extract, ByteArray.size_extract]; omega)]
  rfl
theorem l1Zeros_f (n : Nat) (h : n ≤ 1048576) : spec_l1Zeros.f (n : Int) = some (strOfNums (List.replicate n 0)) := by
  unfold spec_l1Zeros.f
  rw [if_pos (by omega), if_pos (by rw [Int.toNat_natCast]; omega), Int.toNat_natCast]
theorem drawYoungWords_ev {l : List Int} (hb : isBytes l) (hl : l.length ≤ 1099511627776) : ∃ im st, Ev (fun k => spec_DrawYoungWords.f k l) (im, st) ∧ im.size ≤ 65536 ∧ st.length ≤ 9 := by
  obtain ⟨st, q, e, hst, hq⟩ := set_ev (Rd.start hb hl)
  obtain ⟨x, q2, e2, hx0, hx1, hq2⟩ := below_f hq 4 (by omega) (by omega)
  have lp : ∀ (d i : Nat) (im : ByteArray) (q : Int), st.length - i = d → i ≤ st.length → im.size ≤ 2048 → im.size % 64 = 0 → Rd l q → ∃ im' , Ev (fun k => spec_DrawYoungWords.l0 k st im (i : Int) l q) (im', st) ∧ im'.size ≤ 65536 := by
    intro d
    induction d with
    | zero =>
      intro i im q hd hi him _ hq
      obtain ⟨o, q3, e3, hq3⟩ := once_f hq 20 (by omega) (by omega)
      by_cases co : o = true
      · obtain ⟨t, q4, e4, ht, hq4⟩ := hurt_f hq3 im (by omega)
        refine ⟨t, Ev.step (fun k => by rw [spec_DrawYoungWords.l0]) (Ev.neg (by omega) (Ev.bindo e3 (Ev.pos co ?_))), by omega⟩
        exact Ev.bindo e4 (Ev.eq rfl)
      · exact ⟨im, Ev.step (fun k => by rw [spec_DrawYoungWords.l0]) (Ev.neg (by omega) (Ev.bindo e3 (Ev.neg co (Ev.eq rfl)))), by omega⟩
    | succ d ih =>
      intro i im q hd hi him h64 hq
      have hlt : i < st.length := by omega
      have hw : wrap64 ((i : Int) + 1) = ((i + 1 : Nat) : Int) := by rw [w64 (by omega) (by omega)]; omega
      have jf : ∀ q : Int, Rd l q → ∃ im', Ev (fun k => spec_DrawYoungWords.j1 k st im (i : Int) false l q) (im', st) ∧ im'.size ≤ 65536 := by
        intro q hq
        obtain ⟨im', h, hs⟩ := ih (i + 1) im q (by omega) (by omega) him h64 hq
        refine ⟨im', Ev.step (fun k => by rw [spec_DrawYoungWords.j1]) (Ev.neg (by simp) ?_), hs⟩
        rw [hw]
        exact h
      by_cases c : (decide (0 ≤ st[i]) && decide (st[i] ≤ (im.size : Int) / 8 - 1)) = true
      · obtain ⟨o, q3, e3, hq3⟩ := once_f hq 40 (by omega) (by omega)
        have hr : 0 ≤ st[i] ∧ st[i] ≤ (im.size : Int) / 8 - 1 := by simpa using c
        have hstep : ∀ im', Ev (fun k => spec_DrawYoungWords.j1 k st im (i : Int) (!o) l q3) (im', st) → Ev (fun k => spec_DrawYoungWords.l0 k st im (i : Int) l q) (im', st) := by
          intro im' h
          refine Ev.step (fun k => by rw [spec_DrawYoungWords.l0]) ?_
          rw [rd_get hlt, w64 (x := (im.size : Int) / 8) (by omega) (by omega), w64 (x := (im.size : Int) / 8 - 1) (by omega) (by omega), l1In_f]
          exact Ev.pos (by omega) (Ev.pos (by omega) (Ev.bindo rfl (Ev.pos c (Ev.bindo e3 h))))
        cases o with
        | true =>
          obtain ⟨im', h, hs⟩ := jf q3 hq3
          exact ⟨im', hstep im' h, hs⟩
        | false =>
          obtain ⟨y, q4, e4, hy0, hy1, hq4⟩ := below_f hq3 9 (by omega) (by omega)
          have hz := wordB_size (wrap64 (wrap64 (2 * y) + 1))
          have hrs : (repl im (8 * st[i].toNat) (wordB (wrap64 (wrap64 (2 * y) + 1)))).size = im.size := repl_size (by omega)
          obtain ⟨im', h, hs⟩ := ih (i + 1) (repl im (8 * st[i].toNat) (wordB (wrap64 (wrap64 (2 * y) + 1)))) q4 (by omega) (by omega) (by omega) (by omega) hq4
          refine ⟨im', hstep im' ?_, hs⟩
          refine Ev.step (fun k => by rw [spec_DrawYoungWords.j1]) ?_
          refine Ev.pos rfl ?_
          rw [rd_get hlt, hw, w64 (x := 8 * st[i]) (by omega) (by omega), show 8 * st[i] = ((8 * st[i].toNat : Nat) : Int) from by omega]
          refine Ev.pos (by omega) (Ev.pos (by omega) (Ev.bindo e4 (Ev.bind (spec_WordBytes_ev _) ?_)))
          exact Ev.bindo (l2With_f im (8 * st[i].toNat) (wordB (wrap64 (wrap64 (2 * y) + 1))) (by omega) (by omega)) h
      · obtain ⟨im', h, hs⟩ := jf q hq
        refine ⟨im', Ev.step (fun k => by rw [spec_DrawYoungWords.l0]) ?_, hs⟩
        rw [rd_get hlt, w64 (x := (im.size : Int) / 8) (by omega) (by omega), w64 (x := (im.size : Int) / 8 - 1) (by omega) (by omega), l1In_f]
        exact Ev.pos (by omega) (Ev.pos (by omega) (Ev.bindo rfl (Ev.neg c h)))
  have hn : wrap64 (64 * wrap64 (26 + x)) = ((64 * (26 + x.toNat) : Nat) : Int) := by rw [w64 (x := 26 + x) (by omega) (by omega), w64 (by omega) (by omega)]; omega
  have hz : (strOfNums (List.replicate (64 * (26 + x.toNat)) 0)).size = 64 * (26 + x.toNat) := by rw [strOfNums_size, List.length_replicate]
  obtain ⟨im', h, hs⟩ := lp _ 0 (strOfNums (List.replicate (64 * (26 + x.toNat)) 0)) q2 rfl (by omega) (by omega) (by omega) hq2
  refine ⟨im', st, ?_, hs, hst⟩
  unfold spec_DrawYoungWords.f
  refine Ev.bindo rfl (Ev.bind e (Ev.bindo e2 ?_))
  simp only []
  rw [hn]
  exact Ev.bindo (l1Zeros_f _ (by omega)) h
end Go.Proofs.Ytnhladaobcnmhaa.Pure
namespace Go.Proofs.Ytnhladaobcnmhaa.Pure
open Go.RowKit Go.Proofs.Ytnhladaobcnmhaa.X Go.Proofs.YtnhladaobcnmhaaW.PrintWords Go.Proofs.YtnhladaobcnmhaaW.PrintLast
set_option linter.unusedVariables false
set_option linter.unusedSimpArgs false
theorem impl_ReadWord_ev (s : ByteArray) (h : s.size = 8) : Ev (fun k => impl_ReadWord.f k s) (wordv s 0, true) := by
  unfold impl_ReadWord.f
  exact Ev.pos (by omega) (Ev.bind (impl_wordAt_ev s 0 (by omega) (by omega)) (Ev.eq rfl))
def olds (n : Nat) : List Int := (List.range n).map fun i : Nat => 2 * (5 + (i : Int))
theorem olds_length (n : Nat) : (olds n).length = n := by simp [olds]
theorem olds_next (n : Nat) : olds (n + 1) = olds n ++ [2 * (5 + (n : Int))] := by simp [olds, List.range_succ]
theorem olds_get (n i : Nat) (h : i < n) : rd (olds n) (i : Int) = 2 * (5 + (i : Int)) := by
  rw [rd_get (by rw [olds_length]; exact h)]
  simp [olds]
theorem OldRef_f (a : Int) (h0 : 1 ≤ a) (h1 : a ≤ 127) : impl_OldRef.f a = some (2 * a) := by
  unfold impl_OldRef.f
  rw [within_f, Option.bind_some, if_pos (by simp; omega), w64 (by omega) (by omega)]
theorem refk_old (a : Int) (h0 : 1 ≤ a) (h1 : a ≤ 127) : refk (2 * a) = 1 := by
  unfold refk
  rw [if_neg (by omega), if_pos (by omega)]
theorem youngs_get {s : ByteArray} : ∀ {set lst : List Int}, youngs s set = some lst → lst.length = set.length ∧ ∀ (i : Nat) (h : i < set.length) (h2 : i < lst.length), lst[i] = wordv s (8 * set[i].toNat) ∧ refk lst[i] = 2
  | [], r, h => by simp [youngs] at h; subst h; simp
  | w :: l, r, h => by
    simp only [youngs] at h
    split at h
    · rename_i c
      cases hy : youngs s l with
      | none => rw [hy] at h; simp at h
      | some r2 =>
        rw [hy] at h
        obtain rfl : wordv s (8 * w.toNat) :: r2 = r := by simpa using h
        obtain ⟨h1, h2⟩ := youngs_get hy
        refine ⟨by simp [h1], fun i hi hi2 => ?_⟩
        cases i with
        | zero => exact ⟨rfl, c.2⟩
        | succ i => exact h2 i (by simpa using hi) (by simpa using hi2)
    · simp at h
/-- Every remembered word of the patched image is an old reference. -/
theorem patched_word (frm dest : List Int) (hto : ∀ x ∈ dest, -9223372036854775808 ≤ x ∧ x ≤ 9223372036854775807) (hle : frm.length = dest.length) : ∀ (l : List (Int × Int)) (s : ByteArray), (∀ x ∈ l, 0 ≤ x.1 ∧ 8 * x.1.toNat + 8 ≤ s.size) → (∀ x ∈ l, x.2 ∈ frm) → l.Pairwise (fun x y => x.1 < y.1) →
    ∀ x ∈ l, ∃ y ∈ dest, wordv (patchL frm dest s l) (8 * x.1.toNat) = y
  | [], s, _, _, _, x, hx => by simp at hx
  | (w, r) :: l, s, h, hm, hp, x, hx => by
    have hw := h (w, r) (List.mem_cons_self ..)
    have hr := hm (w, r) (List.mem_cons_self ..)
    rw [List.pairwise_cons] at hp
    obtain ⟨k, hk, e, _⟩ : ∃ (k : Nat) (h : k < frm.length), placeFrom r frm 0 = 0 + k ∧ frm[k] = r := by
      rcases placeFrom_cases r frm 0 with hp | hp
      · exact absurd hr hp.2
      · exact hp
    have hz := wordB_size (rd dest (placeFrom r frm 0))
    have hs : (repl s (8 * w.toNat) (wordB (rd dest (placeFrom r frm 0)))).size = s.size := repl_size (by rw [hz]; exact hw.2)
    rw [patchL, if_pos (by omega)]
    rcases List.mem_cons.1 hx with rfl | hx
    · have hmem : rd dest (placeFrom r frm 0) ∈ dest := by
        rw [e, show (0 : Int) + (k : Int) = ((k : Nat) : Int) from by omega, rd_get (by omega)]
        exact List.getElem_mem _
      refine ⟨_, hmem, ?_⟩
      rw [patchL_word frm dest w.toNat l _ (fun y hy => by rw [hs]; exact (h y (List.mem_cons_of_mem _ hy)).2) (fun y hy => by
        have h1 := hp.1 y hy
        have h2 := (h y (List.mem_cons_of_mem _ hy)).1
        simp only [] at h1 hw
        omega)]
      exact wordv_repl_same _ hw.2 (hto _ hmem).1 (hto _ hmem).2
    · exact patched_word frm dest hto hle l _ (fun y hy => by rw [hs]; exact h y (List.mem_cons_of_mem _ hy)) (fun y hy => hm y (List.mem_cons_of_mem _ hy)) hp.2 x hx
theorem FnPatched : laws_FnPatched.Pure := by
  intro l _ hl8 hb
  refine Ev.rounds ?_
  unfold laws_FnPatched.f
  refine Ev.bindo rfl ?_
  refine Ev.cases (fun _ => Ev.eq rfl) (fun c => ?_)
  have hlen : l.length ≤ 1099511627776 := by
    have : ¬ (l.length : Int) > 1048576 := by simpa using c
    omega
  obtain ⟨im, st, hd, him, hst⟩ := drawYoungWords_ev (isBytes_of hb) hlen
  have hy1 := impl_YoungWords_ev im st (by omega) (by omega)
  have hy2 := spec_YoungWords_ev im st (by omega) (by omega)
  refine Ev.bind hd (Ev.bind hy1 (Ev.bind hy2 ?_))
  have hyl : (youngWords im st).1.length ≤ 9 := by
    unfold youngWords
    split
    · cases hy : youngs im st with
      | none => simp
      | some r =>
        have := youngs_length hy
        simp only []
        omega
    · simp
  refine Ev.neg (by cases (youngWords im st).2 <;> decide) ?_
  refine Ev.bind (sameInts_ev _ (by omega)) ?_
  refine Ev.pos rfl ?_
  cases hyw : youngWords im st with
  | mk lst ok =>
  rw [hyw] at hyl
  cases ok with
  | false =>
    refine Ev.step (fun k => by rw [laws_FnPatched.j0]) ?_
    refine Ev.pos rfl ?_
    refine Ev.pos rfl ?_
    exact Ev.bind (sameInts_ev _ (by simp only [] at hyl ⊢; omega)) (Ev.eq rfl)
  | true =>
  obtain ⟨hset, himg, hys⟩ := youngWords_true hyw
  obtain ⟨hll, hget⟩ := youngs_get hys
  simp only [] at hyl
  refine Ev.step (fun k => by rw [laws_FnPatched.j0]) (Ev.neg (by simp) ?_)
  have hfit0 := youngs_fit hys
  have hmem0 : ∀ x ∈ st, 0 ≤ x ∧ x ≤ 1023 := by
    intro x hx
    obtain ⟨j, hj, rfl⟩ := List.getElem_of_mem hx
    exact ⟨(hset j hj (by omega)).1, (hset j hj (by omega)).2.1⟩
  have hfit : ∀ x ∈ st, 0 ≤ x ∧ 8 * x.toNat + 8 ≤ im.size := fun x hx => by
    have := hmem0 x hx
    have := hfit0 x hx
    omega
  have hinc : ∀ i j (hi : i < st.length) (hj : j < st.length), i < j → st[i] < st[j] := by
    intro i j hi
    induction j with
    | zero => intro _ h; omega
    | succ j ih =>
      intro hj hij
      have h1 := (hset (j + 1) hj (by omega)).2.2 (by omega)
      simp only [Nat.add_sub_cancel] at h1
      by_cases e : i = j
      · subst e; exact h1
      · have := ih (by omega) (by omega)
        omega
  have hoin : ∀ x ∈ olds lst.length, refk x = 1 ∧ -9223372036854775808 ≤ x ∧ x ≤ 9223372036854775807 := by
    intro x hx
    obtain ⟨i, hi, rfl⟩ := List.mem_map.1 hx
    have := List.mem_range.1 hi
    exact ⟨refk_old _ (by omega) (by omega), by omega, by omega⟩
  have hzip : ∀ x ∈ st.zip lst, x.1 ∈ st ∧ x.2 ∈ lst := fun x hx => by
    obtain ⟨a, b⟩ := x
    exact List.of_mem_zip hx
  have hpat := impl_Patched_ev im st lst (olds lst.length) lst (by omega) (by omega) (by omega) hyw hll (by rw [olds_length]) (by rw [olds_length]; omega) (fun x hx => by rw [(hoin x hx).1]; decide) hfit
  have hfz : ∀ x ∈ st.zip lst, 8 * x.1.toNat + 8 ≤ im.size := fun x hx => (hfit _ (hzip x hx).1).2
  have hsz := patchL_size lst (olds lst.length) (st.zip lst) im hfz
  have hold : ∀ w ∈ st, refk (wordv (patchL lst (olds lst.length) im (st.zip lst)) (8 * w.toNat)) = 1 := by
    intro w hw
    obtain ⟨i, hi, rfl⟩ := List.getElem_of_mem hw
    have hz : (st[i], lst[i]'(by omega)) ∈ st.zip lst := by
      have h1 : i < (st.zip lst).length := by rw [List.length_zip]; omega
      have h2 := List.getElem_mem h1
      rwa [List.getElem_zip] at h2
    obtain ⟨y, hy, e⟩ := patched_word lst (olds lst.length) (fun x hx => (hoin x hx).2) (by rw [olds_length]) (st.zip lst) im (fun x hx => hfit _ (hzip x hx).1) (fun x hx => (hzip x hx).2) (by
      rw [List.pairwise_iff_getElem]
      intro a b ha hb hab
      rw [List.length_zip] at ha hb
      rw [List.getElem_zip, List.getElem_zip]
      exact hinc a b (by omega) (by omega) hab) _ hz
    rw [e]
    exact (hoin y hy).1
  have hsame : ∀ i : Nat, 8 * i + 8 ≤ im.size → (i : Int) ∉ st → (patchL lst (olds lst.length) im (st.zip lst)).extract (8 * i) (8 * i + 8) = im.extract (8 * i) (8 * i + 8) := by
    intro i hi hn
    refine extract_ext (by omega) hi fun j h0 h1 => ?_
    refine patchL_bt _ _ j _ _ hfz fun x hx => ?_
    have h2 := (hzip x hx).1
    have h3 := (hmem0 _ h2).1
    have h4 : x.1 ≠ (i : Int) := fun e => hn (e ▸ h2)
    omega
  generalize patchL lst (olds lst.length) im (st.zip lst) = s2 at *
  have hlast : Ev (fun k => (impl_YoungWords.f k s2 st).bind fun bt => some (bt.2 == ((st.length : Int) == 0))) true := by
    refine Ev.bind (impl_YoungWords_ev s2 st (by omega) (by omega)) (Ev.eq ?_)
    have him2 : imageOk s2 := by unfold imageOk at himg ⊢; rw [hsz]; exact himg
    unfold youngWords
    rw [if_pos ⟨hset, him2⟩]
    cases hst2 : st with
    | nil => rfl
    | cons w r =>
      have h1 := hold w (by rw [hst2]; exact List.mem_cons_self ..)
      rw [youngs, if_neg (fun h => by rw [h1] at h; simp at h)]
      simp
      omega
  have lp1 : ∀ (d i : Nat), s2.size / 8 - i = d → i ≤ s2.size / 8 → Ev (fun k => laws_FnPatched.l1 k im st s2 (i : Int)) true := by
    have h64 := himg.1
    intro d
    induction d with
    | zero =>
      intro i hd hi
      refine Ev.step (fun k => by rw [laws_FnPatched.l1]) ?_
      rw [w64 (x := 8 * (i : Int)) (by omega) (by omega)]
      exact Ev.neg (by omega) hlast
    | succ d ih =>
      intro i hd hi
      have hi8 : 8 * i + 8 ≤ s2.size := by omega
      refine Ev.step (fun k => by rw [laws_FnPatched.l1]) ?_
      rw [w64 (x := 8 * (i : Int)) (by omega) (by omega), w64 (x := 8 * (i : Int) + 8) (by omega) (by omega), show wrap64 ((i : Int) + 1) = ((i + 1 : Nat) : Int) from by rw [w64 (by omega) (by omega)]; omega,
        show (8 * (i : Int)).toNat = 8 * i from by omega, show (8 * (i : Int) + 8).toNat = 8 * i + 8 from by omega]
      have ih := ih (i + 1) (by omega) (by omega)
      have hrw := impl_ReadWord_ev (s2.extract (8 * i) (8 * i + 8)) (by rw [ByteArray.size_extract]; omega)
      rw [wordv_extract s2 (8 * i) hi8] at hrw
      refine Ev.pos (by omega) (Ev.pos (by omega) (Ev.pos (by omega) (Ev.pos (by omega) (Ev.bind hrw (Ev.bind (has_ev st (i : Int) (by omega)) ?_)))))
      refine Ev.cases (fun c => ?_) (fun c => ?_)
      · have c : (i : Int) ∈ st := by simpa using c
        have ho := hold _ c
        rw [Int.toNat_natCast] at ho
        refine Ev.bind (impl_RefKind_ev _) (Ev.pos ho (Ev.bind (has_ev st (i : Int) (by omega)) (Ev.pos (by simpa using c) ih)))
      · have hn : (i : Int) ∉ st := by simpa using c
        refine Ev.bind (has_ev st (i : Int) (by omega)) (Ev.neg c (Ev.pos (by omega) (Ev.pos ?_ ih)))
        rw [hsame i (by omega) hn]
  have lp0 : ∀ (d i : Nat), lst.length - i = d → i ≤ lst.length → Ev (fun k => laws_FnPatched.l0 k im st lst (olds i) (i : Int)) true := by
    intro d
    induction d with
    | zero =>
      intro i hd hi
      obtain rfl : i = lst.length := by omega
      refine Ev.step (fun k => by rw [laws_FnPatched.l0]) (Ev.neg (by omega) (Ev.bind hpat (Ev.pos rfl ?_)))
      refine Ev.step (fun k => by rw [laws_FnPatched.j2]) (Ev.neg (by simp [hsz]) ?_)
      exact lp1 _ 0 rfl (by omega)
    | succ d ih =>
      intro i hd hi
      refine Ev.step (fun k => by rw [laws_FnPatched.l0]) ?_
      rw [w64 (x := 5 + (i : Int)) (by omega) (by omega), show wrap64 ((i : Int) + 1) = ((i + 1 : Nat) : Int) from by rw [w64 (by omega) (by omega)]; omega]
      have ih := ih (i + 1) (by omega) (by omega)
      rw [olds_next] at ih
      exact Ev.pos (by omega) (Ev.bindo (OldRef_f _ (by omega) (by omega)) (Ev.pos (by rw [olds_length]; omega) ih))
  exact lp0 _ 0 rfl (by omega)
end Go.Proofs.Ytnhladaobcnmhaa.Pure
namespace Go.Proofs.Ytnhladaobcnmhaa.fnPatched
open Go.ChangeShapes Go.WideShapes Go.ChangeAt Go.RowKit
open Go.ChangeMaps (open_string shut_string)
set_option linter.unusedVariables false
theorem own : ownKnob Try.prog.godebug = none := by kernel_rfl
theorem laidOut : laidOutB Try.prog = true := by kernel_rfl
def IsRow (k : IntKind) (w : World) (a : Option Addr) (len cap : Nat) (zs : List Int) : Prop :=
  (a = none ∧ len = 0 ∧ cap = 0 ∧ zs = []) ∨
  ∃ x, a = some x ∧ len ≤ cap ∧ cap ≤ maxLen ∧ zs.length = cap ∧ (∀ i, i < zs.length → w.cell? (x.add i) = some (.int k (zs.getD i 0))) ∧ ∀ n ∈ zs, (Lit.int k n).wf = true
set_option maxRecDepth 100000 in
theorem lifted (os : Os) (started : os.Started) (H : Type) (enc : TypeId × Value → H) :
    ReturnsInHanded {} Try.checked os 4 .any (Rows.fnPatchedSpec.pre6 enc Try.prog Try.f4 Rows.fnPatchedRow.domain false) (Rows.fnPatchedSpec.post enc Try.prog Try.f4 false true false false) := by
  refine returnsInHanded_of_change_sized (C := Try.checked) own started (by kernel_rfl) Try.func4
    (ChangeSpec.witness6 (enc := enc) (C := Try.checked) false ⟨#[], #[.slice none 0 0], []⟩ 8 (by kernel_rfl) (by kernel_rfl) (by kernel_rfl) (by kernel_rfl)) ?_
  intro W base args ds gs before hval0 hW hcnd hsz0 _
  have hsz : (DataW.weightsEach Try.prog (Try.f4.params.toList ++ Rows.fnPatchedSpec.plain.varTypes Try.prog) (ds ++ gs)).all (· ≤ reachBytes) = true := hsz0
  have hval : ∀ (j : Nat) t v, Try.f4.params[j]? = some t → args[j]? = some v → Value.okWide Try.prog W .any base t v := hval0
  have hW' := hW
  obtain ⟨p, q, hA0, hV, rfl, hfz, hnd⟩ := hW
  have hA : DataW.TrodAll enc Try.prog W 0 (fun _ => true) true Try.f4.params.toList args.toList ds p := hA0
  rw [Try.params4] at hA hval hsz
  obtain ⟨v0, vs0, d0, ds0, p0, q0, hargs, rfl, rfl, h0, r0⟩ := trodAll_cons hA
  obtain ⟨rfl, rfl, rfl⟩ := trodAll_nil r0
  obtain rfl : args = #[v0] := by cases args; simp_all
  obtain ⟨rfl, rfl⟩ := trodVars_none hV
  obtain ⟨a0, len0, cap0, rfl⟩ := okWide_slice Try.underlying29 (hval 0 29 v0 rfl rfl)
  have k0 := h0
  have lt0 : ∀ x ∈ p0, x.block < W.heap.size := by obtain ⟨m, hm⟩ := k0; exact DataW.trod_lt m _ _ _ hm
  obtain ⟨z0, w0⟩ : ∃ zs, IsRow .u8 W a0 len0 cap0 zs := by
    obtain ⟨fuel, hf⟩ := h0
    rcases open_ints Try.underlying29 Try.underlying5 (by kernel_rfl) hf with ⟨hcs, _⟩ | ⟨x, l, c, zs, hcs, _, hl, hm, hz, _, hcell, hwz⟩
    · simp [Value.cells] at hcs
      obtain ⟨rfl, rfl, rfl⟩ := hcs
      exact ⟨[], .inl ⟨rfl, rfl, rfl, rfl⟩⟩
    · simp [Value.cells] at hcs
      obtain ⟨rfl, rfl, rfl⟩ := hcs
      exact ⟨zs, .inr ⟨_, rfl, hl, hm, by simpa using hz, hcell, hwz⟩⟩
  have y0 : len0 * 1 ≤ 140737488351232 := Go.Proofs.YtnhladaobcnmhaaW.PrintWords.sized_ints hsz (j := 0) (t := 29) rfl rfl Try.underlying29 Try.underlying5 (by kernel_rfl) (by kernel_rfl) h0
  clear hA0 hval0 hsz0 hsz
  refine (X.laws_FnPatched.walk Pure.FnPatched a0 len0 cap0 z0 W w0 y0).mono fun e W' ⟨he, bel⟩ => ?_
  subst he
  exact ⟨_, rfl, _, _, _, [], _, [], hW', trodAll_mk1 (shut_bool Try.underlying4 _), (trodAll_cons_mk (Below.trod laidOut (by kernel_rfl) (of_decide_eq_true (by kernel_rfl)) k0 bel lt0) trodAll_mk0), rfl, bel.frame _, fun h => by cases h⟩
theorem over : Rows.fnPatchedRow.holds Try.pinned (OpenSpec.ofChange Rows.fnPatchedSpec) :=
  OpenClaim.holds_of_wide 4 Try.f4 rfl rfl rfl rfl rfl rfl rfl ⟨rfl, rfl, rfl, rfl, rfl⟩ rfl rfl rfl rfl rfl (by kernel_rfl) Try.func4 (by kernel_rfl)
    (of_decide_eq_true (by kernel_rfl)) (by unfold Func.isWrapper; first | (rw [if_pos (by decide +kernel)]; kernel_rfl) | (rw [if_neg (by decide +kernel)]; exact ⟨rfl, rfl⟩))
    (fun os started H enc _ => lifted os started H enc)
theorem proved : Rows.FnPatchedSaid := over
#print axioms proved
end Go.Proofs.Ytnhladaobcnmhaa.fnPatched
namespace Go.Proofs.Ytnhladaobcnmhaa
/-- The row, under a short name, for the claim. -/
theorem fnPatched_holds : Rows.FnPatchedSaid := fnPatched.proved
end Go.Proofs.Ytnhladaobcnmhaa
