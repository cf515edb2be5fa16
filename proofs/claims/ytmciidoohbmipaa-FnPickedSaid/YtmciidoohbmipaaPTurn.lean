/- Maps of lines: their bits, and what changing them does. No condition. -/
import Derived.Lib.Repeat
import Derived.Test.YtmciidoohbmipaaPBits
namespace Go.Proofs.Ytmciidoohbmipaa.Abs.Pu
open Go Go.RowKit
set_option linter.unusedVariables false
set_option linter.unusedSectionVars false
set_option linter.unusedSimpArgs false
theorem repeat_zero (n : Nat) : Lib.repeatL [0] n = List.replicate n 0 := by
  induction n with
  | zero => rfl
  | succ n ih => rw [Lib.repeatL, ih]; rfl
def zerosB (n : Nat) : ByteArray := strOfNums (List.replicate n 0)
theorem zerosB_size (n : Nat) : (zerosB n).size = n := by rw [zerosB, strOfNums_size, List.length_replicate]
theorem bytesOf_zerosB (n : Nat) : bytesOf (zerosB n) = List.replicate n 0 := bytesOf_strOfNums (isBytes_replicate n)
def mapOk (s : ByteArray) : Prop := s.size = 64 ∧ s.extract 16 s.size = zerosB 48
instance (s : ByteArray) : Decidable (mapOk s) := by unfold mapOk; infer_instance
/-- Is line n taken. -/
def tkn (s : ByteArray) (n : Int) : Bool := bitL (bytesOf s) n.toNat
theorem and_one {x : Int} (h0 : 0 ≤ x) (h1 : x ≤ 255) : Go.bits .and .u8 x 1 = x % 2 := by
  have h := Go.bits_mask .u8 8 (by decide) Go.wraps_u8 1 (by decide) x h0 (by omega)
  simpa using h
theorem div_range {x : Int} (h0 : 0 ≤ x) (h1 : x ≤ 255) (r : Nat) : 0 ≤ x / 2 ^ r ∧ x / 2 ^ r ≤ 255 := by
  have hp : (0 : Int) < 2 ^ r := Int.pow_pos (by decide)
  exact ⟨Int.ediv_nonneg h0 (by omega), Int.le_trans (Int.ediv_le_self _ h0) h1⟩
/-! ### lines -/
/-- The taken ones of the lines i, .., i + d - 1. -/
def linesFrom (t : Int → Bool) (i : Int) : Nat → List Int
  | 0 => []
  | d + 1 => if t i then i :: linesFrom t (i + 1) d else linesFrom t (i + 1) d
theorem linesFrom_length (t : Int → Bool) : ∀ (d : Nat) (i : Int), (linesFrom t i d).length ≤ d
  | 0, i => by simp [linesFrom]
  | d + 1, i => by
    have h := linesFrom_length t d (i + 1)
    simp only [linesFrom]
    split
    · simp; omega
    · omega
def linesOf (s : ByteArray) : List Int := if mapOk s then linesFrom (tkn s) 0 128 else []
def turn1 (xs : List Int) (i : Nat) : List Int := xs.set (i / 8) (Go.bits .xor .u8 (xs.getD (i / 8) 0) (2 ^ (i % 8) % 256))
def turnL (xs : List Int) (a : Nat) : Nat → List Int
  | 0 => xs
  | n + 1 => turn1 (turnL xs a n) (a + n)
theorem turnL_length (xs : List Int) (a : Nat) : ∀ n, (turnL xs a n).length = xs.length
  | 0 => rfl
  | n + 1 => by simp [turnL, turn1, turnL_length xs a n]
theorem turnL_next (xs : List Int) (a i : Nat) (h : a ≤ i) : turnL xs a (i + 1 - a) = turn1 (turnL xs a (i - a)) i := by
  rw [show i + 1 - a = (i - a) + 1 from by omega, turnL, show a + (i - a) = i from by omega]
def change1 (xs : List Int) (i : Nat) (t : Bool) : List Int :=
  if t = true then (xs.set (i / 8) (Go.bits .andNot .u8 (xs.getD (i / 8) 0) (2 ^ (i % 8) % 256))).set (i / 8) (Go.bits .or .u8 (Go.bits .andNot .u8 (xs.getD (i / 8) 0) (2 ^ (i % 8) % 256)) (2 ^ (i % 8) % 256))
  else xs.set (i / 8) (Go.bits .andNot .u8 (xs.getD (i / 8) 0) (2 ^ (i % 8) % 256))
def changeL (xs : List Int) (a : Nat) (t : Bool) : Nat → List Int
  | 0 => xs
  | n + 1 => change1 (changeL xs a t n) (a + n) t
theorem changeL_length (xs : List Int) (a : Nat) (t : Bool) : ∀ n, (changeL xs a t n).length = xs.length
  | 0 => rfl
  | n + 1 => by
    have ih := changeL_length xs a t n
    simp only [changeL, change1]
    split <;> simp [ih]
theorem changeL_next (xs : List Int) (a : Nat) (t : Bool) (i : Nat) (h : a ≤ i) : changeL xs a t (i + 1 - a) = change1 (changeL xs a t (i - a)) i t := by
  rw [show i + 1 - a = (i - a) + 1 from by omega, changeL, show a + (i - a) = i from by omega]
/-- What turning a bit changes. -/
theorem turn1_bit {xs : List Int} (hx : isBytes xs) {i : Nat} (hi : i / 8 < xs.length) (j : Nat) : bitL (turn1 xs i) j = (bitL xs j != decide (j = i)) := by
  unfold turn1
  have hb := isBytes_getD hx (i / 8)
  have h := (byte_xor hb.1 hb.2 (show i % 8 < 8 by omega)).2 (j % 8) (by omega)
  rw [bitL_set hi]
  split
  · rename_i e
    rw [h]
    unfold bitL
    rw [e]
    congr 1
    exact decide_eq_decide.2 (by omega)
  · rename_i e
    rw [show decide (j = i) = false from decide_eq_false (fun q => e (by rw [q]))]
    simp
theorem turn1_isBytes {xs : List Int} (hx : isBytes xs) (i : Nat) : isBytes (turn1 xs i) := by
  have hb := isBytes_getD hx (i / 8)
  have h := (byte_xor hb.1 hb.2 (show i % 8 < 8 by omega)).1
  exact isBytes_set hx _ h.1 h.2
theorem turn1_length (xs : List Int) (i : Nat) : (turn1 xs i).length = xs.length := by simp [turn1]
theorem clear1_bit {xs : List Int} (hx : isBytes xs) {i : Nat} (hi : i / 8 < xs.length) (j : Nat) : bitL (change1 xs i false) j = (bitL xs j && !decide (j = i)) := by
  unfold change1
  rw [if_neg (by simp)]
  have hb := isBytes_getD hx (i / 8)
  have h := (byte_clear hb.1 hb.2 (show i % 8 < 8 by omega)).2 (j % 8) (by omega)
  rw [bitL_set hi]
  split
  · rename_i e
    rw [h]
    unfold bitL
    rw [e]
    congr 2
    exact decide_eq_decide.2 (by omega)
  · rename_i e
    rw [show decide (j = i) = false from decide_eq_false (fun q => e (by rw [q]))]
    simp
theorem set1_bit {xs : List Int} (hx : isBytes xs) {i : Nat} (hi : i / 8 < xs.length) (j : Nat) : bitL (change1 xs i true) j = (bitL xs j || decide (j = i)) := by
  unfold change1
  rw [if_pos rfl]
  have hb := isBytes_getD hx (i / 8)
  have hc := byte_clear hb.1 hb.2 (show i % 8 < 8 by omega)
  have hs := byte_set hc.1.1 hc.1.2 (show i % 8 < 8 by omega)
  rw [bitL_set (by simpa using hi)]
  split
  · rename_i e
    rw [hs.2 _ (by omega), hc.2 _ (by omega)]
    unfold bitL
    rw [e]
    have : decide (j % 8 = i % 8) = decide (j = i) := decide_eq_decide.2 (by omega)
    rw [this]
    cases bitv (xs.getD (i / 8) 0) (j % 8) <;> cases decide (j = i) <;> rfl
  · rename_i e
    rw [bitL_set hi, if_neg e, show decide (j = i) = false from decide_eq_false (fun q => e (by rw [q]))]
    simp
theorem change1_isBytes {xs : List Int} (hx : isBytes xs) (i : Nat) (t : Bool) : isBytes (change1 xs i t) := by
  have hb := isBytes_getD hx (i / 8)
  have hc := byte_clear hb.1 hb.2 (show i % 8 < 8 by omega)
  have hs := byte_set hc.1.1 hc.1.2 (show i % 8 < 8 by omega)
  unfold change1
  split
  · exact isBytes_set (isBytes_set hx _ hc.1.1 hc.1.2) _ hs.1.1 hs.1.2
  · exact isBytes_set hx _ hc.1.1 hc.1.2
theorem change1_length (xs : List Int) (i : Nat) (t : Bool) : (change1 xs i t).length = xs.length := by
  unfold change1
  split <;> simp
theorem turnL_isBytes {xs : List Int} (hx : isBytes xs) (a : Nat) : ∀ n, isBytes (turnL xs a n)
  | 0 => hx
  | n + 1 => turn1_isBytes (turnL_isBytes hx a n) _
theorem changeL_isBytes {xs : List Int} (hx : isBytes xs) (a : Nat) (t : Bool) : ∀ n, isBytes (changeL xs a t n)
  | 0 => hx
  | n + 1 => change1_isBytes (changeL_isBytes hx a t n) _ _
/-- The bits behind a change. -/
theorem changeL_bit {xs : List Int} (hx : isBytes xs) (a : Nat) (t : Bool) : ∀ (n : Nat), a + n ≤ 8 * xs.length → ∀ j, bitL (changeL xs a t n) j = if a ≤ j ∧ j < a + n then t else bitL xs j
  | 0, h, j => by rw [if_neg (by omega)]; rfl
  | n + 1, h, j => by
    have ih := changeL_bit hx a t n (by omega) j
    have hi : (a + n) / 8 < (changeL xs a t n).length := by rw [changeL_length]; omega
    simp only [changeL]
    cases t
    · rw [clear1_bit (changeL_isBytes hx a false n) hi, ih]
      by_cases e : j = a + n
      · subst e; simp
      · rw [show decide (j = a + n) = false from decide_eq_false e]
        by_cases e2 : a ≤ j ∧ j < a + n
        · rw [if_pos e2, if_pos (by omega)]; rfl
        · rw [if_neg e2, if_neg (by omega)]; simp
    · rw [set1_bit (changeL_isBytes hx a true n) hi, ih]
      by_cases e : j = a + n
      · subst e; simp
      · rw [show decide (j = a + n) = false from decide_eq_false e]
        by_cases e2 : a ≤ j ∧ j < a + n
        · rw [if_pos e2, if_pos (by omega)]; rfl
        · rw [if_neg e2, if_neg (by omega)]; simp
theorem turnL_bit {xs : List Int} (hx : isBytes xs) (a : Nat) : ∀ (n : Nat), a + n ≤ 8 * xs.length → ∀ j, bitL (turnL xs a n) j = if a ≤ j ∧ j < a + n then !bitL xs j else bitL xs j
  | 0, h, j => by rw [if_neg (by omega)]; rfl
  | n + 1, h, j => by
    have ih := turnL_bit hx a n (by omega) j
    have hi : (a + n) / 8 < (turnL xs a n).length := by rw [turnL_length]; omega
    simp only [turnL]
    rw [turn1_bit (turnL_isBytes hx a n) hi, ih]
    by_cases e : j = a + n
    · subst e; simp
    · rw [show decide (j = a + n) = false from decide_eq_false e]
      by_cases e2 : a ≤ j ∧ j < a + n
      · rw [if_pos e2, if_pos (by omega)]; simp
      · rw [if_neg e2, if_neg (by omega)]; simp
/-- Where the bits were the other way, turning them is setting (or clearing) them. -/
theorem turn_change {xs : List Int} (hx : isBytes xs) (a n : Nat) (t : Bool) (h : a + n ≤ 8 * xs.length) (hb : ∀ j, a ≤ j → j < a + n → bitL xs j = !t) : turnL xs a n = changeL xs a t n := by
  refine bytes_ext (turnL_isBytes hx a n) (changeL_isBytes hx a t n) (by rw [turnL_length, changeL_length]) (fun j hj => ?_)
  rw [turnL_bit hx a n h, changeL_bit hx a t n h]
  split
  · rename_i c
    rw [hb j c.1 c.2]; simp
  · rfl
/-- All of n lines from a on are taken (t), or all are free. -/
def allAre (s : ByteArray) (t : Bool) (a n : Int) : Prop := ∀ j, a ≤ j → j < a + n → tkn s j = t
theorem allAre_iff (s : ByteArray) (t : Bool) (a n : Nat) : allAre s t a n ↔ ∀ j : Nat, a ≤ j → j < a + n → bitL (bytesOf s) j = t :=
  ⟨fun h j h0 h1 => by have := h (j : Int) (by omega) (by omega); simpa [tkn] using this, fun h j h0 h1 => by
    have := h j.toNat (by omega) (by omega)
    exact this⟩
instance allAre_dec (s : ByteArray) (t : Bool) (a n : Nat) : Decidable (∀ j : Nat, a ≤ j → j < a + n → bitL (bytesOf s) j = t) :=
  decidable_of_iff (∀ i, i < n → bitL (bytesOf s) (a + i) = t) ⟨fun h j h0 h1 => by have := h (j - a) (by omega); rwa [show a + (j - a) = j from by omega] at this, fun h i hi => h (a + i) (by omega) (by omega)⟩
def runOk (s : ByteArray) (a n : Int) : Prop := mapOk s ∧ (1 ≤ n ∧ n ≤ 128) ∧ 0 ≤ a ∧ a ≤ 128 - n
instance (s : ByteArray) (a n : Int) : Decidable (runOk s a n) := by unfold runOk; infer_instance
/-- TakeRun (t = true), GiveRun (t = false). -/
def changed (s : ByteArray) (t : Bool) (a n : Nat) : ByteArray := strOfNums (changeL (bytesOf s) a t n)
def runResult (s : ByteArray) (t : Bool) (a n : Int) : ByteArray × Bool :=
  if runOk s a n then (if ∀ j : Nat, a.toNat ≤ j → j < a.toNat + n.toNat → bitL (bytesOf s) j = !t then (changed s t a.toNat n.toNat, true) else (⟨#[]⟩, false)) else (⟨#[]⟩, false)
end Go.Proofs.Ytmciidoohbmipaa.Abs.Pu
