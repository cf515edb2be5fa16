/- MapOf: what the reference and the program come to: the same. For lists of at most 2^40 lines. (Merged out of this claim's own texts.) -/
import Derived.Test.YtpeimlpipopeoaaBFnExactMapOf2
import Derived.Lib.Hide
import Derived.Test.YtpeimlpipopeoaaRows
import Derived.WalkKit
import Derived.ProofKit
import Derived.OpenShut
import Derived.ShutString
import Derived.ChangeOld
import Derived.Below
import Derived.SizedLaws
import Derived.Test.YtpeimlpipopeoaaWSized
namespace Go.Proofs.Ytpeimlpipopeoaa.Pure
open Go.RowKit Go.Proofs.Ytpeimlpipopeoaa.X Go.Proofs.YtpeimlpipopeoaaW.PrintWords Go.Proofs.YtpeimlpipopeoaaW.PrintLast Go.Proofs.YtpeimlpipopeoaaW.PrintMore
set_option linter.unusedVariables false
set_option linter.unusedSimpArgs false

theorem repeat_zero (n : Nat) : Lib.repeatL [0] n = List.replicate n 0 := by
  induction n with
  | zero => rfl
  | succ n ih => rw [Lib.repeatL, ih]; rfl
def zerosB (n : Nat) : ByteArray := strOfNums (List.replicate n 0)
theorem zerosB_size (n : Nat) : (zerosB n).size = n := by rw [zerosB, strOfNums_size, List.length_replicate]
theorem bytesOf_zerosB (n : Nat) : bytesOf (zerosB n) = List.replicate n 0 := bytesOf_strOfNums (isBytes_replicate n)
theorem impl_zeros_f (n : Nat) (h : n ≤ 1048576) : impl_zeros.f (n : Int) = some (zerosB n) := by
  unfold impl_zeros.f strings_Repeat.f
  rw [if_pos (by omega), if_pos (by omega), if_pos (by decide)]
  simp only [Option.bind_some, Int.toNat_natCast]
  refine congrArg some ?_
  rw [repeat_zero]
  simp [zerosB, strOfNums]
theorem spec_l1Zeros_f (n : Nat) (h : n ≤ 1048576) : spec_l1Zeros.f (n : Int) = some (zerosB n) := by
  unfold spec_l1Zeros.f
  rw [if_pos (by omega), if_pos (by rw [Int.toNat_natCast]; omega), Int.toNat_natCast]
  rfl
def mapOk (s : ByteArray) : Prop := s.size = 64 ∧ s.extract 16 s.size = zerosB 48
instance (s : ByteArray) : Decidable (mapOk s) := by unfold mapOk; infer_instance
theorem spec_l6Map_f (s : ByteArray) : spec_l6Map.f s = some (decide (mapOk s)) := by
  unfold spec_l6Map.f mapOk
  have z := spec_l1Zeros_f 48 (by omega)
  split
  · rename_i h
    rw [if_pos (by omega), show (48 : Int) = ((48 : Nat) : Int) from rfl, z]
    simp only [Option.bind_some, toList_beq]
    refine congrArg some (decide_eq_decide.2 ⟨fun e => ⟨by omega, e⟩, fun e => e.2⟩)
  · rename_i h
    refine congrArg some (decide_eq_false (fun e => h (by omega))).symm
theorem impl_isMap_f (s : ByteArray) : impl_isMap.f s = some (decide (mapOk s)) := by
  unfold impl_isMap.f mapOk
  have z := impl_zeros_f 48 (by omega)
  split
  · rename_i h
    rw [if_pos (by omega), show (48 : Int) = ((48 : Nat) : Int) from rfl, z]
    simp only [Option.bind_some, toList_beq]
    refine congrArg some (decide_eq_decide.2 ⟨fun e => ⟨by omega, e⟩, fun e => e.2⟩)
  · rename_i h
    refine congrArg some (decide_eq_false (fun e => h (by omega))).symm

/-- Is line n taken. -/
def tk (s : ByteArray) (n : Int) : Bool := bitL (bytesOf s) n.toNat
theorem and_one {x : Int} (h0 : 0 ≤ x) (h1 : x ≤ 255) : Go.bits .and .u8 x 1 = x % 2 := by
  have h := Go.bits_mask .u8 8 (by decide) Go.wraps_u8 1 (by decide) x h0 (by omega)
  simpa using h
theorem shr_u8 (x : Int) (r : Nat) (hr : r < 8) : shr .u8 x (r : Int) = x / 2 ^ r := by
  unfold shr
  rw [Int.toNat_natCast, show min r IntKind.u8.bits = r from Nat.min_eq_left (by show r ≤ 8; omega)]
theorem div_range {x : Int} (h0 : 0 ≤ x) (h1 : x ≤ 255) (r : Nat) : 0 ≤ x / 2 ^ r ∧ x / 2 ^ r ≤ 255 := by
  have hp : (0 : Int) < 2 ^ r := Int.pow_pos (by decide)
  exact ⟨Int.ediv_nonneg h0 (by omega), Int.le_trans (Int.ediv_le_self _ h0) h1⟩
theorem bit_read (s : ByteArray) (n : Nat) : (Go.bits .and .u8 (shr .u8 (bt s ((n / 8 : Nat) : Int)) ((n % 8 : Nat) : Int)) 1 == 1) = tk s (n : Int) := by
  have hb := bt_range s ((n / 8 : Nat) : Int)
  have hd := div_range hb.1 hb.2 (n % 8)
  rw [shr_u8 _ _ (by omega), and_one hd.1 hd.2, bt_bytesOf]
  unfold tk bitL bitv
  rw [Int.toNat_natCast]
theorem spec_l6Bit_f (s : ByteArray) (n : Nat) (h : n / 8 < s.size) (hn : n ≤ 1099511627776) : spec_l6Bit.f s (n : Int) = some (tk s (n : Int)) := by
  unfold spec_l6Bit.f
  rw [Int.tdiv_eq_ediv_of_nonneg (by omega), Int.tmod_eq_emod_of_nonneg (by omega), w64 (by omega) (by omega)]
  rw [show (n : Int) / 8 = ((n / 8 : Nat) : Int) from by omega, show IntKind.u64.wrap ((n : Int) % 8) = ((n % 8 : Nat) : Int) from by simp [IntKind.wrap, IntKind.bits, IntKind.signed]; omega]
  rw [if_pos (by omega), if_pos (by omega), if_pos (by omega), bit_read]
theorem impl_isTaken_f (s : ByteArray) (n : Nat) (h : n / 8 < s.size) (hn : n ≤ 1099511627776) : impl_isTaken.f s (n : Int) = some (tk s (n : Int)) := by
  unfold impl_isTaken.f
  rw [Int.tdiv_eq_ediv_of_nonneg (by omega), Int.tmod_eq_emod_of_nonneg (by omega), w64 (by omega) (by omega)]
  rw [show (n : Int) / 8 = ((n / 8 : Nat) : Int) from by omega, show (n : Int) % 8 = ((n % 8 : Nat) : Int) from by omega]
  rw [if_pos (by omega), if_pos (by omega), if_pos (by omega), bit_read]
theorem spec_bit (s : ByteArray) (n : Int) (hs : mapOk s) (h0 : 0 ≤ n) (h1 : n < 128) : spec_l6Bit.f s n = some (tk s n) := by
  obtain ⟨m, rfl⟩ := Int.eq_ofNat_of_zero_le h0
  exact spec_l6Bit_f s m (by have := hs.1; omega) (by omega)
theorem impl_bit (s : ByteArray) (n : Int) (hs : mapOk s) (h0 : 0 ≤ n) (h1 : n < 128) : impl_isTaken.f s n = some (tk s n) := by
  obtain ⟨m, rfl⟩ := Int.eq_ofNat_of_zero_le h0
  exact impl_isTaken_f s m (by have := hs.1; omega) (by omega)

/-! ### lines -/
/-- The taken ones of the lines i, .., i + d - 1. -/
def linesFrom (t : Int → Bool) (i : Int) : Nat → List Int
  | 0 => []
  | d + 1 => if t i then i :: linesFrom t (i + 1) d else linesFrom t (i + 1) d
theorem linesFrom_length (t : Int → Bool) : ∀ (d : Nat) (i : Int), (linesFrom t i d).length ≤ d
  | 0, i => by simp [linesFrom]
  | d + 1, i => by
    have h := linesFrom_length t d (i + 1)
    simp only [linesFrom]
    split
    · simp; omega
    · omega
def linesOf (s : ByteArray) : List Int := if mapOk s then linesFrom (tk s) 0 128 else []
theorem impl_LinesOf_ev (s : ByteArray) : Ev (fun k => impl_LinesOf.f k s) (linesOf s) := by
  unfold impl_LinesOf.f
  refine Ev.bindo (impl_isMap_f s) (Ev.cases (fun c => ?_) (fun c => Ev.eq ?_))
  · have c : mapOk s := by simpa using c
    have l : ∀ (d i : Nat) (acc : List Int), 128 - i = d → i ≤ 128 → acc.length ≤ i → Ev (fun k => impl_LinesOf.l0 k s acc (i : Int)) (acc ++ linesFrom (tk s) i d) := by
      intro d
      induction d with
      | zero =>
        intro i acc hd hi ha
        refine Ev.step (fun k => by rw [impl_LinesOf.l0]) (Ev.neg (by omega) (Ev.eq (by simp [linesFrom])))
      | succ d ih =>
        intro i acc hd hi ha
        refine Ev.step (fun k => by rw [impl_LinesOf.l0]) (Ev.pos (by omega) (Ev.bindo (impl_bit s i c (by omega) (by omega)) ?_))
        rw [show wrap64 ((i : Int) + 1) = ((i + 1 : Nat) : Int) from by rw [w64 (by omega) (by omega)]; omega]
        refine Ev.cases (fun e => Ev.pos (by omega) ?_) (fun e => ?_)
        · refine Ev.val (ih (i + 1) (acc ++ [(i : Int)]) (by omega) (by omega) (by simp; omega)) ?_
          simp [linesFrom, e]
        · refine Ev.val (ih (i + 1) acc (by omega) (by omega) (by omega)) ?_
          simp [linesFrom, e]
    exact Ev.val (l 128 0 [] rfl (by omega) (by simp)) (by simp [linesOf, c])
  · have c : ¬ mapOk s := by simpa using c
    simp [linesOf, c]
theorem spec_LinesOf_ev (s : ByteArray) : Ev (fun k => spec_LinesOf.f k s) (linesOf s) := by
  unfold spec_LinesOf.f
  by_cases c : mapOk s
  · have l : ∀ (d i : Nat) (acc : List Int), 128 - i = d → i ≤ 128 → acc.length ≤ i → Ev (fun k => spec_LinesOf.l0 k s acc (i : Int)) (acc ++ linesFrom (tk s) i d) := by
      intro d
      induction d with
      | zero =>
        intro i acc hd hi ha
        refine Ev.step (fun k => by rw [spec_LinesOf.l0]) (Ev.neg (by omega) ?_)
        refine Ev.step (fun k => by rw [spec_LinesOf.j1]) (Ev.neg (by simp) (Ev.eq (by simp [linesFrom])))
      | succ d ih =>
        intro i acc hd hi ha
        refine Ev.step (fun k => by rw [spec_LinesOf.l0]) (Ev.pos (by omega) (Ev.bindo (spec_l6Map_f s) ?_))
        refine Ev.step (fun k => by rw [spec_LinesOf.j1]) (Ev.pos (by simp [c]) (Ev.bindo (spec_bit s i c (by omega) (by omega)) ?_))
        rw [show wrap64 ((i : Int) + 1) = ((i + 1 : Nat) : Int) from by rw [w64 (by omega) (by omega)]; omega]
        refine Ev.cases (fun e => Ev.pos (by omega) ?_) (fun e => ?_)
        · refine Ev.val (ih (i + 1) (acc ++ [(i : Int)]) (by omega) (by omega) (by simp; omega)) ?_
          simp [linesFrom, e]
        · refine Ev.val (ih (i + 1) acc (by omega) (by omega) (by omega)) ?_
          simp [linesFrom, e]
    exact Ev.val (l 128 0 [] rfl (by omega) (by simp)) (by simp [linesOf, c])
  · refine Ev.step (fun k => by rw [spec_LinesOf.l0]) (Ev.pos (by omega) (Ev.bindo (spec_l6Map_f s) ?_))
    refine Ev.step (fun k => by rw [spec_LinesOf.j1]) (Ev.neg (by simp [c]) (Ev.eq (by simp [linesOf, c])))

/-! ### areas and gaps -/
def areaOk (s : ByteArray) (a b : Int) : Prop := mapOk s ∧ 0 ≤ a ∧ a ≤ b ∧ b ≤ 128
instance (s : ByteArray) (a b : Int) : Decidable (areaOk s a b) := by unfold areaOk; infer_instance
theorem impl_isArea_f (s : ByteArray) (a b : Int) : impl_isArea.f s a b = some (decide (areaOk s a b)) := by
  unfold impl_isArea.f areaOk
  rw [impl_isMap_f, Option.bind_some]
  by_cases c : mapOk s
  · simp only [c, decide_true, if_true, true_and]
    by_cases h1 : a ≥ 0
    · by_cases h2 : a ≤ b
      · simp [h1, h2]
      · simp [h1, h2]
    · simp [h1]
  · simp [c]
theorem spec_l6Range_f (s : ByteArray) (a b : Int) : spec_l6Range.f s a b = some (decide (areaOk s a b)) := by
  unfold spec_l6Range.f areaOk
  rw [spec_l6Map_f, Option.bind_some]
  by_cases c : mapOk s
  · simp only [c, decide_true, if_true, true_and]
    by_cases h1 : a ≥ 0
    · by_cases h2 : a ≤ b
      · simp [h1, h2]
      · simp [h1, h2]
    · simp [h1]
  · simp [c]
/-- How many of the lines i, .., i + d - 1 are free. -/
def freeFrom (t : Int → Bool) (i : Int) : Nat → Int
  | 0 => 0
  | d + 1 => (if t i then 0 else 1) + freeFrom t (i + 1) d
theorem freeFrom_range (t : Int → Bool) : ∀ (d : Nat) (i : Int), 0 ≤ freeFrom t i d ∧ freeFrom t i d ≤ d
  | 0, i => by simp [freeFrom]
  | d + 1, i => by
    have h := freeFrom_range t d (i + 1)
    simp only [freeFrom]
    split <;> omega
theorem spec_FreeOf_ev (s : ByteArray) (a b : Int) : Ev (fun k => spec_FreeOf.f k s a b) (if areaOk s a b then freeFrom (tk s) a (b - a).toNat else -1) := by
  unfold spec_FreeOf.f
  refine Ev.bindo (spec_l6Range_f s a b) (Ev.cases (fun c => ?_) (fun c => Ev.eq ?_))
  · have c : areaOk s a b := by simpa using c
    obtain ⟨hm, h0, h1, h2⟩ := c
    have l : ∀ (d : Nat) (i acc : Int), (b - i).toNat = d → a ≤ i → i ≤ b → 0 ≤ acc → acc ≤ i → Ev (fun k => spec_FreeOf.l0 k s b acc i) (acc + freeFrom (tk s) i d) := by
      intro d
      induction d with
      | zero =>
        intro i acc hd hi hb ha ha2
        refine Ev.step (fun k => by rw [spec_FreeOf.l0]) (Ev.neg (by omega) (Ev.eq (by simp [freeFrom])))
      | succ d ih =>
        intro i acc hd hi hb ha ha2
        refine Ev.step (fun k => by rw [spec_FreeOf.l0]) (Ev.pos (by omega) (Ev.bindo (spec_bit s i hm (by omega) (by omega)) ?_))
        rw [w64 (x := i + 1) (by omega) (by omega), w64 (x := acc + 1) (by omega) (by omega)]
        refine Ev.cases (fun e => ?_) (fun e => ?_)
        · refine Ev.val (ih (i + 1) acc (by omega) (by omega) (by omega) (by omega) (by omega)) ?_
          simp [freeFrom, e]
        · refine Ev.val (ih (i + 1) (acc + 1) (by omega) (by omega) (by omega) (by omega) (by omega)) ?_
          simp [freeFrom, e]; omega
    refine Ev.val (l _ a 0 rfl (by omega) (by omega) (by omega) (by omega)) ?_
    rw [if_pos ⟨hm, h0, h1, h2⟩]; omega
  · rw [if_neg (by simpa using c)]

theorem rdT_last (g : List S61) (h : 1 ≤ g.length) : rd_T61 g ((g.length : Int) - 1) = g.getD (g.length - 1) z61 := by
  unfold rd_T61
  rw [show ((g.length : Int) - 1).toNat = g.length - 1 from by omega]
/-- A free line is laid to the gaps before it. -/
def addGap (g : List S61) (i : Int) : List S61 :=
  if 1 ≤ g.length ∧ (g.getD (g.length - 1) z61).f0 + (g.getD (g.length - 1) z61).f1 = i
  then g.set (g.length - 1) ⟨(g.getD (g.length - 1) z61).f0, (g.getD (g.length - 1) z61).f1 + 1⟩
  else g ++ [⟨i, 1⟩]
def gapsGo (t : Int → Bool) : Nat → List S61 → Int → List S61
  | 0, g, _ => g
  | d + 1, g, i => if t i then gapsGo t d g (i + 1) else gapsGo t d (addGap g i) (i + 1)
/-- What holds of the gaps of the lines a, .., i - 1. -/
structure Gap (t : Int → Bool) (a i : Int) (g : List S61) : Prop where
  each : ∀ x ∈ g, a ≤ x.f0 ∧ 1 ≤ x.f1 ∧ x.f0 + x.f1 ≤ i
  free : ∀ x ∈ g, ∀ j, x.f0 ≤ j → j < x.f0 + x.f1 → t j = false
  stop : ∀ x ∈ g, x.f0 + x.f1 < i → t (x.f0 + x.f1) = true
  all : ∀ j, a ≤ j → j < i → t j = false → ∃ x ∈ g, x.f0 ≤ j ∧ j < x.f0 + x.f1
  sorted : g.Pairwise (fun x y => x.f0 + x.f1 < y.f0)
theorem snoc_cases {α : Type} (g : List α) : g = [] ∨ ∃ l x, g = l ++ [x] := by
  rcases Nat.eq_zero_or_pos g.length with h | h
  · exact .inl (List.eq_nil_of_length_eq_zero h)
  · have hne : g ≠ [] := by intro e; simp [e] at h
    exact .inr ⟨g.dropLast, g.getLast hne, (List.dropLast_concat_getLast hne).symm⟩
theorem getD_snoc {α : Type} (l : List α) (x d : α) : (l ++ [x]).getD ((l ++ [x]).length - 1) d = x := by
  simp [List.getD_eq_getElem?_getD]
theorem set_snoc {α : Type} (l : List α) (x y : α) : (l ++ [x]).set ((l ++ [x]).length - 1) y = l ++ [y] := by
  simp [List.set_append]
theorem Gap.nil (t : Int → Bool) (a : Int) : Gap t a a [] := ⟨by simp, by simp, by simp, fun j h0 h1 => by omega, List.Pairwise.nil⟩
theorem Gap.taken {t : Int → Bool} {a i : Int} {g : List S61} (h : Gap t a i g) (ht : t i = true) : Gap t a (i + 1) g := by
  refine ⟨fun x hx => by have := h.each x hx; omega, h.free, fun x hx hlt => ?_, fun j h0 h1 hj => ?_, h.sorted⟩
  · by_cases e : x.f0 + x.f1 < i
    · exact h.stop x hx e
    · have := h.each x hx
      rw [show x.f0 + x.f1 = i from by omega]
      exact ht
  · by_cases e : j < i
    · exact h.all j h0 e hj
    · rw [show j = i from by omega, ht] at hj
      cases hj
theorem Gap.add {t : Int → Bool} {a i : Int} {g : List S61} (h : Gap t a i g) (ha : a ≤ i) (ht : t i = false) : Gap t a (i + 1) (addGap g i) := by
  unfold addGap
  rcases snoc_cases g with rfl | ⟨l, x, rfl⟩
  · rw [if_neg (by simp)]
    refine ⟨fun x hx => ?_, fun x hx j h0 h1 => ?_, fun x hx hlt => ?_, fun j h0 h1 hj => ?_, by simp⟩
    · simp at hx; subst hx; simp; omega
    · simp at hx; subst hx; simp at h0 h1; rw [show j = i from by omega]; exact ht
    · simp at hx; subst hx; simp at hlt
    · by_cases e : j < i
      · obtain ⟨x, hx, _⟩ := h.all j h0 e hj
        cases hx
      · exact ⟨⟨i, 1⟩, List.mem_singleton.2 rfl, by show i ≤ j; omega, by show j < i + 1; omega⟩
  · rw [getD_snoc, set_snoc]
    have hx0 := h.each x (by simp)
    have hs := List.pairwise_append.1 h.sorted
    split
    · rename_i c
      have c := c.2
      refine ⟨fun y hy => ?_, fun y hy j h0 h1 => ?_, fun y hy hlt => ?_, fun j h0 h1 hj => ?_, ?_⟩
      · rcases List.mem_append.1 hy with hy | hy
        · have := h.each y (by simp [hy]); omega
        · simp at hy; subst hy; simp; omega
      · rcases List.mem_append.1 hy with hy | hy
        · exact h.free y (by simp [hy]) j h0 h1
        · simp at hy; subst hy; simp at h0 h1
          by_cases e : j < i
          · exact h.free x (by simp) j h0 (by omega)
          · rw [show j = i from by omega]; exact ht
      · rcases List.mem_append.1 hy with hy | hy
        · have := hs.2.2 y hy x (by simp)
          exact h.stop y (by simp [hy]) (by omega)
        · simp at hy; subst hy; simp at hlt; omega
      · by_cases e : j < i
        · obtain ⟨y, hy, h2, h3⟩ := h.all j h0 e hj
          rcases List.mem_append.1 hy with hy | hy
          · exact ⟨y, by simp [hy], h2, h3⟩
          · simp at hy; subst hy
            exact ⟨_, List.mem_append_right _ (List.mem_singleton.2 rfl), h2, by simp; omega⟩
        · exact ⟨_, List.mem_append_right _ (List.mem_singleton.2 rfl), by simp; omega, by simp; omega⟩
      · refine List.pairwise_append.2 ⟨hs.1, by simp, fun y hy z hz => ?_⟩
        simp at hz; subst hz
        exact hs.2.2 y hy x (by simp)
    · rename_i c
      have c : x.f0 + x.f1 ≠ i := fun e => c ⟨by simp, e⟩
      refine ⟨fun y hy => ?_, fun y hy j h0 h1 => ?_, fun y hy hlt => ?_, fun j h0 h1 hj => ?_, ?_⟩
      · rcases List.mem_append.1 hy with hy | hy
        · have := h.each y hy; omega
        · simp at hy; subst hy; simp; omega
      · rcases List.mem_append.1 hy with hy | hy
        · exact h.free y hy j h0 h1
        · simp at hy; subst hy; simp at h0 h1; rw [show j = i from by omega]; exact ht
      · rcases List.mem_append.1 hy with hy | hy
        · rcases List.mem_append.1 hy with hy2 | hy2
          · have := hs.2.2 y hy2 x (by simp)
            exact h.stop y hy (by omega)
          · simp at hy2; subst hy2
            exact h.stop y hy (by omega)
        · simp at hy; subst hy; simp at hlt
      · by_cases e : j < i
        · obtain ⟨y, hy, h2⟩ := h.all j h0 e hj
          exact ⟨y, List.mem_append_left _ hy, h2⟩
        · exact ⟨_, List.mem_append_right _ (List.mem_singleton.2 rfl), by simp; omega, by simp; omega⟩
      · refine List.pairwise_append.2 ⟨h.sorted, by simp, fun y hy z hz => ?_⟩
        simp at hz; subst hz
        simp
        rcases List.mem_append.1 hy with hy2 | hy2
        · have := hs.2.2 y hy2 x (by simp); omega
        · simp at hy2; subst hy2; omega
theorem Gap.go {t : Int → Bool} {a : Int} : ∀ (d : Nat) (i : Int) (g : List S61), Gap t a i g → a ≤ i → Gap t a (i + d) (gapsGo t d g i)
  | 0, i, g, h, _ => by simpa [gapsGo] using h
  | d + 1, i, g, h, ha => by
    simp only [gapsGo]
    rw [show i + ((d + 1 : Nat) : Int) = i + 1 + (d : Nat) from by omega]
    split
    · rename_i e
      exact Gap.go d (i + 1) g (h.taken e) (by omega)
    · rename_i e
      exact Gap.go d (i + 1) _ (h.add ha (by simpa using e)) (by omega)
/-- There are no more gaps than lines. -/
theorem Gap.length {t : Int → Bool} {a i : Int} {g : List S61} (h : Gap t a i g) (ha : a ≤ i) : (g.length : Int) ≤ i - a := by
  have key : ∀ (g : List S61) (a : Int), a ≤ i → (∀ x ∈ g, a ≤ x.f0 ∧ 1 ≤ x.f1 ∧ x.f0 + x.f1 ≤ i) → g.Pairwise (fun x y => x.f0 + x.f1 < y.f0) → (g.length : Int) ≤ i - a := by
    intro g
    induction g with
    | nil => intro a ha _ _; simp; omega
    | cons x g ih =>
      intro a ha he hs
      have hx := he x (by simp)
      have h2 := List.pairwise_cons.1 hs
      have := ih (x.f0 + x.f1) (by omega) (fun y hy => by have := h2.1 y hy; have := he y (by simp [hy]); omega) h2.2
      simp only [List.length_cons]
      omega
  exact key g a ha h.each h.sorted
def gapsOf (s : ByteArray) (a b : Int) : List S61 := gapsGo (tk s) (b - a).toNat [] a
theorem gapsOf_gap (s : ByteArray) (a b : Int) (h : a ≤ b) : Gap (tk s) a b (gapsOf s a b) := by
  have g := Gap.go (t := tk s) (b - a).toNat a [] (Gap.nil _ a) (by omega)
  rwa [show a + ((b - a).toNat : Int) = b from by omega] at g
theorem gapStep (t : Int → Bool) (a b i : Int) (g : List S61) (h : Gap t a i g) (ha : 0 ≤ a) (hai : a ≤ i) (hib : i < b) (hb : b ≤ 128) (ht : t i = false) {A : List S61 → Nat → Option (List S61)} {r : List S61} (hr : Ev (fun k => A (addGap g i) k) r) :
    Ev (fun k => if (wrap64 ((g.length : Int) - 1)) ≥ 0 then (if 0 ≤ (wrap64 ((g.length : Int) - 1)) then (if (wrap64 ((g.length : Int) - 1)) < (g.length : Int) then (if (wrap64 (((rd_T61 g (wrap64 ((g.length : Int) - 1))).f0) + ((rd_T61 g (wrap64 ((g.length : Int) - 1))).f1))) = i then (A (g.set ((wrap64 ((g.length : Int) - 1)) : Int).toNat (⟨(rd_T61 g (wrap64 ((g.length : Int) - 1))).f0, wrap64 (((rd_T61 g (wrap64 ((g.length : Int) - 1))).f1) + 1)⟩ : S61)) k) else (if g.length < 8796093022208 then (A (g ++ [(⟨i, 1⟩ : S61)]) k) else (none))) else (none)) else (none)) else (if g.length < 8796093022208 then (A (g ++ [(⟨i, 1⟩ : S61)]) k) else (none))) r := by
  have hl := h.length hai
  rw [w64 (x := (g.length : Int) - 1) (by omega) (by omega)]
  by_cases h1 : 1 ≤ g.length
  · refine Ev.pos (by omega) (Ev.pos (by omega) (Ev.pos (by omega) ?_))
    rw [rdT_last g h1]
    rcases snoc_cases g with rfl | ⟨l, x, rfl⟩
    · simp at h1
    · have hx := h.each x (by simp)
      unfold addGap at hr
      rw [getD_snoc] at hr ⊢
      rw [w64 (x := x.f0 + x.f1) (by omega) (by omega), w64 (x := x.f1 + 1) (by omega) (by omega), show (((l ++ [x]).length : Int) - 1).toNat = (l ++ [x]).length - 1 from by omega]
      refine Ev.cases (fun e => ?_) (fun e => Ev.pos (by omega) ?_)
      · rwa [if_pos ⟨h1, e⟩] at hr
      · rwa [if_neg (fun q => e q.2)] at hr
  · refine Ev.neg (by omega) (Ev.pos (by omega) ?_)
    unfold addGap at hr
    rwa [if_neg (fun q => h1 q.1)] at hr
theorem impl_gaps_ev (s : ByteArray) (a b : Int) (hm : mapOk s) (h0 : 0 ≤ a) (h1 : a ≤ b) (h2 : b ≤ 128) : Ev (fun k => impl_gaps.f k s a b) (gapsOf s a b) := by
  have l : ∀ (d : Nat) (i : Int) (g : List S61), (b - i).toNat = d → a ≤ i → i ≤ b → Gap (tk s) a i g → Ev (fun k => impl_gaps.l0 k s b g i) (gapsGo (tk s) d g i) := by
    intro d
    induction d with
    | zero =>
      intro i g hd hi hb hg
      refine Ev.step (fun k => by first | (rw [impl_gaps.l0]; done) | (rw [impl_gaps.l0]; rfl)) (Ev.neg (by omega) (Ev.eq rfl))
    | succ d ih =>
      intro i g hd hi hb hg
      refine Ev.step (fun k => by first | (rw [impl_gaps.l0]; done) | (rw [impl_gaps.l0]; rfl)) (Ev.pos (by omega) (Ev.bindo (impl_bit s i hm (by omega) (by omega)) ?_))
      rw [w64 (x := i + 1) (by omega) (by omega)]
      refine Ev.cases (fun e => ?_) (fun e => ?_)
      · refine Ev.val (ih (i + 1) g (by omega) (by omega) (by omega) (hg.taken e)) ?_
        simp [gapsGo, e]
      · have e : tk s i = false := by simpa using e
        refine gapStep (tk s) a b i g hg h0 hi (by omega) h2 e (A := fun g k => impl_gaps.l0 k s b g (i + 1)) ?_
        refine Ev.val (ih (i + 1) _ (by omega) (by omega) (by omega) (hg.add hi e)) ?_
        simp [gapsGo, e]
  unfold impl_gaps.f
  exact l _ a [] rfl (by omega) h1 (Gap.nil _ a)
theorem impl_Gaps_ev (s : ByteArray) (a b : Int) : Ev (fun k => impl_Gaps.f k s a b) (if areaOk s a b then gapsOf s a b else []) := by
  unfold impl_Gaps.f
  refine Ev.bindo (impl_isArea_f s a b) (Ev.cases (fun c => ?_) (fun c => Ev.eq ?_))
  · have c : areaOk s a b := by simpa using c
    rw [if_pos c]
    exact Ev.bind (impl_gaps_ev s a b c.1 c.2.1 c.2.2.1 c.2.2.2) (Ev.eq rfl)
  · rw [if_neg (by simpa using c)]
theorem spec_Gaps_ev (s : ByteArray) (a b : Int) : Ev (fun k => spec_Gaps.f k s a b) (if areaOk s a b then gapsOf s a b else []) := by
  unfold spec_Gaps.f
  refine Ev.bindo rfl (Ev.bindo (spec_l6Range_f s a b) (Ev.cases (fun c => ?_) (fun c => Ev.eq ?_)))
  · have c : areaOk s a b := by simpa using c
    rw [if_pos c]
    obtain ⟨hm, h0, h1, h2⟩ := c
    have l : ∀ (d : Nat) (i : Int) (g : List S61), (b - i).toNat = d → a ≤ i → i ≤ b → Gap (tk s) a i g → Ev (fun k => spec_Gaps.l0 k s b g i) (gapsGo (tk s) d g i) := by
      intro d
      induction d with
      | zero =>
        intro i g hd hi hb hg
        refine Ev.step (fun k => by first | (rw [spec_Gaps.l0]; done) | (rw [spec_Gaps.l0]; rfl)) (Ev.neg (by omega) (Ev.eq rfl))
      | succ d ih =>
        intro i g hd hi hb hg
        refine Ev.step (fun k => by first | (rw [spec_Gaps.l0]; done) | (rw [spec_Gaps.l0]; rfl)) (Ev.pos (by omega) (Ev.bindo (spec_bit s i hm (by omega) (by omega)) ?_))
        rw [w64 (x := i + 1) (by omega) (by omega)]
        refine Ev.cases (fun e => ?_) (fun e => ?_)
        · refine Ev.val (ih (i + 1) g (by omega) (by omega) (by omega) (hg.taken e)) ?_
          simp [gapsGo, e]
        · have e : tk s i = false := by simpa using e
          refine gapStep (tk s) a b i g hg h0 hi (by omega) h2 e (A := fun g k => spec_Gaps.l0 k s b g (i + 1)) ?_
          refine Ev.val (ih (i + 1) _ (by omega) (by omega) (by omega) (hg.add hi e)) ?_
          simp [gapsGo, e]
    exact l _ a [] rfl (by omega) h1 (Gap.nil _ a)
  · rw [if_neg (by simpa using c)]
end Go.Proofs.Ytpeimlpipopeoaa.Pure
namespace Go.Proofs.Ytpeimlpipopeoaa.Pure
open Go.RowKit Go.Proofs.Ytpeimlpipopeoaa.X Go.Proofs.YtpeimlpipopeoaaW.PrintWords Go.Proofs.YtpeimlpipopeoaaW.PrintLast Go.Proofs.YtpeimlpipopeoaaW.PrintMore
set_option linter.unusedVariables false
set_option linter.unusedSimpArgs false

theorem rdT_get (g : List S61) (i : Nat) (h : i < g.length) : rd_T61 g (i : Int) = g[i] := by
  unfold rd_T61
  rw [Int.toNat_natCast, List.getD_eq_getElem?_getD, List.getElem?_eq_getElem h]
  rfl
def sumLen (g : List S61) : Int := (g.map fun x => x.f1).sum
theorem sumLen_append (g h : List S61) : sumLen (g ++ h) = sumLen g + sumLen h := by simp [sumLen]
theorem sumLen_addGap (g : List S61) (i : Int) : sumLen (addGap g i) = sumLen g + 1 := by
  unfold addGap
  rcases snoc_cases g with rfl | ⟨l, x, rfl⟩
  · simp [sumLen]
  · rw [getD_snoc, set_snoc]
    split
    · simp [sumLen]; omega
    · simp [sumLen]; omega
theorem sumLen_go (t : Int → Bool) : ∀ (d : Nat) (g : List S61) (i : Int), sumLen (gapsGo t d g i) = sumLen g + freeFrom t i d
  | 0, g, i => by simp [gapsGo, freeFrom]
  | d + 1, g, i => by
    simp only [gapsGo, freeFrom]
    split
    · rw [sumLen_go t d]; omega
    · rw [sumLen_go t d, sumLen_addGap]; omega
theorem sumLen_take (g : List S61) (b : Int) (hb : b ≤ 128) (a : Int) (ha : 0 ≤ a) (h : ∀ x ∈ g, a ≤ x.f0 ∧ 1 ≤ x.f1 ∧ x.f0 + x.f1 ≤ b) : ∀ i, i ≤ g.length → 0 ≤ sumLen (g.take i) ∧ sumLen (g.take i) ≤ 128 * i := by
  intro i
  induction i with
  | zero => intro _; simp [sumLen]
  | succ i ih =>
    intro hi
    have ih := ih (by omega)
    have hx := h _ (List.getElem_mem (show i < g.length by omega))
    rw [take_snoc2 g i (by omega), sumLen_append]
    simp only [sumLen, List.map_cons, List.map_nil, List.sum_cons, List.sum_nil] at ih ⊢
    omega
theorem impl_FreeOf_ev (s : ByteArray) (a b : Int) : Ev (fun k => impl_FreeOf.f k s a b) (if areaOk s a b then freeFrom (tk s) a (b - a).toNat else -1) := by
  unfold impl_FreeOf.f
  refine Ev.bindo (impl_isArea_f s a b) (Ev.cases (fun c => ?_) (fun c => Ev.eq ?_))
  · have c : areaOk s a b := by simpa using c
    rw [if_pos c]
    obtain ⟨hm, h0, h1, h2⟩ := c
    have hg := gapsOf_gap s a b h1
    have hl := hg.length h1
    refine Ev.bind (impl_gaps_ev s a b hm h0 h1 h2) ?_
    have l : ∀ (d i : Nat), (gapsOf s a b).length - i = d → i ≤ (gapsOf s a b).length → Ev (fun k => impl_FreeOf.l0 k (sumLen ((gapsOf s a b).take i)) (gapsOf s a b) ((gapsOf s a b).length : Int) (i : Int)) (sumLen (gapsOf s a b)) := by
      intro d
      induction d with
      | zero =>
        intro i hd hi
        refine Ev.step (fun k => by first | (rw [impl_FreeOf.l0]; done) | (rw [impl_FreeOf.l0]; rfl)) (Ev.neg (by omega) (Ev.eq ?_))
        rw [List.take_of_length_le (by omega)]
      | succ d ih =>
        intro i hd hi
        have hlt : i < (gapsOf s a b).length := by omega
        refine Ev.step (fun k => by first | (rw [impl_FreeOf.l0]; done) | (rw [impl_FreeOf.l0]; rfl)) (Ev.pos (by omega) (Ev.pos (by omega) (Ev.pos (by omega) ?_)))
        have hs := sumLen_take (gapsOf s a b) b h2 a h0 hg.each i hi
        have hx := hg.each _ (List.getElem_mem hlt)
        have e : sumLen ((gapsOf s a b).take (i + 1)) = sumLen ((gapsOf s a b).take i) + (gapsOf s a b)[i].f1 := by
          rw [take_snoc2 _ i hlt, sumLen_append]
          simp [sumLen]
        rw [rdT_get _ i hlt, w64 (x := (i : Int) + 1) (by omega) (by omega), w64 (by omega) (by omega), ← e]
        exact ih (i + 1) (by omega) (by omega)
    refine Ev.val (l _ 0 rfl (by omega)) ?_
    rw [gapsOf, sumLen_go]
    simp [sumLen]
  · rw [if_neg (by simpa using c)]

/-! ### FindRun -/
def allFree (t : Int → Bool) (i n : Int) : Prop := ∀ j, i ≤ j → j < i + n → t j = false
theorem allFree_dec (t : Int → Bool) (i n : Int) : allFree t i n ∨ ¬ allFree t i n := Classical.em _
/-- The least line of a .. at which n free ones begin that end at b at the latest; -1, if there is none. -/
def IsFirst (t : Int → Bool) (a b n x : Int) : Prop :=
  (x = -1 ∧ ∀ y, a ≤ y → y + n ≤ b → ¬ allFree t y n) ∨ (a ≤ x ∧ x + n ≤ b ∧ allFree t x n ∧ ∀ y, a ≤ y → y < x → ¬ allFree t y n)
theorem IsFirst.unique {t : Int → Bool} {a b n x y : Int} (ha : 0 ≤ a) (h : IsFirst t a b n x) (k : IsFirst t a b n y) : x = y := by
  rcases h with ⟨rfl, h⟩ | ⟨h0, h1, h2, h3⟩ <;> rcases k with ⟨rfl, k⟩ | ⟨k0, k1, k2, k3⟩
  · rfl
  · exact absurd k2 (h y k0 k1)
  · exact absurd h2 (k x h0 h1)
  · by_cases e : x < y
    · exact absurd h2 (k3 x h0 e)
    · by_cases e2 : y < x
      · exact absurd k2 (h3 y k0 e2)
      · omega
def firstGap : List S61 → Int → Int
  | [], _ => -1
  | x :: g, n => if x.f1 ≥ n then x.f0 else firstGap g n
theorem firstGap_isFirst {t : Int → Bool} {a b n : Int} (hn : 1 ≤ n) {g : List S61} (h : Gap t a b g) : IsFirst t a b n (firstGap g n) := by
  -- every run of free lines lies in a gap
  have run : ∀ y, a ≤ y → y + n ≤ b → allFree t y n → ∃ x ∈ g, x.f0 ≤ y ∧ y + n ≤ x.f0 + x.f1 := by
    intro y hy hb hf
    obtain ⟨x, hx, h1, h2⟩ := h.all y hy (by omega) (hf y (by omega) (by omega))
    refine ⟨x, hx, h1, ?_⟩
    by_cases e : y + n ≤ x.f0 + x.f1
    · exact e
    · have := h.stop x hx (by omega)
      rw [hf (x.f0 + x.f1) (by omega) (by omega)] at this
      cases this
  have key : ∀ (l r : List S61), g = l ++ r → (∀ x ∈ l, ¬ x.f1 ≥ n) → IsFirst t a b n (firstGap r n) := by
    intro l r
    induction r generalizing l with
    | nil =>
      intro e hl
      refine .inl ⟨rfl, fun y hy hb hf => ?_⟩
      obtain ⟨x, hx, h1, h2⟩ := run y hy hb hf
      exact hl x (by rw [e] at hx; simpa using hx) (by omega)
    | cons x r ih =>
      intro e hl
      have hxg : x ∈ g := by rw [e]; simp
      have hx := h.each x hxg
      simp only [firstGap]
      split
      · rename_i c
        refine .inr ⟨hx.1, by omega, fun j h0 h1 => h.free x hxg j h0 (by omega), fun y hy hlt hf => ?_⟩
        obtain ⟨z, hz, h1, h2⟩ := run y hy (by omega) hf
        have hs := h.sorted
        rw [e] at hs hz
        have hs := List.pairwise_append.1 hs
        rcases List.mem_append.1 hz with hz | hz
        · exact hl z hz (by omega)
        · rcases List.mem_cons.1 hz with rfl | hz
          · omega
          · have := (List.pairwise_cons.1 hs.2.1).1 z hz
            omega
      · rename_i c
        refine ih (l ++ [x]) (by rw [e]; simp) (fun z hz => ?_)
        rcases List.mem_append.1 hz with hz | hz
        · exact hl z hz
        · simp at hz; subst hz; exact c
  exact key [] g rfl (by simp)
theorem spec_l6Free_ev (s : ByteArray) (i n : Int) (hm : mapOk s) (h0 : 0 ≤ i) (hn : 0 ≤ n) (h2 : i + n ≤ 128) : ∃ b : Bool, Ev (fun k => spec_l6Free.f k s i n) b ∧ (b = true ↔ allFree (tk s) i n) := by
  have l : ∀ (d : Nat) (j : Int), (i + n - j).toNat = d → i ≤ j → j ≤ i + n → (∀ q, i ≤ q → q < j → tk s q = false) → ∃ b : Bool, Ev (fun k => spec_l6Free.l0 k s i n j) b ∧ (b = true ↔ allFree (tk s) i n) := by
    intro d
    induction d with
    | zero =>
      intro j hd hj hj2 hf
      refine ⟨true, Ev.step (fun k => by rw [spec_l6Free.l0]) ?_, by simp; exact fun q h0 h1 => hf q h0 (by omega)⟩
      rw [w64 (x := i + n) (by omega) (by omega)]
      exact Ev.neg (by omega) (Ev.eq rfl)
    | succ d ih =>
      intro j hd hj hj2 hf
      by_cases e : tk s j = true
      · refine ⟨false, Ev.step (fun k => by rw [spec_l6Free.l0]) ?_, by simp; exact fun h => by rw [h j hj (by omega)] at e; cases e⟩
        rw [w64 (x := i + n) (by omega) (by omega)]
        exact Ev.pos (by omega) (Ev.bindo (spec_bit s j hm (by omega) (by omega)) (Ev.pos e (Ev.eq rfl)))
      · obtain ⟨b, hb, hi⟩ := ih (j + 1) (by omega) (by omega) (by omega) (fun q h0 h1 => by
          by_cases e2 : q = j
          · subst e2; simpa using e
          · exact hf q h0 (by omega))
        refine ⟨b, Ev.step (fun k => by rw [spec_l6Free.l0]) ?_, hi⟩
        rw [w64 (x := i + n) (by omega) (by omega), w64 (x := j + 1) (by omega) (by omega)]
        exact Ev.pos (by omega) (Ev.bindo (spec_bit s j hm (by omega) (by omega)) (Ev.neg e hb))
  unfold spec_l6Free.f
  exact l _ i rfl (by omega) (by omega) (fun q h0 h1 => by omega)
def findOk (s : ByteArray) (a b n : Int) : Prop := areaOk s a b ∧ 1 ≤ n ∧ n ≤ 128
def findRun (s : ByteArray) (a b n : Int) : Int := if areaOk s a b then (if 1 ≤ n ∧ n ≤ 128 then firstGap (gapsOf s a b) n else -1) else -1
theorem spec_FindRun_ev (s : ByteArray) (a b n : Int) : Ev (fun k => spec_FindRun.f k s a b n) (findRun s a b n) := by
  unfold spec_FindRun.f findRun
  refine Ev.bindo (spec_l6Range_f s a b) (Ev.cases (fun c => ?_) (fun c => ?_))
  · have c : areaOk s a b := by simpa using c
    rw [if_pos c]
    obtain ⟨hm, h0, h1, h2⟩ := c
    refine Ev.bindo (l1In_f _ _ _) (Ev.step (fun k => by rw [spec_FindRun.j0]) ?_)
    refine Ev.cases (fun e => Ev.eq ?_) (fun e => ?_)
    · rw [if_neg (fun q => by simp [q.1, q.2] at e)]
    · have hn : 1 ≤ n ∧ n ≤ 128 := by simpa using e
      rw [if_pos hn]
      have l : ∀ (d : Nat) (i : Int), (b + 1 - i).toNat = d → a ≤ i → i ≤ b + 1 → (∀ y, a ≤ y → y < i → y + n ≤ b → ¬ allFree (tk s) y n) → ∃ x, Ev (fun k => spec_FindRun.l0 k s b n i) x ∧ IsFirst (tk s) a b n x := by
        intro d
        induction d with
        | zero =>
          intro i hd hi hb hf
          refine ⟨-1, Ev.step (fun k => by rw [spec_FindRun.l0]) ?_, .inl ⟨rfl, fun y hy hyb => hf y hy (by omega) hyb⟩⟩
          rw [w64 (x := i + n) (by omega) (by omega)]
          exact Ev.neg (by omega) (Ev.eq rfl)
        | succ d ih =>
          intro i hd hi hb hf
          by_cases hin : i + n ≤ b
          · obtain ⟨q, hq, hqf⟩ := spec_l6Free_ev s i n hm (by omega) (by omega) (by omega)
            by_cases e : q = true
            · refine ⟨i, Ev.step (fun k => by rw [spec_FindRun.l0]) ?_, .inr ⟨hi, hin, hqf.1 e, fun y hy hlt => hf y hy hlt (by omega)⟩⟩
              rw [w64 (x := i + n) (by omega) (by omega)]
              exact Ev.pos hin (Ev.bind hq (Ev.pos e (Ev.eq rfl)))
            · obtain ⟨x, hx, hfx⟩ := ih (i + 1) (by omega) (by omega) (by omega) (fun y hy hlt hyb => by
                by_cases e2 : y = i
                · subst e2; exact fun h => e (hqf.2 h)
                · exact hf y hy (by omega) hyb)
              refine ⟨x, Ev.step (fun k => by rw [spec_FindRun.l0]) ?_, hfx⟩
              rw [w64 (x := i + n) (by omega) (by omega), w64 (x := i + 1) (by omega) (by omega)]
              exact Ev.pos hin (Ev.bind hq (Ev.neg e hx))
          · refine ⟨-1, Ev.step (fun k => by rw [spec_FindRun.l0]) ?_, .inl ⟨rfl, fun y hy hyb => hf y hy (by omega) hyb⟩⟩
            rw [w64 (x := i + n) (by omega) (by omega)]
            exact Ev.neg (by omega) (Ev.eq rfl)
      obtain ⟨x, hx, hfx⟩ := l _ a rfl (by omega) (by omega) (fun y hy hlt => by omega)
      exact Ev.val hx (hfx.unique h0 (firstGap_isFirst hn.1 (gapsOf_gap s a b h1)))
  · rw [if_neg (by simpa using c)]
    exact Ev.step (fun k => by rw [spec_FindRun.j0]) (Ev.pos rfl (Ev.eq rfl))
theorem impl_FindRun_ev (s : ByteArray) (a b n : Int) : Ev (fun k => impl_FindRun.f k s a b n) (findRun s a b n) := by
  unfold impl_FindRun.f findRun
  refine Ev.bindo (impl_isArea_f s a b) (Ev.cases (fun c => ?_) (fun c => ?_))
  · have c : areaOk s a b := by simpa using c
    rw [if_pos c]
    obtain ⟨hm, h0, h1, h2⟩ := c
    refine Ev.bindo (within_f _ _ _) (Ev.step (fun k => by rw [impl_FindRun.j0]) ?_)
    refine Ev.cases (fun e => Ev.eq ?_) (fun e => ?_)
    · rw [if_neg (fun q => by simp [q.1, q.2] at e)]
    · have hn : 1 ≤ n ∧ n ≤ 128 := by simpa using e
      rw [if_pos hn]
      refine Ev.bind (impl_gaps_ev s a b hm h0 h1 h2) ?_
      have hl := (gapsOf_gap s a b h1).length h1
      have l : ∀ (d i : Nat), (gapsOf s a b).length - i = d → i ≤ (gapsOf s a b).length → Ev (fun k => impl_FindRun.l0 k n (gapsOf s a b) ((gapsOf s a b).length : Int) (i : Int)) (firstGap ((gapsOf s a b).drop i) n) := by
        intro d
        induction d with
        | zero =>
          intro i hd hi
          refine Ev.step (fun k => by first | (rw [impl_FindRun.l0]; done) | (rw [impl_FindRun.l0]; rfl)) (Ev.neg (by omega) (Ev.eq ?_))
          rw [List.drop_eq_nil_of_le (by omega)]; rfl
        | succ d ih =>
          intro i hd hi
          have hlt : i < (gapsOf s a b).length := by omega
          refine Ev.step (fun k => by first | (rw [impl_FindRun.l0]; done) | (rw [impl_FindRun.l0]; rfl)) (Ev.pos (by omega) (Ev.pos (by omega) (Ev.pos (by omega) ?_)))
          rw [rdT_get _ i hlt, List.drop_eq_getElem_cons hlt, firstGap, show wrap64 ((i : Int) + 1) = ((i + 1 : Nat) : Int) from by rw [w64 (by omega) (by omega)]; omega]
          refine Ev.cases (fun e => Ev.eq (by rw [if_pos e])) (fun e => ?_)
          rw [if_neg e]
          exact ih (i + 1) (by omega) (by omega)
      exact Ev.val (l _ 0 rfl (by omega)) (by rw [List.drop_zero])
  · rw [if_neg (by simpa using c)]
    exact Ev.step (fun k => by rw [impl_FindRun.j0]) (Ev.pos rfl (Ev.eq rfl))
end Go.Proofs.Ytpeimlpipopeoaa.Pure
namespace Go.Proofs.Ytpeimlpipopeoaa.X
open Go.RowKit Go.Proofs.YtpeimlpipopeoaaW.PrintWords Go.Proofs.YtpeimlpipopeoaaW.PrintLast Go.Proofs.YtpeimlpipopeoaaW.PrintMore
attribute [local go_sem] max2_int min2_int max_two min_two max_three min_three max_four min_four   -- for this text's walks alone
set_option linter.unusedVariables false
set_option linter.unusedSimpArgs false

/-! ### impl_isRun: function 77 -/
mutual
def impl_isRun.j0 : Nat → ByteArray → Int → Int → Bool → Bool → Option (Bool)
  | 0, _, _, _, _, _ => none
  | k + 1, x0, x1, x2, x3, x24 => if x24 = true then (some false) else (impl_isRun.l0 k x0 x1 x2 x3 x1)
def impl_isRun.l0 : Nat → ByteArray → Int → Int → Bool → Int → Option (Bool)
  | 0, _, _, _, _, _ => none
  | k + 1, x0, x1, x2, x3, x9 => if x9 < (wrap64 (x1 + x2)) then ((impl_isTaken.f x0 x9).bind fun t487 => (if (t487 != x3) = true then (some false) else (impl_isRun.l0 k x0 x1 x2 x3 (wrap64 (x9 + 1))))) else (some true)
end
def impl_isRun.f (k : Nat) (a0 : ByteArray) (a1 : Int) (a2 : Int) (a3 : Bool) : Option (Bool) := (impl_isMap.f a0).bind fun t484 => (if t484 = true then ((impl_within.f a2 1 128).bind fun t485 => (if t485 = true then ((impl_within.f a1 0 (wrap64 (128 - a2))).bind fun t486 => (impl_isRun.j0 k a0 a1 a2 a3 (!t486))) else (impl_isRun.j0 k a0 a1 a2 a3 true))) else (impl_isRun.j0 k a0 a1 a2 a3 true))
theorem impl_isRun.mono_l : ∀ k, (∀ y0 y1 y2 y3 y4, LeO (impl_isRun.j0 k y0 y1 y2 y3 y4) (impl_isRun.j0 (k + 1) y0 y1 y2 y3 y4)) ∧ (∀ y0 y1 y2 y3 y4, LeO (impl_isRun.l0 k y0 y1 y2 y3 y4) (impl_isRun.l0 (k + 1) y0 y1 y2 y3 y4))
  | 0 => ⟨fun _ _ _ _ _ r h => by simp [impl_isRun.j0] at h, fun _ _ _ _ _ r h => by simp [impl_isRun.l0] at h⟩
  | k + 1 => by
    obtain ⟨ih0, ih1⟩ := impl_isRun.mono_l k
    refine ⟨?_, ?_⟩
    · intro y0 y1 y2 y3 y4
      unfold impl_isRun.j0
      repeat' first
      | (with_reducible exact ih0 _ _ _ _ _)
      | (with_reducible exact ih1 _ _ _ _ _)
      | (with_reducible exact LeO.refl _)
      | (with_reducible exact LeO.none _)
      | (with_reducible refine LeO.ite ?_ ?_)
      | (with_reducible refine LeO.bind ?_ (fun _ => ?_))
      | exact ih0 _ _ _ _ _
      | exact ih1 _ _ _ _ _
      | exact LeO.none _
      | refine LeO.ite ?_ ?_
      | refine LeO.bind ?_ (fun _ => ?_)
    · intro y0 y1 y2 y3 y4
      unfold impl_isRun.l0
      repeat' first
      | (with_reducible exact ih0 _ _ _ _ _)
      | (with_reducible exact ih1 _ _ _ _ _)
      | (with_reducible exact LeO.refl _)
      | (with_reducible exact LeO.none _)
      | (with_reducible refine LeO.ite ?_ ?_)
      | (with_reducible refine LeO.bind ?_ (fun _ => ?_))
      | exact ih0 _ _ _ _ _
      | exact ih1 _ _ _ _ _
      | exact LeO.none _
      | refine LeO.ite ?_ ?_
      | refine LeO.bind ?_ (fun _ => ?_)
theorem impl_isRun.mono : ∀ a0 a1 a2 a3 k, LeO (impl_isRun.f k a0 a1 a2 a3) (impl_isRun.f (k + 1) a0 a1 a2 a3) := by
  intro a0 a1 a2 a3 k
  obtain ⟨ih0, ih1⟩ := impl_isRun.mono_l k
  unfold impl_isRun.f
  repeat' first
      | (with_reducible exact ih0 _ _ _ _ _)
      | (with_reducible exact ih1 _ _ _ _ _)
      | (with_reducible exact LeO.refl _)
      | (with_reducible exact LeO.none _)
      | (with_reducible refine LeO.ite ?_ ?_)
      | (with_reducible refine LeO.bind ?_ (fun _ => ?_))
      | exact ih0 _ _ _ _ _
      | exact ih1 _ _ _ _ _
      | exact LeO.none _
      | refine LeO.ite ?_ ?_
      | refine LeO.bind ?_ (fun _ => ?_)
set_option maxHeartbeats 8000000 in
set_option maxRecDepth 100000 in
theorem impl_isRun.calls (k : Nat) (a0 : ByteArray) (a1 : Int) (a2 : Int) (a3 : Bool) (r : Bool) (w : World) (h : impl_isRun.f k a0 a1 a2 a3 = some r) :
    Calls Try.prog 77 #[.string a0, .int .i64 a1, .int .i64 a2, .bool a3] w fun e w' => e = .returned (.bool r) ∧ Below w.heap.size w w' := by
  have HB := Aside0.mk (Below.refl w.heap.size w)
  have H : ((impl_isMap.f a0).bind fun t484 => (if t484 = true then ((impl_within.f a2 1 128).bind fun t485 => (if t485 = true then ((impl_within.f a1 0 (wrap64 (128 - a2))).bind fun t486 => (impl_isRun.j0 k a0 a1 a2 a3 (!t486))) else (impl_isRun.j0 k a0 a1 a2 a3 true))) else (impl_isRun.j0 k a0 a1 a2 a3 true))) = some r := h
  clear h
  have HC5 := Aside0.mk H
  clear H
  go_enter Try.func77, Try.ntmps77
  go_upto_region 1 with (fail)
  go_cut [24] (fun v24 wc => ∃ (kq : Nat) (x24_4 : Bool), v24 = .bool x24_4 ∧ Aside0 (impl_isRun.j0 kq a0 a1 a2 a3 x24_4 = some r) ∧ Aside0 (kq ≤ k) ∧ Aside0 (Below w.heap.size w wc))
  case first =>
    have H := HC5.out
    clear HC5
    replace H := Option.bind_eq_some_iff.mp H
    obtain ⟨t484, A60, H⟩ := H
    replace H : (if t484 = true then ((impl_within.f a2 1 128).bind fun t485 => (if t485 = true then ((impl_within.f a1 0 (wrap64 (128 - a2))).bind fun t486 => (impl_isRun.j0 k a0 a1 a2 a3 (!t486))) else (impl_isRun.j0 k a0 a1 a2 a3 true))) else (impl_isRun.j0 k a0 a1 a2 a3 true)) = some r := H
    have A6 := Aside0.mk A60
    clear A60
    by_cases c7 : t484 = true
    · subst c7
      have H1 : ((impl_within.f a2 1 128).bind fun t485 => (if t485 = true then ((impl_within.f a1 0 (wrap64 (128 - a2))).bind fun t486 => (impl_isRun.j0 k a0 a1 a2 a3 (!t486))) else (impl_isRun.j0 k a0 a1 a2 a3 true))) = some r := by rw [if_pos rfl] at H; exact H
      clear H
      have H := H1
      clear H1
      replace H := Option.bind_eq_some_iff.mp H
      obtain ⟨t485, A80, H⟩ := H
      replace H : (if t485 = true then ((impl_within.f a1 0 (wrap64 (128 - a2))).bind fun t486 => (impl_isRun.j0 k a0 a1 a2 a3 (!t486))) else (impl_isRun.j0 k a0 a1 a2 a3 true)) = some r := H
      have A8 := Aside0.mk A80
      clear A80
      by_cases c9 : t485 = true
      · subst c9
        have H1 : ((impl_within.f a1 0 (wrap64 (128 - a2))).bind fun t486 => (impl_isRun.j0 k a0 a1 a2 a3 (!t486))) = some r := by rw [if_pos rfl] at H; exact H
        clear H
        have H := H1
        clear H1
        replace H := Option.bind_eq_some_iff.mp H
        obtain ⟨t486, A100, H⟩ := H
        replace H : (impl_isRun.j0 k a0 a1 a2 a3 (!t486)) = some r := H
        have A10 := Aside0.mk A100
        clear A100
        have H' := Aside0.mk H
        clear H
        go_wp2_with (first | ((with_reducible refine gate_callee (f := 72) rfl ?_); refine goesL_ (some 11) rfl rfl Try.func72 (by kernel_rfl) rfl #[.string a0] rfl (by (try simp only [List.map_toArray, List.map_cons, List.map_nil]); first | done | rfl | (simp only [List.length_drop, List.length_take]; rfl)) ?_; (with_reducible refine (impl_isMap.calls a0 true _ A6.out).mono ?_); rintro e w11 ⟨rfl, hb⟩; refine ⟨_, rfl, ?_⟩; have n0_ := Aside0.mk (below_step (by repeat (first | (with_reducible first | exact HB.out | apply below_alloc | apply pw_below_drewN | apply below_drew1) | exact HB.out)) hb); clear HB; have HB := n0_; clear n0_; (try clear hb); (try clear hb2); (try clear hk); (try clear hi)) | (go_at_call 49; (with_reducible refine (impl_within.calls a2 1 128 true _ A8.out).mono ?_); rintro e w' ⟨rfl, ⟨nd, rfl⟩⟩) | (go_at_call 49; (with_reducible refine (impl_within.calls a1 0 (wrap64 (128 - a2)) t486 _ A10.out).mono ?_); rintro e w' ⟨rfl, ⟨nd, rfl⟩⟩))
        go_meet
        case rel => exact ⟨_, (!t486), (by first | rfl | (simp; done) | (simp [*]; done)), H', ⟨by first | omega | exact Nat.le_refl _⟩, ⟨by repeat (first | (with_reducible first | exact HB.out | apply below_alloc | apply pw_below_drewN | apply below_drew1) | exact HB.out)⟩⟩
      · replace c9 := Bool.eq_false_iff.mpr c9
        subst c9
        have H1 : (impl_isRun.j0 k a0 a1 a2 a3 true) = some r := by rw [if_neg (show ¬ (false = true) by decide)] at H; exact H
        clear H
        have H := H1
        clear H1
        have H' := Aside0.mk H
        clear H
        go_wp2_with (first | ((with_reducible refine gate_callee (f := 72) rfl ?_); refine goesL_ (some 11) rfl rfl Try.func72 (by kernel_rfl) rfl #[.string a0] rfl (by (try simp only [List.map_toArray, List.map_cons, List.map_nil]); first | done | rfl | (simp only [List.length_drop, List.length_take]; rfl)) ?_; (with_reducible refine (impl_isMap.calls a0 true _ A6.out).mono ?_); rintro e w12 ⟨rfl, hb⟩; refine ⟨_, rfl, ?_⟩; have n0_ := Aside0.mk (below_step (by repeat (first | (with_reducible first | exact HB.out | apply below_alloc | apply pw_below_drewN | apply below_drew1) | exact HB.out)) hb); clear HB; have HB := n0_; clear n0_; (try clear hb); (try clear hb2); (try clear hk); (try clear hi)) | (go_at_call 49; (with_reducible refine (impl_within.calls a2 1 128 false _ A8.out).mono ?_); rintro e w' ⟨rfl, ⟨nd, rfl⟩⟩))
        go_meet
        case rel => exact ⟨_, (true), (by first | rfl | (simp; done) | (simp [*]; done)), H', ⟨by first | omega | exact Nat.le_refl _⟩, ⟨by repeat (first | (with_reducible first | exact HB.out | apply below_alloc | apply pw_below_drewN | apply below_drew1) | exact HB.out)⟩⟩
    · replace c7 := Bool.eq_false_iff.mpr c7
      subst c7
      have H1 : (impl_isRun.j0 k a0 a1 a2 a3 true) = some r := by rw [if_neg (show ¬ (false = true) by decide)] at H; exact H
      clear H
      have H := H1
      clear H1
      have H' := Aside0.mk H
      clear H
      go_wp2_with (first | ((with_reducible refine gate_callee (f := 72) rfl ?_); refine goesL_ (some 11) rfl rfl Try.func72 (by kernel_rfl) rfl #[.string a0] rfl (by (try simp only [List.map_toArray, List.map_cons, List.map_nil]); first | done | rfl | (simp only [List.length_drop, List.length_take]; rfl)) ?_; (with_reducible refine (impl_isMap.calls a0 false _ A6.out).mono ?_); rintro e w13 ⟨rfl, hb⟩; refine ⟨_, rfl, ?_⟩; have n0_ := Aside0.mk (below_step (by repeat (first | (with_reducible first | exact HB.out | apply below_alloc | apply pw_below_drewN | apply below_drew1) | exact HB.out)) hb); clear HB; have HB := n0_; clear n0_; (try clear hb); (try clear hb2); (try clear hk); (try clear hi)))
      go_meet
      case rel => exact ⟨_, (true), (by first | rfl | (simp; done) | (simp [*]; done)), H', ⟨by first | omega | exact Nat.le_refl _⟩, ⟨by repeat (first | (with_reducible first | exact HB.out | apply below_alloc | apply pw_below_drewN | apply below_drew1) | exact HB.out)⟩⟩
  case rest =>
    clear HC5
    try clear p2
    try clear p6
    try clear c7
    try clear c9
    obtain ⟨kq, x24_4, rfl, HA, HJ4, HB⟩ := hcut
    cases kq with
    | zero => exact absurd HA.out (by simp [impl_isRun.j0])
    | succ kj4 =>
      have H := HA.out
      clear HA
      simp only [impl_isRun.j0] at H
      by_cases c14 : x24_4 = true
      · subst c14
        have H1 : (some false) = some r := by rw [if_pos rfl] at H; exact H
        clear H
        have H := H1
        clear H1
        obtain rfl := Option.some.inj H
        go_wp2
        go_ret
        exact ⟨by first | rfl | (simp [errW_none, errW_some] <;> rfl) | (simp [*, errW_none, errW_some] <;> rfl), by repeat (first | (with_reducible first | exact HB.out | apply below_alloc | apply pw_below_drewN | apply below_drew1) | exact HB.out)⟩
      · replace c14 := Bool.eq_false_iff.mpr c14
        subst c14
        have H1 : (impl_isRun.l0 kj4 a0 a1 a2 a3 a1) = some r := by rw [if_neg (show ¬ (false = true) by decide)] at H; exact H
        clear H
        have H := H1
        clear H1
        have H' := Aside0.mk H
        clear H
        go_wp2
        go_loopg [9] kj4 (fun kq v9 w' => ∃ (x9_2 : Int), v9 = .int .i64 x9_2 ∧ Aside0 (impl_isRun.l0 kq a0 a1 a2 a3 x9_2 = some r) ∧ Aside0 (kq ≤ kj4) ∧ Aside0 (Below w.heap.size w w'))
        case atStart => exact ⟨(a1), (by first | rfl | (simp; done) | (simp [*]; done)), H', ⟨Nat.le_refl _⟩, ⟨by repeat (first | (with_reducible first | exact HB.out | apply below_alloc | apply pw_below_drewN | apply below_drew1) | exact HB.out)⟩⟩
        case round =>
          clear H'
          try clear c1
          try clear p2
          try clear p6
          try clear c7
          try clear c9
          try clear c14
          try clear p2
          try clear p6
          obtain ⟨x9_2, rfl, HA, HK2, HB⟩ := hrel
          cases gk with
          | zero => exact absurd HA.out (by simp [impl_isRun.l0])
          | succ k2 =>
            have H := HA.out
            clear HA
            simp only [impl_isRun.l0] at H
            by_cases c15 : x9_2 < (wrap64 (a1 + a2))
            · rw [if_pos c15] at H
              have c15b0 : decide (x9_2 < (wrap64 (a1 + a2))) = true := decide_eq_true c15
              clear c15
              replace H := Option.bind_eq_some_iff.mp H
              obtain ⟨t487, A160, H⟩ := H
              replace H : (if (t487 != a3) = true then (some false) else (impl_isRun.l0 k2 a0 a1 a2 a3 (wrap64 (x9_2 + 1)))) = some r := H
              have A16 := Aside0.mk A160
              clear A160
              by_cases c17 : (t487 != a3) = true
              · rw [if_pos c17] at H
                have c17b0 : (t487 != a3) = true := c17
                (try (have c17b1 : decide (t487 = a3) = false := by simpa using c17))
                (try (have c17b2 : (t487 == a3) = false := by simpa using c17))
                (try (have c17b3 : ¬ (t487 = a3) := by simpa using c17))
                clear c17
                obtain rfl := Option.some.inj H
                go_wp2_with (first | ((with_reducible refine gate_callee (f := 73) rfl ?_); refine goesL_ (some 35) rfl rfl Try.func73 (by kernel_rfl) rfl #[.string a0, .int .i64 x9_2] rfl (by (try simp only [List.map_toArray, List.map_cons, List.map_nil]); first | done | rfl | (simp only [List.length_drop, List.length_take]; rfl)) ?_; (with_reducible refine (impl_isTaken.calls a0 x9_2 t487 _ A16.out).mono ?_); rintro e w' ⟨rfl, ⟨nd, rfl⟩⟩; refine ⟨_, rfl, ?_⟩))
                go_ret
                exact ⟨by first | rfl | (simp [errW_none, errW_some] <;> rfl) | (simp [*, errW_none, errW_some] <;> rfl), by repeat (first | (with_reducible first | exact HB.out | apply below_alloc | apply pw_below_drewN | apply below_drew1) | exact HB.out)⟩
              · rw [if_neg c17] at H
                have c17b0 : (t487 != a3) = false := by simpa using c17
                (try (have c17b1 : decide (t487 = a3) = true := by simpa using c17))
                (try (have c17b2 : (t487 == a3) = true := by simpa using c17))
                clear c17
                have H' := Aside0.mk H
                clear H
                go_wp2_with (first | ((with_reducible refine gate_callee (f := 73) rfl ?_); refine goesL_ (some 35) rfl rfl Try.func73 (by kernel_rfl) rfl #[.string a0, .int .i64 x9_2] rfl (by (try simp only [List.map_toArray, List.map_cons, List.map_nil]); first | done | rfl | (simp only [List.length_drop, List.length_take]; rfl)) ?_; (with_reducible refine (impl_isTaken.calls a0 x9_2 t487 _ A16.out).mono ?_); rintro e w' ⟨rfl, ⟨nd, rfl⟩⟩; refine ⟨_, rfl, ?_⟩))
                go_roundg k2
                case measure => have := HJ4.out; have := HK2.out; omega
                case rel => exact ⟨(wrap64 (x9_2 + 1)), (by first | rfl | (simp; done) | (simp [*]; done)), H', ⟨by have := HJ4.out; have := HK2.out; omega⟩, ⟨by repeat (first | (with_reducible first | exact HB.out | apply below_alloc | apply pw_below_drewN | apply below_drew1) | exact HB.out)⟩⟩
            · rw [if_neg c15] at H
              have c15b0 : decide (x9_2 < (wrap64 (a1 + a2))) = false := decide_eq_false c15
              clear c15
              obtain rfl := Option.some.inj H
              go_wp2
              go_ret
              exact ⟨by first | rfl | (simp [errW_none, errW_some] <;> rfl) | (simp [*, errW_none, errW_some] <;> rfl), by repeat (first | (with_reducible first | exact HB.out | apply below_alloc | apply pw_below_drewN | apply below_drew1) | exact HB.out)⟩

end Go.Proofs.Ytpeimlpipopeoaa.X
namespace Go.Proofs.Ytpeimlpipopeoaa.X
open Go.RowKit Go.Proofs.YtpeimlpipopeoaaW.PrintWords Go.Proofs.YtpeimlpipopeoaaW.PrintLast Go.Proofs.YtpeimlpipopeoaaW.PrintMore
attribute [local go_sem] max2_int min2_int max_two min_two max_three min_three max_four min_four   -- for this text's walks alone
set_option linter.unusedVariables false
set_option linter.unusedSimpArgs false

/-! ### impl_TakeRun: function 42 -/
def impl_TakeRun.f (k : Nat) (a0 : ByteArray) (a1 : Int) (a2 : Int) : Option (ByteArray × Bool) := (impl_isRun.f k a0 a1 a2 false).bind fun t497 => (if t497 = true then ((impl_changedMap.f a0 a1 a2 true).bind fun t498 => (some (t498, true))) else (some ((⟨#[]⟩ : ByteArray), false)))
theorem impl_TakeRun.mono : ∀ a0 a1 a2 k, LeO (impl_TakeRun.f k a0 a1 a2) (impl_TakeRun.f (k + 1) a0 a1 a2) := by
  intro a0 a1 a2 k
  unfold impl_TakeRun.f
  repeat' first
      | (with_reducible exact impl_isRun.mono _ _ _ _ _)
      | (with_reducible exact LeO.refl _)
      | (with_reducible exact LeO.none _)
      | (with_reducible refine LeO.ite ?_ ?_)
      | (with_reducible refine LeO.bind ?_ (fun _ => ?_))
      | exact impl_isRun.mono _ _ _ _ _
      | exact LeO.none _
      | refine LeO.ite ?_ ?_
      | refine LeO.bind ?_ (fun _ => ?_)
set_option maxHeartbeats 8000000 in
set_option maxRecDepth 100000 in
theorem impl_TakeRun.calls (k : Nat) (a0 : ByteArray) (a1 : Int) (a2 : Int) (r1 : ByteArray) (r2 : Bool) (w : World) (h : impl_TakeRun.f k a0 a1 a2 = some (r1, r2)) :
    Calls Try.prog 42 #[.string a0, .int .i64 a1, .int .i64 a2] w fun e w' => e = .returned (.tuple #[.string r1, .bool r2]) ∧ Below w.heap.size w w' := by
  have HB := Aside0.mk (Below.refl w.heap.size w)
  have H : ((impl_isRun.f k a0 a1 a2 false).bind fun t497 => (if t497 = true then ((impl_changedMap.f a0 a1 a2 true).bind fun t498 => (some (t498, true))) else (some ((⟨#[]⟩ : ByteArray), false)))) = some (r1, r2) := h
  clear h
  replace H := Option.bind_eq_some_iff.mp H
  obtain ⟨t497, A40, H⟩ := H
  replace H : (if t497 = true then ((impl_changedMap.f a0 a1 a2 true).bind fun t498 => (some (t498, true))) else (some ((⟨#[]⟩ : ByteArray), false))) = some (r1, r2) := H
  have A4 := Aside0.mk A40
  clear A40
  by_cases c5 : t497 = true
  · subst c5
    have H1 : ((impl_changedMap.f a0 a1 a2 true).bind fun t498 => (some (t498, true))) = some (r1, r2) := by rw [if_pos rfl] at H; exact H
    clear H
    have H := H1
    clear H1
    replace H := Option.bind_eq_some_iff.mp H
    obtain ⟨t498, A60, H⟩ := H
    replace H : (some (t498, true)) = some (r1, r2) := H
    have A6 := Aside0.mk A60
    clear A60
    simp only [Option.some.injEq, Prod.mk.injEq] at H
    obtain ⟨rfl, rfl⟩ := H
    go_enter Try.func42, Try.ntmps42
    go_wp2_with (first | ((with_reducible refine gate_callee (f := 77) rfl ?_); refine goesL_ (some 11) rfl rfl Try.func77 (by kernel_rfl) rfl #[.string a0, .int .i64 a1, .int .i64 a2, .bool false] rfl (by (try simp only [List.map_toArray, List.map_cons, List.map_nil]); first | done | rfl | (simp only [List.length_drop, List.length_take]; rfl)) ?_; (with_reducible refine (impl_isRun.calls k a0 a1 a2 false true _ A4.out).mono ?_); rintro e w7 ⟨rfl, hb⟩; refine ⟨_, rfl, ?_⟩; have n0_ := Aside0.mk (below_step (by repeat (first | (with_reducible first | exact HB.out | apply below_alloc | apply pw_below_drewN | apply below_drew1) | exact HB.out)) hb); clear HB; have HB := n0_; clear n0_; (try clear hb); (try clear hb2); (try clear hk); (try clear hi)) | ((with_reducible refine gate_callee (f := 70) rfl ?_); refine goesL_ (some 16) rfl rfl Try.func70 (by kernel_rfl) rfl #[.string a0, .int .i64 a1, .int .i64 a2, .bool true] rfl (by (try simp only [List.map_toArray, List.map_cons, List.map_nil]); first | done | rfl | (simp only [List.length_drop, List.length_take]; rfl)) ?_; (with_reducible refine (impl_changedMap.calls a0 a1 a2 true t498 _ A6.out).mono ?_); rintro e w8 ⟨rfl, hb⟩; refine ⟨_, rfl, ?_⟩; have n0_ := Aside0.mk (below_step (by repeat (first | (with_reducible first | exact HB.out | apply below_alloc | apply pw_below_drewN | apply below_drew1) | exact HB.out)) hb); clear HB; have HB := n0_; clear n0_; (try clear hb); (try clear hb2); (try clear hk); (try clear hi)))
    go_ret2
    exact ⟨by first | rfl | (simp [errW_none, errW_some] <;> rfl) | (simp [*, errW_none, errW_some] <;> rfl), by repeat (first | (with_reducible first | exact HB.out | apply below_alloc | apply pw_below_drewN | apply below_drew1) | exact HB.out)⟩
  · replace c5 := Bool.eq_false_iff.mpr c5
    subst c5
    have H1 : (some ((⟨#[]⟩ : ByteArray), false)) = some (r1, r2) := by rw [if_neg (show ¬ (false = true) by decide)] at H; exact H
    clear H
    have H := H1
    clear H1
    simp only [Option.some.injEq, Prod.mk.injEq] at H
    obtain ⟨rfl, rfl⟩ := H
    go_enter Try.func42, Try.ntmps42
    go_wp2_with (first | ((with_reducible refine gate_callee (f := 77) rfl ?_); refine goesL_ (some 11) rfl rfl Try.func77 (by kernel_rfl) rfl #[.string a0, .int .i64 a1, .int .i64 a2, .bool false] rfl (by (try simp only [List.map_toArray, List.map_cons, List.map_nil]); first | done | rfl | (simp only [List.length_drop, List.length_take]; rfl)) ?_; (with_reducible refine (impl_isRun.calls k a0 a1 a2 false false _ A4.out).mono ?_); rintro e w9 ⟨rfl, hb⟩; refine ⟨_, rfl, ?_⟩; have n0_ := Aside0.mk (below_step (by repeat (first | (with_reducible first | exact HB.out | apply below_alloc | apply pw_below_drewN | apply below_drew1) | exact HB.out)) hb); clear HB; have HB := n0_; clear n0_; (try clear hb); (try clear hb2); (try clear hk); (try clear hi)))
    go_ret2
    exact ⟨by first | rfl | (simp [errW_none, errW_some] <;> rfl) | (simp [*, errW_none, errW_some] <;> rfl), by repeat (first | (with_reducible first | exact HB.out | apply below_alloc | apply pw_below_drewN | apply below_drew1) | exact HB.out)⟩

end Go.Proofs.Ytpeimlpipopeoaa.X
namespace Go.Proofs.Ytpeimlpipopeoaa.X
open Go.RowKit Go.Proofs.YtpeimlpipopeoaaW.PrintWords Go.Proofs.YtpeimlpipopeoaaW.PrintLast Go.Proofs.YtpeimlpipopeoaaW.PrintMore
attribute [local go_sem] max2_int min2_int max_two min_two max_three min_three max_four min_four   -- for this text's walks alone
set_option linter.unusedVariables false
set_option linter.unusedSimpArgs false

/-! ### impl_GiveRun: function 40 -/
def impl_GiveRun.f (k : Nat) (a0 : ByteArray) (a1 : Int) (a2 : Int) : Option (ByteArray × Bool) := (impl_isRun.f k a0 a1 a2 true).bind fun t488 => (if t488 = true then ((impl_changedMap.f a0 a1 a2 false).bind fun t489 => (some (t489, true))) else (some ((⟨#[]⟩ : ByteArray), false)))
theorem impl_GiveRun.mono : ∀ a0 a1 a2 k, LeO (impl_GiveRun.f k a0 a1 a2) (impl_GiveRun.f (k + 1) a0 a1 a2) := by
  intro a0 a1 a2 k
  unfold impl_GiveRun.f
  repeat' first
      | (with_reducible exact impl_isRun.mono _ _ _ _ _)
      | (with_reducible exact LeO.refl _)
      | (with_reducible exact LeO.none _)
      | (with_reducible refine LeO.ite ?_ ?_)
      | (with_reducible refine LeO.bind ?_ (fun _ => ?_))
      | exact impl_isRun.mono _ _ _ _ _
      | exact LeO.none _
      | refine LeO.ite ?_ ?_
      | refine LeO.bind ?_ (fun _ => ?_)
set_option maxHeartbeats 8000000 in
set_option maxRecDepth 100000 in
theorem impl_GiveRun.calls (k : Nat) (a0 : ByteArray) (a1 : Int) (a2 : Int) (r1 : ByteArray) (r2 : Bool) (w : World) (h : impl_GiveRun.f k a0 a1 a2 = some (r1, r2)) :
    Calls Try.prog 40 #[.string a0, .int .i64 a1, .int .i64 a2] w fun e w' => e = .returned (.tuple #[.string r1, .bool r2]) ∧ Below w.heap.size w w' := by
  have HB := Aside0.mk (Below.refl w.heap.size w)
  have H : ((impl_isRun.f k a0 a1 a2 true).bind fun t488 => (if t488 = true then ((impl_changedMap.f a0 a1 a2 false).bind fun t489 => (some (t489, true))) else (some ((⟨#[]⟩ : ByteArray), false)))) = some (r1, r2) := h
  clear h
  replace H := Option.bind_eq_some_iff.mp H
  obtain ⟨t488, A40, H⟩ := H
  replace H : (if t488 = true then ((impl_changedMap.f a0 a1 a2 false).bind fun t489 => (some (t489, true))) else (some ((⟨#[]⟩ : ByteArray), false))) = some (r1, r2) := H
  have A4 := Aside0.mk A40
  clear A40
  by_cases c5 : t488 = true
  · subst c5
    have H1 : ((impl_changedMap.f a0 a1 a2 false).bind fun t489 => (some (t489, true))) = some (r1, r2) := by rw [if_pos rfl] at H; exact H
    clear H
    have H := H1
    clear H1
    replace H := Option.bind_eq_some_iff.mp H
    obtain ⟨t489, A60, H⟩ := H
    replace H : (some (t489, true)) = some (r1, r2) := H
    have A6 := Aside0.mk A60
    clear A60
    simp only [Option.some.injEq, Prod.mk.injEq] at H
    obtain ⟨rfl, rfl⟩ := H
    go_enter Try.func40, Try.ntmps40
    go_wp2_with (first | ((with_reducible refine gate_callee (f := 77) rfl ?_); refine goesL_ (some 11) rfl rfl Try.func77 (by kernel_rfl) rfl #[.string a0, .int .i64 a1, .int .i64 a2, .bool true] rfl (by (try simp only [List.map_toArray, List.map_cons, List.map_nil]); first | done | rfl | (simp only [List.length_drop, List.length_take]; rfl)) ?_; (with_reducible refine (impl_isRun.calls k a0 a1 a2 true true _ A4.out).mono ?_); rintro e w7 ⟨rfl, hb⟩; refine ⟨_, rfl, ?_⟩; have n0_ := Aside0.mk (below_step (by repeat (first | (with_reducible first | exact HB.out | apply below_alloc | apply pw_below_drewN | apply below_drew1) | exact HB.out)) hb); clear HB; have HB := n0_; clear n0_; (try clear hb); (try clear hb2); (try clear hk); (try clear hi)) | ((with_reducible refine gate_callee (f := 70) rfl ?_); refine goesL_ (some 16) rfl rfl Try.func70 (by kernel_rfl) rfl #[.string a0, .int .i64 a1, .int .i64 a2, .bool false] rfl (by (try simp only [List.map_toArray, List.map_cons, List.map_nil]); first | done | rfl | (simp only [List.length_drop, List.length_take]; rfl)) ?_; (with_reducible refine (impl_changedMap.calls a0 a1 a2 false t489 _ A6.out).mono ?_); rintro e w8 ⟨rfl, hb⟩; refine ⟨_, rfl, ?_⟩; have n0_ := Aside0.mk (below_step (by repeat (first | (with_reducible first | exact HB.out | apply below_alloc | apply pw_below_drewN | apply below_drew1) | exact HB.out)) hb); clear HB; have HB := n0_; clear n0_; (try clear hb); (try clear hb2); (try clear hk); (try clear hi)))
    go_ret2
    exact ⟨by first | rfl | (simp [errW_none, errW_some] <;> rfl) | (simp [*, errW_none, errW_some] <;> rfl), by repeat (first | (with_reducible first | exact HB.out | apply below_alloc | apply pw_below_drewN | apply below_drew1) | exact HB.out)⟩
  · replace c5 := Bool.eq_false_iff.mpr c5
    subst c5
    have H1 : (some ((⟨#[]⟩ : ByteArray), false)) = some (r1, r2) := by rw [if_neg (show ¬ (false = true) by decide)] at H; exact H
    clear H
    have H := H1
    clear H1
    simp only [Option.some.injEq, Prod.mk.injEq] at H
    obtain ⟨rfl, rfl⟩ := H
    go_enter Try.func40, Try.ntmps40
    go_wp2_with (first | ((with_reducible refine gate_callee (f := 77) rfl ?_); refine goesL_ (some 11) rfl rfl Try.func77 (by kernel_rfl) rfl #[.string a0, .int .i64 a1, .int .i64 a2, .bool true] rfl (by (try simp only [List.map_toArray, List.map_cons, List.map_nil]); first | done | rfl | (simp only [List.length_drop, List.length_take]; rfl)) ?_; (with_reducible refine (impl_isRun.calls k a0 a1 a2 true false _ A4.out).mono ?_); rintro e w9 ⟨rfl, hb⟩; refine ⟨_, rfl, ?_⟩; have n0_ := Aside0.mk (below_step (by repeat (first | (with_reducible first | exact HB.out | apply below_alloc | apply pw_below_drewN | apply below_drew1) | exact HB.out)) hb); clear HB; have HB := n0_; clear n0_; (try clear hb); (try clear hb2); (try clear hk); (try clear hi)))
    go_ret2
    exact ⟨by first | rfl | (simp [errW_none, errW_some] <;> rfl) | (simp [*, errW_none, errW_some] <;> rfl), by repeat (first | (with_reducible first | exact HB.out | apply below_alloc | apply pw_below_drewN | apply below_drew1) | exact HB.out)⟩

end Go.Proofs.Ytpeimlpipopeoaa.X
namespace Go.Proofs.Ytpeimlpipopeoaa.X
open Go.RowKit Go.Proofs.YtpeimlpipopeoaaW.PrintWords Go.Proofs.YtpeimlpipopeoaaW.PrintLast Go.Proofs.YtpeimlpipopeoaaW.PrintMore
attribute [local go_sem] max2_int min2_int max_two min_two max_three min_three max_four min_four   -- for this text's walks alone
set_option linter.unusedVariables false
set_option linter.unusedSimpArgs false

/-! ### spec_l6Run: function 75 -/
def spec_l6Run.f (a0 : ByteArray) (a1 : Int) (a2 : Int) : Option (Bool) := (spec_l6Map.f a0).bind fun t478 => (if t478 = true then ((spec_l1In.f a2 1 128).bind fun t479 => (if t479 = true then ((spec_l1In.f a1 0 (wrap64 (128 - a2))).bind fun t480 => (some t480)) else (some false))) else (some false))
set_option maxHeartbeats 8000000 in
set_option maxRecDepth 100000 in
theorem spec_l6Run.calls (a0 : ByteArray) (a1 : Int) (a2 : Int) (r : Bool) (w : World) (h : spec_l6Run.f a0 a1 a2 = some r) :
    Calls Try.prog 75 #[.string a0, .int .i64 a1, .int .i64 a2] w fun e w' => e = .returned (.bool r) ∧ Below w.heap.size w w' := by
  have HB := Aside0.mk (Below.refl w.heap.size w)
  have H : ((spec_l6Map.f a0).bind fun t478 => (if t478 = true then ((spec_l1In.f a2 1 128).bind fun t479 => (if t479 = true then ((spec_l1In.f a1 0 (wrap64 (128 - a2))).bind fun t480 => (some t480)) else (some false))) else (some false))) = some r := h
  clear h
  replace H := Option.bind_eq_some_iff.mp H
  obtain ⟨t478, A40, H⟩ := H
  replace H : (if t478 = true then ((spec_l1In.f a2 1 128).bind fun t479 => (if t479 = true then ((spec_l1In.f a1 0 (wrap64 (128 - a2))).bind fun t480 => (some t480)) else (some false))) else (some false)) = some r := H
  have A4 := Aside0.mk A40
  clear A40
  by_cases c5 : t478 = true
  · subst c5
    have H1 : ((spec_l1In.f a2 1 128).bind fun t479 => (if t479 = true then ((spec_l1In.f a1 0 (wrap64 (128 - a2))).bind fun t480 => (some t480)) else (some false))) = some r := by rw [if_pos rfl] at H; exact H
    clear H
    have H := H1
    clear H1
    replace H := Option.bind_eq_some_iff.mp H
    obtain ⟨t479, A60, H⟩ := H
    replace H : (if t479 = true then ((spec_l1In.f a1 0 (wrap64 (128 - a2))).bind fun t480 => (some t480)) else (some false)) = some r := H
    have A6 := Aside0.mk A60
    clear A60
    by_cases c7 : t479 = true
    · subst c7
      have H1 : ((spec_l1In.f a1 0 (wrap64 (128 - a2))).bind fun t480 => (some t480)) = some r := by rw [if_pos rfl] at H; exact H
      clear H
      have H := H1
      clear H1
      replace H := Option.bind_eq_some_iff.mp H
      obtain ⟨t480, A80, H⟩ := H
      replace H : (some t480) = some r := H
      have A8 := Aside0.mk A80
      clear A80
      obtain rfl := Option.some.inj H
      go_enter Try.func75, Try.ntmps75
      go_wp2_with (first | ((with_reducible refine gate_callee (f := 71) rfl ?_); refine goesL_ (some 8) rfl rfl Try.func71 (by kernel_rfl) rfl #[.string a0] rfl (by (try simp only [List.map_toArray, List.map_cons, List.map_nil]); first | done | rfl | (simp only [List.length_drop, List.length_take]; rfl)) ?_; (with_reducible refine (spec_l6Map.calls a0 true _ A4.out).mono ?_); rintro e w9 ⟨rfl, hb⟩; refine ⟨_, rfl, ?_⟩; have n0_ := Aside0.mk (below_step (by repeat (first | (with_reducible first | exact HB.out | apply below_alloc | apply pw_below_drewN | apply below_drew1) | exact HB.out)) hb); clear HB; have HB := n0_; clear n0_; (try clear hb); (try clear hb2); (try clear hk); (try clear hi)) | (go_at_call 48; (with_reducible refine (spec_l1In.calls a2 1 128 true _ A6.out).mono ?_); rintro e w' ⟨rfl, ⟨nd, rfl⟩⟩) | (go_at_call 48; (with_reducible refine (spec_l1In.calls a1 0 (wrap64 (128 - a2)) t480 _ A8.out).mono ?_); rintro e w' ⟨rfl, ⟨nd, rfl⟩⟩))
      go_ret
      exact ⟨by first | rfl | (simp [errW_none, errW_some] <;> rfl) | (simp [*, errW_none, errW_some] <;> rfl), by repeat (first | (with_reducible first | exact HB.out | apply below_alloc | apply pw_below_drewN | apply below_drew1) | exact HB.out)⟩
    · replace c7 := Bool.eq_false_iff.mpr c7
      subst c7
      have H1 : (some false) = some r := by rw [if_neg (show ¬ (false = true) by decide)] at H; exact H
      clear H
      have H := H1
      clear H1
      obtain rfl := Option.some.inj H
      go_enter Try.func75, Try.ntmps75
      go_wp2_with (first | ((with_reducible refine gate_callee (f := 71) rfl ?_); refine goesL_ (some 8) rfl rfl Try.func71 (by kernel_rfl) rfl #[.string a0] rfl (by (try simp only [List.map_toArray, List.map_cons, List.map_nil]); first | done | rfl | (simp only [List.length_drop, List.length_take]; rfl)) ?_; (with_reducible refine (spec_l6Map.calls a0 true _ A4.out).mono ?_); rintro e w10 ⟨rfl, hb⟩; refine ⟨_, rfl, ?_⟩; have n0_ := Aside0.mk (below_step (by repeat (first | (with_reducible first | exact HB.out | apply below_alloc | apply pw_below_drewN | apply below_drew1) | exact HB.out)) hb); clear HB; have HB := n0_; clear n0_; (try clear hb); (try clear hb2); (try clear hk); (try clear hi)) | (go_at_call 48; (with_reducible refine (spec_l1In.calls a2 1 128 false _ A6.out).mono ?_); rintro e w' ⟨rfl, ⟨nd, rfl⟩⟩))
      go_ret
      exact ⟨by first | rfl | (simp [errW_none, errW_some] <;> rfl) | (simp [*, errW_none, errW_some] <;> rfl), by repeat (first | (with_reducible first | exact HB.out | apply below_alloc | apply pw_below_drewN | apply below_drew1) | exact HB.out)⟩
  · replace c5 := Bool.eq_false_iff.mpr c5
    subst c5
    have H1 : (some false) = some r := by rw [if_neg (show ¬ (false = true) by decide)] at H; exact H
    clear H
    have H := H1
    clear H1
    obtain rfl := Option.some.inj H
    go_enter Try.func75, Try.ntmps75
    go_wp2_with (first | ((with_reducible refine gate_callee (f := 71) rfl ?_); refine goesL_ (some 8) rfl rfl Try.func71 (by kernel_rfl) rfl #[.string a0] rfl (by (try simp only [List.map_toArray, List.map_cons, List.map_nil]); first | done | rfl | (simp only [List.length_drop, List.length_take]; rfl)) ?_; (with_reducible refine (spec_l6Map.calls a0 false _ A4.out).mono ?_); rintro e w11 ⟨rfl, hb⟩; refine ⟨_, rfl, ?_⟩; have n0_ := Aside0.mk (below_step (by repeat (first | (with_reducible first | exact HB.out | apply below_alloc | apply pw_below_drewN | apply below_drew1) | exact HB.out)) hb); clear HB; have HB := n0_; clear n0_; (try clear hb); (try clear hb2); (try clear hk); (try clear hi)))
    go_ret
    exact ⟨by first | rfl | (simp [errW_none, errW_some] <;> rfl) | (simp [*, errW_none, errW_some] <;> rfl), by repeat (first | (with_reducible first | exact HB.out | apply below_alloc | apply pw_below_drewN | apply below_drew1) | exact HB.out)⟩

end Go.Proofs.Ytpeimlpipopeoaa.X
namespace Go.Proofs.Ytpeimlpipopeoaa.X
open Go.RowKit Go.Proofs.YtpeimlpipopeoaaW.PrintWords Go.Proofs.YtpeimlpipopeoaaW.PrintLast Go.Proofs.YtpeimlpipopeoaaW.PrintMore
attribute [local go_sem] max2_int min2_int max_two min_two max_three min_three max_four min_four   -- for this text's walks alone
set_option linter.unusedVariables false
set_option linter.unusedSimpArgs false

/-! ### spec_l6Turn: function 76 -/

def turn1 (xs : List Int) (i : Nat) : List Int := xs.set (i / 8) (Go.bits .xor .u8 (xs.getD (i / 8) 0) (2 ^ (i % 8) % 256))
def turnL (xs : List Int) (a : Nat) : Nat → List Int
  | 0 => xs
  | n + 1 => turn1 (turnL xs a n) (a + n)
theorem turnL_length (xs : List Int) (a : Nat) : ∀ n, (turnL xs a n).length = xs.length
  | 0 => rfl
  | n + 1 => by simp [turnL, turn1, turnL_length xs a n]
theorem turnL_next (xs : List Int) (a i : Nat) (h : a ≤ i) : turnL xs a (i + 1 - a) = turn1 (turnL xs a (i - a)) i := by
  rw [show i + 1 - a = (i - a) + 1 from by omega, turnL, show a + (i - a) = i from by omega]
set_option maxHeartbeats 1000000 in
set_option maxRecDepth 100000 in
theorem spec_l6Turn.walk (s : ByteArray) (a n : Nat) (w : World) (h : a + n ≤ 8 * s.size) (hs : s.size ≤ 1048576) : Calls Try.prog 76 #[.string s, .int .i64 a, .int .i64 n] w fun e w' => e = .returned (.string (strOfNums (turnL (bytesOf s) a n))) ∧ Below w.heap.size w w' := by
  have kb := fun W => print_bytes (P := Try.prog) 9 30 5 Try.underlying9 Try.underlying30 Try.underlying5 s W
  go_enter Try.func76, Try.ntmps76
  go_wp2
  go_loopw [8] (fun v wr => ∃ i : Nat, a ≤ i ∧ i ≤ a + n ∧ v = .int .i64 i ∧ BRow wr w.heap.size (turnL (bytesOf s) a (i - a)) ∧ Below w.heap.size w wr) (fun v _ => a + n - (intOf v).toNat)
  case atStart => exact ⟨a, by omega, by omega, rfl, by rw [Nat.sub_self]; exact BRow.of_bytes w 5 s, bytes_below (Below.refl _ _) (Nat.le_refl _) 5 s⟩
  case round =>
    obtain ⟨i, h0, h1, rfl, hr, hb⟩ := hrel
    clear kb
    have hlen : (turnL (bytesOf s) a (i - a)).length = s.size := by rw [turnL_length, bytesOf_length]
    by_cases hlt : i < a + n
    · have hc := hr.cell (i := i / 8) (by omega)
      have hf := hr.frozen (i := i / 8) (by omega)
      have hset := Lib.hid (hr.set (i := i / 8) (by omega) (Go.bits .xor .u8 ((turnL (bytesOf s) a (i - a)).getD (i / 8) 0) (2 ^ (i % 8) % 256)))
      have hnext := Lib.hid (turnL_next (bytesOf s) a i h0)
      unfold turn1 at hnext
      generalize (turnL (bytesOf s) a (i - a)).getD (i / 8) 0 = c at *
      clear hlen
      go_wp2
      go_roundw
      case rel => exact ⟨i + 1, by omega, by omega, by go_num, by rw [hnext.out]; exact hset.out, hb.setCell (Nat.le_refl _) _⟩
      case measure => simp [intOf]; omega
    · have hi : i - a = n := by omega
      rw [hi] at hr hlen
      have hcv := hr.string (P := Try.prog) (c := grownCap w s.size 0 5) (src := 30) (dst := 9) (e := 5) (by omega) Try.underlying30 Try.underlying5 Try.underlying9
      rw [hlen] at hcv
      clear hlen hi
      go_wp2
      go_ret
      exact ⟨rfl, hb⟩
def spec_l6Turn.f (a0 : ByteArray) (a1 a2 : Int) : Option ByteArray :=
  if 0 ≤ a1 then (if 0 ≤ a2 then (if a1 + a2 ≤ 8 * (a0.size : Int) then (if a0.size ≤ 1048576 then some (strOfNums (turnL (bytesOf a0) a1.toNat a2.toNat)) else none) else none) else none) else none
theorem spec_l6Turn.calls (a0 : ByteArray) (a1 : Int) (a2 : Int) (r : ByteArray) (w : World) (h : spec_l6Turn.f a0 a1 a2 = some r) :
    Calls Try.prog 76 #[.string a0, .int .i64 a1, .int .i64 a2] w fun e w' => e = .returned (.string r) ∧ Below w.heap.size w w' := by
  unfold spec_l6Turn.f at h
  split at h
  · rename_i h0
    split at h
    · rename_i h1
      split at h
      · rename_i h2
        split at h
        · rename_i h3
          obtain rfl := Option.some.inj h
          obtain ⟨x, rfl⟩ := Int.eq_ofNat_of_zero_le h0
          obtain ⟨y, rfl⟩ := Int.eq_ofNat_of_zero_le h1
          rw [Int.toNat_natCast, Int.toNat_natCast]
          exact spec_l6Turn.walk a0 x y w (by omega) h3
        · cases h
      · cases h
    · cases h
  · cases h


end Go.Proofs.Ytpeimlpipopeoaa.X
namespace Go.Proofs.Ytpeimlpipopeoaa.X
open Go.RowKit Go.Proofs.YtpeimlpipopeoaaW.PrintWords Go.Proofs.YtpeimlpipopeoaaW.PrintLast Go.Proofs.YtpeimlpipopeoaaW.PrintMore
attribute [local go_sem] max2_int min2_int max_two min_two max_three min_three max_four min_four   -- for this text's walks alone
set_option linter.unusedVariables false
set_option linter.unusedSimpArgs false

/-! ### spec_TakeRun: function 41 -/
def spec_TakeRun.f (k : Nat) (a0 : ByteArray) (a1 : Int) (a2 : Int) : Option (ByteArray × Bool) := (spec_l6Run.f a0 a1 a2).bind fun t494 => (if t494 = true then ((spec_l6Free.f k a0 a1 a2).bind fun t495 => (if t495 = true then ((spec_l6Turn.f a0 a1 a2).bind fun t496 => (some (t496, true))) else (some ((⟨#[]⟩ : ByteArray), false)))) else (some ((⟨#[]⟩ : ByteArray), false)))
theorem spec_TakeRun.mono : ∀ a0 a1 a2 k, LeO (spec_TakeRun.f k a0 a1 a2) (spec_TakeRun.f (k + 1) a0 a1 a2) := by
  intro a0 a1 a2 k
  unfold spec_TakeRun.f
  repeat' first
      | (with_reducible exact spec_l6Free.mono _ _ _ _)
      | (with_reducible exact LeO.refl _)
      | (with_reducible exact LeO.none _)
      | (with_reducible refine LeO.ite ?_ ?_)
      | (with_reducible refine LeO.bind ?_ (fun _ => ?_))
      | exact spec_l6Free.mono _ _ _ _
      | exact LeO.none _
      | refine LeO.ite ?_ ?_
      | refine LeO.bind ?_ (fun _ => ?_)
set_option maxHeartbeats 8000000 in
set_option maxRecDepth 100000 in
theorem spec_TakeRun.calls (k : Nat) (a0 : ByteArray) (a1 : Int) (a2 : Int) (r1 : ByteArray) (r2 : Bool) (w : World) (h : spec_TakeRun.f k a0 a1 a2 = some (r1, r2)) :
    Calls Try.prog 41 #[.string a0, .int .i64 a1, .int .i64 a2] w fun e w' => e = .returned (.tuple #[.string r1, .bool r2]) ∧ Below w.heap.size w w' := by
  have HB := Aside0.mk (Below.refl w.heap.size w)
  have H : ((spec_l6Run.f a0 a1 a2).bind fun t494 => (if t494 = true then ((spec_l6Free.f k a0 a1 a2).bind fun t495 => (if t495 = true then ((spec_l6Turn.f a0 a1 a2).bind fun t496 => (some (t496, true))) else (some ((⟨#[]⟩ : ByteArray), false)))) else (some ((⟨#[]⟩ : ByteArray), false)))) = some (r1, r2) := h
  clear h
  replace H := Option.bind_eq_some_iff.mp H
  obtain ⟨t494, A40, H⟩ := H
  replace H : (if t494 = true then ((spec_l6Free.f k a0 a1 a2).bind fun t495 => (if t495 = true then ((spec_l6Turn.f a0 a1 a2).bind fun t496 => (some (t496, true))) else (some ((⟨#[]⟩ : ByteArray), false)))) else (some ((⟨#[]⟩ : ByteArray), false))) = some (r1, r2) := H
  have A4 := Aside0.mk A40
  clear A40
  by_cases c5 : t494 = true
  · subst c5
    have H1 : ((spec_l6Free.f k a0 a1 a2).bind fun t495 => (if t495 = true then ((spec_l6Turn.f a0 a1 a2).bind fun t496 => (some (t496, true))) else (some ((⟨#[]⟩ : ByteArray), false)))) = some (r1, r2) := by rw [if_pos rfl] at H; exact H
    clear H
    have H := H1
    clear H1
    replace H := Option.bind_eq_some_iff.mp H
    obtain ⟨t495, A60, H⟩ := H
    replace H : (if t495 = true then ((spec_l6Turn.f a0 a1 a2).bind fun t496 => (some (t496, true))) else (some ((⟨#[]⟩ : ByteArray), false))) = some (r1, r2) := H
    have A6 := Aside0.mk A60
    clear A60
    by_cases c7 : t495 = true
    · subst c7
      have H1 : ((spec_l6Turn.f a0 a1 a2).bind fun t496 => (some (t496, true))) = some (r1, r2) := by rw [if_pos rfl] at H; exact H
      clear H
      have H := H1
      clear H1
      replace H := Option.bind_eq_some_iff.mp H
      obtain ⟨t496, A80, H⟩ := H
      replace H : (some (t496, true)) = some (r1, r2) := H
      have A8 := Aside0.mk A80
      clear A80
      simp only [Option.some.injEq, Prod.mk.injEq] at H
      obtain ⟨rfl, rfl⟩ := H
      go_enter Try.func41, Try.ntmps41
      go_wp2_with (first | ((with_reducible refine gate_callee (f := 75) rfl ?_); refine goesL_ (some 11) rfl rfl Try.func75 (by kernel_rfl) rfl #[.string a0, .int .i64 a1, .int .i64 a2] rfl (by (try simp only [List.map_toArray, List.map_cons, List.map_nil]); first | done | rfl | (simp only [List.length_drop, List.length_take]; rfl)) ?_; (with_reducible refine (spec_l6Run.calls a0 a1 a2 true _ A4.out).mono ?_); rintro e w9 ⟨rfl, hb⟩; refine ⟨_, rfl, ?_⟩; have n0_ := Aside0.mk (below_step (by repeat (first | (with_reducible first | exact HB.out | apply below_alloc | apply pw_below_drewN | apply below_drew1) | exact HB.out)) hb); clear HB; have HB := n0_; clear n0_; (try clear hb); (try clear hb2); (try clear hk); (try clear hi)) | (go_at_call 74; (with_reducible refine (spec_l6Free.calls k a0 a1 a2 true _ A6.out).mono ?_); rintro e w' ⟨rfl, ⟨nd, rfl⟩⟩) | ((with_reducible refine gate_callee (f := 76) rfl ?_); refine goesL_ (some 23) rfl rfl Try.func76 (by kernel_rfl) rfl #[.string a0, .int .i64 a1, .int .i64 a2] rfl (by (try simp only [List.map_toArray, List.map_cons, List.map_nil]); first | done | rfl | (simp only [List.length_drop, List.length_take]; rfl)) ?_; (with_reducible refine (spec_l6Turn.calls a0 a1 a2 t496 _ A8.out).mono ?_); rintro e w10 ⟨rfl, hb⟩; refine ⟨_, rfl, ?_⟩; have n0_ := Aside0.mk (below_step (by repeat (first | (with_reducible first | exact HB.out | apply below_alloc | apply pw_below_drewN | apply below_drew1) | exact HB.out)) hb); clear HB; have HB := n0_; clear n0_; (try clear hb); (try clear hb2); (try clear hk); (try clear hi)))
      go_ret2
      exact ⟨by first | rfl | (simp [errW_none, errW_some] <;> rfl) | (simp [*, errW_none, errW_some] <;> rfl), by repeat (first | (with_reducible first | exact HB.out | apply below_alloc | apply pw_below_drewN | apply below_drew1) | exact HB.out)⟩
    · replace c7 := Bool.eq_false_iff.mpr c7
      subst c7
      have H1 : (some ((⟨#[]⟩ : ByteArray), false)) = some (r1, r2) := by rw [if_neg (show ¬ (false = true) by decide)] at H; exact H
      clear H
      have H := H1
      clear H1
      simp only [Option.some.injEq, Prod.mk.injEq] at H
      obtain ⟨rfl, rfl⟩ := H
      go_enter Try.func41, Try.ntmps41
      go_wp2_with (first | ((with_reducible refine gate_callee (f := 75) rfl ?_); refine goesL_ (some 11) rfl rfl Try.func75 (by kernel_rfl) rfl #[.string a0, .int .i64 a1, .int .i64 a2] rfl (by (try simp only [List.map_toArray, List.map_cons, List.map_nil]); first | done | rfl | (simp only [List.length_drop, List.length_take]; rfl)) ?_; (with_reducible refine (spec_l6Run.calls a0 a1 a2 true _ A4.out).mono ?_); rintro e w11 ⟨rfl, hb⟩; refine ⟨_, rfl, ?_⟩; have n0_ := Aside0.mk (below_step (by repeat (first | (with_reducible first | exact HB.out | apply below_alloc | apply pw_below_drewN | apply below_drew1) | exact HB.out)) hb); clear HB; have HB := n0_; clear n0_; (try clear hb); (try clear hb2); (try clear hk); (try clear hi)) | (go_at_call 74; (with_reducible refine (spec_l6Free.calls k a0 a1 a2 false _ A6.out).mono ?_); rintro e w' ⟨rfl, ⟨nd, rfl⟩⟩))
      go_ret2
      exact ⟨by first | rfl | (simp [errW_none, errW_some] <;> rfl) | (simp [*, errW_none, errW_some] <;> rfl), by repeat (first | (with_reducible first | exact HB.out | apply below_alloc | apply pw_below_drewN | apply below_drew1) | exact HB.out)⟩
  · replace c5 := Bool.eq_false_iff.mpr c5
    subst c5
    have H1 : (some ((⟨#[]⟩ : ByteArray), false)) = some (r1, r2) := by rw [if_neg (show ¬ (false = true) by decide)] at H; exact H
    clear H
    have H := H1
    clear H1
    simp only [Option.some.injEq, Prod.mk.injEq] at H
    obtain ⟨rfl, rfl⟩ := H
    go_enter Try.func41, Try.ntmps41
    go_wp2_with (first | ((with_reducible refine gate_callee (f := 75) rfl ?_); refine goesL_ (some 11) rfl rfl Try.func75 (by kernel_rfl) rfl #[.string a0, .int .i64 a1, .int .i64 a2] rfl (by (try simp only [List.map_toArray, List.map_cons, List.map_nil]); first | done | rfl | (simp only [List.length_drop, List.length_take]; rfl)) ?_; (with_reducible refine (spec_l6Run.calls a0 a1 a2 false _ A4.out).mono ?_); rintro e w12 ⟨rfl, hb⟩; refine ⟨_, rfl, ?_⟩; have n0_ := Aside0.mk (below_step (by repeat (first | (with_reducible first | exact HB.out | apply below_alloc | apply pw_below_drewN | apply below_drew1) | exact HB.out)) hb); clear HB; have HB := n0_; clear n0_; (try clear hb); (try clear hb2); (try clear hk); (try clear hi)))
    go_ret2
    exact ⟨by first | rfl | (simp [errW_none, errW_some] <;> rfl) | (simp [*, errW_none, errW_some] <;> rfl), by repeat (first | (with_reducible first | exact HB.out | apply below_alloc | apply pw_below_drewN | apply below_drew1) | exact HB.out)⟩

end Go.Proofs.Ytpeimlpipopeoaa.X
namespace Go.Proofs.Ytpeimlpipopeoaa.X
open Go.RowKit Go.Proofs.YtpeimlpipopeoaaW.PrintWords Go.Proofs.YtpeimlpipopeoaaW.PrintLast Go.Proofs.YtpeimlpipopeoaaW.PrintMore
attribute [local go_sem] max2_int min2_int max_two min_two max_three min_three max_four min_four   -- for this text's walks alone
set_option linter.unusedVariables false
set_option linter.unusedSimpArgs false

/-! ### spec_GiveRun: function 39 -/
def spec_GiveRun.l0 : Nat → ByteArray → Int → Int → Int → Option (ByteArray × Bool)
  | 0, _, _, _, _ => none
  | k + 1, x0, x1, x2, x8 => if x8 < (wrap64 (x1 + x2)) then ((spec_l6Bit.f x0 x8).bind fun t482 => (if t482 = true then (spec_GiveRun.l0 k x0 x1 x2 (wrap64 (x8 + 1))) else (some ((⟨#[]⟩ : ByteArray), false)))) else ((spec_l6Turn.f x0 x1 x2).bind fun t483 => (some (t483, true)))
def spec_GiveRun.f (k : Nat) (a0 : ByteArray) (a1 : Int) (a2 : Int) : Option (ByteArray × Bool) := (spec_l6Run.f a0 a1 a2).bind fun t481 => (if t481 = true then (spec_GiveRun.l0 k a0 a1 a2 a1) else (some ((⟨#[]⟩ : ByteArray), false)))
theorem spec_GiveRun.mono_l : ∀ k, (∀ y0 y1 y2 y3, LeO (spec_GiveRun.l0 k y0 y1 y2 y3) (spec_GiveRun.l0 (k + 1) y0 y1 y2 y3))
  | 0 => fun _ _ _ _ r h => by simp [spec_GiveRun.l0] at h
  | k + 1 => by
    have ih0 := spec_GiveRun.mono_l k
    · intro y0 y1 y2 y3
      unfold spec_GiveRun.l0
      repeat' first
      | (with_reducible exact ih0 _ _ _ _)
      | (with_reducible exact LeO.refl _)
      | (with_reducible exact LeO.none _)
      | (with_reducible refine LeO.ite ?_ ?_)
      | (with_reducible refine LeO.bind ?_ (fun _ => ?_))
      | exact ih0 _ _ _ _
      | exact LeO.none _
      | refine LeO.ite ?_ ?_
      | refine LeO.bind ?_ (fun _ => ?_)
theorem spec_GiveRun.mono : ∀ a0 a1 a2 k, LeO (spec_GiveRun.f k a0 a1 a2) (spec_GiveRun.f (k + 1) a0 a1 a2) := by
  intro a0 a1 a2 k
  have ih0 := spec_GiveRun.mono_l k
  unfold spec_GiveRun.f
  repeat' first
      | (with_reducible exact ih0 _ _ _ _)
      | (with_reducible exact LeO.refl _)
      | (with_reducible exact LeO.none _)
      | (with_reducible refine LeO.ite ?_ ?_)
      | (with_reducible refine LeO.bind ?_ (fun _ => ?_))
      | exact ih0 _ _ _ _
      | exact LeO.none _
      | refine LeO.ite ?_ ?_
      | refine LeO.bind ?_ (fun _ => ?_)
set_option maxHeartbeats 8000000 in
set_option maxRecDepth 100000 in
theorem spec_GiveRun.calls (k : Nat) (a0 : ByteArray) (a1 : Int) (a2 : Int) (r1 : ByteArray) (r2 : Bool) (w : World) (h : spec_GiveRun.f k a0 a1 a2 = some (r1, r2)) :
    Calls Try.prog 39 #[.string a0, .int .i64 a1, .int .i64 a2] w fun e w' => e = .returned (.tuple #[.string r1, .bool r2]) ∧ Below w.heap.size w w' := by
  have HB := Aside0.mk (Below.refl w.heap.size w)
  have H : ((spec_l6Run.f a0 a1 a2).bind fun t481 => (if t481 = true then (spec_GiveRun.l0 k a0 a1 a2 a1) else (some ((⟨#[]⟩ : ByteArray), false)))) = some (r1, r2) := h
  clear h
  replace H := Option.bind_eq_some_iff.mp H
  obtain ⟨t481, A40, H⟩ := H
  replace H : (if t481 = true then (spec_GiveRun.l0 k a0 a1 a2 a1) else (some ((⟨#[]⟩ : ByteArray), false))) = some (r1, r2) := H
  have A4 := Aside0.mk A40
  clear A40
  by_cases c5 : t481 = true
  · subst c5
    have H1 : (spec_GiveRun.l0 k a0 a1 a2 a1) = some (r1, r2) := by rw [if_pos rfl] at H; exact H
    clear H
    have H := H1
    clear H1
    have H' := Aside0.mk H
    clear H
    go_enter Try.func39, Try.ntmps39
    go_wp2_with (first | ((with_reducible refine gate_callee (f := 75) rfl ?_); refine goesL_ (some 12) rfl rfl Try.func75 (by kernel_rfl) rfl #[.string a0, .int .i64 a1, .int .i64 a2] rfl (by (try simp only [List.map_toArray, List.map_cons, List.map_nil]); first | done | rfl | (simp only [List.length_drop, List.length_take]; rfl)) ?_; (with_reducible refine (spec_l6Run.calls a0 a1 a2 true _ A4.out).mono ?_); rintro e w6 ⟨rfl, hb⟩; refine ⟨_, rfl, ?_⟩; have n0_ := Aside0.mk (below_step (by repeat (first | (with_reducible first | exact HB.out | apply below_alloc | apply pw_below_drewN | apply below_drew1) | exact HB.out)) hb); clear HB; have HB := n0_; clear n0_; (try clear hb); (try clear hb2); (try clear hk); (try clear hi)))
    go_loopg [8] k (fun kq v8 w' => ∃ (x8_1 : Int), v8 = .int .i64 x8_1 ∧ Aside0 (spec_GiveRun.l0 kq a0 a1 a2 x8_1 = some (r1, r2)) ∧ Aside0 (kq ≤ k) ∧ Aside0 (Below w.heap.size w w'))
    case atStart => exact ⟨(a1), (by first | rfl | (simp; done) | (simp [*]; done)), H', ⟨Nat.le_refl _⟩, ⟨by repeat (first | (with_reducible first | exact HB.out | apply below_alloc | apply pw_below_drewN | apply below_drew1) | exact HB.out)⟩⟩
    case round =>
      clear H'
      try clear p2
      try clear c3
      try clear c5
      obtain ⟨x8_1, rfl, HA, HK1, HB⟩ := hrel
      cases gk with
      | zero => exact absurd HA.out (by simp [spec_GiveRun.l0])
      | succ k1 =>
        have H := HA.out
        clear HA
        simp only [spec_GiveRun.l0] at H
        by_cases c7 : x8_1 < (wrap64 (a1 + a2))
        · rw [if_pos c7] at H
          have c7b0 : decide (x8_1 < (wrap64 (a1 + a2))) = true := decide_eq_true c7
          clear c7
          replace H := Option.bind_eq_some_iff.mp H
          obtain ⟨t482, A80, H⟩ := H
          replace H : (if t482 = true then (spec_GiveRun.l0 k1 a0 a1 a2 (wrap64 (x8_1 + 1))) else (some ((⟨#[]⟩ : ByteArray), false))) = some (r1, r2) := H
          have A8 := Aside0.mk A80
          clear A80
          by_cases c9 : t482 = true
          · subst c9
            have H1 : (spec_GiveRun.l0 k1 a0 a1 a2 (wrap64 (x8_1 + 1))) = some (r1, r2) := by rw [if_pos rfl] at H; exact H
            clear H
            have H := H1
            clear H1
            have H' := Aside0.mk H
            clear H
            go_wp2_with (first | ((with_reducible refine gate_callee (f := 65) rfl ?_); refine goesL_ (some 24) rfl rfl Try.func65 (by kernel_rfl) rfl #[.string a0, .int .i64 x8_1] rfl (by (try simp only [List.map_toArray, List.map_cons, List.map_nil]); first | done | rfl | (simp only [List.length_drop, List.length_take]; rfl)) ?_; (with_reducible refine (spec_l6Bit.calls a0 x8_1 true _ A8.out).mono ?_); rintro e w' ⟨rfl, ⟨nd, rfl⟩⟩; refine ⟨_, rfl, ?_⟩))
            go_roundg k1
            case measure => have := HK1.out; omega
            case rel => exact ⟨(wrap64 (x8_1 + 1)), (by first | rfl | (simp; done) | (simp [*]; done)), H', ⟨by have := HK1.out; omega⟩, ⟨by repeat (first | (with_reducible first | exact HB.out | apply below_alloc | apply pw_below_drewN | apply below_drew1) | exact HB.out)⟩⟩
          · replace c9 := Bool.eq_false_iff.mpr c9
            subst c9
            have H1 : (some ((⟨#[]⟩ : ByteArray), false)) = some (r1, r2) := by rw [if_neg (show ¬ (false = true) by decide)] at H; exact H
            clear H
            have H := H1
            clear H1
            simp only [Option.some.injEq, Prod.mk.injEq] at H
            obtain ⟨rfl, rfl⟩ := H
            go_wp2_with (first | ((with_reducible refine gate_callee (f := 65) rfl ?_); refine goesL_ (some 24) rfl rfl Try.func65 (by kernel_rfl) rfl #[.string a0, .int .i64 x8_1] rfl (by (try simp only [List.map_toArray, List.map_cons, List.map_nil]); first | done | rfl | (simp only [List.length_drop, List.length_take]; rfl)) ?_; (with_reducible refine (spec_l6Bit.calls a0 x8_1 false _ A8.out).mono ?_); rintro e w' ⟨rfl, ⟨nd, rfl⟩⟩; refine ⟨_, rfl, ?_⟩))
            go_ret2
            exact ⟨by first | rfl | (simp [errW_none, errW_some] <;> rfl) | (simp [*, errW_none, errW_some] <;> rfl), by repeat (first | (with_reducible first | exact HB.out | apply below_alloc | apply pw_below_drewN | apply below_drew1) | exact HB.out)⟩
        · rw [if_neg c7] at H
          have c7b0 : decide (x8_1 < (wrap64 (a1 + a2))) = false := decide_eq_false c7
          clear c7
          replace H := Option.bind_eq_some_iff.mp H
          obtain ⟨t483, A100, H⟩ := H
          replace H : (some (t483, true)) = some (r1, r2) := H
          have A10 := Aside0.mk A100
          clear A100
          simp only [Option.some.injEq, Prod.mk.injEq] at H
          obtain ⟨rfl, rfl⟩ := H
          go_wp2_with (first | ((with_reducible refine gate_callee (f := 76) rfl ?_); refine goesL_ (some 29) rfl rfl Try.func76 (by kernel_rfl) rfl #[.string a0, .int .i64 a1, .int .i64 a2] rfl (by (try simp only [List.map_toArray, List.map_cons, List.map_nil]); first | done | rfl | (simp only [List.length_drop, List.length_take]; rfl)) ?_; (with_reducible refine (spec_l6Turn.calls a0 a1 a2 t483 _ A10.out).mono ?_); rintro e w11 ⟨rfl, hb⟩; refine ⟨_, rfl, ?_⟩; have n0_ := Aside0.mk (below_step (by repeat (first | (with_reducible first | exact HB.out | apply below_alloc | apply pw_below_drewN | apply below_drew1) | exact HB.out)) hb); clear HB; have HB := n0_; clear n0_; (try clear hb); (try clear hb2); (try clear hk); (try clear hi)))
          go_ret2
          exact ⟨by first | rfl | (simp [errW_none, errW_some] <;> rfl) | (simp [*, errW_none, errW_some] <;> rfl), by repeat (first | (with_reducible first | exact HB.out | apply below_alloc | apply pw_below_drewN | apply below_drew1) | exact HB.out)⟩
  · replace c5 := Bool.eq_false_iff.mpr c5
    subst c5
    have H1 : (some ((⟨#[]⟩ : ByteArray), false)) = some (r1, r2) := by rw [if_neg (show ¬ (false = true) by decide)] at H; exact H
    clear H
    have H := H1
    clear H1
    simp only [Option.some.injEq, Prod.mk.injEq] at H
    obtain ⟨rfl, rfl⟩ := H
    go_enter Try.func39, Try.ntmps39
    go_wp2_with (first | ((with_reducible refine gate_callee (f := 75) rfl ?_); refine goesL_ (some 12) rfl rfl Try.func75 (by kernel_rfl) rfl #[.string a0, .int .i64 a1, .int .i64 a2] rfl (by (try simp only [List.map_toArray, List.map_cons, List.map_nil]); first | done | rfl | (simp only [List.length_drop, List.length_take]; rfl)) ?_; (with_reducible refine (spec_l6Run.calls a0 a1 a2 false _ A4.out).mono ?_); rintro e w12 ⟨rfl, hb⟩; refine ⟨_, rfl, ?_⟩; have n0_ := Aside0.mk (below_step (by repeat (first | (with_reducible first | exact HB.out | apply below_alloc | apply pw_below_drewN | apply below_drew1) | exact HB.out)) hb); clear HB; have HB := n0_; clear n0_; (try clear hb); (try clear hb2); (try clear hk); (try clear hi)))
    go_ret2
    exact ⟨by first | rfl | (simp [errW_none, errW_some] <;> rfl) | (simp [*, errW_none, errW_some] <;> rfl), by repeat (first | (with_reducible first | exact HB.out | apply below_alloc | apply pw_below_drewN | apply below_drew1) | exact HB.out)⟩

end Go.Proofs.Ytpeimlpipopeoaa.X
namespace Go.Proofs.Ytpeimlpipopeoaa.Pure
open Go.RowKit Go.Proofs.Ytpeimlpipopeoaa.X Go.Proofs.YtpeimlpipopeoaaW.PrintWords Go.Proofs.YtpeimlpipopeoaaW.PrintLast Go.Proofs.YtpeimlpipopeoaaW.PrintMore
set_option linter.unusedVariables false
set_option linter.unusedSimpArgs false

/-- What turning a bit changes. -/
theorem turn1_bit {xs : List Int} (hx : isBytes xs) {i : Nat} (hi : i / 8 < xs.length) (j : Nat) : bitL (turn1 xs i) j = (bitL xs j != decide (j = i)) := by
  unfold turn1
  have hb := isBytes_getD hx (i / 8)
  have h := (byte_xor hb.1 hb.2 (show i % 8 < 8 by omega)).2 (j % 8) (by omega)
  rw [bitL_set hi]
  split
  · rename_i e
    rw [h]
    unfold bitL
    rw [e]
    congr 1
    exact decide_eq_decide.2 (by omega)
  · rename_i e
    rw [show decide (j = i) = false from decide_eq_false (fun q => e (by rw [q]))]
    simp
theorem turn1_isBytes {xs : List Int} (hx : isBytes xs) (i : Nat) : isBytes (turn1 xs i) := by
  have hb := isBytes_getD hx (i / 8)
  have h := (byte_xor hb.1 hb.2 (show i % 8 < 8 by omega)).1
  exact isBytes_set hx _ h.1 h.2
theorem turn1_length (xs : List Int) (i : Nat) : (turn1 xs i).length = xs.length := by simp [turn1]
theorem clear1_bit {xs : List Int} (hx : isBytes xs) {i : Nat} (hi : i / 8 < xs.length) (j : Nat) : bitL (change1 xs i false) j = (bitL xs j && !decide (j = i)) := by
  unfold change1
  rw [if_neg (by simp)]
  have hb := isBytes_getD hx (i / 8)
  have h := (byte_clear hb.1 hb.2 (show i % 8 < 8 by omega)).2 (j % 8) (by omega)
  rw [bitL_set hi]
  split
  · rename_i e
    rw [h]
    unfold bitL
    rw [e]
    congr 2
    exact decide_eq_decide.2 (by omega)
  · rename_i e
    rw [show decide (j = i) = false from decide_eq_false (fun q => e (by rw [q]))]
    simp
theorem set1_bit {xs : List Int} (hx : isBytes xs) {i : Nat} (hi : i / 8 < xs.length) (j : Nat) : bitL (change1 xs i true) j = (bitL xs j || decide (j = i)) := by
  unfold change1
  rw [if_pos rfl]
  have hb := isBytes_getD hx (i / 8)
  have hc := byte_clear hb.1 hb.2 (show i % 8 < 8 by omega)
  have hs := byte_set hc.1.1 hc.1.2 (show i % 8 < 8 by omega)
  rw [bitL_set (by simpa using hi)]
  split
  · rename_i e
    rw [hs.2 _ (by omega), hc.2 _ (by omega)]
    unfold bitL
    rw [e]
    have : decide (j % 8 = i % 8) = decide (j = i) := decide_eq_decide.2 (by omega)
    rw [this]
    cases bitv (xs.getD (i / 8) 0) (j % 8) <;> cases decide (j = i) <;> rfl
  · rename_i e
    rw [bitL_set hi, if_neg e, show decide (j = i) = false from decide_eq_false (fun q => e (by rw [q]))]
    simp
theorem change1_isBytes {xs : List Int} (hx : isBytes xs) (i : Nat) (t : Bool) : isBytes (change1 xs i t) := by
  have hb := isBytes_getD hx (i / 8)
  have hc := byte_clear hb.1 hb.2 (show i % 8 < 8 by omega)
  have hs := byte_set hc.1.1 hc.1.2 (show i % 8 < 8 by omega)
  unfold change1
  split
  · exact isBytes_set (isBytes_set hx _ hc.1.1 hc.1.2) _ hs.1.1 hs.1.2
  · exact isBytes_set hx _ hc.1.1 hc.1.2
theorem change1_length (xs : List Int) (i : Nat) (t : Bool) : (change1 xs i t).length = xs.length := by
  unfold change1
  split <;> simp
theorem turnL_isBytes {xs : List Int} (hx : isBytes xs) (a : Nat) : ∀ n, isBytes (turnL xs a n)
  | 0 => hx
  | n + 1 => turn1_isBytes (turnL_isBytes hx a n) _
theorem changeL_isBytes {xs : List Int} (hx : isBytes xs) (a : Nat) (t : Bool) : ∀ n, isBytes (changeL xs a t n)
  | 0 => hx
  | n + 1 => change1_isBytes (changeL_isBytes hx a t n) _ _
/-- The bits behind a change. -/
theorem changeL_bit {xs : List Int} (hx : isBytes xs) (a : Nat) (t : Bool) : ∀ (n : Nat), a + n ≤ 8 * xs.length → ∀ j, bitL (changeL xs a t n) j = if a ≤ j ∧ j < a + n then t else bitL xs j
  | 0, h, j => by rw [if_neg (by omega)]; rfl
  | n + 1, h, j => by
    have ih := changeL_bit hx a t n (by omega) j
    have hi : (a + n) / 8 < (changeL xs a t n).length := by rw [changeL_length]; omega
    simp only [changeL]
    cases t
    · rw [clear1_bit (changeL_isBytes hx a false n) hi, ih]
      by_cases e : j = a + n
      · subst e; simp
      · rw [show decide (j = a + n) = false from decide_eq_false e]
        by_cases e2 : a ≤ j ∧ j < a + n
        · rw [if_pos e2, if_pos (by omega)]; rfl
        · rw [if_neg e2, if_neg (by omega)]; simp
    · rw [set1_bit (changeL_isBytes hx a true n) hi, ih]
      by_cases e : j = a + n
      · subst e; simp
      · rw [show decide (j = a + n) = false from decide_eq_false e]
        by_cases e2 : a ≤ j ∧ j < a + n
        · rw [if_pos e2, if_pos (by omega)]; rfl
        · rw [if_neg e2, if_neg (by omega)]; simp
theorem turnL_bit {xs : List Int} (hx : isBytes xs) (a : Nat) : ∀ (n : Nat), a + n ≤ 8 * xs.length → ∀ j, bitL (turnL xs a n) j = if a ≤ j ∧ j < a + n then !bitL xs j else bitL xs j
  | 0, h, j => by rw [if_neg (by omega)]; rfl
  | n + 1, h, j => by
    have ih := turnL_bit hx a n (by omega) j
    have hi : (a + n) / 8 < (turnL xs a n).length := by rw [turnL_length]; omega
    simp only [turnL]
    rw [turn1_bit (turnL_isBytes hx a n) hi, ih]
    by_cases e : j = a + n
    · subst e; simp
    · rw [show decide (j = a + n) = false from decide_eq_false e]
      by_cases e2 : a ≤ j ∧ j < a + n
      · rw [if_pos e2, if_pos (by omega)]; simp
      · rw [if_neg e2, if_neg (by omega)]; simp
/-- Where the bits were the other way, turning them is setting (or clearing) them. -/
theorem turn_change {xs : List Int} (hx : isBytes xs) (a n : Nat) (t : Bool) (h : a + n ≤ 8 * xs.length) (hb : ∀ j, a ≤ j → j < a + n → bitL xs j = !t) : turnL xs a n = changeL xs a t n := by
  refine bytes_ext (turnL_isBytes hx a n) (changeL_isBytes hx a t n) (by rw [turnL_length, changeL_length]) (fun j hj => ?_)
  rw [turnL_bit hx a n h, changeL_bit hx a t n h]
  split
  · rename_i c
    rw [hb j c.1 c.2]; simp
  · rfl
/-- All of n lines from a on are taken (t), or all are free. -/
def allAre (s : ByteArray) (t : Bool) (a n : Int) : Prop := ∀ j, a ≤ j → j < a + n → tk s j = t
theorem allAre_iff (s : ByteArray) (t : Bool) (a n : Nat) : allAre s t a n ↔ ∀ j : Nat, a ≤ j → j < a + n → bitL (bytesOf s) j = t :=
  ⟨fun h j h0 h1 => by have := h (j : Int) (by omega) (by omega); simpa [tk] using this, fun h j h0 h1 => by
    have := h j.toNat (by omega) (by omega)
    exact this⟩
instance allAre_dec (s : ByteArray) (t : Bool) (a n : Nat) : Decidable (∀ j : Nat, a ≤ j → j < a + n → bitL (bytesOf s) j = t) :=
  decidable_of_iff (∀ i, i < n → bitL (bytesOf s) (a + i) = t) ⟨fun h j h0 h1 => by have := h (j - a) (by omega); rwa [show a + (j - a) = j from by omega] at this, fun h i hi => h (a + i) (by omega) (by omega)⟩
def runOk (s : ByteArray) (a n : Int) : Prop := mapOk s ∧ (1 ≤ n ∧ n ≤ 128) ∧ 0 ≤ a ∧ a ≤ 128 - n
instance (s : ByteArray) (a n : Int) : Decidable (runOk s a n) := by unfold runOk; infer_instance
/-- TakeRun (t = true), GiveRun (t = false). -/
def changed (s : ByteArray) (t : Bool) (a n : Nat) : ByteArray := strOfNums (changeL (bytesOf s) a t n)
def runResult (s : ByteArray) (t : Bool) (a n : Int) : ByteArray × Bool :=
  if runOk s a n then (if ∀ j : Nat, a.toNat ≤ j → j < a.toNat + n.toNat → bitL (bytesOf s) j = !t then (changed s t a.toNat n.toNat, true) else (⟨#[]⟩, false)) else (⟨#[]⟩, false)
theorem changedMap_f (s : ByteArray) (a n : Nat) (t : Bool) (h : a + n ≤ 8 * s.size) (hs : s.size ≤ 1048576) : impl_changedMap.f s (a : Int) (n : Int) t = some (changed s t a n) := by
  unfold impl_changedMap.f
  rw [if_pos (by omega), if_pos (by omega), if_pos (by omega), if_pos hs]
  rfl
theorem l6Turn_f (s : ByteArray) (a n : Nat) (h : a + n ≤ 8 * s.size) (hs : s.size ≤ 1048576) : spec_l6Turn.f s (a : Int) (n : Int) = some (strOfNums (turnL (bytesOf s) a n)) := by
  unfold spec_l6Turn.f
  rw [if_pos (by omega), if_pos (by omega), if_pos (by omega), if_pos hs]
  rfl
theorem spec_l6Run_f (s : ByteArray) (a n : Int) : spec_l6Run.f s a n = some (decide (runOk s a n)) := by
  unfold spec_l6Run.f runOk
  rw [spec_l6Map_f, Option.bind_some]
  by_cases c : mapOk s
  · simp only [c, decide_true, if_true, true_and, l1In_f, Option.bind_some]
    by_cases h1 : 1 ≤ n ∧ n ≤ 128
    · rw [if_pos (by simp [h1.1, h1.2]), w64 (by omega) (by omega)]
      simp [h1]
    · rw [if_neg (by simpa using h1)]
      simp [h1]
  · simp [c]
theorem free_ev (s : ByteArray) (x y : Nat) (hm : mapOk s) (hn : 1 ≤ y) (h2 : x + y ≤ 128) : ∃ b : Bool, Ev (fun k => spec_l6Free.f k s (x : Int) (y : Int)) b ∧ (b = true ↔ ∀ j : Nat, x ≤ j → j < x + y → bitL (bytesOf s) j = !true) := by
  obtain ⟨b, hb, hi⟩ := spec_l6Free_ev s x y hm (by omega) (by omega) (by omega)
  exact ⟨b, hb, hi.trans (allAre_iff s false x y)⟩
theorem spec_TakeRun_ev (s : ByteArray) (a n : Int) : Ev (fun k => spec_TakeRun.f k s a n) (runResult s true a n) := by
  unfold spec_TakeRun.f runResult
  refine Ev.bindo (spec_l6Run_f s a n) (Ev.cases (fun c => ?_) (fun c => Ev.eq ?_))
  · have c : runOk s a n := by simpa using c
    rw [if_pos c]
    obtain ⟨hm, ⟨h1, h2⟩, h3, h4⟩ := c
    obtain ⟨x, rfl⟩ := Int.eq_ofNat_of_zero_le h3
    obtain ⟨y, rfl⟩ := Int.eq_ofNat_of_zero_le (show 0 ≤ n by omega)
    have h8 : x + y ≤ 8 * s.size := by have := hm.1; omega
    obtain ⟨q, hq, hqf⟩ := free_ev s x y hm (by omega) (by omega)
    refine Ev.bind hq (Ev.cases (fun e => ?_) (fun e => Ev.eq ?_))
    · have hb := hqf.1 e
      rw [Int.toNat_natCast, Int.toNat_natCast, if_pos hb]
      refine Ev.bindo (l6Turn_f s x y h8 (by have := hm.1; omega)) (Ev.eq ?_)
      rw [turn_change (bytesOf_isBytes s) x y true (by rw [bytesOf_length]; exact h8) hb]
      rfl
    · rw [Int.toNat_natCast, Int.toNat_natCast, if_neg (fun h => e (hqf.2 h))]
  · rw [if_neg (by simpa using c)]
theorem spec_GiveRun_ev (s : ByteArray) (a n : Int) : Ev (fun k => spec_GiveRun.f k s a n) (runResult s false a n) := by
  unfold spec_GiveRun.f runResult
  refine Ev.bindo (spec_l6Run_f s a n) (Ev.cases (fun c => ?_) (fun c => Ev.eq ?_))
  · have c : runOk s a n := by simpa using c
    rw [if_pos c]
    obtain ⟨hm, ⟨h1, h2⟩, h3, h4⟩ := c
    obtain ⟨x, rfl⟩ := Int.eq_ofNat_of_zero_le h3
    obtain ⟨y, rfl⟩ := Int.eq_ofNat_of_zero_le (show 0 ≤ n by omega)
    have h8 : x + y ≤ 8 * s.size := by have := hm.1; omega
    rw [Int.toNat_natCast, Int.toNat_natCast]
    have l : ∀ (d j : Nat), x + y - j = d → x ≤ j → j ≤ x + y → (∀ q, x ≤ q → q < j → bitL (bytesOf s) q = true) →
        Ev (fun k => spec_GiveRun.l0 k s (x : Int) (y : Int) (j : Int)) (if ∀ j : Nat, x ≤ j → j < x + y → bitL (bytesOf s) j = !false then (changed s false x y, true) else (⟨#[]⟩, false)) := by
      intro d
      induction d with
      | zero =>
        intro j hd hj hj2 hf
        refine Ev.step (fun k => by rw [spec_GiveRun.l0]) ?_
        rw [w64 (x := (x : Int) + y) (by omega) (by omega)]
        have hb : ∀ j : Nat, x ≤ j → j < x + y → bitL (bytesOf s) j = !false := fun q h0 h1 => hf q h0 (by omega)
        refine Ev.neg (by omega) (Ev.bindo (l6Turn_f s x y h8 (by have := hm.1; omega)) (Ev.eq ?_))
        rw [if_pos hb, turn_change (bytesOf_isBytes s) x y false (by rw [bytesOf_length]; exact h8) hb]
        rfl
      | succ d ih =>
        intro j hd hj hj2 hf
        refine Ev.step (fun k => by rw [spec_GiveRun.l0]) ?_
        rw [w64 (x := (x : Int) + y) (by omega) (by omega)]
        refine Ev.pos (by omega) (Ev.bindo (spec_bit s j hm (by omega) (by omega)) ?_)
        rw [show wrap64 ((j : Int) + 1) = ((j + 1 : Nat) : Int) from by rw [w64 (by omega) (by omega)]; omega]
        have ht : tk s (j : Int) = bitL (bytesOf s) j := by simp [tk]
        refine Ev.cases (fun e => ?_) (fun e => Ev.eq ?_)
        · exact ih (j + 1) (by omega) (by omega) (by omega) (fun q h0 h1 => by
            by_cases e2 : q = j
            · subst e2; rw [← ht]; exact e
            · exact hf q h0 (by omega))
        · rw [if_neg (fun h => e (by rw [ht]; exact h j hj (by omega)))]
    exact l _ x rfl (by omega) (by omega) (fun q h0 h1 => by omega)
  · rw [if_neg (by simpa using c)]
theorem impl_isRun_ev (s : ByteArray) (a n : Int) (t : Bool) : Ev (fun k => impl_isRun.f k s a n t) (decide (runOk s a n ∧ ∀ j : Nat, a.toNat ≤ j → j < a.toNat + n.toNat → bitL (bytesOf s) j = t)) := by
  have jf : ∀ b : Bool, (b = true → ¬ runOk s a n) → (b = false → runOk s a n) → Ev (fun k => impl_isRun.j0 k s a n t b) (decide (runOk s a n ∧ ∀ j : Nat, a.toNat ≤ j → j < a.toNat + n.toNat → bitL (bytesOf s) j = t)) := by
    intro b hb1 hb2
    refine Ev.step (fun k => by rw [impl_isRun.j0]) (Ev.cases (fun e => Ev.eq ?_) (fun e => ?_))
    · exact (decide_eq_false (fun h => hb1 e h.1)).symm
    · have c := hb2 (by simpa using e)
      have c0 := c
      obtain ⟨hm, ⟨h1, h2⟩, h3, h4⟩ := c
      obtain ⟨x, rfl⟩ := Int.eq_ofNat_of_zero_le h3
      obtain ⟨y, rfl⟩ := Int.eq_ofNat_of_zero_le (show 0 ≤ n by omega)
      simp only [Int.toNat_natCast]
      have l : ∀ (d j : Nat), x + y - j = d → x ≤ j → j ≤ x + y → (∀ q, x ≤ q → q < j → bitL (bytesOf s) q = t) →
          Ev (fun k => impl_isRun.l0 k s (x : Int) (y : Int) t (j : Int)) (decide (runOk s (x : Int) (y : Int) ∧ ∀ j : Nat, x ≤ j → j < x + y → bitL (bytesOf s) j = t)) := by
        intro d
        induction d with
        | zero =>
          intro j hd hj hj2 hf
          refine Ev.step (fun k => by rw [impl_isRun.l0]) ?_
          rw [w64 (x := (x : Int) + y) (by omega) (by omega)]
          exact Ev.neg (by omega) (Ev.eq (decide_eq_true ⟨c0, fun q h0 h1 => hf q h0 (by omega)⟩).symm)
        | succ d ih =>
          intro j hd hj hj2 hf
          refine Ev.step (fun k => by rw [impl_isRun.l0]) ?_
          rw [w64 (x := (x : Int) + y) (by omega) (by omega)]
          refine Ev.pos (by omega) (Ev.bindo (impl_bit s j hm (by omega) (by omega)) ?_)
          rw [show wrap64 ((j : Int) + 1) = ((j + 1 : Nat) : Int) from by rw [w64 (by omega) (by omega)]; omega]
          have ht : tk s (j : Int) = bitL (bytesOf s) j := by simp [tk]
          refine Ev.cases (fun e => Ev.eq ?_) (fun e => ?_)
          · refine (decide_eq_false (fun h => ?_)).symm
            rw [ht, h.2 j hj (by omega)] at e
            simp at e
          · exact ih (j + 1) (by omega) (by omega) (by omega) (fun q h0 h1 => by
              by_cases e2 : q = j
              · subst e2; rw [← ht]; simpa using e
              · exact hf q h0 (by omega))
      exact l _ x rfl (by omega) (by omega) (fun q h0 h1 => by omega)
  unfold impl_isRun.f
  refine Ev.bindo (impl_isMap_f s) (Ev.cases (fun c => ?_) (fun c => ?_))
  · have c : mapOk s := by simpa using c
    refine Ev.bindo (within_f _ _ _) (Ev.cases (fun c2 => ?_) (fun c2 => ?_))
    · have c2 : 1 ≤ n ∧ n ≤ 128 := by simpa using c2
      rw [w64 (x := 128 - n) (by omega) (by omega)]
      refine Ev.bindo (within_f _ _ _) (jf _ (fun h q => ?_) (fun h => ⟨c, c2, ?_⟩))
      · have := q.2.2
        simp [this.1, this.2] at h
      · simpa using h
    · exact jf true (fun _ q => c2 (by simp [q.2.1.1, q.2.1.2])) (fun h => by cases h)
  · exact jf true (fun _ q => c (by simp [q.1])) (fun h => by cases h)
theorem impl_TakeRun_ev (s : ByteArray) (a n : Int) : Ev (fun k => impl_TakeRun.f k s a n) (runResult s true a n) := by
  unfold impl_TakeRun.f runResult
  simp only [Bool.not_true]
  refine Ev.bind (impl_isRun_ev s a n false) (Ev.cases (fun c => ?_) (fun c => Ev.eq ?_))
  · obtain ⟨c, hb⟩ := of_decide_eq_true c
    rw [if_pos c, if_pos hb]
    obtain ⟨hm, ⟨h1, h2⟩, h3, h4⟩ := c
    obtain ⟨x, rfl⟩ := Int.eq_ofNat_of_zero_le h3
    obtain ⟨y, rfl⟩ := Int.eq_ofNat_of_zero_le (show 0 ≤ n by omega)
    refine Ev.bindo (changedMap_f s x y true (by have := hm.1; omega) (by have := hm.1; omega)) (Ev.eq rfl)
  · have c : ¬ (runOk s a n ∧ ∀ j : Nat, a.toNat ≤ j → j < a.toNat + n.toNat → bitL (bytesOf s) j = false) := fun h => c (decide_eq_true h)
    by_cases e : runOk s a n
    · rw [if_pos e, if_neg (fun h => c ⟨e, h⟩)]
    · rw [if_neg e]
theorem impl_GiveRun_ev (s : ByteArray) (a n : Int) : Ev (fun k => impl_GiveRun.f k s a n) (runResult s false a n) := by
  unfold impl_GiveRun.f runResult
  simp only [Bool.not_false]
  refine Ev.bind (impl_isRun_ev s a n true) (Ev.cases (fun c => ?_) (fun c => Ev.eq ?_))
  · obtain ⟨c, hb⟩ := of_decide_eq_true c
    rw [if_pos c, if_pos hb]
    obtain ⟨hm, ⟨h1, h2⟩, h3, h4⟩ := c
    obtain ⟨x, rfl⟩ := Int.eq_ofNat_of_zero_le h3
    obtain ⟨y, rfl⟩ := Int.eq_ofNat_of_zero_le (show 0 ≤ n by omega)
    refine Ev.bindo (changedMap_f s x y false (by have := hm.1; omega) (by have := hm.1; omega)) (Ev.eq rfl)
  · have c : ¬ (runOk s a n ∧ ∀ j : Nat, a.toNat ≤ j → j < a.toNat + n.toNat → bitL (bytesOf s) j = true) := fun h => c (decide_eq_true h)
    by_cases e : runOk s a n
    · rw [if_pos e, if_neg (fun h => c ⟨e, h⟩)]
    · rw [if_neg e]
end Go.Proofs.Ytpeimlpipopeoaa.Pure
namespace Go.Proofs.Ytpeimlpipopeoaa.Pure
open Go.RowKit Go.Proofs.Ytpeimlpipopeoaa.X Go.Proofs.YtpeimlpipopeoaaW.PrintWords Go.Proofs.YtpeimlpipopeoaaW.PrintLast Go.Proofs.YtpeimlpipopeoaaW.PrintMore
set_option linter.unusedVariables false
set_option linter.unusedSimpArgs false

/-- Strictly increasing, all in 0..127, place by place, up to place i. -/
def lineTo (l : List Int) (i : Nat) : Prop := ∀ j (h : j < l.length), j < i → 0 ≤ l[j] ∧ l[j] ≤ 127 ∧ ∀ (h0 : 0 < j), l[j - 1]'(by omega) < l[j]
instance (l : List Int) (i : Nat) : Decidable (lineTo l i) := by unfold lineTo; infer_instance
theorem lineTo_next {l : List Int} {i : Nat} (h : i < l.length) (hs : lineTo l i) (h1 : 0 ≤ l[i]) (h2 : l[i] ≤ 127) (h3 : ∀ (h0 : 0 < i), l[i - 1]'(by omega) < l[i]) : lineTo l (i + 1) := by
  intro j hj hi
  by_cases e : j = i
  · subst e; exact ⟨h1, h2, h3⟩
  · exact hs j hj (by omega)
theorem lineTo_all {l : List Int} {i : Nat} (hi : l.length ≤ i) (hs : lineTo l i) : lineTo l l.length := fun j hj _ => hs j hj (by omega)
theorem lineTo_mem {l : List Int} (hs : lineTo l l.length) : ∀ x ∈ l, 0 ≤ x ∧ x ≤ 127 := by
  intro x hx
  obtain ⟨j, hj, rfl⟩ := List.getElem_of_mem hx
  have := hs j hj hj
  exact ⟨this.1, this.2.1⟩
/-- The lines are set one behind the other. -/
def setAll (xs : List Int) : List Int → List Int
  | [] => xs
  | n :: l => setAll (change1 xs n.toNat true) l
theorem setAll_isBytes : ∀ (l : List Int) {xs : List Int}, isBytes xs → isBytes (setAll xs l)
  | [], _, h => h
  | _ :: l, _, h => setAll_isBytes l (change1_isBytes h _ _)
theorem setAll_length : ∀ (l : List Int) (xs : List Int), (setAll xs l).length = xs.length
  | [], _ => rfl
  | _ :: l, xs => by rw [setAll, setAll_length l, change1_length]
theorem setAll_snoc (l : List Int) (x : Int) : ∀ xs : List Int, setAll xs (l ++ [x]) = change1 (setAll xs l) x.toNat true := by
  induction l with
  | nil => intro xs; rfl
  | cons y l ih => intro xs; exact ih _
def mapOf (l : List Int) : ByteArray := if lineTo l l.length then strOfNums (setAll (List.replicate 64 0) l) else ⟨#[]⟩
theorem or_change {xs : List Int} (hx : isBytes xs) (i : Nat) (hi : i / 8 < xs.length) : xs.set (i / 8) (Go.bits .or .u8 (xs.getD (i / 8) 0) (2 ^ (i % 8) % 256)) = change1 xs i true := by
  have hb := isBytes_getD hx (i / 8)
  have hs := byte_set hb.1 hb.2 (show i % 8 < 8 by omega)
  refine bytes_ext (isBytes_set hx _ hs.1.1 hs.1.2) (change1_isBytes hx i true) (by rw [List.length_set, change1_length]) (fun j hj => ?_)
  rw [set1_bit hx hi, bitL_set hi]
  split
  · rename_i e
    rw [hs.2 _ (by omega)]
    unfold bitL
    rw [e]
    congr 1
    exact decide_eq_decide.2 (by omega)
  · rename_i e
    rw [show decide (j = i) = false from decide_eq_false (fun q => e (by rw [q]))]
    simp
theorem shl_u8 (r : Nat) (hr : r < 8) : shl .u8 1 (r : Int) = 2 ^ r % 256 := by
  unfold shl
  rw [Int.toNat_natCast, show min r IntKind.u8.bits = r from Nat.min_eq_left (by show r ≤ 8; omega), IntKind.wrap_u8, Int.one_mul]
theorem spec_l6MapOf_ev (l : List Int) (hl : l.length ≤ 1099511627776) (hs : ∀ x ∈ l, 0 ≤ x ∧ x ≤ 127) : Ev (fun k => spec_l6MapOf.f k l) (strOfNums (setAll (List.replicate 64 0) l)) := by
  have lp : ∀ (d i : Nat), l.length - i = d → i ≤ l.length → Ev (fun k => spec_l6MapOf.l0 k l (setAll (List.replicate 64 0) (l.take i)) (i : Int)) (strOfNums (setAll (List.replicate 64 0) l)) := by
    intro d
    induction d with
    | zero =>
      intro i hd hi
      refine Ev.step (fun k => by rw [spec_l6MapOf.l0]) (Ev.neg (by omega) (Ev.eq ?_))
      rw [List.take_of_length_le (by omega)]
    | succ d ih =>
      intro i hd hi
      have hlt : i < l.length := by omega
      have hr := hs _ (List.getElem_mem hlt)
      obtain ⟨w, hw⟩ : ∃ w : Nat, l[i] = (w : Int) := ⟨l[i].toNat, by omega⟩
      have hlen : (setAll (List.replicate 64 0) (l.take i)).length = 64 := by rw [setAll_length, List.length_replicate]
      have hby := setAll_isBytes (l.take i) (isBytes_replicate 64)
      refine Ev.step (fun k => by rw [spec_l6MapOf.l0]) ?_
      rw [rd_get hlt, hw, Int.tdiv_eq_ediv_of_nonneg (by omega), Int.tmod_eq_emod_of_nonneg (by omega), w64 (x := (w : Int) / 8) (by omega) (by omega)]
      rw [show (w : Int) / 8 = ((w / 8 : Nat) : Int) from by omega, show IntKind.u64.wrap ((w : Int) % 8) = ((w % 8 : Nat) : Int) from by simp [IntKind.wrap, IntKind.bits, IntKind.signed]; omega]
      refine Ev.pos (by omega) (Ev.pos (by omega) (Ev.pos (by omega) (Ev.pos (by omega) (Ev.pos (by omega) ?_))))
      rw [shl_u8 _ (by omega), rd_eq, Int.toNat_natCast, or_change hby w (by omega), show wrap64 ((i : Int) + 1) = ((i + 1 : Nat) : Int) from by rw [w64 (by omega) (by omega)]; omega]
      have e : setAll (List.replicate 64 0) (l.take (i + 1)) = change1 (setAll (List.replicate 64 0) (l.take i)) w true := by
        rw [take_snoc2 l i hlt, setAll_snoc, hw, Int.toNat_natCast]
      rw [← e]
      exact ih (i + 1) (by omega) (by omega)
  unfold spec_l6MapOf.f
  refine Ev.pos (by decide) ?_
  have h := lp _ 0 rfl (by omega)
  simpa [setAll] using h
theorem spec_MapOf_ev (l : List Int) (hl : l.length ≤ 1099511627776) : Ev (fun k => spec_MapOf.f k l) (mapOf l) := by
  have lp : ∀ (d i : Nat), l.length - i = d → i ≤ l.length → lineTo l i → Ev (fun k => spec_MapOf.l0 k l (i : Int)) (mapOf l) := by
    intro d
    induction d with
    | zero =>
      intro i hd hi hs
      have ha := lineTo_all (by omega) hs
      refine Ev.step (fun k => by rw [spec_MapOf.l0]) (Ev.neg (by omega) (Ev.bind (spec_l6MapOf_ev l hl (lineTo_mem ha)) (Ev.eq ?_)))
      rw [mapOf, if_pos ha]
    | succ d ih =>
      intro i hd hi hs
      have hlt : i < l.length := by omega
      refine Ev.step (fun k => by rw [spec_MapOf.l0]) ?_
      refine Ev.pos (by omega) (Ev.pos (by omega) (Ev.bindo (l1In_f _ _ _) ?_))
      rw [rd_get hlt, show wrap64 ((i : Int) + 1) = ((i + 1 : Nat) : Int) from by rw [w64 (by omega) (by omega)]; omega]
      refine Ev.cases (fun e => ?_) (fun e => Ev.eq ?_)
      · have e : 0 ≤ l[i] ∧ l[i] ≤ 127 := by simpa using e
        refine Ev.cases (fun e2 => ?_) (fun e2 => ih (i + 1) (by omega) (by omega) (lineTo_next hlt hs e.1 e.2 (fun h => by omega)))
        have hp : i - 1 < l.length := by omega
        rw [show wrap64 ((i : Int) - 1) = ((i - 1 : Nat) : Int) from by rw [w64 (by omega) (by omega)]; omega, rd_get hp]
        refine Ev.pos (by omega) (Ev.pos (by omega) (Ev.cases (fun e3 => Ev.eq ?_) (fun e3 => ih (i + 1) (by omega) (by omega) (lineTo_next hlt hs e.1 e.2 (fun h => by omega)))))
        rw [mapOf, if_neg (fun h => by have := (h i hlt hlt).2.2 (by omega); omega)]
      · rw [mapOf, if_neg (fun h => e (by have := h i hlt hlt; simp [this.1, this.2.1]))]
  unfold spec_MapOf.f
  exact lp _ 0 rfl (by omega) (fun j hj hi => absurd hi (by omega))
theorem changed_strOf (xs : List Int) (hx : isBytes xs) (w : Nat) : changed (strOfNums xs) true w 1 = strOfNums (change1 xs w true) := by
  unfold changed
  rw [bytesOf_strOfNums hx]
  rfl
theorem impl_MapOf_ev (l : List Int) (hl : l.length ≤ 1099511627776) : Ev (fun k => impl_MapOf.f k l) (mapOf l) := by
  have lp : ∀ (d i : Nat), l.length - i = d → i ≤ l.length → lineTo l i → Ev (fun k => impl_MapOf.l0 k l (strOfNums (setAll (List.replicate 64 0) (l.take i))) l (l.length : Int) (i : Int)) (mapOf l) := by
    intro d
    induction d with
    | zero =>
      intro i hd hi hs
      have ha := lineTo_all (by omega) hs
      refine Ev.step (fun k => by rw [impl_MapOf.l0]) (Ev.neg (by omega) (Ev.eq ?_))
      rw [mapOf, if_pos ha, List.take_of_length_le (by omega)]
    | succ d ih =>
      intro i hd hi hs
      have hlt : i < l.length := by omega
      refine Ev.step (fun k => by rw [impl_MapOf.l0]) ?_
      refine Ev.pos (by omega) (Ev.pos (by omega) (Ev.pos (by omega) (Ev.bindo (within_f _ _ _) ?_)))
      rw [rd_get hlt, show wrap64 ((i : Int) + 1) = ((i + 1 : Nat) : Int) from by rw [w64 (by omega) (by omega)]; omega]
      refine Ev.cases (fun e => ?_) (fun e => Ev.eq ?_)
      · have e : 0 ≤ l[i] ∧ l[i] ≤ 127 := by simpa using e
        obtain ⟨w, hw⟩ : ∃ w : Nat, l[i] = (w : Int) := ⟨l[i].toNat, by omega⟩
        have hby := setAll_isBytes (l.take i) (isBytes_replicate 64)
        have hsz : (strOfNums (setAll (List.replicate 64 0) (l.take i))).size = 64 := by rw [strOfNums_size, setAll_length, List.length_replicate]
        have hc := changedMap_f (strOfNums (setAll (List.replicate 64 0) (l.take i))) w 1 true (by omega) (by omega)
        have e4 : setAll (List.replicate 64 0) (l.take (i + 1)) = change1 (setAll (List.replicate 64 0) (l.take i)) w true := by
          rw [take_snoc2 l i hlt, setAll_snoc, hw, Int.toNat_natCast]
        rw [changed_strOf _ hby, ← e4] at hc
        rw [hw] at e ⊢
        refine Ev.cases (fun e2 => ?_) (fun e2 => Ev.bindo hc (ih (i + 1) (by omega) (by omega) (lineTo_next hlt hs (by omega) (by omega) (fun h => by omega))))
        have hp : i - 1 < l.length := by omega
        rw [show wrap64 ((i : Int) - 1) = ((i - 1 : Nat) : Int) from by rw [w64 (by omega) (by omega)]; omega, rd_get hp]
        refine Ev.pos (by omega) (Ev.pos (by omega) (Ev.cases (fun e3 => Ev.eq ?_) (fun e3 => Ev.bindo hc (ih (i + 1) (by omega) (by omega) (lineTo_next hlt hs (by omega) (by omega) (fun h => by omega))))))
        rw [mapOf, if_neg (fun h => by have := (h i hlt hlt).2.2 (by omega); omega)]
      · rw [mapOf, if_neg (fun h => e (by have := h i hlt hlt; simp [this.1, this.2.1]))]
  unfold impl_MapOf.f
  refine Ev.bindo (impl_zeros_f 64 (by omega)) ?_
  have h := lp _ 0 rfl (by omega) (fun j hj hi => absurd hi (by omega))
  simpa [setAll, zerosB] using h
end Go.Proofs.Ytpeimlpipopeoaa.Pure
namespace Go.Proofs.Ytpeimlpipopeoaa.Pure
open Go.RowKit Go.Proofs.Ytpeimlpipopeoaa.X Go.Proofs.YtpeimlpipopeoaaW.PrintWords Go.Proofs.YtpeimlpipopeoaaW.PrintLast
theorem FnExactMapOf : laws_FnExactMapOf.Pure := by
  intro l _ hl8 _
  refine Ev.rounds ?_
  unfold laws_FnExactMapOf.f
  refine Ev.cases (fun _ => Ev.eq rfl) (fun _ => ?_)
  have hl : l.length ≤ 1099511627776 := by omega
  refine Ev.bind (toInt64S_ev l hl) (Ev.bind (spec_MapOf_ev l hl) (Ev.bind (toInt64S_ev l hl) (Ev.bind (impl_MapOf_ev l hl) (Ev.pos rfl ?_))))
  exact Ev.bind (toInt64S_ev l hl) (Ev.bind (eqInt64S_same l hl) (Ev.pos rfl (Ev.eq rfl)))
end Go.Proofs.Ytpeimlpipopeoaa.Pure
namespace Go.Proofs.Ytpeimlpipopeoaa.fnExactMapOf
open Go.ChangeShapes Go.WideShapes Go.ChangeAt Go.RowKit
open Go.ChangeMaps (open_string shut_string)
set_option linter.unusedVariables false
theorem own : ownKnob Try.prog.godebug = none := by kernel_rfl
theorem laidOut : laidOutB Try.prog = true := by kernel_rfl
def IsRow (k : IntKind) (w : World) (a : Option Addr) (len cap : Nat) (zs : List Int) : Prop :=
  (a = none ∧ len = 0 ∧ cap = 0 ∧ zs = []) ∨
  ∃ x, a = some x ∧ len ≤ cap ∧ cap ≤ maxLen ∧ zs.length = cap ∧ (∀ i, i < zs.length → w.cell? (x.add i) = some (.int k (zs.getD i 0))) ∧ ∀ n ∈ zs, (Lit.int k n).wf = true
set_option maxRecDepth 100000 in
theorem lifted (os : Os) (started : os.Started) (H : Type) (enc : TypeId × Value → H) :
    ReturnsInHanded {} Try.checked os 9 .any (Rows.fnExactMapOfSpec.pre6 enc Try.prog Try.f9 Rows.fnExactMapOfRow.domain false) (Rows.fnExactMapOfSpec.post enc Try.prog Try.f9 false true false false) := by
  refine returnsInHanded_of_change_sized (C := Try.checked) own started (by kernel_rfl) Try.func9
    (ChangeSpec.witness6 (enc := enc) (C := Try.checked) false ⟨#[], #[.slice none 0 0], []⟩ 8 (by kernel_rfl) (by kernel_rfl) (by kernel_rfl) (by kernel_rfl)) ?_
  intro W base args ds gs before hval0 hW hcnd hsz0 _
  have hsz : (DataW.weightsEach Try.prog (Try.f9.params.toList ++ Rows.fnExactMapOfSpec.plain.varTypes Try.prog) (ds ++ gs)).all (· ≤ reachBytes) = true := hsz0
  have hval : ∀ (j : Nat) t v, Try.f9.params[j]? = some t → args[j]? = some v → Value.okWide Try.prog W .any base t v := hval0
  have hW' := hW
  obtain ⟨p, q, hA0, hV, rfl, hfz, hnd⟩ := hW
  have hA : DataW.TrodAll enc Try.prog W 0 (fun _ => true) true Try.f9.params.toList args.toList ds p := hA0
  rw [Try.params9] at hA hval hsz
  obtain ⟨v0, vs0, d0, ds0, p0, q0, hargs, rfl, rfl, h0, r0⟩ := trodAll_cons hA
  obtain ⟨rfl, rfl, rfl⟩ := trodAll_nil r0
  obtain rfl : args = #[v0] := by cases args; simp_all
  obtain ⟨rfl, rfl⟩ := trodVars_none hV
  obtain ⟨a0, len0, cap0, rfl⟩ := okWide_slice Try.underlying22 (hval 0 22 v0 rfl rfl)
  have k0 := h0
  have lt0 : ∀ x ∈ p0, x.block < W.heap.size := by obtain ⟨m, hm⟩ := k0; exact DataW.trod_lt m _ _ _ hm
  obtain ⟨z0, w0⟩ : ∃ zs, IsRow .i64 W a0 len0 cap0 zs := by
    obtain ⟨fuel, hf⟩ := h0
    rcases open_ints Try.underlying22 Try.underlying2 (by kernel_rfl) hf with ⟨hcs, _⟩ | ⟨x, l, c, zs, hcs, _, hl, hm, hz, _, hcell, hwz⟩
    · simp [Value.cells] at hcs
      obtain ⟨rfl, rfl, rfl⟩ := hcs
      exact ⟨[], .inl ⟨rfl, rfl, rfl, rfl⟩⟩
    · simp [Value.cells] at hcs
      obtain ⟨rfl, rfl, rfl⟩ := hcs
      exact ⟨zs, .inr ⟨_, rfl, hl, hm, by simpa using hz, hcell, hwz⟩⟩
  have y0 : len0 * 8 ≤ 140737488351232 := Go.Proofs.YtpeimlpipopeoaaW.PrintWords.sized_ints hsz (j := 0) (t := 22) rfl rfl Try.underlying22 Try.underlying2 (by kernel_rfl) (by kernel_rfl) h0
  clear hA0 hval0 hsz0 hsz
  refine (X.laws_FnExactMapOf.walk Pure.FnExactMapOf a0 len0 cap0 z0 W w0 y0).mono fun e W' ⟨he, bel⟩ => ?_
  subst he
  exact ⟨_, rfl, _, _, _, [], _, [], hW', trodAll_mk1 (shut_bool Try.underlying4 _), (trodAll_cons_mk (Below.trod laidOut (by kernel_rfl) (of_decide_eq_true (by kernel_rfl)) k0 bel lt0) trodAll_mk0), rfl, bel.frame _, fun h => by cases h⟩
theorem over : Rows.fnExactMapOfRow.holds Try.pinned (OpenSpec.ofChange Rows.fnExactMapOfSpec) :=
  OpenClaim.holds_of_wide 9 Try.f9 rfl rfl rfl rfl rfl rfl rfl ⟨rfl, rfl, rfl, rfl, rfl⟩ rfl rfl rfl rfl rfl (by kernel_rfl) Try.func9 (by kernel_rfl)
    (of_decide_eq_true (by kernel_rfl)) (by unfold Func.isWrapper; first | (rw [if_pos (by decide +kernel)]; kernel_rfl) | (rw [if_neg (by decide +kernel)]; exact ⟨rfl, rfl⟩))
    (fun os started H enc _ => lifted os started H enc)
theorem proved : Rows.FnExactMapOfSaid := over
#print axioms proved
end Go.Proofs.Ytpeimlpipopeoaa.fnExactMapOf
namespace Go.Proofs.Ytpeimlpipopeoaa
/-- The row, under a short name, for the claim. -/
theorem fnExactMapOf_holds : Rows.FnExactMapOfSaid := fnExactMapOf.proved
end Go.Proofs.Ytpeimlpipopeoaa
