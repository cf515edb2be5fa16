/- Maps of lines: the tests and the bits that the reference and the program read, lines of a map, gaps: what both come to. No condition but that a text read is a map. -/
import Derived.Test.YtpeimlpipopeoaaQBits
import Derived.Test.YtpeimlpipopeoaaQSets
import Derived.Test.YtpeimlpipopeoaaXImplGaps
import Derived.Test.YtpeimlpipopeoaaXImplFreeOf
import Derived.Test.YtpeimlpipopeoaaXImplFindRun
import Derived.Test.YtpeimlpipopeoaaXImplLinesOf
import Derived.Test.YtpeimlpipopeoaaXSpecLinesOf
import Derived.Test.YtpeimlpipopeoaaXSpecFreeOf
import Derived.Test.YtpeimlpipopeoaaXSpecFindRun
import Derived.Test.YtpeimlpipopeoaaXSpecGaps
namespace Go.Proofs.Ytpeimlpipopeoaa.Pure
open Go.RowKit Go.Proofs.Ytpeimlpipopeoaa.X Go.Proofs.YtpeimlpipopeoaaW.PrintWords Go.Proofs.YtpeimlpipopeoaaW.PrintLast Go.Proofs.YtpeimlpipopeoaaW.PrintMore
set_option linter.unusedVariables false
set_option linter.unusedSimpArgs false

theorem repeat_zero (n : Nat) : Lib.repeatL [0] n = List.replicate n 0 := by
  induction n with
  | zero => rfl
  | succ n ih => rw [Lib.repeatL, ih]; rfl
def zerosB (n : Nat) : ByteArray := strOfNums (List.replicate n 0)
theorem zerosB_size (n : Nat) : (zerosB n).size = n := by rw [zerosB, strOfNums_size, List.length_replicate]
theorem bytesOf_zerosB (n : Nat) : bytesOf (zerosB n) = List.replicate n 0 := bytesOf_strOfNums (isBytes_replicate n)
theorem impl_zeros_f (n : Nat) (h : n ≤ 1048576) : impl_zeros.f (n : Int) = some (zerosB n) := by
  unfold impl_zeros.f strings_Repeat.f
  rw [if_pos (by omega), if_pos (by omega), if_pos (by decide)]
  simp only [Option.bind_some, Int.toNat_natCast]
  refine congrArg some ?_
  rw [repeat_zero]
  simp [zerosB, strOfNums]
theorem spec_l1Zeros_f (n : Nat) (h : n ≤ 1048576) : spec_l1Zeros.f (n : Int) = some (zerosB n) := by
  unfold spec_l1Zeros.f
  rw [if_pos (by omega), if_pos (by rw [Int.toNat_natCast]; omega), Int.toNat_natCast]
  rfl
def mapOk (s : ByteArray) : Prop := s.size = 64 ∧ s.extract 16 s.size = zerosB 48
instance (s : ByteArray) : Decidable (mapOk s) := by unfold mapOk; infer_instance
theorem spec_l6Map_f (s : ByteArray) : spec_l6Map.f s = some (decide (mapOk s)) := by
  unfold spec_l6Map.f mapOk
  have z := spec_l1Zeros_f 48 (by omega)
  split
  · rename_i h
    rw [if_pos (by omega), show (48 : Int) = ((48 : Nat) : Int) from rfl, z]
    simp only [Option.bind_some, toList_beq]
    refine congrArg some (decide_eq_decide.2 ⟨fun e => ⟨by omega, e⟩, fun e => e.2⟩)
  · rename_i h
    refine congrArg some (decide_eq_false (fun e => h (by omega))).symm
theorem impl_isMap_f (s : ByteArray) : impl_isMap.f s = some (decide (mapOk s)) := by
  unfold impl_isMap.f mapOk
  have z := impl_zeros_f 48 (by omega)
  split
  · rename_i h
    rw [if_pos (by omega), show (48 : Int) = ((48 : Nat) : Int) from rfl, z]
    simp only [Option.bind_some, toList_beq]
    refine congrArg some (decide_eq_decide.2 ⟨fun e => ⟨by omega, e⟩, fun e => e.2⟩)
  · rename_i h
    refine congrArg some (decide_eq_false (fun e => h (by omega))).symm

/-- Is line n taken. -/
def tk (s : ByteArray) (n : Int) : Bool := bitL (bytesOf s) n.toNat
theorem and_one {x : Int} (h0 : 0 ≤ x) (h1 : x ≤ 255) : Go.bits .and .u8 x 1 = x % 2 := by
  have h := Go.bits_mask .u8 8 (by decide) Go.wraps_u8 1 (by decide) x h0 (by omega)
  simpa using h
theorem shr_u8 (x : Int) (r : Nat) (hr : r < 8) : shr .u8 x (r : Int) = x / 2 ^ r := by
  unfold shr
  rw [Int.toNat_natCast, show min r IntKind.u8.bits = r from Nat.min_eq_left (by show r ≤ 8; omega)]
theorem div_range {x : Int} (h0 : 0 ≤ x) (h1 : x ≤ 255) (r : Nat) : 0 ≤ x / 2 ^ r ∧ x / 2 ^ r ≤ 255 := by
  have hp : (0 : Int) < 2 ^ r := Int.pow_pos (by decide)
  exact ⟨Int.ediv_nonneg h0 (by omega), Int.le_trans (Int.ediv_le_self _ h0) h1⟩
theorem bit_read (s : ByteArray) (n : Nat) : (Go.bits .and .u8 (shr .u8 (bt s ((n / 8 : Nat) : Int)) ((n % 8 : Nat) : Int)) 1 == 1) = tk s (n : Int) := by
  have hb := bt_range s ((n / 8 : Nat) : Int)
  have hd := div_range hb.1 hb.2 (n % 8)
  rw [shr_u8 _ _ (by omega), and_one hd.1 hd.2, bt_bytesOf]
  unfold tk bitL bitv
  rw [Int.toNat_natCast]
theorem spec_l6Bit_f (s : ByteArray) (n : Nat) (h : n / 8 < s.size) (hn : n ≤ 1099511627776) : spec_l6Bit.f s (n : Int) = some (tk s (n : Int)) := by
  unfold spec_l6Bit.f
  rw [Int.tdiv_eq_ediv_of_nonneg (by omega), Int.tmod_eq_emod_of_nonneg (by omega), w64 (by omega) (by omega)]
  rw [show (n : Int) / 8 = ((n / 8 : Nat) : Int) from by omega, show IntKind.u64.wrap ((n : Int) % 8) = ((n % 8 : Nat) : Int) from by simp [IntKind.wrap, IntKind.bits, IntKind.signed]; omega]
  rw [if_pos (by omega), if_pos (by omega), if_pos (by omega), bit_read]
theorem impl_isTaken_f (s : ByteArray) (n : Nat) (h : n / 8 < s.size) (hn : n ≤ 1099511627776) : impl_isTaken.f s (n : Int) = some (tk s (n : Int)) := by
  unfold impl_isTaken.f
  rw [Int.tdiv_eq_ediv_of_nonneg (by omega), Int.tmod_eq_emod_of_nonneg (by omega), w64 (by omega) (by omega)]
  rw [show (n : Int) / 8 = ((n / 8 : Nat) : Int) from by omega, show (n : Int) % 8 = ((n % 8 : Nat) : Int) from by omega]
  rw [if_pos (by omega), if_pos (by omega), if_pos (by omega), bit_read]
theorem spec_bit (s : ByteArray) (n : Int) (hs : mapOk s) (h0 : 0 ≤ n) (h1 : n < 128) : spec_l6Bit.f s n = some (tk s n) := by
  obtain ⟨m, rfl⟩ := Int.eq_ofNat_of_zero_le h0
  exact spec_l6Bit_f s m (by have := hs.1; omega) (by omega)
theorem impl_bit (s : ByteArray) (n : Int) (hs : mapOk s) (h0 : 0 ≤ n) (h1 : n < 128) : impl_isTaken.f s n = some (tk s n) := by
  obtain ⟨m, rfl⟩ := Int.eq_ofNat_of_zero_le h0
  exact impl_isTaken_f s m (by have := hs.1; omega) (by omega)

/-! ### lines -/
/-- The taken ones of the lines i, .., i + d - 1. -/
def linesFrom (t : Int → Bool) (i : Int) : Nat → List Int
  | 0 => []
  | d + 1 => if t i then i :: linesFrom t (i + 1) d else linesFrom t (i + 1) d
theorem linesFrom_length (t : Int → Bool) : ∀ (d : Nat) (i : Int), (linesFrom t i d).length ≤ d
  | 0, i => by simp [linesFrom]
  | d + 1, i => by
    have h := linesFrom_length t d (i + 1)
    simp only [linesFrom]
    split
    · simp; omega
    · omega
def linesOf (s : ByteArray) : List Int := if mapOk s then linesFrom (tk s) 0 128 else []
theorem impl_LinesOf_ev (s : ByteArray) : Ev (fun k => impl_LinesOf.f k s) (linesOf s) := by
  unfold impl_LinesOf.f
  refine Ev.bindo (impl_isMap_f s) (Ev.cases (fun c => ?_) (fun c => Ev.eq ?_))
  · have c : mapOk s := by simpa using c
    have l : ∀ (d i : Nat) (acc : List Int), 128 - i = d → i ≤ 128 → acc.length ≤ i → Ev (fun k => impl_LinesOf.l0 k s acc (i : Int)) (acc ++ linesFrom (tk s) i d) := by
      intro d
      induction d with
      | zero =>
        intro i acc hd hi ha
        refine Ev.step (fun k => by rw [impl_LinesOf.l0]) (Ev.neg (by omega) (Ev.eq (by simp [linesFrom])))
      | succ d ih =>
        intro i acc hd hi ha
        refine Ev.step (fun k => by rw [impl_LinesOf.l0]) (Ev.pos (by omega) (Ev.bindo (impl_bit s i c (by omega) (by omega)) ?_))
        rw [show wrap64 ((i : Int) + 1) = ((i + 1 : Nat) : Int) from by rw [w64 (by omega) (by omega)]; omega]
        refine Ev.cases (fun e => Ev.pos (by omega) ?_) (fun e => ?_)
        · refine Ev.val (ih (i + 1) (acc ++ [(i : Int)]) (by omega) (by omega) (by simp; omega)) ?_
          simp [linesFrom, e]
        · refine Ev.val (ih (i + 1) acc (by omega) (by omega) (by omega)) ?_
          simp [linesFrom, e]
    exact Ev.val (l 128 0 [] rfl (by omega) (by simp)) (by simp [linesOf, c])
  · have c : ¬ mapOk s := by simpa using c
    simp [linesOf, c]
theorem spec_LinesOf_ev (s : ByteArray) : Ev (fun k => spec_LinesOf.f k s) (linesOf s) := by
  unfold spec_LinesOf.f
  by_cases c : mapOk s
  · have l : ∀ (d i : Nat) (acc : List Int), 128 - i = d → i ≤ 128 → acc.length ≤ i → Ev (fun k => spec_LinesOf.l0 k s acc (i : Int)) (acc ++ linesFrom (tk s) i d) := by
      intro d
      induction d with
      | zero =>
        intro i acc hd hi ha
        refine Ev.step (fun k => by rw [spec_LinesOf.l0]) (Ev.neg (by omega) ?_)
        refine Ev.step (fun k => by rw [spec_LinesOf.j1]) (Ev.neg (by simp) (Ev.eq (by simp [linesFrom])))
      | succ d ih =>
        intro i acc hd hi ha
        refine Ev.step (fun k => by rw [spec_LinesOf.l0]) (Ev.pos (by omega) (Ev.bindo (spec_l6Map_f s) ?_))
        refine Ev.step (fun k => by rw [spec_LinesOf.j1]) (Ev.pos (by simp [c]) (Ev.bindo (spec_bit s i c (by omega) (by omega)) ?_))
        rw [show wrap64 ((i : Int) + 1) = ((i + 1 : Nat) : Int) from by rw [w64 (by omega) (by omega)]; omega]
        refine Ev.cases (fun e => Ev.pos (by omega) ?_) (fun e => ?_)
        · refine Ev.val (ih (i + 1) (acc ++ [(i : Int)]) (by omega) (by omega) (by simp; omega)) ?_
          simp [linesFrom, e]
        · refine Ev.val (ih (i + 1) acc (by omega) (by omega) (by omega)) ?_
          simp [linesFrom, e]
    exact Ev.val (l 128 0 [] rfl (by omega) (by simp)) (by simp [linesOf, c])
  · refine Ev.step (fun k => by rw [spec_LinesOf.l0]) (Ev.pos (by omega) (Ev.bindo (spec_l6Map_f s) ?_))
    refine Ev.step (fun k => by rw [spec_LinesOf.j1]) (Ev.neg (by simp [c]) (Ev.eq (by simp [linesOf, c])))

/-! ### areas and gaps -/
def areaOk (s : ByteArray) (a b : Int) : Prop := mapOk s ∧ 0 ≤ a ∧ a ≤ b ∧ b ≤ 128
instance (s : ByteArray) (a b : Int) : Decidable (areaOk s a b) := by unfold areaOk; infer_instance
theorem impl_isArea_f (s : ByteArray) (a b : Int) : impl_isArea.f s a b = some (decide (areaOk s a b)) := by
  unfold impl_isArea.f areaOk
  rw [impl_isMap_f, Option.bind_some]
  by_cases c : mapOk s
  · simp only [c, decide_true, if_true, true_and]
    by_cases h1 : a ≥ 0
    · by_cases h2 : a ≤ b
      · simp [h1, h2]
      · simp [h1, h2]
    · simp [h1]
  · simp [c]
theorem spec_l6Range_f (s : ByteArray) (a b : Int) : spec_l6Range.f s a b = some (decide (areaOk s a b)) := by
  unfold spec_l6Range.f areaOk
  rw [spec_l6Map_f, Option.bind_some]
  by_cases c : mapOk s
  · simp only [c, decide_true, if_true, true_and]
    by_cases h1 : a ≥ 0
    · by_cases h2 : a ≤ b
      · simp [h1, h2]
      · simp [h1, h2]
    · simp [h1]
  · simp [c]
/-- How many of the lines i, .., i + d - 1 are free. -/
def freeFrom (t : Int → Bool) (i : Int) : Nat → Int
  | 0 => 0
  | d + 1 => (if t i then 0 else 1) + freeFrom t (i + 1) d
theorem freeFrom_range (t : Int → Bool) : ∀ (d : Nat) (i : Int), 0 ≤ freeFrom t i d ∧ freeFrom t i d ≤ d
  | 0, i => by simp [freeFrom]
  | d + 1, i => by
    have h := freeFrom_range t d (i + 1)
    simp only [freeFrom]
    split <;> omega
theorem spec_FreeOf_ev (s : ByteArray) (a b : Int) : Ev (fun k => spec_FreeOf.f k s a b) (if areaOk s a b then freeFrom (tk s) a (b - a).toNat else -1) := by
  unfold spec_FreeOf.f
  refine Ev.bindo (spec_l6Range_f s a b) (Ev.cases (fun c => ?_) (fun c => Ev.eq ?_))
  · have c : areaOk s a b := by simpa using c
    obtain ⟨hm, h0, h1, h2⟩ := c
    have l : ∀ (d : Nat) (i acc : Int), (b - i).toNat = d → a ≤ i → i ≤ b → 0 ≤ acc → acc ≤ i → Ev (fun k => spec_FreeOf.l0 k s b acc i) (acc + freeFrom (tk s) i d) := by
      intro d
      induction d with
      | zero =>
        intro i acc hd hi hb ha ha2
        refine Ev.step (fun k => by rw [spec_FreeOf.l0]) (Ev.neg (by omega) (Ev.eq (by simp [freeFrom])))
      | succ d ih =>
        intro i acc hd hi hb ha ha2
        refine Ev.step (fun k => by rw [spec_FreeOf.l0]) (Ev.pos (by omega) (Ev.bindo (spec_bit s i hm (by omega) (by omega)) ?_))
        rw [w64 (x := i + 1) (by omega) (by omega), w64 (x := acc + 1) (by omega) (by omega)]
        refine Ev.cases (fun e => ?_) (fun e => ?_)
        · refine Ev.val (ih (i + 1) acc (by omega) (by omega) (by omega) (by omega) (by omega)) ?_
          simp [freeFrom, e]
        · refine Ev.val (ih (i + 1) (acc + 1) (by omega) (by omega) (by omega) (by omega) (by omega)) ?_
          simp [freeFrom, e]; omega
    refine Ev.val (l _ a 0 rfl (by omega) (by omega) (by omega) (by omega)) ?_
    rw [if_pos ⟨hm, h0, h1, h2⟩]; omega
  · rw [if_neg (by simpa using c)]

theorem rdT_last (g : List S61) (h : 1 ≤ g.length) : rd_T61 g ((g.length : Int) - 1) = g.getD (g.length - 1) z61 := by
  unfold rd_T61
  rw [show ((g.length : Int) - 1).toNat = g.length - 1 from by omega]
/-- A free line is laid to the gaps before it. -/
def addGap (g : List S61) (i : Int) : List S61 :=
  if 1 ≤ g.length ∧ (g.getD (g.length - 1) z61).f0 + (g.getD (g.length - 1) z61).f1 = i
  then g.set (g.length - 1) ⟨(g.getD (g.length - 1) z61).f0, (g.getD (g.length - 1) z61).f1 + 1⟩
  else g ++ [⟨i, 1⟩]
def gapsGo (t : Int → Bool) : Nat → List S61 → Int → List S61
  | 0, g, _ => g
  | d + 1, g, i => if t i then gapsGo t d g (i + 1) else gapsGo t d (addGap g i) (i + 1)
/-- What holds of the gaps of the lines a, .., i - 1. -/
structure Gap (t : Int → Bool) (a i : Int) (g : List S61) : Prop where
  each : ∀ x ∈ g, a ≤ x.f0 ∧ 1 ≤ x.f1 ∧ x.f0 + x.f1 ≤ i
  free : ∀ x ∈ g, ∀ j, x.f0 ≤ j → j < x.f0 + x.f1 → t j = false
  stop : ∀ x ∈ g, x.f0 + x.f1 < i → t (x.f0 + x.f1) = true
  all : ∀ j, a ≤ j → j < i → t j = false → ∃ x ∈ g, x.f0 ≤ j ∧ j < x.f0 + x.f1
  sorted : g.Pairwise (fun x y => x.f0 + x.f1 < y.f0)
theorem snoc_cases {α : Type} (g : List α) : g = [] ∨ ∃ l x, g = l ++ [x] := by
  rcases Nat.eq_zero_or_pos g.length with h | h
  · exact .inl (List.eq_nil_of_length_eq_zero h)
  · have hne : g ≠ [] := by intro e; simp [e] at h
    exact .inr ⟨g.dropLast, g.getLast hne, (List.dropLast_concat_getLast hne).symm⟩
theorem getD_snoc {α : Type} (l : List α) (x d : α) : (l ++ [x]).getD ((l ++ [x]).length - 1) d = x := by
  simp [List.getD_eq_getElem?_getD]
theorem set_snoc {α : Type} (l : List α) (x y : α) : (l ++ [x]).set ((l ++ [x]).length - 1) y = l ++ [y] := by
  simp [List.set_append]
theorem Gap.nil (t : Int → Bool) (a : Int) : Gap t a a [] := ⟨by simp, by simp, by simp, fun j h0 h1 => by omega, List.Pairwise.nil⟩
theorem Gap.taken {t : Int → Bool} {a i : Int} {g : List S61} (h : Gap t a i g) (ht : t i = true) : Gap t a (i + 1) g := by
  refine ⟨fun x hx => by have := h.each x hx; omega, h.free, fun x hx hlt => ?_, fun j h0 h1 hj => ?_, h.sorted⟩
  · by_cases e : x.f0 + x.f1 < i
    · exact h.stop x hx e
    · have := h.each x hx
      rw [show x.f0 + x.f1 = i from by omega]
      exact ht
  · by_cases e : j < i
    · exact h.all j h0 e hj
    · rw [show j = i from by omega, ht] at hj
      cases hj
theorem Gap.add {t : Int → Bool} {a i : Int} {g : List S61} (h : Gap t a i g) (ha : a ≤ i) (ht : t i = false) : Gap t a (i + 1) (addGap g i) := by
  unfold addGap
  rcases snoc_cases g with rfl | ⟨l, x, rfl⟩
  · rw [if_neg (by simp)]
    refine ⟨fun x hx => ?_, fun x hx j h0 h1 => ?_, fun x hx hlt => ?_, fun j h0 h1 hj => ?_, by simp⟩
    · simp at hx; subst hx; simp; omega
    · simp at hx; subst hx; simp at h0 h1; rw [show j = i from by omega]; exact ht
    · simp at hx; subst hx; simp at hlt
    · by_cases e : j < i
      · obtain ⟨x, hx, _⟩ := h.all j h0 e hj
        cases hx
      · exact ⟨⟨i, 1⟩, List.mem_singleton.2 rfl, by show i ≤ j; omega, by show j < i + 1; omega⟩
  · rw [getD_snoc, set_snoc]
    have hx0 := h.each x (by simp)
    have hs := List.pairwise_append.1 h.sorted
    split
    · rename_i c
      have c := c.2
      refine ⟨fun y hy => ?_, fun y hy j h0 h1 => ?_, fun y hy hlt => ?_, fun j h0 h1 hj => ?_, ?_⟩
      · rcases List.mem_append.1 hy with hy | hy
        · have := h.each y (by simp [hy]); omega
        · simp at hy; subst hy; simp; omega
      · rcases List.mem_append.1 hy with hy | hy
        · exact h.free y (by simp [hy]) j h0 h1
        · simp at hy; subst hy; simp at h0 h1
          by_cases e : j < i
          · exact h.free x (by simp) j h0 (by omega)
          · rw [show j = i from by omega]; exact ht
      · rcases List.mem_append.1 hy with hy | hy
        · have := hs.2.2 y hy x (by simp)
          exact h.stop y (by simp [hy]) (by omega)
        · simp at hy; subst hy; simp at hlt; omega
      · by_cases e : j < i
        · obtain ⟨y, hy, h2, h3⟩ := h.all j h0 e hj
          rcases List.mem_append.1 hy with hy | hy
          · exact ⟨y, by simp [hy], h2, h3⟩
          · simp at hy; subst hy
            exact ⟨_, List.mem_append_right _ (List.mem_singleton.2 rfl), h2, by simp; omega⟩
        · exact ⟨_, List.mem_append_right _ (List.mem_singleton.2 rfl), by simp; omega, by simp; omega⟩
      · refine List.pairwise_append.2 ⟨hs.1, by simp, fun y hy z hz => ?_⟩
        simp at hz; subst hz
        exact hs.2.2 y hy x (by simp)
    · rename_i c
      have c : x.f0 + x.f1 ≠ i := fun e => c ⟨by simp, e⟩
      refine ⟨fun y hy => ?_, fun y hy j h0 h1 => ?_, fun y hy hlt => ?_, fun j h0 h1 hj => ?_, ?_⟩
      · rcases List.mem_append.1 hy with hy | hy
        · have := h.each y hy; omega
        · simp at hy; subst hy; simp; omega
      · rcases List.mem_append.1 hy with hy | hy
        · exact h.free y hy j h0 h1
        · simp at hy; subst hy; simp at h0 h1; rw [show j = i from by omega]; exact ht
      · rcases List.mem_append.1 hy with hy | hy
        · rcases List.mem_append.1 hy with hy2 | hy2
          · have := hs.2.2 y hy2 x (by simp)
            exact h.stop y hy (by omega)
          · simp at hy2; subst hy2
            exact h.stop y hy (by omega)
        · simp at hy; subst hy; simp at hlt
      · by_cases e : j < i
        · obtain ⟨y, hy, h2⟩ := h.all j h0 e hj
          exact ⟨y, List.mem_append_left _ hy, h2⟩
        · exact ⟨_, List.mem_append_right _ (List.mem_singleton.2 rfl), by simp; omega, by simp; omega⟩
      · refine List.pairwise_append.2 ⟨h.sorted, by simp, fun y hy z hz => ?_⟩
        simp at hz; subst hz
        simp
        rcases List.mem_append.1 hy with hy2 | hy2
        · have := hs.2.2 y hy2 x (by simp); omega
        · simp at hy2; subst hy2; omega
theorem Gap.go {t : Int → Bool} {a : Int} : ∀ (d : Nat) (i : Int) (g : List S61), Gap t a i g → a ≤ i → Gap t a (i + d) (gapsGo t d g i)
  | 0, i, g, h, _ => by simpa [gapsGo] using h
  | d + 1, i, g, h, ha => by
    simp only [gapsGo]
    rw [show i + ((d + 1 : Nat) : Int) = i + 1 + (d : Nat) from by omega]
    split
    · rename_i e
      exact Gap.go d (i + 1) g (h.taken e) (by omega)
    · rename_i e
      exact Gap.go d (i + 1) _ (h.add ha (by simpa using e)) (by omega)
/-- There are no more gaps than lines. -/
theorem Gap.length {t : Int → Bool} {a i : Int} {g : List S61} (h : Gap t a i g) (ha : a ≤ i) : (g.length : Int) ≤ i - a := by
  have key : ∀ (g : List S61) (a : Int), a ≤ i → (∀ x ∈ g, a ≤ x.f0 ∧ 1 ≤ x.f1 ∧ x.f0 + x.f1 ≤ i) → g.Pairwise (fun x y => x.f0 + x.f1 < y.f0) → (g.length : Int) ≤ i - a := by
    intro g
    induction g with
    | nil => intro a ha _ _; simp; omega
    | cons x g ih =>
      intro a ha he hs
      have hx := he x (by simp)
      have h2 := List.pairwise_cons.1 hs
      have := ih (x.f0 + x.f1) (by omega) (fun y hy => by have := h2.1 y hy; have := he y (by simp [hy]); omega) h2.2
      simp only [List.length_cons]
      omega
  exact key g a ha h.each h.sorted
def gapsOf (s : ByteArray) (a b : Int) : List S61 := gapsGo (tk s) (b - a).toNat [] a
theorem gapsOf_gap (s : ByteArray) (a b : Int) (h : a ≤ b) : Gap (tk s) a b (gapsOf s a b) := by
  have g := Gap.go (t := tk s) (b - a).toNat a [] (Gap.nil _ a) (by omega)
  rwa [show a + ((b - a).toNat : Int) = b from by omega] at g
theorem gapStep (t : Int → Bool) (a b i : Int) (g : List S61) (h : Gap t a i g) (ha : 0 ≤ a) (hai : a ≤ i) (hib : i < b) (hb : b ≤ 128) (ht : t i = false) {A : List S61 → Nat → Option (List S61)} {r : List S61} (hr : Ev (fun k => A (addGap g i) k) r) :
    Ev (fun k => if (wrap64 ((g.length : Int) - 1)) ≥ 0 then (if 0 ≤ (wrap64 ((g.length : Int) - 1)) then (if (wrap64 ((g.length : Int) - 1)) < (g.length : Int) then (if (wrap64 (((rd_T61 g (wrap64 ((g.length : Int) - 1))).f0) + ((rd_T61 g (wrap64 ((g.length : Int) - 1))).f1))) = i then (A (g.set ((wrap64 ((g.length : Int) - 1)) : Int).toNat (⟨(rd_T61 g (wrap64 ((g.length : Int) - 1))).f0, wrap64 (((rd_T61 g (wrap64 ((g.length : Int) - 1))).f1) + 1)⟩ : S61)) k) else (if g.length < 8796093022208 then (A (g ++ [(⟨i, 1⟩ : S61)]) k) else (none))) else (none)) else (none)) else (if g.length < 8796093022208 then (A (g ++ [(⟨i, 1⟩ : S61)]) k) else (none))) r := by
  have hl := h.length hai
  rw [w64 (x := (g.length : Int) - 1) (by omega) (by omega)]
  by_cases h1 : 1 ≤ g.length
  · refine Ev.pos (by omega) (Ev.pos (by omega) (Ev.pos (by omega) ?_))
    rw [rdT_last g h1]
    rcases snoc_cases g with rfl | ⟨l, x, rfl⟩
    · simp at h1
    · have hx := h.each x (by simp)
      unfold addGap at hr
      rw [getD_snoc] at hr ⊢
      rw [w64 (x := x.f0 + x.f1) (by omega) (by omega), w64 (x := x.f1 + 1) (by omega) (by omega), show (((l ++ [x]).length : Int) - 1).toNat = (l ++ [x]).length - 1 from by omega]
      refine Ev.cases (fun e => ?_) (fun e => Ev.pos (by omega) ?_)
      · rwa [if_pos ⟨h1, e⟩] at hr
      · rwa [if_neg (fun q => e q.2)] at hr
  · refine Ev.neg (by omega) (Ev.pos (by omega) ?_)
    unfold addGap at hr
    rwa [if_neg (fun q => h1 q.1)] at hr
theorem impl_gaps_ev (s : ByteArray) (a b : Int) (hm : mapOk s) (h0 : 0 ≤ a) (h1 : a ≤ b) (h2 : b ≤ 128) : Ev (fun k => impl_gaps.f k s a b) (gapsOf s a b) := by
  have l : ∀ (d : Nat) (i : Int) (g : List S61), (b - i).toNat = d → a ≤ i → i ≤ b → Gap (tk s) a i g → Ev (fun k => impl_gaps.l0 k s b g i) (gapsGo (tk s) d g i) := by
    intro d
    induction d with
    | zero =>
      intro i g hd hi hb hg
      refine Ev.step (fun k => by first | (rw [impl_gaps.l0]; done) | (rw [impl_gaps.l0]; rfl)) (Ev.neg (by omega) (Ev.eq rfl))
    | succ d ih =>
      intro i g hd hi hb hg
      refine Ev.step (fun k => by first | (rw [impl_gaps.l0]; done) | (rw [impl_gaps.l0]; rfl)) (Ev.pos (by omega) (Ev.bindo (impl_bit s i hm (by omega) (by omega)) ?_))
      rw [w64 (x := i + 1) (by omega) (by omega)]
      refine Ev.cases (fun e => ?_) (fun e => ?_)
      · refine Ev.val (ih (i + 1) g (by omega) (by omega) (by omega) (hg.taken e)) ?_
        simp [gapsGo, e]
      · have e : tk s i = false := by simpa using e
        refine gapStep (tk s) a b i g hg h0 hi (by omega) h2 e (A := fun g k => impl_gaps.l0 k s b g (i + 1)) ?_
        refine Ev.val (ih (i + 1) _ (by omega) (by omega) (by omega) (hg.add hi e)) ?_
        simp [gapsGo, e]
  unfold impl_gaps.f
  exact l _ a [] rfl (by omega) h1 (Gap.nil _ a)
theorem impl_Gaps_ev (s : ByteArray) (a b : Int) : Ev (fun k => impl_Gaps.f k s a b) (if areaOk s a b then gapsOf s a b else []) := by
  unfold impl_Gaps.f
  refine Ev.bindo (impl_isArea_f s a b) (Ev.cases (fun c => ?_) (fun c => Ev.eq ?_))
  · have c : areaOk s a b := by simpa using c
    rw [if_pos c]
    exact Ev.bind (impl_gaps_ev s a b c.1 c.2.1 c.2.2.1 c.2.2.2) (Ev.eq rfl)
  · rw [if_neg (by simpa using c)]
theorem spec_Gaps_ev (s : ByteArray) (a b : Int) : Ev (fun k => spec_Gaps.f k s a b) (if areaOk s a b then gapsOf s a b else []) := by
  unfold spec_Gaps.f
  refine Ev.bindo rfl (Ev.bindo (spec_l6Range_f s a b) (Ev.cases (fun c => ?_) (fun c => Ev.eq ?_)))
  · have c : areaOk s a b := by simpa using c
    rw [if_pos c]
    obtain ⟨hm, h0, h1, h2⟩ := c
    have l : ∀ (d : Nat) (i : Int) (g : List S61), (b - i).toNat = d → a ≤ i → i ≤ b → Gap (tk s) a i g → Ev (fun k => spec_Gaps.l0 k s b g i) (gapsGo (tk s) d g i) := by
      intro d
      induction d with
      | zero =>
        intro i g hd hi hb hg
        refine Ev.step (fun k => by first | (rw [spec_Gaps.l0]; done) | (rw [spec_Gaps.l0]; rfl)) (Ev.neg (by omega) (Ev.eq rfl))
      | succ d ih =>
        intro i g hd hi hb hg
        refine Ev.step (fun k => by first | (rw [spec_Gaps.l0]; done) | (rw [spec_Gaps.l0]; rfl)) (Ev.pos (by omega) (Ev.bindo (spec_bit s i hm (by omega) (by omega)) ?_))
        rw [w64 (x := i + 1) (by omega) (by omega)]
        refine Ev.cases (fun e => ?_) (fun e => ?_)
        · refine Ev.val (ih (i + 1) g (by omega) (by omega) (by omega) (hg.taken e)) ?_
          simp [gapsGo, e]
        · have e : tk s i = false := by simpa using e
          refine gapStep (tk s) a b i g hg h0 hi (by omega) h2 e (A := fun g k => spec_Gaps.l0 k s b g (i + 1)) ?_
          refine Ev.val (ih (i + 1) _ (by omega) (by omega) (by omega) (hg.add hi e)) ?_
          simp [gapsGo, e]
    exact l _ a [] rfl (by omega) h1 (Gap.nil _ a)
  · rw [if_neg (by simpa using c)]
end Go.Proofs.Ytpeimlpipopeoaa.Pure
