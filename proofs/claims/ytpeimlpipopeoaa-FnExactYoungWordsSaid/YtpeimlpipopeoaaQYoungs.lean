/- Words of an image and the young references of a set: what the reference and the program read: the same. For sets of at most 2^40 words and texts of at most 2^47 bytes. -/
import Derived.Test.YtpeimlpipopeoaaQWord
import Derived.Test.YtpeimlpipopeoaaQRefs
import Derived.Test.YtpeimlpipopeoaaXSpecYoungWords
import Derived.Test.YtpeimlpipopeoaaXImplYoungWords
namespace Go.Proofs.Ytpeimlpipopeoaa.Pure
open Go.RowKit Go.Proofs.Ytpeimlpipopeoaa.X Go.Proofs.YtpeimlpipopeoaaW.PrintWords Go.Proofs.YtpeimlpipopeoaaW.PrintLast
set_option linter.unusedVariables false
set_option linter.unusedSimpArgs false

theorem bt_byte (s : ByteArray) : ∀ p i : Nat, 0 ≤ bt s ((p + i : Nat) : Int) ∧ bt s ((p + i : Nat) : Int) ≤ 255 := fun p i => bt_range s _
theorem spec_ReadWord_ev (s : ByteArray) (h : s.size = 8) : Ev (fun k => spec_ReadWord.f k s) (wordv s 0, true) := by
  have l : ∀ d i : Nat, 8 - i = d → i ≤ 8 → Ev (fun k => spec_ReadWord.l0 k s (be (fun i => bt s ((0 + i : Nat) : Int)) i) (i : Int)) (wordv s 0, true) := by
    intro d
    induction d with
    | zero =>
      intro i hd hi
      refine Ev.step (fun k => by rw [spec_ReadWord.l0]) ?_
      obtain rfl : i = 8 := by omega
      exact Ev.neg (by omega) (Ev.eq rfl)
    | succ d ih =>
      intro i hd hi
      refine Ev.step (fun k => by rw [spec_ReadWord.l0]) ?_
      refine Ev.pos (by omega) (Ev.pos (by omega) (Ev.pos (by omega) ?_))
      have e := be_step_u64 (fun i => bt s ((0 + i : Nat) : Int)) (fun i => bt_byte s 0 i) i (by omega)
      simp only [Nat.zero_add] at e ih ⊢
      rw [e, show wrap64 ((i : Int) + 1) = ((i + 1 : Nat) : Int) from by rw [w64 (by omega) (by omega)]; omega]
      exact ih (i + 1) (by omega) (by omega)
  unfold spec_ReadWord.f
  exact Ev.pos (by omega) (l 8 0 rfl (by omega))
theorem impl_wordAt_ev (s : ByteArray) (p : Nat) (h : p + 8 ≤ s.size) (hs : s.size ≤ 140737488355328) : Ev (fun k => impl_wordAt.f k s (p : Int)) (wordv s p) := by
  have l : ∀ d i : Nat, 8 - i = d → i ≤ 8 → Ev (fun k => impl_wordAt.l0 k s (p : Int) (wrap64 (be (fun i => bt s ((p + i : Nat) : Int)) i)) (i : Int)) (wordv s p) := by
    intro d
    induction d with
    | zero =>
      intro i hd hi
      refine Ev.step (fun k => by rw [impl_wordAt.l0]) ?_
      obtain rfl : i = 8 := by omega
      exact Ev.neg (by omega) (Ev.eq rfl)
    | succ d ih =>
      intro i hd hi
      refine Ev.step (fun k => by rw [impl_wordAt.l0]) ?_
      rw [show wrap64 ((p : Int) + (i : Int)) = ((p + i : Nat) : Int) from by rw [w64 (by omega) (by omega)]; omega]
      refine Ev.pos (by omega) (Ev.pos (by omega) (Ev.pos (by omega) ?_))
      have e := be_step_i64 (fun i => bt s ((p + i : Nat) : Int)) (fun i => bt_byte s p i) i
      rw [e, show wrap64 ((i : Int) + 1) = ((i + 1 : Nat) : Int) from by rw [w64 (by omega) (by omega)]; omega]
      exact ih (i + 1) (by omega) (by omega)
  unfold impl_wordAt.f
  have h := l 8 0 rfl (by omega)
  rw [show wrap64 (be (fun i => bt s ((p + i : Nat) : Int)) 0) = 0 from by simp only [be]; exact w64 (by omega) (by omega)] at h
  exact h
theorem wordv_extract (s : ByteArray) (p : Nat) (h : p + 8 ≤ s.size) : wordv (s.extract p (p + 8)) 0 = wordv s p := by
  unfold wordv
  refine congrArg wrap64 (be_congr 8 (fun i hi => ?_))
  rw [Nat.zero_add]
  exact bt_extract s p (p + 8) i (by omega) h
theorem spec_l9Word_ev (s : ByteArray) (w : Nat) (h : 8 * w + 8 ≤ s.size) (hs : s.size ≤ 140737488355328) : Ev (fun k => spec_l9Word.f k s (w : Int)) (wordv s (8 * w)) := by
  unfold spec_l9Word.f
  rw [show wrap64 (8 * (w : Int)) = ((8 * w : Nat) : Int) from by rw [w64 (by omega) (by omega)]; omega, show wrap64 (((8 * w : Nat) : Int) + 8) = ((8 * w + 8 : Nat) : Int) from by rw [w64 (by omega) (by omega)]; omega]
  refine Ev.pos (by omega) (Ev.pos (by omega) (Ev.pos (by omega) ?_))
  simp only [Int.toNat_natCast]
  refine Ev.bind (spec_ReadWord_ev _ (by rw [ByteArray.size_extract]; omega)) (Ev.eq ?_)
  exact wordv_extract s (8 * w) h

def imageOk (s : ByteArray) : Prop := s.size % 64 = 0 ∧ 1 ≤ s.size / 64 ∧ s.size / 64 ≤ 128
instance (s : ByteArray) : Decidable (imageOk s) := by unfold imageOk; infer_instance
theorem spec_l9Image_f (s : ByteArray) (hs : s.size ≤ 140737488355328) : spec_l9Image.f s = some (decide (imageOk s)) := by
  unfold spec_l9Image.f imageOk
  split
  · rename_i h
    have h2 : s.size % 64 = 0 := by omega
    rw [l1In_f, w64 (by omega) (by omega)]
    simp only [Option.bind_some, h2, true_and]
    refine congrArg some ?_
    rw [← Bool.decide_and]
    exact decide_eq_decide.2 (by omega)
  · rename_i h
    have h2 : ¬ s.size % 64 = 0 := by omega
    simp [h2]
/-- The young references in the words of a set; nothing, if one is none. -/
def youngs (s : ByteArray) : List Int → Option (List Int)
  | [] => some []
  | w :: l => if 8 * w + 8 ≤ s.size ∧ refk (wordv s (8 * w.toNat)) = 2 then (youngs s l).map (wordv s (8 * w.toNat) :: ·) else none
def youngWords (s : ByteArray) (l : List Int) : List Int × Bool :=
  if setFrom l 0 ∧ imageOk s then match youngs s l with | some r => (r, true) | none => ([], false) else ([], false)
theorem youngs_length {s : ByteArray} : ∀ {l r : List Int}, youngs s l = some r → r.length = l.length
  | [], r, h => by simp [youngs] at h; simp [← h]
  | w :: l, r, h => by
    simp only [youngs] at h
    split at h
    · obtain ⟨q, hq, rfl⟩ := Option.map_eq_some_iff.1 h
      simp [youngs_length hq]
    · cases h
def fin (acc : List Int) : Option (List Int) → List Int × Bool
  | some r => (acc ++ r, true)
  | none => ([], false)
theorem fin_cons (acc : List Int) (x : Int) (o : Option (List Int)) : fin acc (o.map (x :: ·)) = fin (acc ++ [x]) o := by
  cases o <;> simp [fin]
theorem spec_YoungWords_l (s : ByteArray) (l : List Int) (hs : s.size ≤ 140737488355328) (hl : l.length ≤ 1099511627776) (hset : setFrom l 0) (d : Nat) : ∀ (i : Nat) (acc : List Int), l.length - i = d → i ≤ l.length → acc.length = i →
    Ev (fun k => spec_YoungWords.l0 k s l acc (i : Int)) (fin acc (youngs s (l.drop i))) := by
  induction d with
  | zero =>
    intro i acc hd hi ha
    refine Ev.step (fun k => by rw [spec_YoungWords.l0]) ?_
    refine Ev.neg (by omega) (Ev.eq ?_)
    rw [List.drop_eq_nil_of_le (by omega)]
    simp [youngs, fin]
  | succ d ih =>
    intro i acc hd hi ha
    have hlt : i < l.length := by omega
    have hr := hset i hlt (by omega)
    obtain ⟨w, hw⟩ : ∃ w : Nat, l[i] = (w : Int) := ⟨l[i].toNat, by omega⟩
    refine Ev.step (fun k => by rw [spec_YoungWords.l0]) ?_
    rw [rd_get hlt, hw, show wrap64 (8 * (w : Int)) = ((8 * w : Nat) : Int) from by rw [w64 (by omega) (by omega)]; omega, show wrap64 (((8 * w : Nat) : Int) + 8) = ((8 * w + 8 : Nat) : Int) from by rw [w64 (by omega) (by omega)]; omega]
    rw [List.drop_eq_getElem_cons hlt, hw]
    refine Ev.pos (by omega) (Ev.pos (by omega) (Ev.cases (fun c => Ev.eq ?_) (fun c => ?_)))
    · rw [youngs, if_neg (by omega)]; rfl
    · have h8 : 8 * w + 8 ≤ s.size := by omega
      refine Ev.bind (spec_l9Word_ev s w h8 hs) (Ev.bind (spec_RefKind_ev _) (Ev.cases (fun c2 => ?_) (fun c2 => Ev.eq ?_)))
      · refine Ev.bind (spec_l9Word_ev s w h8 hs) (Ev.pos (by omega) ?_)
        rw [show wrap64 ((i : Int) + 1) = ((i + 1 : Nat) : Int) from by rw [w64 (by omega) (by omega)]; omega]
        rw [youngs, if_pos ⟨by omega, by simpa using c2⟩, fin_cons]
        simp only [Int.toNat_natCast]
        exact ih (i + 1) _ (by omega) (by omega) (by simp [ha])
      · rw [youngs, if_neg (fun x => c2 (by simpa using x.2))]; rfl
theorem spec_YoungWords_ev (s : ByteArray) (l : List Int) (hs : s.size ≤ 140737488355328) (hl : l.length ≤ 1099511627776) : Ev (fun k => spec_YoungWords.f k s l) (youngWords s l) := by
  unfold spec_YoungWords.f
  refine Ev.bind (spec_SetOk_ev l hl) (Ev.cases (fun c => ?_) (fun c => ?_))
  · have c : setFrom l 0 := by simpa using c
    refine Ev.bindo (spec_l9Image_f s hs) ?_
    refine Ev.step (fun k => by rw [spec_YoungWords.j0]) ?_
    refine Ev.cases (fun c2 => Ev.eq ?_) (fun c2 => ?_)
    · rw [youngWords, if_neg (fun x => by simp [x.2] at c2)]
    · have c2 : imageOk s := by simpa using c2
      refine Ev.val (spec_YoungWords_l s l hs hl c _ 0 [] rfl (by omega) rfl) ?_
      rw [youngWords, if_pos ⟨c, c2⟩, List.drop_zero]
      cases youngs s l <;> simp [fin]
  · refine Ev.step (fun k => by rw [spec_YoungWords.j0]) ?_
    refine Ev.pos rfl (Ev.eq ?_)
    rw [youngWords, if_neg (fun x => c (by simp [x.1]))]
theorem impl_YoungWords_l (s : ByteArray) (l : List Int) (hs : s.size ≤ 140737488355328) (him : imageOk s) (hl : l.length ≤ 1099511627776) (hset : setFrom l 0) (d : Nat) : ∀ (i : Nat) (acc : List Int), l.length - i = d → i ≤ l.length → acc.length = i →
    Ev (fun k => impl_YoungWords.l0 k s acc l (l.length : Int) (i : Int)) (fin acc (youngs s (l.drop i))) := by
  induction d with
  | zero =>
    intro i acc hd hi ha
    refine Ev.step (fun k => by rw [impl_YoungWords.l0]) ?_
    refine Ev.neg (by omega) (Ev.eq ?_)
    rw [List.drop_eq_nil_of_le (by omega)]
    simp [youngs, fin]
  | succ d ih =>
    intro i acc hd hi ha
    have hlt : i < l.length := by omega
    have hr := hset i hlt (by omega)
    have him2 := him.1
    obtain ⟨w, hw⟩ : ∃ w : Nat, l[i] = (w : Int) := ⟨l[i].toNat, by omega⟩
    refine Ev.step (fun k => by rw [impl_YoungWords.l0]) ?_
    rw [rd_get hlt, hw, show wrap64 (8 * (w : Int)) = ((8 * w : Nat) : Int) from by rw [w64 (by omega) (by omega)]; omega, w64 (x := (s.size : Int) / 8) (by omega) (by omega)]
    rw [List.drop_eq_getElem_cons hlt, hw]
    refine Ev.pos (by omega) (Ev.pos (by omega) (Ev.pos (by omega) (Ev.cases (fun c => Ev.eq ?_) (fun c => ?_))))
    · rw [youngs, if_neg (by omega)]; rfl
    · have h8 : 8 * w + 8 ≤ s.size := by omega
      refine Ev.bind (impl_wordAt_ev s (8 * w) h8 hs) (Ev.bind (impl_isYoung_ev _) (Ev.cases (fun c2 => ?_) (fun c2 => Ev.eq ?_)))
      · refine Ev.bind (impl_wordAt_ev s (8 * w) h8 hs) (Ev.pos (by omega) ?_)
        rw [show wrap64 ((i : Int) + 1) = ((i + 1 : Nat) : Int) from by rw [w64 (by omega) (by omega)]; omega]
        rw [youngs, if_pos ⟨by omega, by simpa using c2⟩, fin_cons]
        simp only [Int.toNat_natCast]
        exact ih (i + 1) _ (by omega) (by omega) (by simp [ha])
      · rw [youngs, if_neg (fun x => c2 (by simpa using x.2))]; rfl
theorem impl_YoungWords_ev (s : ByteArray) (l : List Int) (hs : s.size ≤ 140737488355328) (hl : l.length ≤ 1099511627776) : Ev (fun k => impl_YoungWords.f k s l) (youngWords s l) := by
  have j : ∀ b : Bool, (b = true → ¬ (setFrom l 0 ∧ imageOk s)) → (b = false → setFrom l 0 ∧ imageOk s) → Ev (fun k => impl_YoungWords.j0 k s l b) (youngWords s l) := by
    intro b h1 h2
    refine Ev.step (fun k => by rw [impl_YoungWords.j0]) ?_
    refine Ev.cases (fun c => Ev.eq ?_) (fun c => ?_)
    · rw [youngWords, if_neg (h1 c)]
    · have h2 := h2 (by simpa using c)
      refine Ev.val (impl_YoungWords_l s l hs h2.2 hl h2.1 _ 0 [] rfl (by omega) rfl) ?_
      rw [youngWords, if_pos h2, List.drop_zero]
      cases youngs s l <;> simp [fin]
  unfold impl_YoungWords.f
  refine Ev.bind (impl_SetOk_ev l hl) (Ev.cases (fun c => ?_) (fun c => ?_))
  · have c : setFrom l 0 := by simpa using c
    refine Ev.cases (fun c2 => ?_) (fun c2 => ?_)
    · rw [w64 (x := (s.size : Int) / 64) (by omega) (by omega)]
      refine Ev.bindo (within_f _ _ _) ?_
      refine j _ (fun h x => ?_) (fun h => ⟨c, ?_⟩)
      · have := x.2
        unfold imageOk at this
        simp at h
        omega
      · unfold imageOk
        simp at h
        omega
    · exact j _ (fun _ x => c2 (by have := x.2.1; omega)) (fun h => by cases h)
  · exact j _ (fun _ x => c (by simp [x.1])) (fun h => by cases h)
end Go.Proofs.Ytpeimlpipopeoaa.Pure
