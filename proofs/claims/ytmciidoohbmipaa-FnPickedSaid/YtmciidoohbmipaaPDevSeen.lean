/- What is seen of a device: the program. For right devices. -/
import Derived.Test.YtmciidoohbmipaaPDevCrash
namespace Go.Proofs.Ytmciidoohbmipaa.Abs.Pu
open Go Go.RowKit
set_option linter.unusedVariables false
set_option linter.unusedSectionVars false
set_option linter.unusedSimpArgs false
def allTwo (l : List Line) : List Int := List.replicate l.length 2
def seenB (d : Dev) : ByteArray := pickF d.2 (allTwo d.2) d.1
theorem seen_size {n : Nat} {d : Dev} (h : DevP n d) : (seenB d).size = 64 * n := pickF_size _ _ h.lines h.size
theorem seen_at {n : Nat} {d : Dev} (h : DevP n d) (j : Nat) (hj : j < d.2.length) : lineB (seenB d) (d.2[j].1.toNat) = (d.2[j]).2.1 := by
  unfold seenB
  rw [pick_at d.2 _ j hj h.lines h.sorted h.size]
  unfold choice allTwo
  rw [if_pos]
  simp [List.getD_eq_getElem?_getD, List.getElem?_replicate, hj]
theorem seen_other {n : Nat} {d : Dev} (h : DevP n d) (L : Nat) (hL : L < n) (ho : ∀ x ∈ d.2, x.1 ≠ (L : Int)) : lineB (seenB d) L = lineB d.1 L := pick_other _ _ L h.lines h.size hL ho
theorem cmp_f (a b : Int) : cmp_Compare_int64.f a b = some (if a < b then -1 else if a > b then 1 else 0) := by
  unfold cmp_Compare_int64.f cmp_isNaN_int64.f
  simp only [decide_true, Bool.not_true, Option.bind_some, Bool.false_eq_true, if_false]
  split
  · rfl
  · split <;> rfl
theorem find1_f (x : Line) (b : Int) : _impl_Device_find_1.f x.1 x.2.1 x.2.2 b = some (if x.1 < b then -1 else if x.1 > b then 1 else 0) := by
  unfold _impl_Device_find_1.f
  rw [cmp_f]
  rfl
theorem u64_nn {y : Int} (h0 : 0 ≤ y) (h1 : y < 18446744073709551616) : IntKind.u64.wrap y = y := by rw [wrap_u64]; omega
/-- The line of a number, or where it would be. -/
theorem find_ev (s : ByteArray) (l : List Line) (x : Int) (hs : l.Pairwise fun x y => x.1 < y.1) (hl : l.length ≤ 1099511627776) : ∃ (i : Nat) (f : Bool), Ev (fun k => _impl_Device_find.f k s l x) ((i : Int), f) ∧ i ≤ l.length ∧ (∀ j (h : j < l.length), j < i → l[j].1 < x) ∧ (∀ j (h : j < l.length), i < j → x < l[j].1) ∧ (f = true → ∃ h : i < l.length, l[i].1 = x) ∧ (f = false → ∀ h : i < l.length, x < l[i].1) := by
  rw [List.pairwise_iff_getElem] at hs
  have hg : ∀ i (h : i < l.length), rdOf ln0 l (i : Int) = l[i] := fun i h => rdg h
  have lp : ∀ (d lo hi : Nat), hi - lo ≤ d → lo ≤ hi → hi ≤ l.length → (∀ j (h : j < l.length), j < lo → l[j].1 < x) → (∀ j (h : j < l.length), hi ≤ j → x ≤ l[j].1) →
      ∃ (i : Nat) (f : Bool), Ev (fun k => slices_BinarySearchFunc_int64_at__impl_Device_find_1.p8 k l x (l.length : Int) (lo : Int) (hi : Int)) ((i : Int), f) ∧ i ≤ l.length ∧ (∀ j (h : j < l.length), j < i → l[j].1 < x) ∧ (∀ j (h : j < l.length), i < j → x < l[j].1) ∧ (f = true → ∃ h : i < l.length, l[i].1 = x) ∧ (f = false → ∀ h : i < l.length, x < l[i].1) := by
    intro d
    induction d with
    | zero =>
      intro lo hi hd hle hhi h1 h2
      obtain rfl : lo = hi := by omega
      by_cases hlt : lo < l.length
      · have hge := h2 lo hlt (Nat.le_refl _)
        have hup : ∀ j (h : j < l.length), lo < j → x < l[j].1 := fun j h hj => by
          have := hs lo j hlt h hj
          omega
        have hev : Ev (fun k => slices_BinarySearchFunc_int64_at__impl_Device_find_1.p8 k l x (l.length : Int) (lo : Int) (lo : Int)) ((lo : Int), decide (l[lo].1 = x)) := by
          refine Ev.step (fun k => by rw [slices_BinarySearchFunc_int64_at__impl_Device_find_1.p8]) ?_
          rw [hg lo hlt]
          refine Ev.neg (by omega) (Ev.pos (by omega) (Ev.pos (by omega) (Ev.pos (by omega) (Ev.bindo (find1_f _ _) (Ev.eq ?_)))))
          rw [if_neg (by omega)]
          by_cases e : l[lo].1 = x
          · rw [if_neg (by omega), decide_eq_true e]; rfl
          · rw [if_pos (by omega), decide_eq_false e]; rfl
        by_cases e : l[lo].1 = x
        · rw [decide_eq_true e] at hev
          exact ⟨lo, true, hev, by omega, h1, hup, fun _ => ⟨hlt, e⟩, by simp⟩
        · rw [decide_eq_false e] at hev
          exact ⟨lo, false, hev, by omega, h1, hup, by simp, fun _ _ => by omega⟩
      · refine ⟨lo, false, ?_, by omega, h1, fun j h hj => by omega, by simp, fun _ h => by omega⟩
        refine Ev.step (fun k => by rw [slices_BinarySearchFunc_int64_at__impl_Device_find_1.p8]) ?_
        exact Ev.neg (by omega) (Ev.neg (by omega) (Ev.eq rfl))
    | succ d ih =>
      intro lo hi hd hle hhi h1 h2
      by_cases c : lo < hi
      · have hm : (lo + hi) / 2 < l.length := by omega
        have e1 : wrap64 (IntKind.u64.wrap (wrap64 ((lo : Int) + (hi : Int))) / 2) = (((lo + hi) / 2 : Nat) : Int) := by
          rw [w64 (x := (lo : Int) + (hi : Int)) (by omega) (by omega), u64_nn (by omega) (by omega), w64 (by omega) (by omega)]
          omega
        by_cases c2 : l[(lo + hi) / 2].1 < x
        · obtain ⟨i, f, hev, hr⟩ := ih ((lo + hi) / 2 + 1) hi (by omega) (by omega) hhi (fun j h hj => by
            by_cases e : j = (lo + hi) / 2
            · subst e; exact c2
            · have := hs j ((lo + hi) / 2) h hm (by omega)
              omega) h2
          refine ⟨i, f, ?_, hr⟩
          refine Ev.step (fun k => by rw [slices_BinarySearchFunc_int64_at__impl_Device_find_1.p8]) ?_
          rw [shr1_u64, e1, hg _ hm, show wrap64 ((((lo + hi) / 2 : Nat) : Int) + 1) = (((lo + hi) / 2 + 1 : Nat) : Int) from by rw [w64 (by omega) (by omega)]; omega]
          refine Ev.pos (by omega) (Ev.pos (by omega) (Ev.pos (by omega) (Ev.bindo (find1_f _ _) ?_)))
          exact Ev.pos (by rw [if_pos c2]; omega) hev
        · obtain ⟨i, f, hev, hr⟩ := ih lo ((lo + hi) / 2) (by omega) (by omega) (by omega) h1 (fun j h hj => by
            by_cases e : j = (lo + hi) / 2
            · subst e; omega
            · have := hs ((lo + hi) / 2) j hm h (by omega)
              omega)
          refine ⟨i, f, ?_, hr⟩
          refine Ev.step (fun k => by rw [slices_BinarySearchFunc_int64_at__impl_Device_find_1.p8]) ?_
          rw [shr1_u64, e1, hg _ hm]
          refine Ev.pos (by omega) (Ev.pos (by omega) (Ev.pos (by omega) (Ev.bindo (find1_f _ _) ?_)))
          refine Ev.neg ?_ hev
          rw [if_neg c2]
          split <;> omega
      · exact ih lo hi (by omega) hle hhi h1 h2
  obtain ⟨i, f, hev, hr⟩ := lp l.length 0 l.length (by omega) (by omega) (Nat.le_refl _) (fun j h hj => by omega) (fun j h hj => by omega)
  refine ⟨i, f, ?_, hr⟩
  unfold _impl_Device_find.f slices_BinarySearchFunc_int64_at__impl_Device_find_1.f
  exact Ev.bind hev (Ev.eq rfl)
theorem w64l {L : Nat} (h : L ≤ 1048576) : wrap64 (64 * (L : Int)) = ((64 * L : Nat) : Int) ∧ wrap64 (wrap64 (64 * (L : Int)) + 64) = ((64 * L + 64 : Nat) : Int) := by
  have h1 : wrap64 (64 * (L : Int)) = ((64 * L : Nat) : Int) := by rw [w64 (by omega) (by omega)]; omega
  exact ⟨h1, by rw [h1, w64 (by omega) (by omega)]; omega⟩
theorem safeLine_f (d : Dev) (L : Nat) (h : 64 * L + 64 ≤ d.1.size) (hL : L ≤ 1048576) : _impl_Device_safeLine.f d.1 d.2 (L : Int) = some (lineB d.1 L) := by
  obtain ⟨h1, h2⟩ := w64l hL
  unfold _impl_Device_safeLine.f lineB
  rw [h2, h1, if_pos (by omega), if_pos (by omega), if_pos (by omega), if_pos (by omega)]
  rfl
theorem seenLine_ev {n : Nat} {d : Dev} (h : DevP n d) (hl : d.2.length ≤ 1048576) (L : Nat) (hL : L < n) : Ev (fun k => _impl_Device_seenLine.f k d.1 d.2 (L : Int)) (lineB (seenB d) L) := by
  obtain ⟨i, f, hev, h1, h2, h3, h4, h5⟩ := find_ev d.1 d.2 (L : Int) h.sorted (by omega)
  have hn := h.hi
  have hz := h.size
  unfold _impl_Device_seenLine.f
  refine Ev.bind hev ?_
  cases f with
  | true =>
    obtain ⟨hi, e⟩ := h4 rfl
    have hg : rdOf ln0 d.2 (i : Int) = d.2[i] := rdg hi
    have hs := seen_at h i hi
    rw [e, Int.toNat_natCast] at hs
    rw [hs]
    refine Ev.pos rfl (Ev.pos (by omega) (Ev.pos (by omega) (Ev.eq ?_)))
    show (rdOf ln0 d.2 (i : Int)).2.1 = _
    rw [hg]
  | false =>
    have ho : ∀ x ∈ d.2, x.1 ≠ (L : Int) := by
      intro x hx e
      obtain ⟨j, hj, rfl⟩ := List.getElem_of_mem hx
      rcases Nat.lt_trichotomy j i with c | c | c
      · have := h2 j hj c; omega
      · subst c; have := h5 rfl hj; omega
      · have := h3 j hj c; omega
    rw [seen_other h L hL ho]
    exact Ev.neg (by simp) (Ev.bindo (safeLine_f d L (by omega) (by omega)) (Ev.eq rfl))
theorem okB_bytes (s : ByteArray) : okB (bytesOf s) = true := by
  unfold okB
  rw [List.all_eq_true]
  intro x hx
  have := bytesOf_isBytes s x hx
  simp only [Bool.and_eq_true, decide_eq_true_eq]
  omega
theorem seen_ev {n : Nat} {d : Dev} (h : DevP n d) (hl : d.2.length ≤ 1048576) : Ev (fun k => _impl_Device_seen.f k d.1 d.2) (seenB d) := by
  have hn := h.hi
  have hz := h.size
  have hsz := seen_size h
  have hbl := bytesOf_length (seenB d)
  have key : ∀ L, L ≤ n → Ev (fun k => _impl_Device_seen.p8 k d.1 d.2 ((bytesOf (seenB d)).take (64 * L)) (L : Int)) (seenB d) := by
    refine down ?_ ?_
    · refine Ev.step (fun k => by rw [_impl_Device_seen.p8]) ?_
      refine Ev.bindo (impl_has_f d (by omega) _) (Ev.neg (by simp; omega) ?_)
      rw [List.take_of_length_le (by omega)]
      unfold strings_Builder_String.f
      rw [if_pos (okB_bytes _)]
      refine Ev.bindo rfl (Ev.eq ?_)
      exact strOfNums_bytesOf _
    · intro L hL ih
      refine Ev.step (fun k => by rw [_impl_Device_seen.p8]) ?_
      refine Ev.bindo (impl_has_f d (by omega) _) (Ev.pos (by simp; omega) (Ev.bind (seenLine_ev h hl L hL) ?_))
      have hls := lineB_size (s := seenB d) (n := L) (by omega)
      unfold strings_Builder_WriteString.f
      rw [if_pos (by rw [List.length_take]; omega)]
      refine Ev.bindo rfl ?_
      rw [w64s (i := L) (by omega)]
      simp only []
      rw [numsOf_eq, bytesOf_line _ _ (by omega)]
      exact ih
  have h0 := key 0 (Nat.zero_le _)
  rw [Nat.mul_zero, List.take_zero] at h0
  unfold _impl_Device_seen.f
  exact h0
def seenR (d : Dev) : ByteArray := if devB d = true then seenB d else ⟨#[]⟩
theorem impl_Seen_ev (d : Dev) (h : d.1.size ≤ 1099511627776) (hl : d.2.length ≤ 1048576) : Ev (fun k => impl_Seen.f k d.1 d.2) (seenR d) := by
  unfold impl_Seen.f seenR
  refine Ev.bind (impl_DeviceOk_ev d h hl) (Ev.cases (fun h0 => ?_) (fun h0 => by rw [if_neg h0]; exact Ev.eq rfl))
  obtain ⟨n, hd⟩ := (devB_iff d).1 h0
  rw [if_pos h0]
  exact Ev.bind (seen_ev hd hl) (Ev.eq rfl)
end Go.Proofs.Ytmciidoohbmipaa.Abs.Pu
