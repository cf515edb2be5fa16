/- A loss of power: the reference and the program come to the same; line by line. For right devices, picks of at most 2^20 numbers. -/
import Derived.Test.YtmciidoohbmipaaPDevice
import Derived.Test.YtmciidoohbmipaaPReplaced
namespace Go.Proofs.Ytmciidoohbmipaa.Abs.Pu
open Go Go.RowKit
set_option linter.unusedVariables false
set_option linter.unusedSectionVars false
set_option linter.unusedSimpArgs false
def put64 (s : ByteArray) (x : Int) (t : ByteArray) : ByteArray := replB s (64 * x.toNat) t
def picked (x : Line) (k : Int) (s : ByteArray) : ByteArray := if k = 2 then put64 s x.1 x.2.1 else if k = 1 then put64 s x.1 x.2.2 else s
def pickF : List Line → List Int → ByteArray → ByteArray
  | x :: l, k :: ks, s => pickF l ks (picked x k s)
  | [], _, s => s
  | _ :: _, [], s => s
theorem LnP.fits {n : Nat} {x : Line} (h : LnP n x) {s : ByteArray} (hs : s.size = 64 * n) : 64 * x.1.toNat + 64 ≤ s.size := by
  have := h.lo
  have := h.hi
  omega
theorem LnP.sent64 {n : Nat} {x : Line} (h : LnP n x) : x.2.2.size ≤ 64 := by
  rcases h.sent with h | h
  · omega
  · rw [h]; exact Nat.zero_le _
theorem LnP.w {n : Nat} {x : Line} (h : LnP n x) (hn : n ≤ 1048576) : wrap64 (64 * x.1) = ((64 * x.1.toNat : Nat) : Int) := by
  have := h.lo
  have := h.hi
  rw [w64 (by omega) (by omega)]
  omega
theorem put64_size {n : Nat} {x : Line} (h : LnP n x) {s t : ByteArray} (hs : s.size = 64 * n) (ht : t.size ≤ 64) : (put64 s x.1 t).size = 64 * n := by
  have := h.fits hs
  unfold put64
  rw [repl_size (by omega), hs]
theorem picked_size {n : Nat} {x : Line} (h : LnP n x) {s : ByteArray} (hs : s.size = 64 * n) (k : Int) : (picked x k s).size = 64 * n := by
  unfold picked
  split
  · exact put64_size h hs (by have := h.data; omega)
  · split
    · exact put64_size h hs h.sent64
    · exact hs
theorem pickF_size {n : Nat} : ∀ (l : List Line) (ks : List Int) {s : ByteArray}, (∀ x ∈ l, LnP n x) → s.size = 64 * n → (pickF l ks s).size = 64 * n
  | [], _, _, _, hs => hs
  | _ :: _, [], _, _, hs => hs
  | x :: l, k :: ks, s, h, hs => pickF_size l ks (fun y hy => h y (List.mem_cons_of_mem _ hy)) (picked_size (h x List.mem_cons_self) hs k)
/-- What is left of a line. -/
def choice (x : Line) (k : Int) (old : ByteArray) : ByteArray := if k = 2 then x.2.1 else if k = 1 then (if x.2.2 = (⟨#[]⟩ : ByteArray) then old else x.2.2) else old
theorem picked_line {n : Nat} {x : Line} (h : LnP n x) {s : ByteArray} (hs : s.size = 64 * n) (k : Int) (L : Nat) (hL : L < n) : lineB (picked x k s) L = if L = x.1.toNat then choice x k (lineB s L) else lineB s L := by
  have hf := h.fits hs
  unfold picked choice
  by_cases k2 : k = 2
  · rw [if_pos k2, if_pos k2]
    exact lineB_repl h.data hf (by omega)
  rw [if_neg k2, if_neg k2]
  by_cases k1 : k = 1
  · rw [if_pos k1, if_pos k1]
    by_cases e : x.2.2 = (⟨#[]⟩ : ByteArray)
    · rw [if_pos e]
      unfold put64
      rw [e, repl_none (by omega)]
      split <;> rfl
    · rw [if_neg e]
      exact lineB_repl (h.sent.resolve_right e) hf (by omega)
  · rw [if_neg k1, if_neg k1]
    split <;> rfl
theorem pick_other {n : Nat} : ∀ (l : List Line) (ks : List Int) {s : ByteArray} (L : Nat), (∀ x ∈ l, LnP n x) → s.size = 64 * n → L < n → (∀ x ∈ l, x.1 ≠ (L : Int)) → lineB (pickF l ks s) L = lineB s L
  | [], _, _, _, _, _, _, _ => rfl
  | _ :: _, [], _, _, _, _, _, _ => rfl
  | x :: l, k :: ks, s, L, h, hs, hL, ho => by
    have hx := h x List.mem_cons_self
    show lineB (pickF l ks (picked x k s)) L = _
    rw [pick_other l ks L (fun y hy => h y (List.mem_cons_of_mem _ hy)) (picked_size hx hs k) hL (fun y hy => ho y (List.mem_cons_of_mem _ hy)), picked_line hx hs k L hL, if_neg]
    have := ho x List.mem_cons_self
    have := hx.lo
    omega
theorem pick_at {n : Nat} : ∀ (l : List Line) (ks : List Int) {s : ByteArray} (j : Nat) (hj : j < l.length), (∀ x ∈ l, LnP n x) → (l.Pairwise fun x y => x.1 < y.1) → s.size = 64 * n → lineB (pickF l ks s) (l[j].1.toNat) = choice l[j] (ks.getD j 0) (lineB s l[j].1.toNat)
  | [], _, _, j, hj, _, _, _ => by simp at hj
  | x :: l, [], s, j, hj, h, hp, hs => by
    show lineB s _ = _
    simp [choice]
  | x :: l, k :: ks, s, 0, hj, h, hp, hs => by
    have hx := h x List.mem_cons_self
    have hlo := hx.lo
    have hhi := hx.hi
    rw [List.pairwise_cons] at hp
    show lineB (pickF l ks (picked x k s)) x.1.toNat = choice x k (lineB s x.1.toNat)
    rw [pick_other l ks _ (fun y hy => h y (List.mem_cons_of_mem _ hy)) (picked_size hx hs k) (by omega) (fun y hy => by have := hp.1 y hy; omega), picked_line hx hs k _ (by omega), if_pos rfl]
  | x :: l, k :: ks, s, j + 1, hj, h, hp, hs => by
    have hx := h x List.mem_cons_self
    rw [List.pairwise_cons] at hp
    have hj' : j < l.length := by simpa using hj
    have hm : l[j] ∈ l := List.getElem_mem hj'
    have hy := h _ (List.mem_cons_of_mem _ hm)
    have hlt := hp.1 _ hm
    have hlo := hx.lo
    have h1 := hy.lo
    have h2 := hy.hi
    show lineB (pickF l ks (picked x k s)) (l[j].1.toNat) = choice l[j] (ks.getD j 0) (lineB s l[j].1.toNat)
    rw [pick_at l ks j hj' (fun y hy => h y (List.mem_cons_of_mem _ hy)) hp.2 (picked_size hx hs k), picked_line hx hs k _ (by omega), if_neg (by omega)]
def crashR (d : Dev) (ks : List Int) : ByteArray := if devB d = true then pickF d.2 ks d.1 else ⟨#[]⟩
theorem rdk {ks : List Int} {i : Nat} (h : i < ks.length) : rd ks (i : Int) = ks[i] := rd_get h
theorem impl_Crash_ev (d : Dev) (ks : List Int) (h : d.1.size ≤ 1099511627776) (hl : d.2.length ≤ 1048576) (hk : ks.length ≤ 1048576) : Ev (fun k => impl_Crash.f k d.1 d.2 ks) (crashR d ks) := by
  unfold impl_Crash.f crashR
  refine Ev.bind (impl_DeviceOk_ev d h hl) (Ev.cases (fun h0 => ?_) (fun h0 => by rw [if_neg h0]; exact Ev.eq rfl))
  obtain ⟨n, hd⟩ := (devB_iff d).1 h0
  rw [if_pos h0]
  have hn := hd.hi
  have key : ∀ i, i ≤ d.2.length → ∀ s : ByteArray, s.size = 64 * n → Ev (fun k => impl_Crash.p16 k ks (⟨#[]⟩ : ByteArray) s d.2 (d.2.length : Int) (i : Int)) (pickF (d.2.drop i) (ks.drop i) s) := by
    refine down ?_ ?_
    · intro s hs
      refine Ev.step (fun k => by rw [impl_Crash.p16]) ?_
      rw [List.drop_eq_nil_of_le (Nat.le_refl _)]
      exact Ev.neg (by omega) (Ev.eq rfl)
    · intro i hi ih s hs
      have hg : rdOf ln0 d.2 (i : Int) = d.2[i] := rdg hi
      have hx := hd.lines _ (List.getElem_mem hi)
      have hfit := hx.fits hs
      refine Ev.step (fun k => by rw [impl_Crash.p16]) ?_
      rw [w64s (i := i) (by omega), hg, hx.w (by omega), List.drop_eq_getElem_cons hi]
      refine Ev.pos (by omega) (Ev.pos (by omega) (Ev.pos (by omega) ?_))
      by_cases c : i < ks.length
      rotate_left
      · refine Ev.pos (by omega) ?_
        have e1 : ks.drop i = [] := List.drop_eq_nil_of_le (by omega)
        have e2 : ks.drop (i + 1) = [] := List.drop_eq_nil_of_le (by omega)
        have := ih s hs
        rw [e2] at this
        rw [e1]
        cases hdr : d.2.drop (i + 1) with
        | nil => rw [hdr] at this; exact this
        | cons y q => rw [hdr] at this; exact this
      rw [List.drop_eq_getElem_cons c, rdk c]
      show Ev _ (pickF (d.2.drop (i + 1)) (ks.drop (i + 1)) (picked d.2[i] ks[i] s))
      have nx := ih _ (picked_size hx hs ks[i])
      refine Ev.neg (by omega) (Ev.pos (by omega) (Ev.pos (by omega) ?_))
      unfold picked at nx ⊢
      by_cases k2 : ks[i] = 2
      · rw [if_pos k2] at nx ⊢
        exact Ev.pos k2 (Ev.bindo (impl_replaced_f s _ _ (by have := hx.data; omega) (by omega)) nx)
      rw [if_neg k2] at nx ⊢
      refine Ev.neg k2 (Ev.pos (by omega) (Ev.pos (by omega) ?_))
      have p38 : ∀ (b : Bool) (r : ByteArray), (b = true → Ev (fun k => impl_Crash.p16 k ks (⟨#[]⟩ : ByteArray) (put64 s (d.2[i]).1 (d.2[i]).2.2) d.2 (d.2.length : Int) ((i + 1 : Nat) : Int)) r) → (b = false → Ev (fun k => impl_Crash.p16 k ks (⟨#[]⟩ : ByteArray) s d.2 (d.2.length : Int) ((i + 1 : Nat) : Int)) r) → Ev (fun k => impl_Crash.p38 k ks (⟨#[]⟩ : ByteArray) s (d.2[i]).1 (d.2[i]).2.1 (d.2[i]).2.2 d.2 (d.2.length : Int) (i : Int) b) r := by
        intro b r h1 h2
        refine Ev.step (fun k => by rw [impl_Crash.p38]) ?_
        rw [w64s (i := i) (by omega), hx.w (by omega)]
        cases b with
        | true => exact Ev.pos rfl (Ev.bindo (impl_replaced_f s _ _ (by have := hx.sent64; omega) (by omega)) (h1 rfl))
        | false => exact Ev.neg (by simp) (h2 rfl)
      by_cases k1 : ks[i] = 1
      · rw [if_pos k1] at nx ⊢
        refine Ev.pos k1 (p38 _ _ (fun _ => nx) (fun hb => ?_))
        have he : (d.2[i]).2.2 = (⟨#[]⟩ : ByteArray) := by
          have : decide ((d.2[i]).2.2.toList = (⟨#[]⟩ : ByteArray).toList) = true := by simpa using hb
          exact toList_inj.1 (of_decide_eq_true this)
        have e : put64 s (d.2[i]).1 (d.2[i]).2.2 = s := by
          unfold put64
          rw [he, repl_none (by omega)]
        rw [e] at nx ⊢
        exact nx
      · rw [if_neg k1] at nx ⊢
        exact Ev.neg k1 (p38 _ _ (fun hb => by cases hb) (fun _ => nx))
  exact key 0 (Nat.zero_le _) d.1 hd.size
theorem spec_Crash_ev (d : Dev) (ks : List Int) (h : d.1.size ≤ 1099511627776) (hl : d.2.length ≤ 1048576) (hk : ks.length ≤ 1048576) : Ev (fun k => spec_Crash.f k d.1 d.2 ks) (crashR d ks) := by
  unfold spec_Crash.f crashR spec_l2Crash.f
  refine Ev.bind (spec_DeviceOk_ev d h hl) (Ev.cases (fun h0 => ?_) (fun h0 => by rw [if_neg h0]; exact Ev.eq rfl))
  obtain ⟨n, hd⟩ := (devB_iff d).1 h0
  rw [if_pos h0]
  have hn := hd.hi
  have fin : ∀ (i : Nat) (s : ByteArray), Ev (fun k => spec_l2Crash.p12 k ks d.1 d.2 (⟨#[]⟩ : ByteArray) (bytesOf s) (i : Int) false) s := by
    intro i s
    refine Ev.step (fun k => by rw [spec_l2Crash.p12]) ?_
    exact Ev.neg (by simp) (Ev.eq (strOfNums_bytesOf s))
  have key : ∀ i, i ≤ d.2.length → ∀ s : ByteArray, s.size = 64 * n → Ev (fun k => spec_l2Crash.p8 k ks d.1 d.2 (⟨#[]⟩ : ByteArray) (bytesOf s) (i : Int)) (pickF (d.2.drop i) (ks.drop i) s) := by
    refine down ?_ ?_
    · intro s hs
      refine Ev.step (fun k => by rw [spec_l2Crash.p8]) ?_
      rw [List.drop_eq_nil_of_le (Nat.le_refl _)]
      exact Ev.neg (by omega) (fin _ s)
    · intro i hi ih s hs
      have hg : rdOf ln0 d.2 (i : Int) = d.2[i] := rdg hi
      have hx := hd.lines _ (List.getElem_mem hi)
      have hfit := hx.fits hs
      refine Ev.step (fun k => by rw [spec_l2Crash.p8]) ?_
      rw [List.drop_eq_getElem_cons hi]
      refine Ev.pos (by omega) ?_
      by_cases c : i < ks.length
      rotate_left
      · rw [decide_eq_false (by omega), List.drop_eq_nil_of_le (show ks.length ≤ i by omega)]
        exact fin _ s
      rw [decide_eq_true (by omega), List.drop_eq_getElem_cons c]
      show Ev _ (pickF (d.2.drop (i + 1)) (ks.drop (i + 1)) (picked d.2[i] ks[i] s))
      have nx := ih _ (picked_size hx hs ks[i])
      refine Ev.step (fun k => by rw [spec_l2Crash.p12]) ?_
      rw [w64s (i := i) (by omega), hg, hx.w (by omega), rdk c, Int.toNat_natCast, bytesOf_length]
      refine Ev.pos rfl (Ev.pos (by omega) (Ev.pos (by omega) (Ev.pos (by omega) (Ev.pos (by omega) ?_))))
      unfold picked put64 at nx ⊢
      rw [cpy_repl (by have := hx.sent64; omega), cpy_repl (by have := hx.data; omega)]
      by_cases k1 : ks[i] = 1
      · rw [if_neg (by omega), if_pos k1] at nx ⊢
        exact Ev.pos k1 (Ev.pos (by omega) (Ev.pos (by omega) nx))
      refine Ev.neg k1 ?_
      by_cases k2 : ks[i] = 2
      · rw [if_pos k2] at nx ⊢
        exact Ev.pos k2 (Ev.pos (by omega) (Ev.pos (by omega) nx))
      · rw [if_neg k2, if_neg k1] at nx ⊢
        exact Ev.neg k2 nx
  have hb : numsOf d.1 = bytesOf d.1 := numsOf_eq d.1
  rw [hb]
  exact Ev.bind (key 0 (Nat.zero_le _) d.1 hd.size) (Ev.eq rfl)
end Go.Proofs.Ytmciidoohbmipaa.Abs.Pu
