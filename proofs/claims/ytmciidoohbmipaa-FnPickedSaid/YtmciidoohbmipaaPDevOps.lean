/- Fences, flushes, evictions, stores: what the reference comes to; what they leave is right. For right devices. -/
import Derived.Test.YtmciidoohbmipaaPDevCrash
namespace Go.Proofs.Ytmciidoohbmipaa.Abs.Pu
open Go Go.RowKit
set_option linter.unusedVariables false
set_option linter.unusedSectionVars false
set_option linter.unusedSimpArgs false
theorem sorted_len {n : Nat} : ∀ (l : List Line) (lo : Nat), (∀ x ∈ l, (lo : Int) ≤ x.1 ∧ x.1 < n) → (l.Pairwise fun x y => x.1 < y.1) → l.length ≤ n - lo
  | [], _, _, _ => Nat.zero_le _
  | x :: l, lo, h, hp => by
    rw [List.pairwise_cons] at hp
    have hx := h x List.mem_cons_self
    have := sorted_len (n := n) l (lo + 1) (fun y hy => by have := hp.1 y hy; have := h y (List.mem_cons_of_mem _ hy); omega) hp.2
    rw [List.length_cons]
    omega
theorem DevP.len {n : Nat} {d : Dev} (h : DevP n d) : d.2.length ≤ n := by
  have := sorted_len (n := n) d.2 0 (fun x hx => by have := (h.lines x hx).lo; have := (h.lines x hx).hi; omega) h.sorted
  omega
/-! ### Fences -/
def fenceS : List Line → ByteArray → ByteArray
  | [], s => s
  | x :: l, s => fenceS l (put64 s x.1 x.2.2)
def fenceX (x : Line) : Option Line := if x.2.2 = x.2.1 then none else some (x.1, x.2.1, (⟨#[]⟩ : ByteArray))
def fenceL (l : List Line) : List Line := l.filterMap fenceX
def fenceR (d : Dev) : Dev := (fenceS d.2 d.1, fenceL d.2)
theorem fenceS_size {n : Nat} : ∀ (l : List Line) {s : ByteArray}, (∀ x ∈ l, LnP n x) → s.size = 64 * n → (fenceS l s).size = 64 * n
  | [], _, _, hs => hs
  | x :: l, s, h, hs => fenceS_size l (fun y hy => h y (List.mem_cons_of_mem _ hy)) (put64_size (h x List.mem_cons_self) hs (h x List.mem_cons_self).sent64)
theorem fenceL_mem {l : List Line} {y : Line} (h : y ∈ fenceL l) : ∃ x ∈ l, y = (x.1, x.2.1, (⟨#[]⟩ : ByteArray)) := by
  unfold fenceL at h
  rw [List.mem_filterMap] at h
  obtain ⟨x, hx, he⟩ := h
  unfold fenceX at he
  split at he
  · cases he
  · injection he with he
    exact ⟨x, hx, he.symm⟩
theorem fenceR_ok {n : Nat} {d : Dev} (h : DevP n d) : DevP n (fenceR d) := by
  refine ⟨fenceS_size _ h.lines h.size, h.lo, h.hi, fun y hy => ?_, ?_⟩
  · obtain ⟨x, hx, rfl⟩ := fenceL_mem hy
    have := h.lines x hx
    exact ⟨this.lo, this.hi, this.data, .inr rfl⟩
  · refine List.Pairwise.filterMap (R := fun x y : Line => x.1 < y.1) _ (fun x y hxy a ha b hb => ?_) h.sorted
    unfold fenceX at ha hb
    split at ha
    · cases ha
    · split at hb
      · cases hb
      · injection ha with ha
        injection hb with hb
        subst ha hb
        exact hxy
theorem spec_l2Fence_ev {n : Nat} {d : Dev} (h : DevP n d) : Ev (fun k => spec_l2Fence.f k d.1 d.2) (fenceR d) := by
  have hn := h.hi
  have hln := h.len
  unfold spec_l2Fence.f fenceR
  have key : ∀ i, i ≤ d.2.length → ∀ (s : ByteArray) (out : List Line), s.size = 64 * n → out.length ≤ i → Ev (fun k => spec_l2Fence.p10 k d.1 d.2 (⟨#[]⟩ : ByteArray) (bytesOf s) (⟨#[]⟩ : ByteArray) out (i : Int)) (fenceS (d.2.drop i) s, out ++ fenceL (d.2.drop i)) := by
    refine down ?_ ?_
    · intro s out hs ho
      refine Ev.step (fun k => by rw [spec_l2Fence.p10]) ?_
      rw [List.drop_eq_nil_of_le (Nat.le_refl _)]
      refine Ev.neg (by omega) (Ev.eq ?_)
      rw [strOf_eq, strOfNums_bytesOf]
      show (s, out) = (s, out ++ [])
      rw [List.append_nil]
    · intro i hi ih s out hs ho
      have hg : rdOf ln0 d.2 (i : Int) = d.2[i] := rdg hi
      have hx := h.lines _ (List.getElem_mem hi)
      have hfit := hx.fits hs
      have nx := ih (put64 s d.2[i].1 d.2[i].2.2) (out ++ (fenceX d.2[i]).toList) (put64_size hx hs hx.sent64) (by unfold fenceX; split <;> simp <;> omega)
      refine Ev.step (fun k => by rw [spec_l2Fence.p10]) ?_
      rw [w64s (i := i) (by omega), hg, hx.w (by omega), bytesOf_length, Int.toNat_natCast, cpy_repl (by have := hx.sent64; omega), List.drop_eq_getElem_cons hi]
      have e : out ++ fenceL (d.2[i] :: d.2.drop (i + 1)) = (out ++ (fenceX d.2[i]).toList) ++ fenceL (d.2.drop (i + 1)) := by
        unfold fenceL
        rw [List.filterMap_cons, List.append_assoc]
        cases fenceX d.2[i] <;> rfl
      show Ev _ (fenceS (d.2.drop (i + 1)) (put64 s d.2[i].1 d.2[i].2.2), out ++ fenceL (d.2[i] :: d.2.drop (i + 1)))
      rw [e]
      refine Ev.pos (by omega) (Ev.pos (by omega) (Ev.pos (by omega) (Ev.pos (by omega) (Ev.pos (by omega) ?_))))
      unfold fenceX at nx ⊢
      by_cases c : (d.2[i]).2.2 = (d.2[i]).2.1
      · rw [if_pos c] at nx ⊢
        refine Ev.pos (toList_inj.2 c) ?_
        rw [Option.toList_none, List.append_nil] at nx ⊢
        exact nx
      · rw [if_neg c] at nx ⊢
        exact Ev.neg (fun e => c (toList_inj.1 e)) (Ev.pos (by omega) nx)
  rw [numsOf_eq]
  have := key 0 (Nat.zero_le _) d.1 [] h.size (Nat.le_refl _)
  rw [List.drop_zero] at this
  exact this
/-! ### Evictions -/
def evictS (L : Int) : List Line → ByteArray → ByteArray
  | [], s => s
  | x :: l, s => evictS L l (if x.1 = L then put64 s x.1 x.2.1 else s)
def evictL (L : Int) (l : List Line) : List Line := l.filter fun x => decide (x.1 ≠ L)
def evictR (d : Dev) (L : Int) : Dev := (evictS L d.2 d.1, evictL L d.2)
theorem evictS_size {n : Nat} (L : Int) : ∀ (l : List Line) {s : ByteArray}, (∀ x ∈ l, LnP n x) → s.size = 64 * n → (evictS L l s).size = 64 * n
  | [], _, _, hs => hs
  | x :: l, s, h, hs => by
    refine evictS_size L l (fun y hy => h y (List.mem_cons_of_mem _ hy)) ?_
    split
    · exact put64_size (h x List.mem_cons_self) hs (by have := (h x List.mem_cons_self).data; omega)
    · exact hs
theorem evictR_ok {n : Nat} {d : Dev} (h : DevP n d) (L : Int) : DevP n (evictR d L) :=
  ⟨evictS_size L _ h.lines h.size, h.lo, h.hi, fun y hy => h.lines y (List.mem_filter.1 hy).1, h.sorted.filter _⟩
theorem spec_l2Evict_ev {n : Nat} {d : Dev} (h : DevP n d) (L : Int) : Ev (fun k => spec_l2Evict.f k d.1 d.2 L) (evictR d L) := by
  have hn := h.hi
  have hln := h.len
  unfold spec_l2Evict.f evictR
  have key : ∀ i, i ≤ d.2.length → ∀ (s : ByteArray) (out : List Line), s.size = 64 * n → out.length ≤ i → Ev (fun k => spec_l2Evict.p8 k L d.1 d.2 (⟨#[]⟩ : ByteArray) s out (i : Int)) (evictS L (d.2.drop i) s, out ++ evictL L (d.2.drop i)) := by
    refine down ?_ ?_
    · intro s out hs ho
      refine Ev.step (fun k => by rw [spec_l2Evict.p8]) ?_
      rw [List.drop_eq_nil_of_le (Nat.le_refl _)]
      refine Ev.neg (by omega) (Ev.eq ?_)
      show (s, out) = (s, out ++ [])
      rw [List.append_nil]
    · intro i hi ih s out hs ho
      have hg : rdOf ln0 d.2 (i : Int) = d.2[i] := rdg hi
      have hx := h.lines _ (List.getElem_mem hi)
      have hfit := hx.fits hs
      refine Ev.step (fun k => by rw [spec_l2Evict.p8]) ?_
      rw [w64s (i := i) (by omega), hg, List.drop_eq_getElem_cons hi]
      show Ev _ (evictS L (d.2.drop (i + 1)) (if (d.2[i]).1 = L then put64 s (d.2[i]).1 (d.2[i]).2.1 else s), out ++ evictL L (d.2[i] :: d.2.drop (i + 1)))
      refine Ev.pos (by omega) (Ev.pos (by omega) (Ev.pos (by omega) ?_))
      unfold evictL
      rw [List.filter_cons]
      by_cases c : (d.2[i]).1 = L
      · have nx := ih (put64 s (d.2[i]).1 (d.2[i]).2.1) out (put64_size hx hs (by have := hx.data; omega)) (by omega)
        have hw : wrap64 (64 * L) = ((64 * (d.2[i]).1.toNat : Nat) : Int) := by
          have := hx.w (by omega)
          rw [c] at this ⊢
          exact this
        have hp := spec_l2With_f s (d.2[i]).2.1 (64 * (d.2[i]).1.toNat) (by have := hx.data; omega) (by omega)
        rw [if_pos c, if_neg (by simp [c])]
        refine Ev.pos c ?_
        rw [hw]
        exact Ev.bindo hp nx
      · have nx := ih s (out ++ [d.2[i]]) hs (by simp; omega)
        rw [if_neg c, if_pos (by simp [c])]
        rw [List.append_assoc] at nx
        exact Ev.neg c (Ev.pos (by omega) nx)
  have := key 0 (Nat.zero_le _) d.1 [] h.size (Nat.le_refl _)
  rw [List.drop_zero] at this
  exact this
/-! ### Flushes -/
def flushX (L : Int) (x : Line) : Line := if x.1 = L then (x.1, x.2.1, x.2.1) else x
def flushR (d : Dev) (L : Int) : Dev := (d.1, d.2.map (flushX L))
theorem flushX_at (L : Int) (x : Line) : (flushX L x).1 = x.1 ∧ (flushX L x).2.1 = x.2.1 := by
  unfold flushX
  split <;> exact ⟨rfl, rfl⟩
theorem flushR_ok {n : Nat} {d : Dev} (h : DevP n d) (L : Int) : DevP n (flushR d L) := by
  refine ⟨h.size, h.lo, h.hi, fun y hy => ?_, ?_⟩
  · obtain ⟨x, hx, rfl⟩ := List.mem_map.1 hy
    have := h.lines x hx
    obtain ⟨e1, e2⟩ := flushX_at L x
    refine ⟨by rw [e1]; exact this.lo, by rw [e1]; exact this.hi, by rw [e2]; exact this.data, ?_⟩
    unfold flushX
    split
    · exact .inl this.data
    · exact this.sent
  · refine List.pairwise_map.2 (h.sorted.imp fun {x y} hxy => ?_)
    rw [(flushX_at L x).1, (flushX_at L y).1]
    exact hxy
theorem spec_l2Flush_ev {n : Nat} {d : Dev} (h : DevP n d) (L : Int) : Ev (fun k => spec_l2Flush.f k d.1 d.2 L) (flushR d L) := by
  have hn := h.hi
  have hln := h.len
  unfold spec_l2Flush.f spec_l2Copy.f flushR
  rw [if_pos (by omega), List.nil_append]
  have key : ∀ i, i ≤ d.2.length → Ev (fun k => spec_l2Flush.p8 k L (⟨#[]⟩ : ByteArray) d.1 ((d.2.take i).map (flushX L) ++ d.2.drop i) (i : Int)) (d.1, d.2.map (flushX L)) := by
    refine down ?_ ?_
    · refine Ev.step (fun k => by rw [spec_l2Flush.p8]) ?_
      rw [List.drop_eq_nil_of_le (Nat.le_refl _), List.take_of_length_le (Nat.le_refl _), List.append_nil]
      exact Ev.neg (by rw [List.length_map]; omega) (Ev.eq rfl)
    · intro i hi ih
      have hlen : ((d.2.take i).map (flushX L) ++ d.2.drop i).length = d.2.length := by rw [List.length_append, List.length_map, List.length_take, List.length_drop]; omega
      have htl : ((d.2.take i).map (flushX L)).length = i := by rw [List.length_map, List.length_take]; omega
      have hg : rdOf ln0 ((d.2.take i).map (flushX L) ++ d.2.drop i) (i : Int) = d.2[i] := by
        have h1 : i < ((d.2.take i).map (flushX L) ++ d.2.drop i).length := by omega
        have h2 : ((d.2.take i).map (flushX L) ++ d.2.drop i)[i]? = some d.2[i] := by
          rw [List.getElem?_append_right (by omega), htl, Nat.sub_self, List.getElem?_drop, Nat.add_zero, List.getElem?_eq_getElem hi]
        rw [rdg h1]
        exact Option.some.inj ((List.getElem?_eq_getElem h1).symm.trans h2)
      have nx : ∀ m, m = (d.2.take (i + 1)).map (flushX L) ++ d.2.drop (i + 1) → Ev (fun k => spec_l2Flush.p22 k L (⟨#[]⟩ : ByteArray) d.1 m (i : Int)) (d.1, d.2.map (flushX L)) := by
        rintro m rfl
        refine Ev.step (fun k => by rw [spec_l2Flush.p22]) ?_
        rw [w64s (i := i) (by omega)]
        exact ih
      have e1 : (d.2.take (i + 1)).map (flushX L) ++ d.2.drop (i + 1) = (d.2.take i).map (flushX L) ++ (flushX L d.2[i] :: d.2.drop (i + 1)) := by
        rw [take_snoc2 _ _ hi, List.map_append, List.append_assoc]
        rfl
      refine Ev.step (fun k => by rw [spec_l2Flush.p8]) ?_
      rw [hg, hlen, Int.toNat_natCast]
      refine Ev.pos (by omega) (Ev.pos (by omega) (Ev.pos (by omega) ?_))
      by_cases c : (d.2[i]).1 = L
      · refine Ev.pos c (Ev.pos (by omega) (Ev.pos (by omega) (Ev.pos (by omega) (Ev.pos (by omega) (nx _ ?_)))))
        rw [e1, List.set_append_right _ _ (by omega), htl, Nat.sub_self, List.drop_eq_getElem_cons hi, List.set_cons_zero]
        unfold flushX
        rw [if_pos c]
      · refine Ev.neg c (nx _ ?_)
        rw [e1, List.drop_eq_getElem_cons hi]
        unfold flushX
        rw [if_neg c]
  exact Ev.bindo rfl (key 0 (Nat.zero_le _))
/-! ### Stores -/
def stL (L : Int) (f : ByteArray → ByteArray) (safe : ByteArray) : List Line → List Line
  | [] => [(L, (f safe, (⟨#[]⟩ : ByteArray)))]
  | x :: l => if x.1 > L then (L, (f safe, (⟨#[]⟩ : ByteArray))) :: x :: l else if x.1 = L then (x.1, (f x.2.1, x.2.2)) :: l else x :: stL L f safe l
def storeR (d : Dev) (L p : Nat) (t : ByteArray) : Dev := (d.1, stL (L : Int) (fun s => replB s p t) (lineB d.1 L) d.2)
theorem stL_mem {L : Int} {f : ByteArray → ByteArray} {safe : ByteArray} {y : Line} : {l : List Line} → y ∈ stL L f safe l → y ∈ l ∨ (y = (L, (f safe, (⟨#[]⟩ : ByteArray)))) ∨ ∃ x ∈ l, x.1 = L ∧ y = (x.1, (f x.2.1, x.2.2))
  | [], h => by
    unfold stL at h
    exact .inr (.inl (List.mem_singleton.1 h))
  | x :: l, h => by
    unfold stL at h
    split at h
    · rcases List.mem_cons.1 h with h | h
      · exact .inr (.inl h)
      · exact .inl h
    · split at h
      · rename_i hx
        rcases List.mem_cons.1 h with h | h
        · exact .inr (.inr ⟨x, List.mem_cons_self, hx, h⟩)
        · exact .inl (List.mem_cons_of_mem _ h)
      · rcases List.mem_cons.1 h with h | h
        · exact .inl (h ▸ List.mem_cons_self)
        · rcases stL_mem h with h | h | ⟨z, hz, h⟩
          · exact .inl (List.mem_cons_of_mem _ h)
          · exact .inr (.inl h)
          · exact .inr (.inr ⟨z, List.mem_cons_of_mem _ hz, h⟩)
theorem stL_sorted {L : Int} {f : ByteArray → ByteArray} {safe : ByteArray} : {l : List Line} → (l.Pairwise fun x y => x.1 < y.1) → (stL L f safe l).Pairwise fun x y => x.1 < y.1
  | [], _ => by
    unfold stL
    exact List.pairwise_singleton _ _
  | x :: l, h => by
    unfold stL
    split
    · rename_i hx
      refine List.pairwise_cons.2 ⟨fun y hy => ?_, h⟩
      rw [List.pairwise_cons] at h
      show L < y.1
      rcases List.mem_cons.1 hy with e | hy
      · rw [e]; exact hx
      · have := h.1 y hy; omega
    · rw [List.pairwise_cons] at h
      split
      · exact List.pairwise_cons.2 ⟨h.1, h.2⟩
      · rename_i h1 h2
        refine List.pairwise_cons.2 ⟨fun y hy => ?_, stL_sorted h.2⟩
        rcases stL_mem hy with hy | e | ⟨z, hz, e, e'⟩
        · exact h.1 y hy
        · rw [e]; show x.1 < L; omega
        · rw [e']; show x.1 < z.1; omega
theorem storeR_ok {n : Nat} {d : Dev} (h : DevP n d) (L p : Nat) (t : ByteArray) (hL : L < n) (hp : p + t.size ≤ 64) : DevP n (storeR d L p t) := by
  have hz := h.size
  have hls : (lineB d.1 L).size = 64 := lineB_size (by omega)
  refine ⟨h.size, h.lo, h.hi, fun y hy => ?_, stL_sorted h.sorted⟩
  rcases stL_mem hy with hy | e | ⟨x, hx, e, e'⟩
  · exact h.lines y hy
  · rw [e]
    exact ⟨by show (0 : Int) ≤ (L : Int); omega, by show (L : Int) < n; omega, by show (replB _ p t).size = 64; rw [repl_size (by omega)]; exact hls, .inr rfl⟩
  · have := h.lines x hx
    rw [e']
    exact ⟨this.lo, this.hi, by show (replB _ p t).size = 64; rw [repl_size (by have := this.data; omega)]; exact this.data, this.sent⟩
theorem spec_l2Store_ev {n : Nat} {d : Dev} (h : DevP n d) (L p : Nat) (t : ByteArray) (hL : L < n) (hp : p + t.size ≤ 64) (hp2 : p < 64) : Ev (fun k => spec_l2Store.f k d.1 d.2 ((64 * L + p : Nat) : Int) t) (storeR d L p t) := by
  have hn := h.hi
  have hln := h.len
  have hz := h.size
  have hls : (lineB d.1 L).size = 64 := lineB_size (by omega)
  obtain ⟨w1, w2⟩ : wrap64 (64 * (L : Int)) = ((64 * L : Nat) : Int) ∧ wrap64 (wrap64 (64 * (L : Int)) + 64) = ((64 * L + 64 : Nat) : Int) := by
    have h1 : wrap64 (64 * (L : Int)) = ((64 * L : Nat) : Int) := by rw [w64 (by omega) (by omega)]; omega
    exact ⟨h1, by rw [h1, w64 (by omega) (by omega)]; omega⟩
  have ht : Int.tmod ((64 * L + p : Nat) : Int) 64 = (p : Int) := by rw [Int.tmod_eq_emod_of_nonneg (by omega)]; omega
  have hnew := spec_l2With_f (lineB d.1 L) t p (by omega) (by omega)
  unfold spec_l2Store.f storeR
  rw [show wrap64 (Int.tdiv ((64 * L + p : Nat) : Int) 64) = (L : Int) from by rw [Int.tdiv_eq_ediv_of_nonneg (by omega), w64 (by omega) (by omega)]; omega]
  have endN : ∀ (out : List Line) (A : Nat → Option (ByteArray × List Line)), out.length ≤ 200 → Ev (fun k => if 0 ≤ wrap64 (wrap64 (64 * (L : Int)) + 64) then (if wrap64 (wrap64 (64 * (L : Int)) + 64) ≤ (d.1.size : Int) then (if 0 ≤ wrap64 (64 * (L : Int)) then (if wrap64 (64 * (L : Int)) ≤ wrap64 (wrap64 (64 * (L : Int)) + 64) then ((spec_l2With.f (d.1.extract (wrap64 (64 * (L : Int))).toNat (wrap64 (wrap64 (64 * (L : Int)) + 64)).toNat) (Int.tmod ((64 * L + p : Nat) : Int) 64) t).bind fun t2 => (if out.length + 1 ≤ 3518437208883 then some (d.1, out ++ ([((L : Int), (t2, (⟨#[]⟩ : ByteArray)))] : List Line)) else none)) else none) else none) else none) else none) (d.1, out ++ [((L : Int), (replB (lineB d.1 L) p t, (⟨#[]⟩ : ByteArray)))]) := by
    intro out A ho
    rw [w2, w1, ht]
    exact Ev.pos (by omega) (Ev.pos (by omega) (Ev.pos (by omega) (Ev.pos (by omega) (Ev.bindo hnew (Ev.pos (by omega) (Ev.eq rfl))))))
  -- behind it: nothing more is turned
  have fin : ∀ i, i ≤ d.2.length → ∀ (out : List Line), out.length ≤ i + 1 → (∀ x ∈ d.2.drop i, (L : Int) < x.1) → Ev (fun k => spec_l2Store.p12 k ((64 * L + p : Nat) : Int) t d.1 d.2 (⟨#[]⟩ : ByteArray) (L : Int) d.1 out true (i : Int)) (d.1, out ++ d.2.drop i) := by
    refine down ?_ ?_
    · intro out ho hgt
      refine Ev.step (fun k => by rw [spec_l2Store.p12]) ?_
      rw [List.drop_eq_nil_of_le (Nat.le_refl _), List.append_nil]
      exact Ev.neg (by omega) (Ev.pos rfl (Ev.eq rfl))
    · intro i hi ih out ho hgt
      have hg : rdOf ln0 d.2 (i : Int) = d.2[i] := rdg hi
      rw [List.drop_eq_getElem_cons hi] at hgt ⊢
      have hxg := hgt _ List.mem_cons_self
      have nx := ih (out ++ [d.2[i]]) (by simp; omega) (fun y hy => hgt y (List.mem_cons_of_mem _ hy))
      rw [List.append_assoc] at nx
      refine Ev.step (fun k => by rw [spec_l2Store.p12]) ?_
      rw [hg]
      refine Ev.pos (by omega) (Ev.pos (by omega) (Ev.pos (by omega) (Ev.pos rfl ?_)))
      refine Ev.step (fun k => by rw [spec_l2Store.p26]) ?_
      refine Ev.neg (by simp) ?_
      refine Ev.step (fun k => by rw [spec_l2Store.p31]) ?_
      refine Ev.neg (by omega) ?_
      refine Ev.step (fun k => by rw [spec_l2Store.p39]) ?_
      rw [w64s (i := i) (by omega)]
      exact Ev.pos (by omega) nx
  have key : ∀ i, i ≤ d.2.length → ∀ (out : List Line), out.length ≤ i → Ev (fun k => spec_l2Store.p12 k ((64 * L + p : Nat) : Int) t d.1 d.2 (⟨#[]⟩ : ByteArray) (L : Int) d.1 out false (i : Int)) (d.1, out ++ stL (L : Int) (fun s => replB s p t) (lineB d.1 L) (d.2.drop i)) := by
    refine down ?_ ?_
    · intro out ho
      refine Ev.step (fun k => by rw [spec_l2Store.p12]) ?_
      rw [List.drop_eq_nil_of_le (Nat.le_refl _)]
      exact Ev.neg (by omega) (Ev.neg (by simp) (endN out (fun _ => none) (by omega)))
    · intro i hi ih out ho
      have hg : rdOf ln0 d.2 (i : Int) = d.2[i] := rdg hi
      have hx := h.lines _ (List.getElem_mem hi)
      have hsd : (d.2.drop i).Pairwise fun x y => x.1 < y.1 := h.sorted.sublist (List.drop_sublist _ _)
      rw [List.drop_eq_getElem_cons hi] at hsd ⊢
      rw [List.pairwise_cons] at hsd
      refine Ev.step (fun k => by rw [spec_l2Store.p12]) ?_
      rw [hg]
      refine Ev.pos (by omega) (Ev.pos (by omega) (Ev.pos (by omega) (Ev.neg (by simp) ?_)))
      refine Ev.step (fun k => by rw [spec_l2Store.p26]) ?_
      unfold stL
      by_cases c1 : (d.2[i]).1 > (L : Int)
      · rw [if_pos c1]
        have nx := fin (i + 1) (by omega) (out ++ [((L : Int), (replB (lineB d.1 L) p t, (⟨#[]⟩ : ByteArray)))] ++ [d.2[i]]) (by simp; omega) (fun y hy => by have := hsd.1 y hy; omega)
        rw [w2, w1, ht]
        refine Ev.pos (decide_eq_true c1) (Ev.pos (by omega) (Ev.pos (by omega) (Ev.pos (by omega) (Ev.pos (by omega) (Ev.bindo hnew (Ev.pos (by omega) ?_))))))
        refine Ev.step (fun k => by rw [spec_l2Store.p31]) ?_
        refine Ev.neg (by omega) ?_
        refine Ev.step (fun k => by rw [spec_l2Store.p39]) ?_
        rw [w64s (i := i) (by omega)]
        refine Ev.pos (by simp; omega) ?_
        rw [List.append_assoc, List.append_assoc] at nx
        rw [List.append_assoc]
        exact nx
      rw [if_neg c1]
      refine Ev.neg (by simpa using c1) ?_
      refine Ev.step (fun k => by rw [spec_l2Store.p31]) ?_
      by_cases c2 : (d.2[i]).1 = (L : Int)
      · rw [if_pos c2]
        have hnew2 := spec_l2With_f (d.2[i]).2.1 t p (by have := hx.data; omega) (by have := hx.data; omega)
        have nx := fin (i + 1) (by omega) (out ++ [((d.2[i]).1, (replB (d.2[i]).2.1 p t, (d.2[i]).2.2))]) (by simp; omega) (fun y hy => by have := hsd.1 y hy; omega)
        rw [List.append_assoc] at nx
        rw [ht]
        refine Ev.pos c2 (Ev.bindo hnew2 ?_)
        refine Ev.step (fun k => by rw [spec_l2Store.p39]) ?_
        rw [w64s (i := i) (by omega)]
        exact Ev.pos (by omega) nx
      · rw [if_neg c2]
        have nx := ih (out ++ [d.2[i]]) (by simp; omega)
        rw [List.append_assoc] at nx
        refine Ev.neg c2 ?_
        refine Ev.step (fun k => by rw [spec_l2Store.p39]) ?_
        rw [w64s (i := i) (by omega)]
        exact Ev.pos (by omega) nx
  have := key 0 (Nat.zero_le _) [] (Nat.le_refl _)
  rw [List.drop_zero] at this
  exact this
end Go.Proofs.Ytmciidoohbmipaa.Abs.Pu
