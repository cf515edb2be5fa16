/- Drawn devices and picks: every draw answers; they are small. For codes of at most 2^40 bytes. -/
import Derived.Test.YtmciidoohbmipaaPDevOps
import Derived.Test.YtmciidoohbmipaaPDrawSize
import Derived.Test.YtmciidoohbmipaaPHurtS
import Derived.Test.YtmciidoohbmipaaPZerosS
namespace Go.Proofs.Ytmciidoohbmipaa.Abs.Pu
open Go Go.RowKit
set_option linter.unusedVariables false
set_option linter.unusedSectionVars false
set_option linter.unusedSimpArgs false
theorem bytes_ev {l : List Int} {p : Int} (h : Rd l p) (most : Nat) (hm : most ≤ 60000) : ∃ t q, Ev (fun k => spec_l1Rd_bytes.f k l p (most : Int)) (l, q, t) ∧ t.size ≤ most ∧ Rd l q := by
  obtain ⟨v, q, e, h0, h1, hq⟩ := below_f h ((most : Int) + 1) (by omega) (by omega)
  have lp : ∀ (d : Nat) (out : List Int) (q : Int), Rd l q → out.length + d ≤ most → ∃ t q2, Ev (fun k => spec_l1Rd_bytes.p8 k l q out (d : Int)) (l, q2, t) ∧ t.size ≤ most ∧ Rd l q2 := by
    intro d
    induction d with
    | zero =>
      intro out q hq ho
      refine ⟨strOf out, q, ?_, by rw [strOf_eq, strOfNums_size]; omega, hq⟩
      refine Ev.step (fun k => by rw [spec_l1Rd_bytes.p8]) ?_
      exact Ev.neg (by omega) (Ev.eq rfl)
    | succ d ih =>
      intro out q hq ho
      obtain ⟨b, q1, e1, _, _, hq1⟩ := below_f hq 256 (by omega) (by omega)
      obtain ⟨t, q2, e2, ht, hq2⟩ := ih (out ++ [b % 256]) q1 hq1 (by simp; omega)
      refine ⟨t, q2, ?_, ht, hq2⟩
      refine Ev.step (fun k => by rw [spec_l1Rd_bytes.p8]) ?_
      rw [show wrap64 (((d + 1 : Nat) : Int) - 1) = (d : Int) from by rw [w64 (by omega) (by omega)]; omega]
      exact Ev.pos (by omega) (Ev.bindo e1 (Ev.pos (by omega) e2))
  obtain ⟨t, q2, e2, ht, hq2⟩ := lp v.toNat [] q hq (by simp; omega)
  refine ⟨t, q2, ?_, ht, hq2⟩
  unfold spec_l1Rd_bytes.f
  rw [w64 (x := (most : Int) + 1) (by omega) (by omega)]
  rw [Int.toNat_of_nonneg h0] at e2
  exact Ev.bindo e e2
theorem four_size {v : Int} (h0 : 0 ≤ v) (h1 : v < 4) : (rdOf ByteArray.empty ([(⟨#[97]⟩ : ByteArray), (⟨#[98, 99]⟩ : ByteArray), (⟨#[0]⟩ : ByteArray), (⟨#[120, 121, 122]⟩ : ByteArray)] : List ByteArray) v).size ≤ 3 := by
  obtain rfl | rfl | rfl | rfl : v = 0 ∨ v = 1 ∨ v = 2 ∨ v = 3 := by omega
  all_goals decide
theorem zerosB_sz (n : Nat) : (zerosB n).size = n := zerosB_size n
theorem device_ev {l : List Int} {p : Int} (h : Rd l p) : ∃ (d : Dev) (q : Int), Ev (fun k => spec_l1Rd_device.f k l p) (l, q, d.1, d.2) ∧ d.1.size ≤ 100000 ∧ d.2.length ≤ 1000 ∧ Rd l q := by
  obtain ⟨a, q, ea, ha0, ha1, hq⟩ := below_f h 5 (by omega) (by omega)
  -- the work on it
  have work : ∀ (e m : Nat) (s : ByteArray) (d : Dev) (q : Int), e ≤ 1000 → s.size = 64 * m → m ≤ 100 → DevP m d → Rd l q → ∃ (d' : Dev) (q2 : Int), Ev (fun k => spec_l1Rd_device.p25 k l q (⟨#[]⟩ : ByteArray) s d.1 d.2 (e : Int)) (l, q2, d'.1, d'.2) ∧ d'.1.size ≤ 100000 ∧ d'.2.length ≤ 1000 ∧ Rd l q2 := by
    intro e
    induction e with
    | zero =>
      intro m s d q he hs hm hd hq
      have hz := hd.size
      have hln := hd.len
      have hlo := hd.lo
      obtain ⟨b, q1, eb, hb0, hb1, hq1⟩ := below_f hq 30 (by omega) (by omega)
      by_cases c0 : b = 0
      · obtain ⟨s', q2, e2, hs2, hq2⟩ := hurt_f hq1 d.1 (by omega)
        refine ⟨(s', d.2), q2, ?_, by show s'.size ≤ _; omega, by show d.2.length ≤ _; omega, hq2⟩
        refine Ev.step (fun k => by rw [spec_l1Rd_device.p25]) ?_
        exact Ev.neg (by omega) (Ev.bindo eb (Ev.pos c0 (Ev.bindo e2 (Ev.eq rfl))))
      by_cases c1 : b = 1
      · obtain ⟨v, q2, e2, _, _, hq2⟩ := off_ev hq1 0 5 (by omega) (by omega) (by omega) (by omega)
        have hz64 := spec_l1Zeros_f 64 (by omega)
        refine ⟨(d.1, d.2 ++ [(v, (zerosB 64, (⟨#[]⟩ : ByteArray)))]), q2, ?_, by show d.1.size ≤ _; omega, by show (d.2 ++ _).length ≤ _; simp; omega, hq2⟩
        refine Ev.step (fun k => by rw [spec_l1Rd_device.p25]) ?_
        exact Ev.neg (by omega) (Ev.bindo eb (Ev.neg c0 (Ev.pos c1 (Ev.bind e2 (Ev.bindo hz64 (Ev.pos (by omega) (Ev.eq rfl)))))))
      by_cases c2 : b = 2
      · by_cases hl : d.2.length = 0
        · refine ⟨d, q1, ?_, by omega, by omega, hq1⟩
          refine Ev.step (fun k => by rw [spec_l1Rd_device.p25]) ?_
          exact Ev.neg (by omega) (Ev.bindo eb (Ev.neg c0 (Ev.neg c1 (Ev.pos c2 (Ev.neg (by omega) (Ev.eq rfl))))))
        · refine ⟨(d.1, d.2.set 0 ((rdOf ln0 d.2 0).1, ((rdOf ln0 d.2 0).2.1, (⟨#[120]⟩ : ByteArray)))), q1, ?_, by show d.1.size ≤ _; omega, by show (d.2.set _ _).length ≤ _; rw [List.length_set]; omega, hq1⟩
          refine Ev.step (fun k => by rw [spec_l1Rd_device.p25]) ?_
          exact Ev.neg (by omega) (Ev.bindo eb (Ev.neg c0 (Ev.neg c1 (Ev.pos c2 (Ev.pos (by omega) (Ev.pos (by omega) (Ev.eq rfl)))))))
      by_cases c3 : b = 3
      · obtain ⟨v, q2, e2, hv0, hv1, hq2⟩ := below_f hq1 3 (by omega) (by omega)
        have hz64 := spec_l1Zeros_f (64 * (127 + v.toNat)) (by omega)
        refine ⟨(zerosB (64 * (127 + v.toNat)), []), q2, ?_, by show (zerosB _).size ≤ _; rw [zerosB_sz]; omega, Nat.zero_le _, hq2⟩
        refine Ev.step (fun k => by rw [spec_l1Rd_device.p25]) ?_
        refine Ev.neg (by omega) (Ev.bindo eb (Ev.neg c0 (Ev.neg c1 (Ev.neg c2 (Ev.pos c3 (Ev.bindo e2 ?_))))))
        simp only []
        rw [w64 (x := 127 + v) (by omega) (by omega), w64 (x := 64 * (127 + v)) (by omega) (by omega), show 64 * (127 + v) = ((64 * (127 + v.toNat) : Nat) : Int) from by omega]
        exact Ev.bindo hz64 (Ev.eq rfl)
      · refine ⟨d, q1, ?_, by omega, by omega, hq1⟩
        refine Ev.step (fun k => by rw [spec_l1Rd_device.p25]) ?_
        exact Ev.neg (by omega) (Ev.bindo eb (Ev.neg c0 (Ev.neg c1 (Ev.neg c2 (Ev.neg c3 (Ev.eq rfl))))))
    | succ e ih =>
      intro m s d q he hs hm hd hq
      have hlo := hd.lo
      obtain ⟨L, q1, eL, hL0, hL1, hq1⟩ := below_f hq (m : Int) (by omega) (by omega)
      obtain ⟨b, q2, eb, hb0, hb1, hq2⟩ := below_f hq1 7 (by omega) (by omega)
      have go : ∀ (d2 : Dev) (q3 : Int), DevP m d2 → Rd l q3 → (∀ r, Ev (fun k => spec_l1Rd_device.p25 k l q3 (⟨#[]⟩ : ByteArray) s d2.1 d2.2 (e : Int)) r → Ev (fun k => spec_l1Rd_device.p25 k l q (⟨#[]⟩ : ByteArray) s d.1 d.2 ((e + 1 : Nat) : Int)) r) → ∃ (d' : Dev) (q2 : Int), Ev (fun k => spec_l1Rd_device.p25 k l q (⟨#[]⟩ : ByteArray) s d.1 d.2 ((e + 1 : Nat) : Int)) (l, q2, d'.1, d'.2) ∧ d'.1.size ≤ 100000 ∧ d'.2.length ≤ 1000 ∧ Rd l q2 := by
        intro d2 q3 hd2 hq3 hst
        obtain ⟨d', q4, h1, h2, h3, h4⟩ := ih m s d2 q3 (by omega) hs hm hd2 hq3
        exact ⟨d', q4, hst _ h1, h2, h3, h4⟩
      have we : wrap64 (((e + 1 : Nat) : Int) - 1) = (e : Int) := by rw [w64 (by omega) (by omega)]; omega
      have hdiv : wrap64 (Int.tdiv (s.size : Int) 64) = (m : Int) := by rw [Int.tdiv_eq_ediv_of_nonneg (by omega), w64 (by omega) (by omega)]; omega
      by_cases c0 : b = 0
      · refine go (fenceR d) q2 (fenceR_ok hd) hq2 fun r hr => ?_
        refine Ev.step (fun k => by rw [spec_l1Rd_device.p25]) ?_
        rw [hdiv, we]
        refine Ev.pos (by omega) (Ev.bindo eL (Ev.bindo eb (Ev.pos c0 (Ev.bind (spec_l2Fence_ev hd) ?_))))
        exact hr
      by_cases c1 : b = 1
      · refine go (evictR d L) q2 (evictR_ok hd L) hq2 fun r hr => ?_
        refine Ev.step (fun k => by rw [spec_l1Rd_device.p25]) ?_
        rw [hdiv, we]
        refine Ev.pos (by omega) (Ev.bindo eL (Ev.bindo eb (Ev.neg c0 (Ev.pos c1 (Ev.bind (spec_l2Evict_ev hd L) ?_)))))
        exact hr
      by_cases c2 : b = 2
      · refine go (flushR d L) q2 (flushR_ok hd L) hq2 fun r hr => ?_
        refine Ev.step (fun k => by rw [spec_l1Rd_device.p25]) ?_
        rw [hdiv, we]
        refine Ev.pos (by omega) (Ev.bindo eL (Ev.bindo eb (Ev.neg c0 (Ev.neg c1 (Ev.pos c2 (Ev.bind (spec_l2Flush_ev hd L) ?_))))))
        exact hr
      by_cases c3 : b = 3
      · refine go (flushR d L) q2 (flushR_ok hd L) hq2 fun r hr => ?_
        refine Ev.step (fun k => by rw [spec_l1Rd_device.p25]) ?_
        rw [hdiv, we]
        refine Ev.pos (by omega) (Ev.bindo eL (Ev.bindo eb (Ev.neg c0 (Ev.neg c1 (Ev.neg c2 (Ev.pos c3 (Ev.bind (spec_l2Flush_ev hd L) ?_)))))))
        exact hr
      · obtain ⟨o, q3, eo, ho0, ho1, hq3⟩ := below_f hq2 60 (by omega) (by omega)
        obtain ⟨v, q4, ev, hv0, hv1, hq4⟩ := below_f hq3 4 (by omega) (by omega)
        have h4 := four_size hv0 hv1
        have hst := spec_l2Store_ev hd L.toNat o.toNat (rdOf ByteArray.empty ([(⟨#[97]⟩ : ByteArray), (⟨#[98, 99]⟩ : ByteArray), (⟨#[0]⟩ : ByteArray), (⟨#[120, 121, 122]⟩ : ByteArray)] : List ByteArray) v) (by omega) (by omega) (by omega)
        refine go (storeR d L.toNat o.toNat (rdOf ByteArray.empty ([(⟨#[97]⟩ : ByteArray), (⟨#[98, 99]⟩ : ByteArray), (⟨#[0]⟩ : ByteArray), (⟨#[120, 121, 122]⟩ : ByteArray)] : List ByteArray) v)) q4 (storeR_ok hd _ _ _ (by omega) (by omega)) hq4 fun r hr => ?_
        refine Ev.step (fun k => by rw [spec_l1Rd_device.p25]) ?_
        rw [hdiv, we]
        refine Ev.pos (by omega) (Ev.bindo eL (Ev.bindo eb (Ev.neg c0 (Ev.neg c1 (Ev.neg c2 (Ev.neg c3 (Ev.bindo eo (Ev.bindo ev ?_))))))))
        simp only []
        rw [w64 (x := 64 * L) (by omega) (by omega), w64 (x := 64 * L + o) (by omega) (by omega), show 64 * L + o = ((64 * L.toNat + o.toNat : Nat) : Int) from by omega]
        exact Ev.pos hv0 (Ev.pos hv1 (Ev.bind hst hr))
  -- the lines
  have lines : ∀ (e m : Nat) (s : ByteArray) (q : Int), s.size = 64 * m → m + e ≤ 100 → 1 ≤ m + e → Rd l q → ∃ (d' : Dev) (q2 : Int), Ev (fun k => spec_l1Rd_device.p8 k l q (⟨#[]⟩ : ByteArray) s (e : Int)) (l, q2, d'.1, d'.2) ∧ d'.1.size ≤ 100000 ∧ d'.2.length ≤ 1000 ∧ Rd l q2 := by
    intro e
    induction e with
    | zero =>
      intro m s q hs hm hm1 hq
      obtain ⟨v, q1, ev, hv0, hv1, hq1⟩ := size_f hq 4 14 (by omega) (by omega) (by omega)
      obtain ⟨d', q2, h1, h2, h3, h4⟩ := work v.toNat m s (s, []) q1 (by omega) hs (by omega) ⟨hs, by omega, by omega, (fun x hx => by cases hx), List.Pairwise.nil⟩ hq1
      refine ⟨d', q2, ?_, h2, h3, h4⟩
      refine Ev.step (fun k => by rw [spec_l1Rd_device.p8]) ?_
      rw [Int.toNat_of_nonneg (by omega)] at h1
      exact Ev.neg (by omega) (Ev.bindo ev h1)
    | succ e ih =>
      intro m s q hs hm hm1 hq
      obtain ⟨b, q1, eb, hb0, hb1, hq1⟩ := below_f hq 40 (by omega) (by omega)
      obtain ⟨t, q2, et, ht, hq2⟩ := bytes_ev hq1 20 (by omega)
      have hz := zerosB_sz 64
      have hw := spec_l2With_f (zerosB 64) t b.toNat (by omega) (by omega)
      have hsz := repl_size (s := zerosB 64) (t := t) (p := b.toNat) (by omega)
      rw [Int.toNat_of_nonneg hb0] at hw
      obtain ⟨d', q3, h1, h2, h3, h4⟩ := ih (m + 1) (s ++ replB (zerosB 64) b.toNat t) q2 (by rw [ByteArray.size_append]; omega) (by omega) (by omega) hq2
      refine ⟨d', q3, ?_, h2, h3, h4⟩
      refine Ev.step (fun k => by rw [spec_l1Rd_device.p8]) ?_
      refine Ev.pos (by omega) (Ev.bindo (spec_l1Zeros_f 64 (by omega)) (Ev.bindo eb (Ev.bind et (Ev.bindo hw (Ev.pos (by omega) ?_)))))
      rw [show wrap64 (((e + 1 : Nat) : Int) - 1) = (e : Int) from by rw [w64 (by omega) (by omega)]; omega]
      exact h1
  obtain ⟨d', q2, h1, h2, h3, h4⟩ := lines (1 + a.toNat) 0 (⟨#[]⟩ : ByteArray) q rfl (by omega) (by omega) hq
  refine ⟨d', q2, ?_, h2, h3, h4⟩
  unfold spec_l1Rd_device.f
  refine Ev.bindo ea ?_
  rw [w64 (x := 1 + a) (by omega) (by omega)]
  rw [show ((1 + a.toNat : Nat) : Int) = 1 + a from by omega] at h1
  exact h1
theorem keep_ev {l : List Int} {p : Int} (h : Rd l p) (n : Nat) (hn : n ≤ 60000) : ∃ (ks : List Int) (q : Int), Ev (fun k => spec_l1Rd_keep.f k l p (n : Int)) (l, q, ks) ∧ ks.length ≤ n + 1 ∧ Rd l q := by
  have lp : ∀ (d i : Nat) (out : List Int) (q : Int), i + d = n → out.length = i → Rd l q → ∃ (ks : List Int) (q2 : Int), Ev (fun k => spec_l1Rd_keep.p8 k l q (n : Int) out (i : Int)) (l, q2, ks) ∧ ks.length ≤ n + 1 ∧ Rd l q2 := by
    intro d
    induction d with
    | zero =>
      intro i out q hi ho hq
      obtain ⟨b, q1, eb, hb0, hb1, hq1⟩ := below_f hq 12 (by omega) (by omega)
      by_cases c0 : b = 0
      · obtain ⟨v, q2, e2, _, _, hq2⟩ := below_f hq1 3 (by omega) (by omega)
        refine ⟨out ++ [v], q2, ?_, by simp; omega, hq2⟩
        refine Ev.step (fun k => by rw [spec_l1Rd_keep.p8]) ?_
        exact Ev.neg (by omega) (Ev.bindo eb (Ev.pos c0 (Ev.bindo e2 (Ev.pos (by omega) (Ev.eq rfl)))))
      by_cases c1 : b = 1
      · refine ⟨(out.take (wrap64 (Int.tdiv (out.length : Int) 2)).toNat).drop 0, q1, ?_, by simp; omega, hq1⟩
        have hw : wrap64 (Int.tdiv (out.length : Int) 2) = (out.length : Int) / 2 := by rw [Int.tdiv_eq_ediv_of_nonneg (by omega), w64 (by omega) (by omega)]
        refine Ev.step (fun k => by rw [spec_l1Rd_keep.p8]) ?_
        exact Ev.neg (by omega) (Ev.bindo eb (Ev.neg c0 (Ev.pos c1 (Ev.pos (by rw [hw]; omega) (Ev.pos (by rw [hw]; omega) (Ev.eq rfl))))))
      by_cases c2 : b = 2
      · by_cases hl : out.length = 0
        · refine ⟨out, q1, ?_, by omega, hq1⟩
          refine Ev.step (fun k => by rw [spec_l1Rd_keep.p8]) ?_
          exact Ev.neg (by omega) (Ev.bindo eb (Ev.neg c0 (Ev.neg c1 (Ev.pos c2 (Ev.neg (by omega) (Ev.eq rfl))))))
        · obtain ⟨v, q2, e2, hv0, hv1, hq2⟩ := below_f hq1 (out.length : Int) (by omega) (by omega)
          obtain ⟨u, q3, e3, _, _, hq3⟩ := off_ev hq2 0 2 (by omega) (by omega) (by omega) (by omega)
          refine ⟨out.set v.toNat u, q3, ?_, by rw [List.length_set]; omega, hq3⟩
          refine Ev.step (fun k => by rw [spec_l1Rd_keep.p8]) ?_
          exact Ev.neg (by omega) (Ev.bindo eb (Ev.neg c0 (Ev.neg c1 (Ev.pos c2 (Ev.pos (by omega) (Ev.bindo e2 (Ev.bind e3 (Ev.pos hv0 (Ev.pos hv1 (Ev.eq rfl))))))))))
      · refine ⟨out, q1, ?_, by omega, hq1⟩
        refine Ev.step (fun k => by rw [spec_l1Rd_keep.p8]) ?_
        exact Ev.neg (by omega) (Ev.bindo eb (Ev.neg c0 (Ev.neg c1 (Ev.neg c2 (Ev.eq rfl)))))
    | succ d ih =>
      intro i out q hi ho hq
      obtain ⟨v, q1, e1, _, _, hq1⟩ := below_f hq 3 (by omega) (by omega)
      obtain ⟨ks, q2, e2, h1, h2⟩ := ih (i + 1) (out ++ [v]) q1 (by omega) (by simp; omega) hq1
      refine ⟨ks, q2, ?_, h1, h2⟩
      refine Ev.step (fun k => by rw [spec_l1Rd_keep.p8]) ?_
      rw [w64s (i := i) (by omega)]
      exact Ev.pos (by omega) (Ev.bindo e1 (Ev.pos (by omega) e2))
  unfold spec_l1Rd_keep.f
  exact lp n 0 [] p (by omega) rfl h
end Go.Proofs.Ytmciidoohbmipaa.Abs.Pu
