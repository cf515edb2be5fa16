/- SuperLine: the reference and the program come to the same. For at most 2^20 types of at most 2^20 bytes. -/
import Derived.Test.YtlljkankongifaaDoorPCrc
import Derived.Test.YtlljkankongifaaDoorPConfigOk
import Derived.Test.YtlljkankongifaaDoorPObjW
namespace Go.Proofs.YtlljkankongifaaDoor.Abs.Pu
open Go Go.RowKit
set_option linter.unusedVariables false
set_option linter.unusedSectionVars false
set_option linter.unusedSimpArgs false
def shortB (n : Int) : ByteArray := strOfNums [n / 256 % 256, n % 256]
theorem shortB_size (n : Int) : (shortB n).size = 2 := strOfNums_size _
theorem byte_ok (x : Int) : 0 ≤ x % 256 ∧ x % 256 ≤ 255 := by omega
theorem isBytes2 (x y : Int) : isBytes [x % 256, y % 256] := by
  intro z hz
  simp only [List.mem_cons, List.not_mem_nil, or_false] at hz
  rcases hz with rfl | rfl
  · exact byte_ok _
  · exact byte_ok _
theorem spec_ShortBytes_ev (n : Int) (h0 : 0 ≤ n) (h1 : n ≤ 65535) : Ev (fun k => spec_ShortBytes.f k n) (shortB n) := by
  have hz := wordB_size n
  unfold spec_ShortBytes.f
  refine Ev.bindo (l1In_f _ _ _) (Ev.pos (by simp; omega) (Ev.bind (spec_WordBytes_ev n) (Ev.pos (by omega) (Ev.eq ?_))))
  refine bytesOf_inj ?_
  have hu : IntKind.u64.wrap n = n := by rw [wrap_u64]; omega
  rw [bytesOf_cut, wordB, hu, bytesOf_strOfNums (wordL_isBytes n), Int.toNat_natCast, strOfNums_size, shortB, bytesOf_strOfNums (isBytes2 _ _)]
  show [byte8 n 6, byte8 n 7] = _
  unfold byte8
  simp
theorem impl_ShortBytes_f (n : Int) (h0 : 0 ≤ n) (h1 : n ≤ 65535) : impl_ShortBytes.f n = some (shortB n) := by
  unfold impl_ShortBytes.f
  rw [within_f, Option.bind_some, if_pos (by simp; omega)]
  rfl
/-- The mask of a type, from a field on. -/
def maskF (t : ByteArray) : Nat → Nat → Int → Int
  | 0, _, m => m
  | d + 1, i, m => maskF t d (i + 1) (if bt t (i : Int) = 114 then orA .i64 m (shlA .i64 1 (i : Int)) else m)
def quad (t : ByteArray) : ByteArray := strOf [(t.size : Int) % 256, shrA .i64 (maskF t t.size 0 0) 16 % 256, shrA .i64 (maskF t t.size 0 0) 8 % 256, maskF t t.size 0 0 % 256]
theorem quad_size (t : ByteArray) : (quad t).size = 4 := strOfNums_size _
def nvg : ByteArray := ⟨#[78, 86, 71, 49]⟩
theorem nvg_size : nvg.size = 4 := rfl
def headB (c : Cfg) : ByteArray := (((nvg ++ shortB c.1) ++ shortB c.2.1) ++ shortB c.2.2.1) ++ strOf [(c.2.2.2.length : Int) % 256]
theorem headB_size (c : Cfg) : (headB c).size = 11 := by
  unfold headB
  have h1 : (strOf [(c.2.2.2.length : Int) % 256]).size = 1 := strOfNums_size _
  simp only [ByteArray.size_append, shortB_size, nvg_size, h1]
def quads (ts : List ByteArray) (s : ByteArray) : ByteArray := ts.foldl (fun s t => s ++ quad t) s
theorem quads_size : ∀ (ts : List ByteArray) (s : ByteArray), (quads ts s).size = s.size + 4 * ts.length
  | [], s => by simp [quads]
  | t :: ts, s => by
    have := quads_size ts (s ++ quad t)
    unfold quads at this ⊢
    rw [List.foldl_cons, this, ByteArray.size_append, quad_size, List.length_cons]
    omega
def superR (c : Cfg) : ByteArray := if configOk c = true then sealR (quads c.2.2.2 (headB c)) else ByteArray.empty
theorem u64_nat {i : Nat} (h : i ≤ 1000000) : IntKind.u64.wrap (i : Int) = (i : Int) := by rw [wrap_u64]; omega
theorem spec_SuperLine_ev (c : Cfg) (hl : c.2.2.2.length ≤ 1048576) (hs : ∀ x ∈ c.2.2.2, x.size ≤ 1048576) : Ev (fun k => spec_SuperLine.f k c.1 c.2.1 c.2.2.1 c.2.2.2) (superR c) := by
  unfold spec_SuperLine.f superR
  refine Ev.bind (spec_ConfigOk_ev c hl hs) (Ev.cases (fun hc => ?_) (fun hc => by rw [if_neg hc]; exact Ev.eq rfl))
  rw [if_pos hc]
  have hf := configOk_facts hc
  have ht := hf.2.2.2.2.2.2.2
  have htl := types_len ht
  refine Ev.bind (a := sealR (quads c.2.2.2 (headB c))) ?_ (Ev.eq rfl)
  unfold spec_l3Super.f
  have h1 : (strOf [(c.2.2.2.length : Int) % 256]).size = 1 := strOfNums_size _
  refine Ev.bind (spec_ShortBytes_ev c.1 (by omega) (by omega)) (Ev.pos (by rw [shortB_size]; decide) ?_)
  refine Ev.bind (spec_ShortBytes_ev c.2.1 (by omega) (by omega)) (Ev.pos (by simp only [ByteArray.size_append, shortB_size]; decide) ?_)
  refine Ev.bind (spec_ShortBytes_ev c.2.2.1 (by omega) (by omega)) (Ev.pos (by simp only [ByteArray.size_append, shortB_size]; decide) (Ev.pos (by simp only [ByteArray.size_append, shortB_size, h1]; decide) ?_))
  have key : ∀ i, i ≤ c.2.2.2.length → ∀ s : ByteArray, s.size + 4 * (c.2.2.2.length - i) ≤ 60 → Ev (fun k => spec_l3Super.p8 k c.1 c.2.1 c.2.2.1 c.2.2.2 s (i : Int)) (sealR (quads (c.2.2.2.drop i) s)) := by
    refine down ?_ ?_
    · intro s hz
      refine Ev.step (fun k => by rw [spec_l3Super.p8]) ?_
      rw [List.drop_eq_nil_of_le (Nat.le_refl _)]
      exact Ev.neg (by omega) (Ev.bind (spec_Sealed_ev s (by omega)) (Ev.eq rfl))
    · intro i hi ih s hz
      have hg : rdOf ByteArray.empty c.2.2.2 (i : Int) = c.2.2.2[i] := rdg hi
      have hts := type_size ht (i : Int)
      rw [hg] at hts
      have nx := ih (s ++ quad c.2.2.2[i]) (by rw [ByteArray.size_append, quad_size]; omega)
      have hq : quads (c.2.2.2.drop i) s = quads (c.2.2.2.drop (i + 1)) (s ++ quad c.2.2.2[i]) := by
        rw [List.drop_eq_getElem_cons hi]; rfl
      rw [← hq] at nx
      have hqs := quad_size c.2.2.2[i]
      refine Ev.step (fun k => by rw [spec_l3Super.p8]) ?_
      refine Ev.pos (by omega) ?_
      have lp : ∀ (d j : Nat) (m : Int), j + d = (c.2.2.2[i]).size → maskF c.2.2.2[i] d j m = maskF c.2.2.2[i] (c.2.2.2[i]).size 0 0 → Ev (fun k => spec_l3Super.p23 k c.1 c.2.1 c.2.2.1 c.2.2.2 s (i : Int) m (j : Int)) (sealR (quads (c.2.2.2.drop i) s)) := by
        intro d
        induction d with
        | zero =>
          intro j m hj hm
          rw [maskF] at hm
          refine Ev.step (fun k => by rw [spec_l3Super.p23]) ?_
          rw [hg, hm, w64s (i := i) (by omega)]
          unfold quad at nx hqs
          exact Ev.pos (by omega) (Ev.pos (by omega) (Ev.neg (by omega) (Ev.pos (by omega) (Ev.pos (by omega) (Ev.pos (by rw [hqs]; omega) nx)))))
        | succ d ihd =>
          intro j m hj hm
          rw [maskF] at hm
          refine Ev.step (fun k => by rw [spec_l3Super.p23]) ?_
          rw [hg, w64s (i := j) (by omega), u64_nat (by omega)]
          refine Ev.pos (by omega) (Ev.pos (by omega) (Ev.pos (by omega) (Ev.pos (by omega) (Ev.pos (by omega) (Ev.pos (by omega) (Ev.pos (by omega) ?_))))))
          by_cases k : bt c.2.2.2[i] (j : Int) = 114
          · rw [if_pos k] at hm
            exact Ev.pos k (Ev.neg (by omega) (ihd (j + 1) _ (by omega) hm))
          · rw [if_neg k] at hm
            exact Ev.neg k (ihd (j + 1) _ (by omega) hm)
      exact lp (c.2.2.2[i]).size 0 0 (by omega) rfl
  have hh := headB_size c
  exact key 0 (Nat.zero_le _) (headB c) (by omega)
theorem impl_SuperLine_ev (c : Cfg) (hs : ∀ x ∈ c.2.2.2, x.size ≤ 1048576) : Ev (fun k => impl_SuperLine.f k c.1 c.2.1 c.2.2.1 c.2.2.2) (superR c) := by
  unfold impl_SuperLine.f superR
  refine Ev.bind (impl_ConfigOk_ev c hs) (Ev.cases (fun hc => ?_) (fun hc => by rw [if_neg hc]; exact Ev.eq rfl))
  rw [if_pos hc]
  have hf := configOk_facts hc
  have ht := hf.2.2.2.2.2.2.2
  have htl := types_len ht
  have h1 : (strOf [(c.2.2.2.length : Int) % 256]).size = 1 := strOfNums_size _
  refine Ev.bindo (impl_ShortBytes_f c.1 (by omega) (by omega)) (Ev.pos (by rw [shortB_size]; decide) ?_)
  refine Ev.bindo (impl_ShortBytes_f c.2.1 (by omega) (by omega)) (Ev.pos (by simp only [ByteArray.size_append, shortB_size]; decide) ?_)
  refine Ev.bindo (impl_ShortBytes_f c.2.2.1 (by omega) (by omega)) (Ev.pos (by simp only [ByteArray.size_append, shortB_size]; decide) (Ev.pos (by simp only [ByteArray.size_append, shortB_size, h1]; decide) ?_))
  have key : ∀ i, i ≤ c.2.2.2.length → ∀ s : ByteArray, s.size + 4 * (c.2.2.2.length - i) ≤ 60 → Ev (fun k => impl_SuperLine.p16 k s c.2.2.2 (c.2.2.2.length : Int) (i : Int)) (sealR (quads (c.2.2.2.drop i) s)) := by
    refine down ?_ ?_
    · intro s hz
      refine Ev.step (fun k => by rw [impl_SuperLine.p16]) ?_
      rw [List.drop_eq_nil_of_le (Nat.le_refl _)]
      exact Ev.neg (by omega) (Ev.bind (impl_Sealed_ev s (by omega)) (Ev.eq rfl))
    · intro i hi ih s hz
      have hg : rdOf ByteArray.empty c.2.2.2 (i : Int) = c.2.2.2[i] := rdg hi
      have hts := type_size ht (i : Int)
      rw [hg] at hts
      have nx := ih (s ++ quad c.2.2.2[i]) (by rw [ByteArray.size_append, quad_size]; omega)
      have hq : quads (c.2.2.2.drop i) s = quads (c.2.2.2.drop (i + 1)) (s ++ quad c.2.2.2[i]) := by
        rw [List.drop_eq_getElem_cons hi]; rfl
      rw [← hq] at nx
      have hqs := quad_size c.2.2.2[i]
      refine Ev.step (fun k => by rw [impl_SuperLine.p16]) ?_
      rw [hg]
      refine Ev.pos (by omega) (Ev.pos (by omega) (Ev.pos (by omega) ?_))
      generalize hT : c.2.2.2[i] = T at *
      have lp : ∀ (d j : Nat) (m : Int), j + d = T.size → maskF T d j m = maskF T T.size 0 0 → Ev (fun k => impl_SuperLine.p33 k s T m c.2.2.2 (c.2.2.2.length : Int) (i : Int) (T.size : Int) (j : Int)) (sealR (quads (c.2.2.2.drop i) s)) := by
        intro d
        induction d with
        | zero =>
          intro j m hj hm
          rw [maskF] at hm
          refine Ev.step (fun k => by rw [impl_SuperLine.p33]) ?_
          rw [hm, w64s (i := i) (by omega)]
          unfold quad at nx hqs
          exact Ev.neg (by omega) (Ev.pos (by rw [hqs]; omega) nx)
        | succ d ihd =>
          intro j m hj hm
          rw [maskF] at hm
          refine Ev.step (fun k => by rw [impl_SuperLine.p33]) ?_
          rw [w64s (i := j) (by omega)]
          refine Ev.pos (by omega) (Ev.pos (by omega) (Ev.pos (by omega) ?_))
          by_cases k : bt T (j : Int) = 114
          · rw [if_pos k] at hm
            exact Ev.pos k (Ev.neg (by omega) (ihd (j + 1) _ (by omega) hm))
          · rw [if_neg k] at hm
            exact Ev.neg k (ihd (j + 1) _ (by omega) hm)
      exact lp T.size 0 0 (by omega) rfl
  have hh := headB_size c
  exact key 0 (Nat.zero_le _) (headB c) (by omega)
end Go.Proofs.YtlljkankongifaaDoor.Abs.Pu
