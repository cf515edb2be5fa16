/- What reading a configuration comes to: two ways that are one. No program in sight. No condition. -/
import Derived.Test.YtlljkankongifaaDoorPSuper
namespace Go.Proofs.YtlljkankongifaaDoor.Abs.Pu
open Go Go.RowKit
set_option linter.unusedVariables false
set_option linter.unusedSectionVars false
set_option linter.unusedSimpArgs false
def rdS (s : ByteArray) (p : Nat) : Int := bt s (p : Int) * 256 + bt s ((p + 1 : Nat) : Int)
def maskAt (s : ByteArray) (k : Nat) : Int := orA .i64 (orA .i64 (shlA .i64 (wrap64 (bt s ((11 + 4 * k + 1 : Nat) : Int))) 16) (shlA .i64 (wrap64 (bt s ((11 + 4 * k + 2 : Nat) : Int))) 8)) (wrap64 (bt s ((11 + 4 * k + 3 : Nat) : Int)))
def cntAt (s : ByteArray) (k : Nat) : Nat := (bt s ((11 + 4 * k : Nat) : Int)).toNat
def kindI (mask : Int) (i : Nat) : Int := if andA .i64 (shrA .i64 mask (i : Int)) 1 = 1 then 114 else 105
def kindsL (mask : Int) (n : Nat) : List Int := (List.range n).map (kindI mask)
def typAt (s : ByteArray) (n k : Nat) : ByteArray := strOfNums (kindsL (maskAt s k) n)
theorem typAt_size (s : ByteArray) (n k : Nat) : (typAt s n k).size = n := by simp [typAt, strOfNums_size, kindsL]
def specT (s : ByteArray) (n : Nat) : List ByteArray := (List.range n).map fun k => typAt s (min (cntAt s k) 24) k
def implT (s : ByteArray) (n : Nat) : List ByteArray := (List.range n).map fun k => typAt s (cntAt s k) k
def specCfg (s : ByteArray) : Cfg := (rdS s 4, rdS s 6, rdS s 8, specT s (min (bt s 10).toNat 12))
def implCfg (s : ByteArray) : Cfg := (rdS s 4, rdS s 6, rdS s 8, implT s (bt s 10).toNat)
def out5 : Option Cfg → Int × Int × Int × List ByteArray × Bool
  | some c => (c.1, c.2.1, c.2.2.1, c.2.2.2, true)
  | none => (0, 0, 0, [], false)
def specR (s : ByteArray) : Option Cfg := if superR (specCfg s) = s then some (specCfg s) else none
def implR (s : ByteArray) : Option Cfg := if crcB (s.extract 0 60) = s.extract 60 64 ∧ bt s 10 ≤ 12 ∧ configOk (implCfg s) = true ∧ superR (implCfg s) = s then some (implCfg s) else none
theorem bt_left {a b : ByteArray} {i : Nat} (h : i < a.size) : bt (a ++ b) (i : Int) = bt a (i : Int) := by
  rw [bt_bytesOf, bt_bytesOf, bytesOf_append]
  simp only [List.getD_eq_getElem?_getD]
  rw [List.getElem?_append_left (by rw [bytesOf_length]; exact h)]
theorem bt_right {a b : ByteArray} {j : Nat} : bt (a ++ b) ((a.size + j : Nat) : Int) = bt b (j : Int) := by
  rw [bt_bytesOf, bt_bytesOf, bytesOf_append]
  simp only [List.getD_eq_getElem?_getD]
  rw [List.getElem?_append_right (by rw [bytesOf_length]; omega), bytesOf_length, show a.size + j - a.size = j from by omega]
theorem cut_left (a b : ByteArray) {n : Nat} (h : a.size = n) : (a ++ b).extract 0 n = a := by
  refine bytesOf_inj ?_
  rw [bytesOf_cut, bytesOf_append, List.drop_zero, Nat.sub_zero, ← h, ← bytesOf_length a, List.take_left]
theorem cut_right (a b : ByteArray) {n m : Nat} (h : a.size = n) (h2 : b.size = m - n) : (a ++ b).extract n m = b := by
  refine bytesOf_inj ?_
  rw [bytesOf_cut, bytesOf_append, ← h, ← bytesOf_length a, List.drop_left, bytesOf_length, h, ← h2, ← bytesOf_length b, List.take_length]
theorem quads_pre : ∀ (ts : List ByteArray) (s : ByteArray), ∃ r, quads ts s = s ++ r
  | [], s => ⟨ByteArray.empty, by simp [quads]⟩
  | t :: ts, s => by
    obtain ⟨r, h⟩ := quads_pre ts (s ++ quad t)
    refine ⟨quad t ++ r, ?_⟩
    unfold quads at h ⊢
    rw [List.foldl_cons, h, ByteArray.append_assoc]
theorem types_small {ts : List ByteArray} (h : typesOk ts = true) : ∀ x ∈ ts, x.size ≤ 23 := by
  intro x hx
  unfold typesOk at h
  rw [Bool.and_eq_true, List.all_eq_true] at h
  have := h.2 x hx
  unfold typeOk at this
  simp only [Bool.and_eq_true, decide_eq_true_eq] at this
  exact this.1.2
theorem cfg_same {s : ByteArray} (h1 : (bt s 10).toNat ≤ 12) (h2 : ∀ k, k < (bt s 10).toNat → cntAt s k ≤ 23) : implCfg s = specCfg s := by
  have e : implT s (bt s 10).toNat = specT s (min (bt s 10).toNat 12) := by
    rw [Nat.min_eq_left h1]
    unfold implT specT
    refine List.map_congr_left (fun k hk => ?_)
    have := h2 k (List.mem_range.1 hk)
    rw [Nat.min_eq_left (by omega)]
  unfold implCfg specCfg
  rw [e]
theorem superR_ok {c : Cfg} {s : ByteArray} (h : superR c = s) (hz : s.size = 64) : configOk c = true := by
  by_cases k : configOk c = true
  · exact k
  · unfold superR at h
    rw [if_neg k] at h
    rw [← h] at hz
    exact absurd hz (by decide)
theorem read_same {s : ByteArray} (hz : s.size = 64) : implR s = specR s := by
  have hb10 := bt_range s 10
  by_cases h : superR (specCfg s) = s
  · have hc := superR_ok h hz
    have hf := configOk_facts hc
    have ht := hf.2.2.2.2.2.2.2
    have htl := types_len ht
    have hsm := types_small ht
    have hR : specR s = some (specCfg s) := by unfold specR; rw [if_pos h]
    have hlen : (specCfg s).2.2.2.length = min (bt s 10).toNat 12 := by simp [specCfg, specT]
    -- the parts of s
    have hq := quads_size (specCfg s).2.2.2 (headB (specCfg s))
    have hh := headB_size (specCfg s)
    obtain ⟨r, hr⟩ := quads_pre (specCfg s).2.2.2 (headB (specCfg s))
    have hs : s = sealR (quads (specCfg s).2.2.2 (headB (specCfg s))) := by
      have h' := h
      unfold superR at h'
      rw [if_pos hc] at h'
      exact h'.symm
    have hb59 : (quads (specCfg s).2.2.2 (headB (specCfg s))).size ≤ 59 := by omega
    generalize quads (specCfg s).2.2.2 (headB (specCfg s)) = B at hs hr hb59
    have hst := sealT_size (s := B) (by omega)
    have e1 : s.extract 0 60 = sealT B := by
      rw [hs]
      exact cut_left _ _ hst
    have e2 : s.extract 60 64 = crcB (sealT B) := by
      rw [hs]
      exact cut_right _ _ hst (crcB_size _)
    have e3 : bt s 10 = ((specCfg s).2.2.2.length : Int) % 256 := by
      have hB : bt B ((10 : Nat) : Int) = ((specCfg s).2.2.2.length : Int) % 256 := by
        rw [hr, bt_left (by omega)]
        unfold headB
        have hx : (((nvg ++ shortB (specCfg s).1) ++ shortB (specCfg s).2.1) ++ shortB (specCfg s).2.2.1).size = 10 := by
          simp only [ByteArray.size_append, shortB_size, nvg_size]
        generalize ((nvg ++ shortB (specCfg s).1) ++ shortB (specCfg s).2.1) ++ shortB (specCfg s).2.2.1 = X at *
        generalize ((specCfg s).2.2.2.length : Int) = n at *
        have := bt_right (a := X) (b := strOf [n % 256]) (j := 0)
        rw [hx] at this
        rw [show ((10 : Nat) : Int) = ((10 + 0 : Nat) : Int) from rfl, this, bt_bytesOf]
        show (bytesOf (strOfNums [n % 256])).getD 0 0 = _
        rw [bytesOf_strOfNums (fun z hz => by simp only [List.mem_singleton] at hz; subst hz; exact byte_ok _)]
        rfl
      have hsz : 10 < B.size := by
        rw [hr, ByteArray.size_append]; omega
      have : bt (sealR B) ((10 : Nat) : Int) = bt B ((10 : Nat) : Int) := by
        unfold sealR sealT
        rw [bt_left (by rw [ByteArray.size_append]; omega), bt_left hsz]
      rw [← hs, hB] at this
      exact this
    have h12 : (bt s 10).toNat ≤ 12 := by
      rw [hlen] at e3
      by_cases k : (bt s 10).toNat ≤ 12
      · exact k
      · rw [Nat.min_eq_right (by omega)] at e3
        omega
    have hcnt : ∀ k, k < (bt s 10).toNat → cntAt s k ≤ 23 := by
      intro k hk
      have := hsm (typAt s (min (cntAt s k) 24) k) (by
        show _ ∈ specT s (min (bt s 10).toNat 12)
        unfold specT
        exact List.mem_map.2 ⟨k, List.mem_range.2 (by omega), rfl⟩)
      rw [typAt_size] at this
      omega
    have hsame := cfg_same h12 hcnt
    rw [hR]
    unfold implR
    rw [hsame, if_pos ⟨by rw [e1, e2], by omega, hc, h⟩]
  · have hR : specR s = none := by unfold specR; rw [if_neg h]
    rw [hR]
    unfold implR
    rw [if_neg]
    rintro ⟨_, h2, h3, h4⟩
    have hsm := types_small (configOk_facts h3).2.2.2.2.2.2.2
    have hcnt : ∀ k, k < (bt s 10).toNat → cntAt s k ≤ 23 := by
      intro k hk
      have := hsm (typAt s (cntAt s k) k) (by
        show _ ∈ implT s (bt s 10).toNat
        unfold implT
        exact List.mem_map.2 ⟨k, List.mem_range.2 hk, rfl⟩)
      rwa [typAt_size] at this
    rw [cfg_same (by omega) hcnt] at h4
    exact h h4
end Go.Proofs.YtlljkankongifaaDoor.Abs.Pu
