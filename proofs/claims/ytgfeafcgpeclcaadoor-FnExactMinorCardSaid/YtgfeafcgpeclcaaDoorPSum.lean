/- The objects of a nursery fill its words: sums of sizes. No condition. -/
import Derived.Test.YtgfeafcgpeclcaaDoorPClosed
namespace Go.Proofs.YtgfeafcgpeclcaaDoor.Abs.Pu
open Go Go.RowKit
set_option linter.unusedVariables false
set_option linter.unusedSectionVars false
set_option linter.unusedSimpArgs false
theorem nodup_sum (w : Int → Nat) : ∀ (l m : List Int), l.Nodup → (∀ x ∈ l, x ∈ m) → (l.map w).sum ≤ (m.map w).sum
  | [], m, _, _ => Nat.zero_le _
  | x :: l, m, hn, h => by
    have hx := h x (by simp)
    rw [List.nodup_cons] at hn
    have h1 := nodup_sum w l (m.erase x) hn.2 (fun y hy => by
      have hne : y ≠ x := fun e => hn.1 (e ▸ hy)
      exact (List.mem_erase_of_ne hne).2 (h y (by simp [hy])))
    have h2 := ((List.perm_cons_erase hx).map w).sum_nat
    rw [h2, List.map_cons, List.map_cons, List.sum_cons, List.sum_cons]
    omega
/-- The words of the object that begins at a word. -/
def wt (types : List ByteArray) (words : List Int) (h : Int) : Nat := 1 + (kindsAt types (rd words h)).size
theorem parse_sum (types : List ByteArray) (words : List Int) : ∀ (d at_ : Nat) (l : List Int), parseFrom types words d at_ = some l → at_ ≤ words.length → at_ + (l.map (wt types words)).sum ≤ words.length
  | 0, at_, l, h, hle => by
    rw [parseFrom] at h
    split at h
    · cases h
    · obtain rfl := Option.some.inj h
      simpa using hle
  | d + 1, at_, l, h, hle => by
    rw [parseFrom] at h
    split at h
    · rename_i hlt
      split at h
      · rename_i hc
        cases hp : parseFrom types words d (at_ + 1 + (kindsAt types (rd words at_)).size) with
        | none => rw [hp] at h; cases h
        | some m =>
          rw [hp] at h
          obtain rfl := Option.some.inj h
          have ih := parse_sum types words d _ m hp hc.2.2
          rw [List.map_cons, List.sum_cons]
          unfold wt at ih ⊢
          omega
      · cases h
    · obtain rfl := Option.some.inj h
      simpa using hle
/-- Of a reference. -/
def wr (types : List ByteArray) (words : List Int) (x : Int) : Nat := wt types words (x / 2)
/-- What is found from roots of a right nursery. -/
structure CloF (types : List ByteArray) (words roots out : List Int) : Prop where
  ht : typesOk types = true
  wl : words.length ≤ 400
  ints : ∀ x ∈ words, -9223372036854775808 ≤ x ∧ x ≤ 9223372036854775807
  ol : out.length ≤ 400
  nd : out.Nodup
  young : ∀ x ∈ out, refk x = 2 ∧ ∃ m : Nat, x = 2 * (m : Int) + 1 ∧ x / 2 = m ∧ wrap64 (Int.tdiv x 2) = m ∧ Fits types words (m : Int)
  rin : ∀ x ∈ roots, refk x = 2 → x ∈ out
  closed : ∀ x ∈ out, ∀ q (hq : q < (valsAt types words (x / 2).toNat).length), bt (kindsAt types (rd words (x / 2))) (q : Int) = 114 → refk (valsAt types words (x / 2).toNat)[q] = 2 → (valsAt types words (x / 2).toNat)[q] ∈ out
  sum : (out.map (wr types words)).sum ≤ words.length
theorem cloF_of {types : List ByteArray} {sz : Int} {words roots st : List Int} (hst : headsR types sz words = some st) (hi : ∀ x ∈ words, -9223372036854775808 ≤ x ∧ x ≤ 9223372036854775807) (hro : ∀ x ∈ roots, refOk st x = true) : CloF types words roots (closureP types words roots) := by
  obtain ⟨hp, hn⟩ := headsR_some hst
  obtain ⟨ht, hwl4, hfit, hsrt, hsl⟩ := parsed_facts hp
  have hInv0 := seeAll_inv roots [] (Inv.nil st) hro
  have hInv : Inv st (closureP types words roots) := closeP_inv hfit hn 401 0 _ hInv0
  have hroots : ∀ x ∈ roots, refk x = 2 → x ∈ closureP types words roots := fun x hx h => by
    obtain ⟨c, hc⟩ := closeP_pre types words 401 0 (roots.foldl seeP [])
    unfold closureP
    rw [hc]
    exact List.mem_append_left _ (foldl_mem roots [] x hx h)
  have hclosed := closeP_closed hsl hfit hn 401 0 _ hInv0 (by omega)
  rw [show closeP types words 401 0 (roots.foldl seeP []) = closureP types words roots from rfl] at hclosed
  generalize closureP types words roots = out at *
  have hlen := hInv.len
  refine ⟨ht, hwl4, hi, by omega, hInv.nd, fun x hx => ?_, hroots, fun x hx => ?_, ?_⟩
  · obtain ⟨h1, h2⟩ := hInv.ok x hx
    have ho := refk_odd h1
    obtain ⟨m, hm⟩ := Int.eq_ofNat_of_zero_le (show 0 ≤ x / 2 by omega)
    have hm : x / 2 = (m : Int) := hm
    refine ⟨h1, m, by omega, hm, ?_, hm ▸ hfit _ h2⟩
    rw [Int.tdiv_eq_ediv_of_nonneg (by omega), w64 (by omega) (by omega), hm]
  · obtain ⟨j, hj, rfl⟩ := List.getElem_of_mem hx
    have := hclosed j (Nat.zero_le _) hj
    rw [rd_get hj] at this
    exact this
  · have hps : parseFrom types words words.length 0 = some st := by
      unfold parsed at hp
      split at hp
      · exact hp
      · cases hp
    have h1 := parse_sum types words _ _ _ hps (Nat.zero_le _)
    have h2 := nodup_sum (wt types words) (out.map (· / 2)) st ?_ (fun x hx => by
      obtain ⟨y, hy, rfl⟩ := List.mem_map.1 hx
      exact (hInv.ok y hy).2)
    · rw [List.map_map] at h2
      have : (out.map (wr types words)) = out.map (wt types words ∘ (· / 2)) := rfl
      rw [this]
      omega
    · rw [List.Nodup, List.pairwise_map]
      refine List.Pairwise.imp_of_mem (fun ha hb hne e => hne ?_) hInv.nd
      have h1 := refk_odd (hInv.ok _ ha).1
      have h2 := refk_odd (hInv.ok _ hb).1
      omega
/-- What YoungClosure says yes to. -/
theorem closR_yes {types : List ByteArray} {sz : Int} {words roots : List Int} (h0 : (closR types sz words roots).2 = true) : ∃ st, headsR types sz words = some st ∧ roots.length ≤ 400 ∧ (∀ x ∈ roots, refOk st x = true) ∧ closR types sz words roots = (closureP types words roots, true) := by
  unfold closR at h0 ⊢
  split at h0
  · rename_i st hst
    split at h0
    · rename_i h1
      split at h0
      · rename_i h2
        exact ⟨st, hst, h1, List.all_eq_true.1 h2, by simp only [if_pos h1, if_pos h2]⟩
      · simp at h0
    · simp at h0
  · simp at h0
end Go.Proofs.YtgfeafcgpeclcaaDoor.Abs.Pu
