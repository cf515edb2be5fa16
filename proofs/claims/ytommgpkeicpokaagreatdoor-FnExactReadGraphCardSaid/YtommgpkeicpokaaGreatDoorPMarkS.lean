/- The laws' marks on lists of texts. For at most 2^20 texts. -/
import Derived.Test.YtommgpkeicpokaaGreatDoorPLoop
import Derived.Test.YtommgpkeicpokaaGreatDoorPBits
import Derived.Test.YtommgpkeicpokaaGreatDoorF3
namespace Go.Proofs.YtommgpkeicpokaaGreatDoor.Abs.Pu
open Go Go.RowKit
set_option linter.unusedVariables false
set_option linter.unusedSectionVars false
set_option linter.unusedSimpArgs false
theorem markText_ev (n : Int) (h0 : 1 ≤ n) (h1 : n ≤ 1099511627776) : ∃ s, Ev (fun k => laws_markText.f k n) s := by
  have lp : ∀ (d : Nat) (x : Int) (acc : ByteArray), x.toNat ≤ d → 0 ≤ x → (acc.size : Int) + x ≤ 1099511627776 → ∃ s, Ev (fun k => laws_markText.p14 k x acc) s := by
    intro d
    induction d with
    | zero =>
      intro x acc hd hx ha
      refine ⟨_, Ev.step (fun k => by rw [laws_markText.p14]) (Ev.neg (by omega) (Ev.pos ?_ (Ev.eq rfl)))⟩
      show 1 + acc.size ≤ _
      omega
    | succ d ih =>
      intro x acc hd hx ha
      by_cases c : x > 0
      · have hz : (strOf [(wrap64 (48 + (Int.tmod x 10))) % 256]).size = 1 := by rw [strOf_eq, strOfNums_size]; rfl
        have e : wrap64 (Int.tdiv x 10) = x / 10 := by rw [Int.tdiv_eq_ediv_of_nonneg (by omega), w64 (by omega) (by omega)]
        obtain ⟨s, hs⟩ := ih (x / 10) (strOf [(wrap64 (48 + (Int.tmod x 10))) % 256] ++ acc) (by omega) (by omega) (by rw [ByteArray.size_append, hz]; omega)
        refine ⟨s, Ev.step (fun k => by rw [laws_markText.p14]) ?_⟩
        rw [e]
        exact Ev.pos c (Ev.pos (by rw [hz]; omega) hs)
      · refine ⟨_, Ev.step (fun k => by rw [laws_markText.p14]) (Ev.neg c (Ev.pos ?_ (Ev.eq rfl)))⟩
        show 1 + acc.size ≤ _
        omega
  obtain ⟨s, hs⟩ := lp n.toNat n ⟨#[]⟩ (Nat.le_refl _) (by omega) (by show ((0 : Nat) : Int) + n ≤ _; omega)
  refine ⟨s, ?_⟩
  unfold laws_markText.f
  exact Ev.neg (by omega) hs
theorem markStringS_ev (l : List ByteArray) (m : Int) (h0 : 1 ≤ m) (h1 : m ≤ 1048577) (hl : l.length ≤ 1048576) : ∃ l', Ev (fun k => laws_markStringS.f k l m) (l', m + (l.length : Int)) := by
  have key : ∀ i, i ≤ l.length → ∀ x : List ByteArray, x.length = l.length → ∃ l', Ev (fun k => laws_markStringS.p6 k x (m + (i : Int)) (i : Int)) (l', m + (l.length : Int)) := by
    refine down ?_ ?_
    · intro x hx
      exact ⟨x, Ev.step (fun k => by rw [laws_markStringS.p6]) (Ev.neg (by omega) (Ev.eq rfl))⟩
    · intro i hi ih x hx
      obtain ⟨s, hs⟩ := markText_ev (m + (i : Int)) (by omega) (by omega)
      obtain ⟨l', h⟩ := ih (x.set i s) (by rw [List.length_set]; exact hx)
      refine ⟨l', Ev.step (fun k => by rw [laws_markStringS.p6]) ?_⟩
      rw [w64s (i := i) (by omega), show wrap64 (m + (i : Int) + 1) = m + ((i + 1 : Nat) : Int) from by rw [w64 (by omega) (by omega)]; omega, Int.toNat_natCast]
      exact Ev.pos (by omega) (Ev.bind hs (Ev.pos (by omega) (Ev.pos (by omega) h)))
  unfold laws_markStringS.f
  have := key 0 (Nat.zero_le _) l rfl
  rwa [show m + ((0 : Nat) : Int) = m from by omega] at this
end Go.Proofs.YtommgpkeicpokaaGreatDoor.Abs.Pu
