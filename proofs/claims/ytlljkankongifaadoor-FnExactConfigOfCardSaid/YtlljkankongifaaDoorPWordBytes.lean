/- WordBytes: what the reference and the program come to: the same eight bytes. For int64. -/
import Derived.Test.YtlljkankongifaaDoorPBytes8
import Derived.Test.YtlljkankongifaaDoorF3
namespace Go.Proofs.YtlljkankongifaaDoor.Abs.Pu
open Go Go.RowKit
set_option linter.unusedVariables false
set_option linter.unusedSectionVars false
set_option linter.unusedSimpArgs false
theorem spec_WordBytes_ev (n : Int) : Ev (fun k => spec_WordBytes.f k n) (wordB n) := by
  have hu : 0 ≤ IntKind.u64.wrap n ∧ IntKind.u64.wrap n < 18446744073709551616 := by rw [wrap_u64]; omega
  have set1 : ∀ (u : Int) (i : Nat), i < 8 → ((wordL u).take i ++ List.replicate (8 - i) 0).set i (byte8 u i) = (wordL u).take (i + 1) ++ List.replicate (8 - (i + 1)) 0 := by
    intro u i hi
    obtain rfl | rfl | rfl | rfl | rfl | rfl | rfl | rfl : i = 0 ∨ i = 1 ∨ i = 2 ∨ i = 3 ∨ i = 4 ∨ i = 5 ∨ i = 6 ∨ i = 7 := by omega
    all_goals rfl
  have lp : ∀ (d i : Nat), 8 - i = d → i ≤ 8 → Ev (fun k => spec_WordBytes.p8 k n ((wordL (IntKind.u64.wrap n)).take i ++ List.replicate (8 - i) 0) (i : Int)) (wordB n) := by
    intro d
    induction d with
    | zero =>
      intro i hd hi
      obtain rfl : i = 8 := by omega
      refine Ev.step (fun k => by rw [spec_WordBytes.p8]) ?_
      refine Ev.neg (by decide) (Ev.eq ?_)
      rfl
    | succ d ih =>
      intro i hd hi
      have hi8 : i < 8 := by omega
      have hl : ((wordL (IntKind.u64.wrap n)).take i ++ List.replicate (8 - i) 0).length = 8 := by
        rw [List.length_append, List.length_take, List.length_replicate, show (wordL (IntKind.u64.wrap n)).length = 8 from rfl]; omega
      have ih := ih (i + 1) (by omega) (by omega)
      rw [← set1 _ i hi8] at ih
      refine Ev.step (fun k => by rw [spec_WordBytes.p8]) ?_
      rw [w64 (x := 8 * (i : Int)) (by omega) (by omega), w64 (x := 56 - 8 * (i : Int)) (by omega) (by omega), show IntKind.u64.wrap (56 - 8 * (i : Int)) = ((56 - 8 * i : Nat) : Int) from by rw [wrap_u64]; omega,
        show wrap64 ((i : Int) + 1) = ((i + 1 : Nat) : Int) from by rw [w64 (by omega) (by omega)]; omega, Int.toNat_natCast,
        show shrA .u64 (IntKind.u64.wrap n) ((56 - 8 * i : Nat) : Int) % 256 = byte8 (IntKind.u64.wrap n) i from by
          unfold shrA byte8
          rw [Int.toNat_natCast, show min (56 - 8 * i) IntKind.u64.bits = 56 - 8 * i from Nat.min_eq_left (by show 56 - 8 * i ≤ 64; omega)]]
      exact Ev.pos (by omega) (Ev.neg (by omega) (Ev.pos (by omega) (Ev.pos (by rw [hl]; omega) ih)))
  unfold spec_WordBytes.f
  exact lp 8 0 rfl (by omega)
theorem impl_bigBytes_ev (u : Int) (h0 : 0 ≤ u) : Ev (fun k => impl_bigBytes.f k u 8) (strOfNums (wordL u)) := by
  have set1 : ∀ (i : Nat), i < 8 → (List.replicate (8 - i) 0 ++ (wordL u).drop (8 - i)).set (7 - i) (byte8 u (7 - i)) = List.replicate (8 - (i + 1)) 0 ++ (wordL u).drop (8 - (i + 1)) := by
    intro i hi
    obtain rfl | rfl | rfl | rfl | rfl | rfl | rfl | rfl : i = 0 ∨ i = 1 ∨ i = 2 ∨ i = 3 ∨ i = 4 ∨ i = 5 ∨ i = 6 ∨ i = 7 := by omega
    all_goals rfl
  have lp : ∀ (d i : Nat), 8 - i = d → i ≤ 8 → Ev (fun k => impl_bigBytes.p8 k (u / 2 ^ (8 * i)) 8 (List.replicate (8 - i) 0 ++ (wordL u).drop (8 - i)) 8 (i : Int)) (strOfNums (wordL u)) := by
    intro d
    induction d with
    | zero =>
      intro i hd hi
      obtain rfl : i = 8 := by omega
      refine Ev.step (fun k => by rw [impl_bigBytes.p8]) ?_
      refine Ev.neg (by decide) (Ev.eq ?_)
      rfl
    | succ d ih =>
      intro i hd hi
      have hi8 : i < 8 := by omega
      have hl : (List.replicate (8 - i) 0 ++ (wordL u).drop (8 - i)).length = 8 := by
        rw [List.length_append, List.length_drop, List.length_replicate, show (wordL u).length = 8 from rfl]; omega
      have ih := ih (i + 1) (by omega) (by omega)
      rw [← set1 i hi8] at ih
      refine Ev.step (fun k => by rw [impl_bigBytes.p8]) ?_
      rw [w64 (x := 8 - 1) (by omega) (by omega), w64 (x := 8 - 1 - (i : Int)) (by omega) (by omega), show (8 - 1 - (i : Int)) = ((7 - i : Nat) : Int) from by omega,
        show wrap64 ((i : Int) + 1) = ((i + 1 : Nat) : Int) from by rw [w64 (by omega) (by omega)]; omega, Int.toNat_natCast,
        show u / 2 ^ (8 * i) % 256 = byte8 u (7 - i) from by unfold byte8; rw [show 56 - 8 * (7 - i) = 8 * i from by omega],
        show shrA .u64 (u / 2 ^ (8 * i)) 8 = u / 2 ^ (8 * (i + 1)) from by
          show u / 2 ^ (8 * i) / 2 ^ 8 = _
          rw [Int.ediv_ediv_of_nonneg (Int.pow_nonneg (by decide)), show (8 * (i + 1)) = 8 * i + 8 from by omega, Int.pow_add]]
      exact Ev.pos (by omega) (Ev.pos (by omega) (Ev.pos (by rw [hl]; omega) ih))
  unfold impl_bigBytes.f
  refine Ev.pos (by decide) (Ev.pos (by decide) ?_)
  have h := lp 8 0 rfl (by omega)
  rw [Nat.mul_zero, Int.pow_zero, Int.ediv_one] at h
  exact h
theorem impl_WordBytes_ev (n : Int) : Ev (fun k => impl_WordBytes.f k n) (wordB n) := by
  unfold impl_WordBytes.f
  exact Ev.bind (impl_bigBytes_ev _ (by rw [wrap_u64]; omega)) (Ev.eq rfl)
end Go.Proofs.YtlljkankongifaaDoor.Abs.Pu
