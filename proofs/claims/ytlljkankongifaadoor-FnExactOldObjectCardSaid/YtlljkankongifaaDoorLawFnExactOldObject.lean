/- The law FnExactOldObject: the row out of its pure statement. No condition. -/
import Derived.Test.YtlljkankongifaaDoorRows
import Derived.Test.YtlljkankongifaaDoorPFnExactOldObject
import Derived.Test.YtlljkankongifaaDoorF3s
import Derived.Test.YtlljkankongifaaDoorTie
import Derived.Test.YtlljkankongifaaDoorCards
import Derived.WalkKit
import Derived.LaidMore
import Derived.Lay
import Derived.SevenTiedAt
import Derived.Stop.Joined
import Derived.ProofKit
import Derived.OpenShut
import Derived.ShutString
import Derived.ChangeOld
import Derived.Below
import Derived.SizedLaws
import Derived.Carry
namespace Go.Proofs.YtlljkankongifaaDoor.fnExactOldObject
open Go.ChangeShapes Go.WideShapes Go.ChangeAt Go.RowKit
open Go.ChangeMaps (open_string shut_string)
set_option linter.unusedVariables false
theorem own : ownKnob Tryd.prog.godebug = none := by kernel_rfl
theorem laidOut : laidOutB Tryd.prog = true := by kernel_rfl
set_option maxRecDepth 100000 in
theorem lifted (os : Os) (started : os.Started) (H : Type) (enc : TypeId × Value → H) :
    ReturnsInHanded {} Tryd.checked os 7 .any (fun w args => (Rows.fnExactOldObjectSpec.pre enc Tryd.prog Tryd.f7 Rows.fnExactOldObjectRow.domain false w args ∧ laidMetH Tryd.prog Rows.fnExactOldObjectRow.laid w) ∧ sizedMet enc Tryd.prog Tryd.f7 (OpenSpec.ofChange Rows.fnExactOldObjectSpec) false w args) (Rows.fnExactOldObjectSpec.post enc Tryd.prog Tryd.f7 false true false false) := by
  refine returnsInHanded_of_change_and (C := Tryd.checked) (X := fun w _ => laidMetH Tryd.prog Rows.fnExactOldObjectRow.laid w) (fun _ _ _ hh h => h.of_heap hh) own started (by kernel_rfl) Tryd.func7
    (ChangeSpec.witness_shaped (enc := enc) (C := Tryd.checked) (os := os) (X := fun w _ => laidMetH Tryd.prog Rows.fnExactOldObjectRow.laid w) false (World.laidAll Tryd.prog os Rows.fnExactOldObjectRow.laid) #[.agg #[.int .i64 0, .int .i64 0, .int .i64 0, .slice none 0 0], .string ByteArray.empty, .int .i64 0] 8 (World.laidAll_os _ _ _)
      (World.shaped_of_ZipB (by kernel_rfl) (by kernel_rfl)) (by kernel_rfl) (by kernel_rfl) (by kernel_rfl)
      (by rw [MakeChecks.laidMetH_plain _ _ _ (by kernel_rfl)]; exact laidMet_laidAll _ (by kernel_rfl) (by kernel_rfl))) ?_
  intro W base args ds gs before hval0 hW hcnd hsz0 _ _
  have hval : ∀ (j : Nat) t v, Tryd.f7.params[j]? = some t → args[j]? = some v → Value.okWide Tryd.prog W .any base t v := hval0
  have hW' := hW
  obtain ⟨p, q, hA0, hV, rfl, hfz, hnd⟩ := hW
  have hA : DataW.TrodAll enc Tryd.prog W 0 (fun _ => true) true Tryd.f7.params.toList args.toList ds p := hA0
  rw [Tryd.params7] at hA hval
  obtain ⟨v0, vs0, d0, ds0, p0, q0, hargs, rfl, rfl, h0, r0⟩ := trodAll_cons hA
  obtain ⟨v1, vs1, d1, ds1, p1, q1, rfl, rfl, rfl, h1, r1⟩ := trodAll_cons r0
  obtain ⟨v2, vs2, d2, ds2, p2, q2, rfl, rfl, rfl, h2, r2⟩ := trodAll_cons r1
  obtain ⟨rfl, rfl, rfl⟩ := trodAll_nil r2
  obtain rfl : args = #[v0, v1, v2] := by cases args; simp_all
  obtain ⟨rfl, rfl⟩ := trodVars_none hV
  obtain ⟨cs0, rfl, _⟩ := okWide_struct Tryd.underlying24 (hval 0 24 v0 rfl rfl)
  have k0 := h0
  have lt0 : ∀ x ∈ p0, x.block < W.heap.size := by obtain ⟨m, hm⟩ := k0; exact DataW.trod_lt m _ _ _ hm
  obtain ⟨fuel0, hf0⟩ := h0
  obtain ⟨x0, kr0, ok0⟩ := Abs.opens (M := Abs.Mut (fun _ => False) (Abs.hpOf []) (fun _ => undef)) (Abs.not_mut _) 9 24 (.pair (.int .i64) (.pair (.int .i64) (.pair (.int .i64) (.sl .str)))) (by kernel_rfl) _ _ _ hf0
  have hc1 := Abs.okWide_cell (by kernel_rfl) (hval 1 9 v1 rfl rfl)
  have k1 := h1
  have lt1 : ∀ x ∈ p1, x.block < W.heap.size := by obtain ⟨m, hm⟩ := k1; exact DataW.trod_lt m _ _ _ hm
  obtain ⟨fuel1, hf1⟩ := h1
  obtain ⟨x1, kr1, ok1⟩ := Abs.opens (M := Abs.Mut (fun _ => False) (Abs.hpOf []) (fun _ => undef)) (Abs.not_mut _) 9 9 .str (by kernel_rfl) _ _ _ hf1
  have hc2 := Abs.okWide_cell (by kernel_rfl) (hval 2 2 v2 rfl rfl)
  have k2 := h2
  have lt2 : ∀ x ∈ p2, x.block < W.heap.size := by obtain ⟨m, hm⟩ := k2; exact DataW.trod_lt m _ _ _ hm
  obtain ⟨fuel2, hf2⟩ := h2
  obtain ⟨x2, kr2, ok2⟩ := Abs.opens (M := Abs.Mut (fun _ => False) (Abs.hpOf []) (fun _ => undef)) (Abs.not_mut _) 9 2 (.int .i64) (by kernel_rfl) _ _ _ hf2
  clear hA0 hval0 hsz0
  obtain ⟨k, hP⟩ := Abs.Pu.FnExactOldObject x0 x1 x2 ok0 ok1 ok2
  refine (Abs.law_calls Abs.laws_FnExactOldObject.sound (k := k) (avs := [Abs.argAV true (Abs.Ty.cells (.pair (.int .i64) (.pair (.int .i64) (.pair (.int .i64) (.sl .str)))) x0), Abs.argAV false (Abs.Ty.cells .str x1), Abs.argAV false (Abs.Ty.cells (.int .i64) x2)]) (c := ⟨Bool, Abs.laws_FnExactOldObject.f k x0.1 x0.2.1 x0.2.2.1 x0.2.2.2 x1 x2, fun r => (.bs false r, [])⟩) (x := true) (Abs.mkS_pat rfl) hP rfl (w := W) (vals := [.agg cs0, v1, v2]) ⟨_, _, rfl, Abs.arg_struct (t := (.pair (.int .i64) (.pair (.int .i64) (.pair (.int .i64) (.sl .str))))) kr0, ⟨_, _, rfl, Abs.arg_cell (t := .str) hc1 kr1 rfl, ⟨_, _, rfl, Abs.arg_cell (t := (.int .i64)) hc2 kr2 rfl, rfl⟩⟩⟩).mono fun e W' ⟨he, bel⟩ => ?_
  subst he
  exact ⟨_, rfl, _, _, _, [], _, [], hW', trodAll_mk1 (shut_bool Tryd.underlying4 _), (trodAll_cons_mk (Below.trod laidOut (by kernel_rfl) (of_decide_eq_true (by kernel_rfl)) k0 bel lt0) (trodAll_cons_mk (Below.trod laidOut (by kernel_rfl) (of_decide_eq_true (by kernel_rfl)) k1 bel lt1) (trodAll_cons_mk (Below.trod laidOut (by kernel_rfl) (of_decide_eq_true (by kernel_rfl)) k2 bel lt2) trodAll_mk0))), rfl, bel.frame _, fun h => by cases h⟩
theorem over : Rows.fnExactOldObjectRow.holds Tryd.pinned (OpenSpec.ofChange Rows.fnExactOldObjectSpec) :=
  OpenClaim.holds_of_wide 7 Tryd.f7 rfl rfl rfl rfl rfl rfl rfl ⟨rfl, rfl, rfl, rfl, rfl⟩ rfl rfl rfl rfl rfl (by kernel_rfl) Tryd.func7 (by kernel_rfl)
    (of_decide_eq_true (by kernel_rfl)) (by unfold Func.isWrapper; first | (rw [if_pos (by decide +kernel)]; kernel_rfl) | (rw [if_neg (by decide +kernel)]; exact ⟨rfl, rfl⟩))
    (fun os started H enc _ => lifted os started H enc)
theorem card : Rows.FnExactOldObjectCardSaid :=
  Claim7.holds_tied_plain_at .later [] [.data, .pinned] true (true, "5c9c8638f52ddb40789210e5af19a3c2dcf634a80b32d20bd8a867a5a70a375e") false over (fun _ h => by cases h) (by kernel_rfl) (fun _ h => by cases h) fnExactOldObject_row_tie rfl ⟨rfl, rfl⟩ (by kernel_rfl) rfl
    (fun f fn hf hfn => by
      obtain rfl : f = 7 := Option.some.inj ((show Tryd.prog.funcNamed "loop.example/g00648/laws.FnExactOldObject" = some 7 by kernel_rfl).symm.trans hf) |>.symm
      obtain rfl : fn = Tryd.f7 := (Option.some.inj (Tryd.func7.symm.trans hfn)).symm
      exact ⟨by kernel_rfl, fun j t ht => by
        rw [Tryd.params7] at ht
        have hm : t ∈ [24, 9, 2] := by
          have hm_ := Array.mem_of_getElem? ht
          simpa using hm_
        have hall : ([24, 9, 2].all fun u => !Tryd.prog.wantsStandIn u) = true := by kernel_rfl
        exact (show Tryd.prog.wantsStandIn t = false by simpa using List.all_eq_true.1 hall t hm)⟩)
    (by kernel_rfl)
#print axioms card
end Go.Proofs.YtlljkankongifaaDoor.fnExactOldObject
namespace Go.Proofs.YtlljkankongifaaDoor
/-- The row, under a short name, for the claim. -/
theorem fnExactOldObject_holds : Rows.FnExactOldObjectCardSaid := fnExactOldObject.card
end Go.Proofs.YtlljkankongifaaDoor
