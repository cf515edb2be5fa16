/- The law FnPicked: the row out of its pure statement. No condition. -/
import Derived.Test.YtmciidoohbmipaaRows
import Derived.Test.YtmciidoohbmipaaPFnPicked
import Derived.Test.YtmciidoohbmipaaF3s
import Derived.WalkKit
import Derived.ProofKit
import Derived.OpenShut
import Derived.ShutString
import Derived.ChangeOld
import Derived.Below
import Derived.SizedLaws
import Derived.Carry
namespace Go.Proofs.Ytmciidoohbmipaa.fnPicked
open Go.ChangeShapes Go.WideShapes Go.ChangeAt Go.RowKit
open Go.ChangeMaps (open_string shut_string)
set_option linter.unusedVariables false
theorem own : ownKnob Try.prog.godebug = none := by kernel_rfl
theorem laidOut : laidOutB Try.prog = true := by kernel_rfl
set_option maxRecDepth 100000 in
theorem lifted (os : Os) (started : os.Started) (H : Type) (enc : TypeId × Value → H) :
    ReturnsInHanded {} Try.checked os 3 .any (Rows.fnPickedSpec.pre6 enc Try.prog Try.f3 Rows.fnPickedRow.domain false) (Rows.fnPickedSpec.post enc Try.prog Try.f3 false true false false) := by
  refine returnsInHanded_of_change_sized (C := Try.checked) own started (by kernel_rfl) Try.func3
    (ChangeSpec.witness6 (enc := enc) (C := Try.checked) false ⟨#[], #[.slice none 0 0], []⟩ 8 (by kernel_rfl) (by kernel_rfl) (by kernel_rfl) (by kernel_rfl)) ?_
  intro W base args ds gs before hval0 hW hcnd hsz0 _
  have hval : ∀ (j : Nat) t v, Try.f3.params[j]? = some t → args[j]? = some v → Value.okWide Try.prog W .any base t v := hval0
  have hW' := hW
  obtain ⟨p, q, hA0, hV, rfl, hfz, hnd⟩ := hW
  have hA : DataW.TrodAll enc Try.prog W 0 (fun _ => true) true Try.f3.params.toList args.toList ds p := hA0
  rw [Try.params3] at hA hval
  obtain ⟨v0, vs0, d0, ds0, p0, q0, hargs, rfl, rfl, h0, r0⟩ := trodAll_cons hA
  obtain ⟨rfl, rfl, rfl⟩ := trodAll_nil r0
  obtain rfl : args = #[v0] := by cases args; simp_all
  obtain ⟨rfl, rfl⟩ := trodVars_none hV
  have hc0 := Abs.okWide_cell (by kernel_rfl) (hval 0 22 v0 rfl rfl)
  have k0 := h0
  have lt0 : ∀ x ∈ p0, x.block < W.heap.size := by obtain ⟨m, hm⟩ := k0; exact DataW.trod_lt m _ _ _ hm
  obtain ⟨fuel0, hf0⟩ := h0
  obtain ⟨x0, kr0, ok0⟩ := Abs.opens (M := Abs.Mut (fun _ => False) (Abs.hpOf []) (fun _ => undef)) (Abs.not_mut _) 9 22 (.sl (.int .u8)) (by kernel_rfl) _ _ _ hf0
  clear hA0 hval0 hsz0
  obtain ⟨k, hP⟩ := Abs.Pu.FnPicked x0 ok0
  refine (Abs.law_calls Abs.laws_FnPicked.sound (k := k) (avs := [Abs.argAV false (Abs.Ty.cells (.sl (.int .u8)) x0)]) (c := ⟨Bool, Abs.laws_FnPicked.f k x0, fun r => (.bs false r, [])⟩) (x := true) (Abs.mkS_pat rfl) hP rfl (w := W) (vals := [v0]) ⟨_, _, rfl, Abs.arg_cell (t := (.sl (.int .u8))) hc0 kr0 rfl, rfl⟩).mono fun e W' ⟨he, bel⟩ => ?_
  subst he
  exact ⟨_, rfl, _, _, _, [], _, [], hW', trodAll_mk1 (shut_bool Try.underlying4 _), (trodAll_cons_mk (Below.trod laidOut (by kernel_rfl) (of_decide_eq_true (by kernel_rfl)) k0 bel lt0) trodAll_mk0), rfl, bel.frame _, fun h => by cases h⟩
theorem over : Rows.fnPickedRow.holds Try.pinned (OpenSpec.ofChange Rows.fnPickedSpec) :=
  OpenClaim.holds_of_wide 3 Try.f3 rfl rfl rfl rfl rfl rfl rfl ⟨rfl, rfl, rfl, rfl, rfl⟩ rfl rfl rfl rfl rfl (by kernel_rfl) Try.func3 (by kernel_rfl)
    (of_decide_eq_true (by kernel_rfl)) (by unfold Func.isWrapper; first | (rw [if_pos (by decide +kernel)]; kernel_rfl) | (rw [if_neg (by decide +kernel)]; exact ⟨rfl, rfl⟩))
    (fun os started H enc _ => lifted os started H enc)
theorem proved : Rows.FnPickedSaid := over
#print axioms proved
end Go.Proofs.Ytmciidoohbmipaa.fnPicked
namespace Go.Proofs.Ytmciidoohbmipaa
/-- The row, under a short name, for the claim. -/
theorem fnPicked_holds : Rows.FnPickedSaid := fnPicked.proved
end Go.Proofs.Ytmciidoohbmipaa
