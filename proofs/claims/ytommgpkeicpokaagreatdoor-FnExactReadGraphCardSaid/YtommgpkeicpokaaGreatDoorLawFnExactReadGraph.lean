/- The law FnExactReadGraph: the row out of its pure statement. No condition. -/
import Derived.Test.YtommgpkeicpokaaGreatDoorRows
import Derived.Test.YtommgpkeicpokaaGreatDoorPFnExactReadGraph
import Derived.Test.YtommgpkeicpokaaGreatDoorF3s
import Derived.Test.YtommgpkeicpokaaGreatDoorAbsTab
import Derived.Test.YtommgpkeicpokaaGreatDoorTie
import Derived.Test.YtommgpkeicpokaaGreatDoorCards
import Derived.WalkKit
import Derived.LaidMore
import Derived.Lay
import Derived.SevenTiedAt
import Derived.Stop.Joined
import Derived.ProofKit
import Derived.OpenShut
import Derived.ShutString
import Derived.ChangeOld
import Derived.Below
import Derived.SizedLaws
import Derived.Carry
namespace Go.Proofs.YtommgpkeicpokaaGreatDoor.fnExactReadGraph
open Go.ChangeShapes Go.WideShapes Go.ChangeAt Go.RowKit
open Go.ChangeMaps (open_string shut_string)
set_option linter.unusedVariables false
theorem own : ownKnob Tryz.prog.godebug = none := by kernel_rfl
theorem laidOut : laidOutB Tryz.prog = true := by kernel_rfl
set_option maxRecDepth 100000 in
theorem lifted (os : Os) (started : os.Started) (H : Type) (enc : TypeId × Value → H) :
    ReturnsInHanded {} Tryz.checked os 3 .any (fun w args => (Rows.fnExactReadGraphSpec.pre enc Tryz.prog Tryz.f3 Rows.fnExactReadGraphRow.domain false w args ∧ laidMetH Tryz.prog Rows.fnExactReadGraphRow.laid w) ∧ sizedMet enc Tryz.prog Tryz.f3 (OpenSpec.ofChange Rows.fnExactReadGraphSpec) false w args) (Rows.fnExactReadGraphSpec.post enc Tryz.prog Tryz.f3 false true false false) := by
  refine Abs.wrap_shaped (C := Tryz.checked) (X := fun w _ => laidMetH Tryz.prog Rows.fnExactReadGraphRow.laid w) (fun _ _ _ hh h => h.of_heap hh) own started (by kernel_rfl) Tryz.func3
    (ChangeSpec.witness_shaped (enc := enc) (C := Tryz.checked) (os := os) (X := fun w _ => laidMetH Tryz.prog Rows.fnExactReadGraphRow.laid w) false (World.laidAll Tryz.prog os Rows.fnExactReadGraphRow.laid) #[.slice none 0 0, .string ByteArray.empty] 8 (World.laidAll_os _ _ _)
      (World.shaped_of_ZipB (by kernel_rfl) (by kernel_rfl)) (by kernel_rfl) (by kernel_rfl) (by kernel_rfl)
      (by rw [MakeChecks.laidMetH_plain _ _ _ (by kernel_rfl)]; exact laidMet_laidAll _ (by kernel_rfl) (by kernel_rfl))) ?_
  intro W base args ds gs before hval0 hW hcnd hsz0 hlaid hshape _
  have hval : ∀ (j : Nat) t v, Tryz.f3.params[j]? = some t → args[j]? = some v → Value.okWide Tryz.prog W .any base t v := hval0
  have hW' := hW
  obtain ⟨p, q, hA0, hV, rfl, hfz, hnd⟩ := hW
  have hA : DataW.TrodAll enc Tryz.prog W 0 (fun _ => true) true Tryz.f3.params.toList args.toList ds p := hA0
  rw [Tryz.params3] at hA hval
  obtain ⟨v0, vs0, d0, ds0, p0, q0, hargs, rfl, rfl, h0, r0⟩ := trodAll_cons hA
  obtain ⟨v1, vs1, d1, ds1, p1, q1, rfl, rfl, rfl, h1, r1⟩ := trodAll_cons r0
  obtain ⟨rfl, rfl, rfl⟩ := trodAll_nil r1
  obtain rfl : args = #[v0, v1] := by cases args; simp_all
  obtain ⟨rfl, rfl⟩ := trodVars_none hV
  have hc0 := Abs.okWide_cell (by kernel_rfl) (hval 0 22 v0 rfl rfl)
  have k0 := h0
  have lt0 : ∀ x ∈ p0, x.block < W.heap.size := by obtain ⟨m, hm⟩ := k0; exact DataW.trod_lt m _ _ _ hm
  obtain ⟨fuel0, hf0⟩ := h0
  obtain ⟨x0, kr0, ok0⟩ := Abs.opens (M := Abs.Mut (fun _ => False) (Abs.hpOf []) (fun _ => undef)) (Abs.not_mut _) 9 22 (.sl .str) (by kernel_rfl) _ _ _ hf0
  have hc1 := Abs.okWide_cell (by kernel_rfl) (hval 1 9 v1 rfl rfl)
  have k1 := h1
  have lt1 : ∀ x ∈ p1, x.block < W.heap.size := by obtain ⟨m, hm⟩ := k1; exact DataW.trod_lt m _ _ _ hm
  obtain ⟨fuel1, hf1⟩ := h1
  obtain ⟨x1, kr1, ok1⟩ := Abs.opens (M := Abs.Mut (fun _ => False) (Abs.hpOf []) (fun _ => undef)) (Abs.not_mut _) 9 9 .str (by kernel_rfl) _ _ _ hf1
  have hlm : laidMet Tryz.prog Rows.fnExactReadGraphRow.laid W := (MakeChecks.laidMetH_plain _ _ _ (by kernel_rfl)) ▸ hlaid
  obtain ⟨ps, hlv, _⟩ := hlm
  obtain ⟨ps0, hlw0⟩ := Abs.vars_drop 2 hlv
  have hlx0 : DataW.LaidVars Tryz.prog W (("internal/strconv.uint64pow10", Lib.tabData .u64 Lib.pow10Tab) :: Rows.fnExactReadGraphRow.laid.drop 3) ps0 := (show Rows.fnExactReadGraphRow.laid.drop 2 = ("internal/strconv.uint64pow10", Lib.tabData .u64 Lib.pow10Tab) :: Rows.fnExactReadGraphRow.laid.drop 3 by kernel_rfl) ▸ hlw0
  have ht0 : ∃ C T f, W.heap[1]? = some (.cells C T f) ∧ Abs.isTab (Go.Lib.pow10Tab.map fun z => Value.int .u64 z) C := Abs.tab_block (by kernel_rfl) (Abs.tab_of_vars (g := 1) (t := 206) (e := 175) (n := 20) (by kernel_rfl) (by kernel_rfl) (by kernel_rfl) (by kernel_rfl) (by kernel_rfl) (by kernel_rfl) hlx0)
  have ht1 : ∃ C T f, W.heap[0]? = some (.cells C T f) ∧ Abs.someInt C := Abs.int_block (cell_of_shapedOpen_int (P := Tryz.prog) (g := 0) (t := 3) (zero := #[.int .i64 0]) (k := .i64) hshape (of_decide_eq_true (by kernel_rfl)) (by kernel_rfl) rfl (by kernel_rfl) (by kernel_rfl) (by kernel_rfl))
  obtain ⟨ps2, hlw2⟩ := Abs.vars_drop 5 hlv
  have hlx2 : DataW.LaidVars Tryz.prog W (("strconv.ErrSyntax", Rows.laid_strconv_ErrSyntax) :: Rows.fnExactReadGraphRow.laid.drop 6) ps2 := (show Rows.fnExactReadGraphRow.laid.drop 5 = ("strconv.ErrSyntax", Rows.laid_strconv_ErrSyntax) :: Rows.fnExactReadGraphRow.laid.drop 6 by kernel_rfl) ▸ hlw2
  have ht2 : ∃ C T f, W.heap[4]? = some (.cells C T f) ∧ Abs.someErr C := Abs.err_block (g := 4) (t := 78) (by kernel_rfl) (by kernel_rfl) Tryz.underlying78 hlx2
  obtain ⟨ps3, hlw3⟩ := Abs.vars_drop 4 hlv
  have hlx3 : DataW.LaidVars Tryz.prog W (("strconv.ErrRange", Rows.laid_strconv_ErrRange) :: Rows.fnExactReadGraphRow.laid.drop 5) ps3 := (show Rows.fnExactReadGraphRow.laid.drop 4 = ("strconv.ErrRange", Rows.laid_strconv_ErrRange) :: Rows.fnExactReadGraphRow.laid.drop 5 by kernel_rfl) ▸ hlw3
  have ht3 : ∃ C T f, W.heap[5]? = some (.cells C T f) ∧ Abs.someErr C := Abs.err_block (g := 5) (t := 78) (by kernel_rfl) (by kernel_rfl) Tryz.underlying78 hlx3
  clear hA0 hval0 hsz0
  obtain ⟨k, hP⟩ := Abs.Pu.FnExactReadGraph x0 x1 ok0 ok1
  refine (Abs.law_calls Abs.laws_FnExactReadGraph.sound (k := k) (htb := Abs.tb_of (Abs.tall_cons ht0 (Abs.tall_cons ht1 (Abs.tall_cons ht2 (Abs.tall_cons ht3 Abs.tall_nil))))) (avs := [Abs.argAV false (Abs.Ty.cells (.sl .str) x0), Abs.argAV false (Abs.Ty.cells .str x1)]) (c := ⟨Bool, Abs.laws_FnExactReadGraph.f k x0 x1, fun r => (.bs false r, [])⟩) (x := true) (Abs.mkS_pat rfl) hP rfl (w := W) (vals := [v0, v1]) ⟨_, _, rfl, Abs.arg_cell (t := (.sl .str)) hc0 kr0 rfl, ⟨_, _, rfl, Abs.arg_cell (t := .str) hc1 kr1 rfl, rfl⟩⟩).mono fun e W' ⟨he, bel⟩ => ?_
  subst he
  exact ⟨_, rfl, _, _, _, [], _, [], hW', trodAll_mk1 (shut_bool Tryz.underlying4 _), (trodAll_cons_mk (Below.trod laidOut (by kernel_rfl) (of_decide_eq_true (by kernel_rfl)) k0 bel lt0) (trodAll_cons_mk (Below.trod laidOut (by kernel_rfl) (of_decide_eq_true (by kernel_rfl)) k1 bel lt1) trodAll_mk0)), rfl, bel.frame _, fun h => by cases h⟩
theorem over : Rows.fnExactReadGraphRow.holds Tryz.pinned (OpenSpec.ofChange Rows.fnExactReadGraphSpec) :=
  OpenClaim.holds_of_wide 3 Tryz.f3 rfl rfl rfl rfl rfl rfl rfl ⟨rfl, rfl, rfl, rfl, rfl⟩ rfl rfl rfl rfl rfl (by kernel_rfl) Tryz.func3 (by kernel_rfl)
    (of_decide_eq_true (by kernel_rfl)) (by unfold Func.isWrapper; first | (rw [if_pos (by decide +kernel)]; kernel_rfl) | (rw [if_neg (by decide +kernel)]; exact ⟨rfl, rfl⟩))
    (fun os started H enc _ => lifted os started H enc)
theorem card : Rows.FnExactReadGraphCardSaid :=
  Claim7.holds_tied_plain_at .later [] [.data, .data, .data, .data, .sentinel, .sentinel, .pinned] true (true, "6d15366fd5ff783645c823d5326758d9de45e861b5ccb41139df92646a1f64b7") true over (fun _ h => by cases h) (by kernel_rfl) (fun _ h => by cases h) fnExactReadGraph_row_tie rfl ⟨rfl, rfl⟩ (by kernel_rfl) rfl
    (fun f fn hf hfn => by
      obtain rfl : f = 3 := Option.some.inj ((show Tryz.prog.funcNamed "loop.example/g00648/laws.FnExactReadGraph" = some 3 by kernel_rfl).symm.trans hf) |>.symm
      obtain rfl : fn = Tryz.f3 := (Option.some.inj (Tryz.func3.symm.trans hfn)).symm
      exact ⟨by kernel_rfl, fun j t ht => by
        rw [Tryz.params3] at ht
        have hm : t ∈ [22, 9] := by
          have hm_ := Array.mem_of_getElem? ht
          simpa using hm_
        have hall : ([22, 9].all fun u => !Tryz.prog.wantsStandIn u) = true := by kernel_rfl
        exact (show Tryz.prog.wantsStandIn t = false by simpa using List.all_eq_true.1 hall t hm)⟩)
    (by kernel_rfl)
#print axioms card
end Go.Proofs.YtommgpkeicpokaaGreatDoor.fnExactReadGraph
namespace Go.Proofs.YtommgpkeicpokaaGreatDoor
/-- The row, under a short name, for the claim. -/
theorem fnExactReadGraph_holds : Rows.FnExactReadGraphCardSaid := fnExactReadGraph.card
end Go.Proofs.YtommgpkeicpokaaGreatDoor
