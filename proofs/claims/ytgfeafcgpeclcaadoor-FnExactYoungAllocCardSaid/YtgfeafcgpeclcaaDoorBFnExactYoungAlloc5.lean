/- Lean functions, walks and rows for the seat YtgfeafcgpeclcaaDoor, written by a program of this repo (wip/tools/xprint.py). (Merged out of this claim's own texts.) -/
import Derived.Test.YtgfeafcgpeclcaaDoorBFnExactYoungAlloc4
namespace Go.Proofs.YtgfeafcgpeclcaaDoor.X
open Go.RowKit Go.Proofs.YtgfeafcgpeclcaaDoorW.PrintWords Go.Proofs.YtgfeafcgpeclcaaDoorW.PrintLast Go.Proofs.YtgfeafcgpeclcaaDoorW.PrintMore
attribute [local go_sem] max2_int min2_int max_two min_two max_three min_three max_four min_four   -- for this text's walks alone
set_option linter.unusedVariables false
set_option linter.unusedSimpArgs false

/-! ### laws_FnExactYoungAlloc: function 7 -/
mutual
def laws_FnExactYoungAlloc.j0 : Nat → List ByteArray → Int → Int → Int → List ByteArray → Int → Int → Bool → Int → List Int → Int → List Int → Int → List Int → Int → List Int → Option (Bool)
 | 0,_,_,_,_,_,_,_,_,_,_,_,_,_,_,_,_ => none
 | k + 1,x0,x2,x9,x10,x11,x14,x15,x67,x551000,x551001,x567000,x567001,x575000,x575001,x582000,x582001 => if x67 = true then (some false) else ((laws_toStringS.f k x0).bind fun t583 => ((laws_eqStringS.f k x11 t583).bind fun t586 => (if t586 = true then ((laws_toNursery.f k x551000 x551001).bind fun bt587 => ((laws_eqNursery.f k x575000 x575001 bt587.1 bt587.2).bind fun t591 => (if t591 = true then ((laws_markStringS.f k x11 1).bind fun bt592 => ((laws_markNursery.f k x575000 x575001 bt592.1).bind fun bt594 => (if bt594.1 < 0 then (laws_FnExactYoungAlloc.j1 k x0 x2 x9 x10 true x551000 x551001 x567000 x567001 x582000 x582001) else ((laws_eqNursery.f k x582000 x582001 x567000 x567001).bind fun t596 => (if t596 = true then (if x14 = x9 then (laws_FnExactYoungAlloc.j1 k x0 x2 x9 x10 (x15 != x10) x551000 x551001 x567000 x567001 x582000 x582001) else (laws_FnExactYoungAlloc.j1 k x0 x2 x9 x10 true x551000 x551001 x567000 x567001 x582000 x582001)) else (laws_FnExactYoungAlloc.j1 k x0 x2 x9 x10 true x551000 x551001 x567000 x567001 x582000 x582001)))))) else (some false)))) else (some false))))
def laws_FnExactYoungAlloc.j1 : Nat → List ByteArray → Int → Int → Int → Bool → Int → List Int → Int → List Int → Int → List Int → Option (Bool)
 | 0,_,_,_,_,_,_,_,_,_,_,_ => none
 | k + 1,x0,x2,x9,x10,x101,x551000,x551001,x567000,x567001,x582000,x582001 => if x101 = true then (some false) else ((laws_markNursery.f k x582000 x582001 1).bind fun bt597 => ((laws_heldNursery.f k x582000 bt597.2 1).bind fun t599 => (if t599 < 0 then (some false) else (if t599 = bt597.1 then ((laws_toStringS.f k x0).bind fun t600 => ((laws_toNursery.f k x551000 x551001).bind fun bt603 => ((impl_YoungAlloc.f k t600 bt603.1 bt603.2 x2).bind fun bt607 => ((laws_eqNursery.f k bt607.1 bt607.2.1 x567000 x567001).bind fun t614 => (if t614 = true then (if bt607.2.2.1 = x9 then (laws_FnExactYoungAlloc.j2 k bt597.1 (bt607.2.2.2 != x10) x582000 bt597.2) else (laws_FnExactYoungAlloc.j2 k bt597.1 true x582000 bt597.2)) else (laws_FnExactYoungAlloc.j2 k bt597.1 true x582000 bt597.2)))))) else (some false)))))
def laws_FnExactYoungAlloc.j2 : Nat → Int → Bool → Int → List Int → Option (Bool)
 | 0,_,_,_,_ => none
 | k + 1,x17,x136,x582000,x582001 => if x136 = true then (some false) else ((laws_heldNursery.f k x582000 x582001 1).bind fun t615 => (if t615 < 0 then (some false) else (if t615 = x17 then (some true) else (some false))))
end
def laws_FnExactYoungAlloc.f (k : Nat) (l0 : List ByteArray) (a1_0 : Int) (l1_1 : List Int) (a2 : Int) : Option (Bool) := (laws_szStringS.f k l0 1048576).bind fun t551 => (if t551 < 0 then (some true) else ((laws_szNursery.f a1_0 l1_1 t551).bind fun t552 => (if t552 < 0 then (some true) else ((laws_toStringS.f k l0).bind fun t553 => ((laws_toNursery.f k a1_0 l1_1).bind fun bt556 => ((spec_YoungAlloc.f k t553 bt556.1 bt556.2 a2).bind fun bt560 => ((laws_toStringS.f k l0).bind fun t567 => ((laws_toNursery.f k a1_0 l1_1).bind fun bt570 => ((impl_YoungAlloc.f k t567 bt570.1 bt570.2 a2).bind fun bt575 => ((laws_eqNursery.f k bt575.1 bt575.2.1 bt560.1 bt560.2.1).bind fun t582 => (if t582 = true then (if bt575.2.2.1 = bt560.2.2.1 then (laws_FnExactYoungAlloc.j0 k l0 a2 bt560.2.2.1 bt560.2.2.2 t567 bt575.2.2.1 bt575.2.2.2 (bt575.2.2.2 != bt560.2.2.2) a1_0 l1_1 bt560.1 bt560.2.1 bt570.1 bt570.2 bt575.1 bt575.2.1) else (laws_FnExactYoungAlloc.j0 k l0 a2 bt560.2.2.1 bt560.2.2.2 t567 bt575.2.2.1 bt575.2.2.2 true a1_0 l1_1 bt560.1 bt560.2.1 bt570.1 bt570.2 bt575.1 bt575.2.1)) else (laws_FnExactYoungAlloc.j0 k l0 a2 bt560.2.2.1 bt560.2.2.2 t567 bt575.2.2.1 bt575.2.2.2 true a1_0 l1_1 bt560.1 bt560.2.1 bt570.1 bt570.2 bt575.1 bt575.2.1))))))))))))
theorem laws_FnExactYoungAlloc.mono_l : ∀ k, (∀ y0 y1 y2 y3 y4 y5 y6 y7 y8 y9 y10 y11 y12 y13 y14 y15, LeO (laws_FnExactYoungAlloc.j0 k y0 y1 y2 y3 y4 y5 y6 y7 y8 y9 y10 y11 y12 y13 y14 y15) (laws_FnExactYoungAlloc.j0 (k + 1) y0 y1 y2 y3 y4 y5 y6 y7 y8 y9 y10 y11 y12 y13 y14 y15)) ∧ (∀ y0 y1 y2 y3 y4 y5 y6 y7 y8 y9 y10, LeO (laws_FnExactYoungAlloc.j1 k y0 y1 y2 y3 y4 y5 y6 y7 y8 y9 y10) (laws_FnExactYoungAlloc.j1 (k + 1) y0 y1 y2 y3 y4 y5 y6 y7 y8 y9 y10)) ∧ (∀ y0 y1 y2 y3, LeO (laws_FnExactYoungAlloc.j2 k y0 y1 y2 y3) (laws_FnExactYoungAlloc.j2 (k + 1) y0 y1 y2 y3))
 | 0 => ⟨fun _ _ _ _ _ _ _ _ _ _ _ _ _ _ _ _ r h => by simp [laws_FnExactYoungAlloc.j0] at h,fun _ _ _ _ _ _ _ _ _ _ _ r h => by simp [laws_FnExactYoungAlloc.j1] at h,fun _ _ _ _ r h => by simp [laws_FnExactYoungAlloc.j2] at h⟩
 | k + 1 => by
  obtain ⟨ih0,ih1,ih2⟩:=laws_FnExactYoungAlloc.mono_l k
  refine ⟨?_,?_,?_⟩
  ·intro y0 y1 y2 y3 y4 y5 y6 y7 y8 y9 y10 y11 y12 y13 y14 y15
   unfold laws_FnExactYoungAlloc.j0
   repeat' first
   | (with_reducible exact ih0 _ _ _ _ _ _ _ _ _ _ _ _ _ _ _ _)
   | (with_reducible exact ih1 _ _ _ _ _ _ _ _ _ _ _)
   | (with_reducible exact ih2 _ _ _ _)
   | (with_reducible exact impl_YoungAlloc.mono _ _ _ _ _)
   | (with_reducible exact laws_eqNursery.mono _ _ _ _ _)
   | (with_reducible exact laws_eqStringS.mono _ _ _)
   | (with_reducible exact laws_heldNursery.mono _ _ _ _)
   | (with_reducible exact laws_markNursery.mono _ _ _ _)
   | (with_reducible exact laws_markStringS.mono _ _ _)
   | (with_reducible exact laws_szStringS.mono _ _ _)
   | (with_reducible exact laws_toNursery.mono _ _ _)
   | (with_reducible exact laws_toStringS.mono _ _)
   | (with_reducible exact spec_YoungAlloc.mono _ _ _ _ _)
   | (with_reducible exact LeO.refl _)
   | (with_reducible exact LeO.none _)
   | (with_reducible refine LeO.ite ?_ ?_)
   | (with_reducible refine LeO.bind ?_ (fun _ => ?_))
   | exact ih0 _ _ _ _ _ _ _ _ _ _ _ _ _ _ _ _
   | exact ih1 _ _ _ _ _ _ _ _ _ _ _
   | exact ih2 _ _ _ _
   | exact impl_YoungAlloc.mono _ _ _ _ _
   | exact laws_eqNursery.mono _ _ _ _ _
   | exact laws_eqStringS.mono _ _ _
   | exact laws_heldNursery.mono _ _ _ _
   | exact laws_markNursery.mono _ _ _ _
   | exact laws_markStringS.mono _ _ _
   | exact laws_szStringS.mono _ _ _
   | exact laws_toNursery.mono _ _ _
   | exact laws_toStringS.mono _ _
   | exact spec_YoungAlloc.mono _ _ _ _ _
   | exact LeO.none _
   | refine LeO.ite ?_ ?_
   | refine LeO.bind ?_ (fun _ => ?_)
  ·intro y0 y1 y2 y3 y4 y5 y6 y7 y8 y9 y10
   unfold laws_FnExactYoungAlloc.j1
   repeat' first
   | (with_reducible exact ih0 _ _ _ _ _ _ _ _ _ _ _ _ _ _ _ _)
   | (with_reducible exact ih1 _ _ _ _ _ _ _ _ _ _ _)
   | (with_reducible exact ih2 _ _ _ _)
   | (with_reducible exact impl_YoungAlloc.mono _ _ _ _ _)
   | (with_reducible exact laws_eqNursery.mono _ _ _ _ _)
   | (with_reducible exact laws_eqStringS.mono _ _ _)
   | (with_reducible exact laws_heldNursery.mono _ _ _ _)
   | (with_reducible exact laws_markNursery.mono _ _ _ _)
   | (with_reducible exact laws_markStringS.mono _ _ _)
   | (with_reducible exact laws_szStringS.mono _ _ _)
   | (with_reducible exact laws_toNursery.mono _ _ _)
   | (with_reducible exact laws_toStringS.mono _ _)
   | (with_reducible exact spec_YoungAlloc.mono _ _ _ _ _)
   | (with_reducible exact LeO.refl _)
   | (with_reducible exact LeO.none _)
   | (with_reducible refine LeO.ite ?_ ?_)
   | (with_reducible refine LeO.bind ?_ (fun _ => ?_))
   | exact ih0 _ _ _ _ _ _ _ _ _ _ _ _ _ _ _ _
   | exact ih1 _ _ _ _ _ _ _ _ _ _ _
   | exact ih2 _ _ _ _
   | exact impl_YoungAlloc.mono _ _ _ _ _
   | exact laws_eqNursery.mono _ _ _ _ _
   | exact laws_eqStringS.mono _ _ _
   | exact laws_heldNursery.mono _ _ _ _
   | exact laws_markNursery.mono _ _ _ _
   | exact laws_markStringS.mono _ _ _
   | exact laws_szStringS.mono _ _ _
   | exact laws_toNursery.mono _ _ _
   | exact laws_toStringS.mono _ _
   | exact spec_YoungAlloc.mono _ _ _ _ _
   | exact LeO.none _
   | refine LeO.ite ?_ ?_
   | refine LeO.bind ?_ (fun _ => ?_)
  ·intro y0 y1 y2 y3
   unfold laws_FnExactYoungAlloc.j2
   repeat' first
   | (with_reducible exact ih0 _ _ _ _ _ _ _ _ _ _ _ _ _ _ _ _)
   | (with_reducible exact ih1 _ _ _ _ _ _ _ _ _ _ _)
   | (with_reducible exact ih2 _ _ _ _)
   | (with_reducible exact impl_YoungAlloc.mono _ _ _ _ _)
   | (with_reducible exact laws_eqNursery.mono _ _ _ _ _)
   | (with_reducible exact laws_eqStringS.mono _ _ _)
   | (with_reducible exact laws_heldNursery.mono _ _ _ _)
   | (with_reducible exact laws_markNursery.mono _ _ _ _)
   | (with_reducible exact laws_markStringS.mono _ _ _)
   | (with_reducible exact laws_szStringS.mono _ _ _)
   | (with_reducible exact laws_toNursery.mono _ _ _)
   | (with_reducible exact laws_toStringS.mono _ _)
   | (with_reducible exact spec_YoungAlloc.mono _ _ _ _ _)
   | (with_reducible exact LeO.refl _)
   | (with_reducible exact LeO.none _)
   | (with_reducible refine LeO.ite ?_ ?_)
   | (with_reducible refine LeO.bind ?_ (fun _ => ?_))
   | exact ih0 _ _ _ _ _ _ _ _ _ _ _ _ _ _ _ _
   | exact ih1 _ _ _ _ _ _ _ _ _ _ _
   | exact ih2 _ _ _ _
   | exact impl_YoungAlloc.mono _ _ _ _ _
   | exact laws_eqNursery.mono _ _ _ _ _
   | exact laws_eqStringS.mono _ _ _
   | exact laws_heldNursery.mono _ _ _ _
   | exact laws_markNursery.mono _ _ _ _
   | exact laws_markStringS.mono _ _ _
   | exact laws_szStringS.mono _ _ _
   | exact laws_toNursery.mono _ _ _
   | exact laws_toStringS.mono _ _
   | exact spec_YoungAlloc.mono _ _ _ _ _
   | exact LeO.none _
   | refine LeO.ite ?_ ?_
   | refine LeO.bind ?_ (fun _ => ?_)
theorem laws_FnExactYoungAlloc.mono : ∀ a0 a1 a2 a3 k, LeO (laws_FnExactYoungAlloc.f k a0 a1 a2 a3) (laws_FnExactYoungAlloc.f (k + 1) a0 a1 a2 a3) := by
 intro a0 a1 a2 a3 k
 obtain ⟨ih0,ih1,ih2⟩:=laws_FnExactYoungAlloc.mono_l k
 unfold laws_FnExactYoungAlloc.f
 repeat' first
   | (with_reducible exact ih0 _ _ _ _ _ _ _ _ _ _ _ _ _ _ _ _)
   | (with_reducible exact ih1 _ _ _ _ _ _ _ _ _ _ _)
   | (with_reducible exact ih2 _ _ _ _)
   | (with_reducible exact impl_YoungAlloc.mono _ _ _ _ _)
   | (with_reducible exact laws_eqNursery.mono _ _ _ _ _)
   | (with_reducible exact laws_eqStringS.mono _ _ _)
   | (with_reducible exact laws_heldNursery.mono _ _ _ _)
   | (with_reducible exact laws_markNursery.mono _ _ _ _)
   | (with_reducible exact laws_markStringS.mono _ _ _)
   | (with_reducible exact laws_szStringS.mono _ _ _)
   | (with_reducible exact laws_toNursery.mono _ _ _)
   | (with_reducible exact laws_toStringS.mono _ _)
   | (with_reducible exact spec_YoungAlloc.mono _ _ _ _ _)
   | (with_reducible exact LeO.refl _)
   | (with_reducible exact LeO.none _)
   | (with_reducible refine LeO.ite ?_ ?_)
   | (with_reducible refine LeO.bind ?_ (fun _ => ?_))
   | exact ih0 _ _ _ _ _ _ _ _ _ _ _ _ _ _ _ _
   | exact ih1 _ _ _ _ _ _ _ _ _ _ _
   | exact ih2 _ _ _ _
   | exact impl_YoungAlloc.mono _ _ _ _ _
   | exact laws_eqNursery.mono _ _ _ _ _
   | exact laws_eqStringS.mono _ _ _
   | exact laws_heldNursery.mono _ _ _ _
   | exact laws_markNursery.mono _ _ _ _
   | exact laws_markStringS.mono _ _ _
   | exact laws_szStringS.mono _ _ _
   | exact laws_toNursery.mono _ _ _
   | exact laws_toStringS.mono _ _
   | exact spec_YoungAlloc.mono _ _ _ _ _
   | exact LeO.none _
   | refine LeO.ite ?_ ?_
   | refine LeO.bind ?_ (fun _ => ?_)
def laws_FnExactYoungAlloc.T8 : Bool × List (List Nat × List Nat) := (true, [([], []), ([0], [0]), ([], []), ([2, 1], [2]), ([], []), ([1, 3, 4, 3], [1, 3, 4]), ([5], [5]), ([6], [6]), ([6], [6]), ([6], [6]), ([], []), ([10, 7, 5, 0, 1, 2, 3, 4, 5, 6, 7, 10], [7, 10]), ([8, 11, 0, 1, 2, 3, 4, 5, 6, 7, 8, 10, 11], [8]), ([9, 12, 0, 1, 2, 3, 4, 5, 6, 7, 8, 9, 10, 11, 12], [9])])
def laws_FnExactYoungAlloc.B8 : List Nat := [0, 1, 0, 7, 0, 31, 63, 127, 127, 127, 0, 1279, 3583, 8191]
theorem laws_FnExactYoungAlloc.tab8 : rtab .any (opsOf Tryd.f7 8) = laws_FnExactYoungAlloc.T8 := by kernel_rfl
theorem laws_FnExactYoungAlloc.bits8 : waitsOk laws_FnExactYoungAlloc.T8.2 laws_FnExactYoungAlloc.B8 = true := by kernel_rfl
def laws_FnExactYoungAlloc.T31 : Bool × List (List Nat × List Nat) := (true, [([], []), ([0], [0]), ([], []), ([2, 1], [2]), ([], []), ([1, 3, 4, 3], [1, 3, 4]), ([5], [5]), ([6], [6]), ([6], [6]), ([6], [6]), ([], []), ([10, 7, 5, 0, 1, 2, 3, 4, 5, 6, 7, 10], [7, 10]), ([8, 11, 0, 1, 2, 3, 4, 5, 6, 7, 8, 10, 11], [8]), ([9, 12, 0, 1, 2, 3, 4, 5, 6, 7, 8, 9, 10, 11, 12], [9])])
def laws_FnExactYoungAlloc.B31 : List Nat := [0, 1, 0, 7, 0, 31, 63, 127, 127, 127, 0, 1279, 3583, 8191]
theorem laws_FnExactYoungAlloc.tab31 : rtab .any (opsOf Tryd.f7 31) = laws_FnExactYoungAlloc.T31 := by kernel_rfl
theorem laws_FnExactYoungAlloc.bits31 : waitsOk laws_FnExactYoungAlloc.T31.2 laws_FnExactYoungAlloc.B31 = true := by kernel_rfl
end Go.Proofs.YtgfeafcgpeclcaaDoor.X
