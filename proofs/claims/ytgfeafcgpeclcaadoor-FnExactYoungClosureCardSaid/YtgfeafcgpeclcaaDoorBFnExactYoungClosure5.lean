/- Lean functions, walks and rows for the seat YtgfeafcgpeclcaaDoor, written by a program of this repo (wip/tools/xprint.py). (Merged out of this claim's own texts.) -/
import Derived.Test.YtgfeafcgpeclcaaDoorBFnExactYoungClosure4
namespace Go.Proofs.YtgfeafcgpeclcaaDoor.X
open Go.RowKit Go.Proofs.YtgfeafcgpeclcaaDoorW.PrintWords Go.Proofs.YtgfeafcgpeclcaaDoorW.PrintLast Go.Proofs.YtgfeafcgpeclcaaDoorW.PrintMore
attribute [local go_sem] max2_int min2_int max_two min_two max_three min_three max_four min_four   -- for this text's walks alone
set_option linter.unusedVariables false
set_option linter.unusedSimpArgs false

/-! ### laws_FnExactYoungClosure: function 9 -/
mutual
def laws_FnExactYoungClosure.j0 : Nat → List ByteArray → List Int → List Int → Bool → List ByteArray → List Int → List Int → Bool → Bool → Int → List Int → Int → List Int → Option (Bool)
 | 0,_,_,_,_,_,_,_,_,_,_,_,_,_ => none
 | k + 1,x0,x2,x8,x9,x10,x12,x13,x14,x64,x769000,x769001,x793000,x793001 => if x64 = true then (some false) else ((laws_toStringS.f k x0).bind fun t801 => ((laws_eqStringS.f k x10 t801).bind fun t804 => (if t804 = true then ((laws_toNursery.f k x769000 x769001).bind fun bt805 => ((laws_eqNursery.f k x793000 x793001 bt805.1 bt805.2).bind fun t809 => (if t809 = true then ((laws_toInt64S.f k x2).bind fun t810 => ((laws_eqInt64S.f k x12 t810).bind fun t813 => (if t813 = true then ((laws_markStringS.f k x10 1).bind fun bt814 => ((laws_markNursery.f k x793000 x793001 bt814.1).bind fun bt816 => ((laws_markInt64S.f k x12 bt816.1).bind fun bt818 => (if bt818.1 < 0 then (laws_FnExactYoungClosure.j1 k x0 x2 x8 x9 x13 true x769000 x769001) else ((laws_eqInt64S.f k x13 x8).bind fun t820 => (if t820 = true then (laws_FnExactYoungClosure.j1 k x0 x2 x8 x9 x13 (x14 != x9) x769000 x769001) else (laws_FnExactYoungClosure.j1 k x0 x2 x8 x9 x13 true x769000 x769001))))))) else (some false)))) else (some false)))) else (some false))))
def laws_FnExactYoungClosure.j1 : Nat → List ByteArray → List Int → List Int → Bool → List Int → Bool → Int → List Int → Option (Bool)
 | 0,_,_,_,_,_,_,_,_ => none
 | k + 1,x0,x2,x8,x9,x13,x101,x769000,x769001 => if x101 = true then (some false) else ((laws_markInt64S.f k x13 1).bind fun bt821 => ((laws_heldInt64S.f k bt821.2 1).bind fun t823 => (if t823 < 0 then (some false) else (if t823 = bt821.1 then ((laws_toStringS.f k x0).bind fun t824 => ((laws_toNursery.f k x769000 x769001).bind fun bt827 => ((laws_toInt64S.f k x2).bind fun t831 => ((impl_YoungClosure.f k t824 bt827.1 bt827.2 t831).bind fun bt834 => ((laws_eqInt64S.f k bt834.1 x8).bind fun t838 => (if t838 = true then (laws_FnExactYoungClosure.j2 k bt821.2 bt821.1 (bt834.2 != x9)) else (laws_FnExactYoungClosure.j2 k bt821.2 bt821.1 true))))))) else (some false)))))
def laws_FnExactYoungClosure.j2 : Nat → List Int → Int → Bool → Option (Bool)
 | 0,_,_,_ => none
 | k + 1,x13,x16,x131 => if x131 = true then (some false) else ((laws_heldInt64S.f k x13 1).bind fun t839 => (if t839 < 0 then (some false) else (if t839 = x16 then (some true) else (some false))))
end
def laws_FnExactYoungClosure.f (k : Nat) (l0 : List ByteArray) (a1_0 : Int) (l1_1 : List Int) (l2 : List Int) : Option (Bool) := if (l2.length : Int) > 1048576 then (some true) else ((laws_szStringS.f k l0 1048576).bind fun t769 => (if t769 < 0 then (some true) else ((laws_szNursery.f a1_0 l1_1 t769).bind fun t770 => (if t770 < 0 then (some true) else ((laws_toStringS.f k l0).bind fun t771 => ((laws_toNursery.f k a1_0 l1_1).bind fun bt774 => ((laws_toInt64S.f k l2).bind fun t778 => ((spec_YoungClosure.f k t771 bt774.1 bt774.2 t778).bind fun bt781 => ((laws_toStringS.f k l0).bind fun t785 => ((laws_toNursery.f k a1_0 l1_1).bind fun bt788 => ((laws_toInt64S.f k l2).bind fun t793 => ((impl_YoungClosure.f k t785 bt788.1 bt788.2 t793).bind fun bt796 => ((laws_eqInt64S.f k bt796.1 bt781.1).bind fun t800 => (if t800 = true then (laws_FnExactYoungClosure.j0 k l0 l2 bt781.1 bt781.2 t785 t793 bt796.1 bt796.2 (bt796.2 != bt781.2) a1_0 l1_1 bt788.1 bt788.2) else (laws_FnExactYoungClosure.j0 k l0 l2 bt781.1 bt781.2 t785 t793 bt796.1 bt796.2 true a1_0 l1_1 bt788.1 bt788.2)))))))))))))))
theorem laws_FnExactYoungClosure.mono_l : ∀ k, (∀ y0 y1 y2 y3 y4 y5 y6 y7 y8 y9 y10 y11 y12, LeO (laws_FnExactYoungClosure.j0 k y0 y1 y2 y3 y4 y5 y6 y7 y8 y9 y10 y11 y12) (laws_FnExactYoungClosure.j0 (k + 1) y0 y1 y2 y3 y4 y5 y6 y7 y8 y9 y10 y11 y12)) ∧ (∀ y0 y1 y2 y3 y4 y5 y6 y7, LeO (laws_FnExactYoungClosure.j1 k y0 y1 y2 y3 y4 y5 y6 y7) (laws_FnExactYoungClosure.j1 (k + 1) y0 y1 y2 y3 y4 y5 y6 y7)) ∧ (∀ y0 y1 y2, LeO (laws_FnExactYoungClosure.j2 k y0 y1 y2) (laws_FnExactYoungClosure.j2 (k + 1) y0 y1 y2))
 | 0 => ⟨fun _ _ _ _ _ _ _ _ _ _ _ _ _ r h => by simp [laws_FnExactYoungClosure.j0] at h,fun _ _ _ _ _ _ _ _ r h => by simp [laws_FnExactYoungClosure.j1] at h,fun _ _ _ r h => by simp [laws_FnExactYoungClosure.j2] at h⟩
 | k + 1 => by
  obtain ⟨ih0,ih1,ih2⟩:=laws_FnExactYoungClosure.mono_l k
  refine ⟨?_,?_,?_⟩
  ·intro y0 y1 y2 y3 y4 y5 y6 y7 y8 y9 y10 y11 y12
   unfold laws_FnExactYoungClosure.j0
   repeat' first
   | (with_reducible exact ih0 _ _ _ _ _ _ _ _ _ _ _ _ _)
   | (with_reducible exact ih1 _ _ _ _ _ _ _ _)
   | (with_reducible exact ih2 _ _ _)
   | (with_reducible exact impl_YoungClosure.mono _ _ _ _ _)
   | (with_reducible exact laws_eqInt64S.mono _ _ _)
   | (with_reducible exact laws_eqNursery.mono _ _ _ _ _)
   | (with_reducible exact laws_eqStringS.mono _ _ _)
   | (with_reducible exact laws_heldInt64S.mono _ _ _)
   | (with_reducible exact laws_markInt64S.mono _ _ _)
   | (with_reducible exact laws_markNursery.mono _ _ _ _)
   | (with_reducible exact laws_markStringS.mono _ _ _)
   | (with_reducible exact laws_szStringS.mono _ _ _)
   | (with_reducible exact laws_toInt64S.mono _ _)
   | (with_reducible exact laws_toNursery.mono _ _ _)
   | (with_reducible exact laws_toStringS.mono _ _)
   | (with_reducible exact spec_YoungClosure.mono _ _ _ _ _)
   | (with_reducible exact LeO.refl _)
   | (with_reducible exact LeO.none _)
   | (with_reducible refine LeO.ite ?_ ?_)
   | (with_reducible refine LeO.bind ?_ (fun _ => ?_))
   | exact ih0 _ _ _ _ _ _ _ _ _ _ _ _ _
   | exact ih1 _ _ _ _ _ _ _ _
   | exact ih2 _ _ _
   | exact impl_YoungClosure.mono _ _ _ _ _
   | exact laws_eqInt64S.mono _ _ _
   | exact laws_eqNursery.mono _ _ _ _ _
   | exact laws_eqStringS.mono _ _ _
   | exact laws_heldInt64S.mono _ _ _
   | exact laws_markInt64S.mono _ _ _
   | exact laws_markNursery.mono _ _ _ _
   | exact laws_markStringS.mono _ _ _
   | exact laws_szStringS.mono _ _ _
   | exact laws_toInt64S.mono _ _
   | exact laws_toNursery.mono _ _ _
   | exact laws_toStringS.mono _ _
   | exact spec_YoungClosure.mono _ _ _ _ _
   | exact LeO.none _
   | refine LeO.ite ?_ ?_
   | refine LeO.bind ?_ (fun _ => ?_)
  ·intro y0 y1 y2 y3 y4 y5 y6 y7
   unfold laws_FnExactYoungClosure.j1
   repeat' first
   | (with_reducible exact ih0 _ _ _ _ _ _ _ _ _ _ _ _ _)
   | (with_reducible exact ih1 _ _ _ _ _ _ _ _)
   | (with_reducible exact ih2 _ _ _)
   | (with_reducible exact impl_YoungClosure.mono _ _ _ _ _)
   | (with_reducible exact laws_eqInt64S.mono _ _ _)
   | (with_reducible exact laws_eqNursery.mono _ _ _ _ _)
   | (with_reducible exact laws_eqStringS.mono _ _ _)
   | (with_reducible exact laws_heldInt64S.mono _ _ _)
   | (with_reducible exact laws_markInt64S.mono _ _ _)
   | (with_reducible exact laws_markNursery.mono _ _ _ _)
   | (with_reducible exact laws_markStringS.mono _ _ _)
   | (with_reducible exact laws_szStringS.mono _ _ _)
   | (with_reducible exact laws_toInt64S.mono _ _)
   | (with_reducible exact laws_toNursery.mono _ _ _)
   | (with_reducible exact laws_toStringS.mono _ _)
   | (with_reducible exact spec_YoungClosure.mono _ _ _ _ _)
   | (with_reducible exact LeO.refl _)
   | (with_reducible exact LeO.none _)
   | (with_reducible refine LeO.ite ?_ ?_)
   | (with_reducible refine LeO.bind ?_ (fun _ => ?_))
   | exact ih0 _ _ _ _ _ _ _ _ _ _ _ _ _
   | exact ih1 _ _ _ _ _ _ _ _
   | exact ih2 _ _ _
   | exact impl_YoungClosure.mono _ _ _ _ _
   | exact laws_eqInt64S.mono _ _ _
   | exact laws_eqNursery.mono _ _ _ _ _
   | exact laws_eqStringS.mono _ _ _
   | exact laws_heldInt64S.mono _ _ _
   | exact laws_markInt64S.mono _ _ _
   | exact laws_markNursery.mono _ _ _ _
   | exact laws_markStringS.mono _ _ _
   | exact laws_szStringS.mono _ _ _
   | exact laws_toInt64S.mono _ _
   | exact laws_toNursery.mono _ _ _
   | exact laws_toStringS.mono _ _
   | exact spec_YoungClosure.mono _ _ _ _ _
   | exact LeO.none _
   | refine LeO.ite ?_ ?_
   | refine LeO.bind ?_ (fun _ => ?_)
  ·intro y0 y1 y2
   unfold laws_FnExactYoungClosure.j2
   repeat' first
   | (with_reducible exact ih0 _ _ _ _ _ _ _ _ _ _ _ _ _)
   | (with_reducible exact ih1 _ _ _ _ _ _ _ _)
   | (with_reducible exact ih2 _ _ _)
   | (with_reducible exact impl_YoungClosure.mono _ _ _ _ _)
   | (with_reducible exact laws_eqInt64S.mono _ _ _)
   | (with_reducible exact laws_eqNursery.mono _ _ _ _ _)
   | (with_reducible exact laws_eqStringS.mono _ _ _)
   | (with_reducible exact laws_heldInt64S.mono _ _ _)
   | (with_reducible exact laws_markInt64S.mono _ _ _)
   | (with_reducible exact laws_markNursery.mono _ _ _ _)
   | (with_reducible exact laws_markStringS.mono _ _ _)
   | (with_reducible exact laws_szStringS.mono _ _ _)
   | (with_reducible exact laws_toInt64S.mono _ _)
   | (with_reducible exact laws_toNursery.mono _ _ _)
   | (with_reducible exact laws_toStringS.mono _ _)
   | (with_reducible exact spec_YoungClosure.mono _ _ _ _ _)
   | (with_reducible exact LeO.refl _)
   | (with_reducible exact LeO.none _)
   | (with_reducible refine LeO.ite ?_ ?_)
   | (with_reducible refine LeO.bind ?_ (fun _ => ?_))
   | exact ih0 _ _ _ _ _ _ _ _ _ _ _ _ _
   | exact ih1 _ _ _ _ _ _ _ _
   | exact ih2 _ _ _
   | exact impl_YoungClosure.mono _ _ _ _ _
   | exact laws_eqInt64S.mono _ _ _
   | exact laws_eqNursery.mono _ _ _ _ _
   | exact laws_eqStringS.mono _ _ _
   | exact laws_heldInt64S.mono _ _ _
   | exact laws_markInt64S.mono _ _ _
   | exact laws_markNursery.mono _ _ _ _
   | exact laws_markStringS.mono _ _ _
   | exact laws_szStringS.mono _ _ _
   | exact laws_toInt64S.mono _ _
   | exact laws_toNursery.mono _ _ _
   | exact laws_toStringS.mono _ _
   | exact spec_YoungClosure.mono _ _ _ _ _
   | exact LeO.none _
   | refine LeO.ite ?_ ?_
   | refine LeO.bind ?_ (fun _ => ?_)
theorem laws_FnExactYoungClosure.mono : ∀ a0 a1 a2 a3 k, LeO (laws_FnExactYoungClosure.f k a0 a1 a2 a3) (laws_FnExactYoungClosure.f (k + 1) a0 a1 a2 a3) := by
 intro a0 a1 a2 a3 k
 obtain ⟨ih0,ih1,ih2⟩:=laws_FnExactYoungClosure.mono_l k
 unfold laws_FnExactYoungClosure.f
 repeat' first
   | (with_reducible exact ih0 _ _ _ _ _ _ _ _ _ _ _ _ _)
   | (with_reducible exact ih1 _ _ _ _ _ _ _ _)
   | (with_reducible exact ih2 _ _ _)
   | (with_reducible exact impl_YoungClosure.mono _ _ _ _ _)
   | (with_reducible exact laws_eqInt64S.mono _ _ _)
   | (with_reducible exact laws_eqNursery.mono _ _ _ _ _)
   | (with_reducible exact laws_eqStringS.mono _ _ _)
   | (with_reducible exact laws_heldInt64S.mono _ _ _)
   | (with_reducible exact laws_markInt64S.mono _ _ _)
   | (with_reducible exact laws_markNursery.mono _ _ _ _)
   | (with_reducible exact laws_markStringS.mono _ _ _)
   | (with_reducible exact laws_szStringS.mono _ _ _)
   | (with_reducible exact laws_toInt64S.mono _ _)
   | (with_reducible exact laws_toNursery.mono _ _ _)
   | (with_reducible exact laws_toStringS.mono _ _)
   | (with_reducible exact spec_YoungClosure.mono _ _ _ _ _)
   | (with_reducible exact LeO.refl _)
   | (with_reducible exact LeO.none _)
   | (with_reducible refine LeO.ite ?_ ?_)
   | (with_reducible refine LeO.bind ?_ (fun _ => ?_))
   | exact ih0 _ _ _ _ _ _ _ _ _ _ _ _ _
   | exact ih1 _ _ _ _ _ _ _ _
   | exact ih2 _ _ _
   | exact impl_YoungClosure.mono _ _ _ _ _
   | exact laws_eqInt64S.mono _ _ _
   | exact laws_eqNursery.mono _ _ _ _ _
   | exact laws_eqStringS.mono _ _ _
   | exact laws_heldInt64S.mono _ _ _
   | exact laws_markInt64S.mono _ _ _
   | exact laws_markNursery.mono _ _ _ _
   | exact laws_markStringS.mono _ _ _
   | exact laws_szStringS.mono _ _ _
   | exact laws_toInt64S.mono _ _
   | exact laws_toNursery.mono _ _ _
   | exact laws_toStringS.mono _ _
   | exact spec_YoungClosure.mono _ _ _ _ _
   | exact LeO.none _
   | refine LeO.ite ?_ ?_
   | refine LeO.bind ?_ (fun _ => ?_)
def laws_FnExactYoungClosure.T10 : Bool × List (List Nat × List Nat) := (true, [([], []), ([0], [0]), ([], []), ([2, 1], [2]), ([], []), ([4, 3], [4]), ([1, 3, 5, 5], [1, 3, 5]), ([6], [6]), ([7], [7]), ([7], [7]), ([8, 6, 0, 1, 2, 3, 4, 5, 6, 7, 8], [8]), ([9, 10, 0, 1, 2, 3, 4, 5, 6, 7, 8, 9, 10], [9])])
def laws_FnExactYoungClosure.B10 : List Nat := [0, 1, 0, 7, 0, 31, 63, 127, 255, 255, 511, 2047]
theorem laws_FnExactYoungClosure.tab10 : rtab .any (opsOf Tryd.f9 10) = laws_FnExactYoungClosure.T10 := by kernel_rfl
theorem laws_FnExactYoungClosure.bits10 : waitsOk laws_FnExactYoungClosure.T10.2 laws_FnExactYoungClosure.B10 = true := by kernel_rfl
def laws_FnExactYoungClosure.T37 : Bool × List (List Nat × List Nat) := (true, [([], []), ([0], [0]), ([], []), ([2, 1], [2]), ([], []), ([4, 3], [4]), ([1, 3, 5, 5], [1, 3, 5]), ([6], [6]), ([7], [7]), ([7], [7]), ([8, 6, 0, 1, 2, 3, 4, 5, 6, 7, 8], [8]), ([9, 10, 0, 1, 2, 3, 4, 5, 6, 7, 8, 9, 10], [9])])
def laws_FnExactYoungClosure.B37 : List Nat := [0, 1, 0, 7, 0, 31, 63, 127, 255, 255, 511, 2047]
theorem laws_FnExactYoungClosure.tab37 : rtab .any (opsOf Tryd.f9 37) = laws_FnExactYoungClosure.T37 := by kernel_rfl
theorem laws_FnExactYoungClosure.bits37 : waitsOk laws_FnExactYoungClosure.T37.2 laws_FnExactYoungClosure.B37 = true := by kernel_rfl
set_option maxHeartbeats 8000000 in
set_option maxRecDepth 100000 in
theorem laws_FnExactYoungClosure.calls (k : Nat) (A0 : Option Addr) (c0 : Nat) (l0 : List ByteArray) (a1_0 : Int) (A1_1 : Option Addr) (c1_1 : Nat) (l1_1 : List Int) (A2 : Option Addr) (c2 : Nat) (l2 : List Int) (r : Bool) (w : World) (hr0 : Kd.C Kd.string w A0 l0.length l0) (hc0 : l0.length ≤ c0) (hr1_1 : Kd.C (Kd.int .i64) w A1_1 l1_1.length l1_1) (hc1_1 : l1_1.length ≤ c1_1) (hr2 : Kd.C (Kd.int .i64) w A2 l2.length l2) (hc2 : l2.length ≤ c2) (h : laws_FnExactYoungClosure.f k l0 a1_0 l1_1 l2 = some r) :
  Calls Tryd.prog 9 #[.slice A0 l0.length c0,.agg #[.int .i64 a1_0,.slice A1_1 l1_1.length c1_1],.slice A2 l2.length c2] w fun e w' => e = .returned (.bool r)∧Below w.heap.size w w':=by
 have hu25:=Tryd.underlying25
 have hu30:=Tryd.underlying30
 have HR0:=am hr0
 have HC0:=am hc0
 clear hr0 hc0
 have HR1_1:=am hr1_1
 have HC1_1:=am hc1_1
 clear hr1_1 hc1_1
 have HR2:=am hr2
 have HC2:=am hc2
 clear hr2 hc2
 have HB:=am (Below.refl w.heap.size w)
 have H : (if (l2.length : Int) > 1048576 then (some true) else ((laws_szStringS.f k l0 1048576).bind fun t769 => (if t769 < 0 then (some true) else ((laws_szNursery.f a1_0 l1_1 t769).bind fun t770 => (if t770 < 0 then (some true) else ((laws_toStringS.f k l0).bind fun t771 => ((laws_toNursery.f k a1_0 l1_1).bind fun bt774 => ((laws_toInt64S.f k l2).bind fun t778 => ((spec_YoungClosure.f k t771 bt774.1 bt774.2 t778).bind fun bt781 => ((laws_toStringS.f k l0).bind fun t785 => ((laws_toNursery.f k a1_0 l1_1).bind fun bt788 => ((laws_toInt64S.f k l2).bind fun t793 => ((impl_YoungClosure.f k t785 bt788.1 bt788.2 t793).bind fun bt796 => ((laws_eqInt64S.f k bt796.1 bt781.1).bind fun t800 => (if t800 = true then (laws_FnExactYoungClosure.j0 k l0 l2 bt781.1 bt781.2 t785 t793 bt796.1 bt796.2 (bt796.2 != bt781.2) a1_0 l1_1 bt788.1 bt788.2) else (laws_FnExactYoungClosure.j0 k l0 l2 bt781.1 bt781.2 t785 t793 bt796.1 bt796.2 true a1_0 l1_1 bt788.1 bt788.2)))))))))))))))) = some r:=h
 clear h
 by_cases c4 : (l2.length : Int) > 1048576
 ·rw [if_pos c4] at H
  have c4b0 : decide (1048576 < (l2.length : Int)) = true:=decide_eq_true c4
  have c4b1 : decide (1048576 < l2.length) = true:=decide_eq_true (by omega)
  clear c4
  obtain rfl:=Option.some.inj H
  go_enter Tryd.func9,Tryd.ntmps9
  go_wp2_with (first|((with_reducible refine gate_dst (N:=4) rfl ?_);refine box_event ?hg (N:=4) ?hd (cs:=#[.int .i64 a1_0,.slice A1_1 l1_1.length c1_1]) (t:=25) ?hr ?_;(case hd => rfl);(case hg => rfl);(case hr => first|(go_simp;done)|(go_simp;rfl));intro gb768 hg w5 hbox hb;have n0_:=am (below_step (lup HB.out) hb);have n1_:=am (hbox);have n2_:=am ((by rw [hg];exact (below_size (lup HB.out)) : w.heap.size ≤ gb768));have n3_:=am ((by rw [hg];exact (below_size (lup HB.out)) : w.heap.size ≤ gb768));clear HB;have HB:=n0_;have BK768:=n1_;have GW768:=n2_;have GE768:=n3_;clear n0_ n1_ n2_ n3_;clear hb hbox hg))
  go_ret
  exact ⟨by first|rfl|(simp [errW_none,errW_some] <;> rfl)|(simp [*,errW_none,errW_some] <;> rfl),by repeat (first|(with_reducible first|exact HB.out|apply below_alloc|apply pw_below_drewN|apply below_drew1|refine below_set ?_ GE768.out)|exact HB.out)⟩
 ·rw [if_neg c4] at H
  have c4b0 : decide (1048576 < (l2.length : Int)) = false:=decide_eq_false c4
  have c4b1 : decide (1048576 < l2.length) = false:=decide_eq_false (by omega)
  clear c4
  replace H:=Option.bind_eq_some_iff.mp H
  obtain ⟨t769,A60,H⟩:=H
  try dsimp only at H
  have A6:=am A60
  clear A60
  by_cases c7 : t769 < 0
  ·rw [if_pos c7] at H
   have c7b0 : decide (t769 < 0) = true:=decide_eq_true c7
   clear c7
   obtain rfl:=Option.some.inj H
   go_enter Tryd.func9,Tryd.ntmps9
   go_wp2_with (first|((with_reducible refine gate_dst (N:=4) rfl ?_);refine box_event ?hg (N:=4) ?hd (cs:=#[.int .i64 a1_0,.slice A1_1 l1_1.length c1_1]) (t:=25) ?hr ?_;(case hd => rfl);(case hg => rfl);(case hr => first|(go_simp;done)|(go_simp;rfl));intro gb768 hg w8 hbox hb;have n0_:=am (below_step (lup HB.out) hb);have n1_:=am (hbox);have n2_:=am ((by rw [hg];exact (below_size (lup HB.out)) : w.heap.size ≤ gb768));have n3_:=am ((by rw [hg];exact (below_size (lup HB.out)) : w.heap.size ≤ gb768));clear HB;have HB:=n0_;have BK768:=n1_;have GW768:=n2_;have GE768:=n3_;clear n0_ n1_ n2_ n3_;clear hb hbox hg)|((with_reducible refine gate_callee (f:=16) rfl ?_);refine goesL_ (some 25) rfl rfl Tryd.func16 (by kernel_rfl) rfl #[.slice A0 l0.length c0,.int .i64 1048576] rfl (by (try simp only [List.map_toArray,List.map_cons,List.map_nil]);first|done|rfl|(simp only [List.length_drop,List.length_take];rfl)) ?_;(with_reducible refine (laws_szStringS.calls k _ _ l0 1048576 t769 _ ?side1 ?side2 A6.out).mono ?_);(case side1 => repeat (first|exact (Kd.C_below HR0.out HB.out)|(with_reducible first|refine Kd.C_alloc ?_ _|refine Kd.C_drewN ?_ _|refine Kd.C_drew ?_)));(case side2 => exact HC0.out);rintro e w' ⟨rfl,⟨nd,rfl⟩⟩;refine ⟨_,rfl,?_⟩))
   go_ret
   exact ⟨by first|rfl|(simp [errW_none,errW_some] <;> rfl)|(simp [*,errW_none,errW_some] <;> rfl),by repeat (first|(with_reducible first|exact HB.out|apply below_alloc|apply pw_below_drewN|apply below_drew1|refine below_set ?_ GE768.out)|exact HB.out)⟩
  ·rw [if_neg c7] at H
   have c7b0 : decide (t769 < 0) = false:=decide_eq_false c7
   clear c7
   replace H:=Option.bind_eq_some_iff.mp H
   obtain ⟨t770,A90,H⟩:=H
   try dsimp only at H
   have A9:=am A90
   clear A90
   by_cases c10 : t770 < 0
   ·rw [if_pos c10] at H
    have c10b0 : decide (t770 < 0) = true:=decide_eq_true c10
    clear c10
    obtain rfl:=Option.some.inj H
    go_enter Tryd.func9,Tryd.ntmps9
    go_wp2_with (first|((with_reducible refine gate_dst (N:=4) rfl ?_);refine box_event ?hg (N:=4) ?hd (cs:=#[.int .i64 a1_0,.slice A1_1 l1_1.length c1_1]) (t:=25) ?hr ?_;(case hd => rfl);(case hg => rfl);(case hr => first|(go_simp;done)|(go_simp;rfl));intro gb768 hg w11 hbox hb;have n0_:=am (below_step (lup HB.out) hb);have n1_:=am (hbox);have n2_:=am ((by rw [hg];exact (below_size (lup HB.out)) : w.heap.size ≤ gb768));have n3_:=am ((by rw [hg];exact (below_size (lup HB.out)) : w.heap.size ≤ gb768));clear HB;have HB:=n0_;have BK768:=n1_;have GW768:=n2_;have GE768:=n3_;clear n0_ n1_ n2_ n3_;clear hb hbox hg)|((with_reducible refine gate_callee (f:=16) rfl ?_);refine goesL_ (some 25) rfl rfl Tryd.func16 (by kernel_rfl) rfl #[.slice A0 l0.length c0,.int .i64 1048576] rfl (by (try simp only [List.map_toArray,List.map_cons,List.map_nil]);first|done|rfl|(simp only [List.length_drop,List.length_take];rfl)) ?_;(with_reducible refine (laws_szStringS.calls k _ _ l0 1048576 t769 _ ?side1 ?side2 A6.out).mono ?_);(case side1 => repeat (first|exact (Kd.C_below HR0.out HB.out)|(with_reducible first|refine Kd.C_alloc ?_ _|refine Kd.C_drewN ?_ _|refine Kd.C_drew ?_)));(case side2 => exact HC0.out);rintro e w' ⟨rfl,⟨nd,rfl⟩⟩;refine ⟨_,rfl,?_⟩;have hcz12_0 : w11.cell? ⟨gb768,0,none⟩ = some (.int .i64 a1_0):=(blk_cell BK768.out 0).trans rfl;have hcz12_1 : w11.cell? ⟨gb768,1,none⟩ = some (.slice A1_1 l1_1.length c1_1):=(blk_cell BK768.out 1).trans rfl;have hfz12_0:=blk_frozen BK768.out 0;have hfz12_1:=blk_frozen BK768.out 1)|((with_reducible refine gate_callee (f:=17) rfl ?_);refine goesL_ (some 30) rfl rfl Tryd.func17 (by kernel_rfl) rfl #[.agg #[.int .i64 a1_0,.slice A1_1 l1_1.length c1_1],.int .i64 t769] rfl (by (try simp only [List.map_toArray,List.map_cons,List.map_nil]);first|done|rfl|(simp only [List.length_drop,List.length_take];rfl)) ?_;(with_reducible refine (laws_szNursery.calls a1_0 _ _ l1_1 t769 t770 _ ?side1 ?side2 A9.out).mono ?_);(case side1 => repeat (first|exact (Kd.C_below HR1_1.out (lup HB.out))|(with_reducible first|refine Kd.C_alloc ?_ _|refine Kd.C_drewN ?_ _|refine Kd.C_drew ?_)));(case side2 => exact HC1_1.out);rintro e w13 ⟨rfl,hb⟩;refine ⟨_,rfl,?_⟩;have n0_:=am (blk_below (bup BK768.out) hb);have n1_:=am (below_step (lup HB.out) hb);clear BK768 HB;have BK768:=n0_;have HB:=n1_;clear n0_ n1_;(try clear hb);(try clear hb2);(try clear hk);(try clear hi)))
    go_ret
    exact ⟨by first|rfl|(simp [errW_none,errW_some] <;> rfl)|(simp [*,errW_none,errW_some] <;> rfl),by repeat (first|(with_reducible first|exact HB.out|apply below_alloc|apply pw_below_drewN|apply below_drew1|refine below_set ?_ GE768.out)|exact HB.out)⟩
   ·rw [if_neg c10] at H
    have c10b0 : decide (t770 < 0) = false:=decide_eq_false c10
    clear c10
    replace H:=Option.bind_eq_some_iff.mp H
    obtain ⟨t771,A140,H⟩:=H
    try dsimp only at H
    have A14:=am A140
    clear A140
    replace H:=Option.bind_eq_some_iff.mp H
    obtain ⟨⟨t774,t775⟩,A150,H⟩:=H
    try dsimp only at H
    have A15:=am A150
    clear A150
    replace H:=Option.bind_eq_some_iff.mp H
    obtain ⟨t778,A160,H⟩:=H
    try dsimp only at H
    have A16:=am A160
    clear A160
    replace H:=Option.bind_eq_some_iff.mp H
    obtain ⟨⟨t781,t784⟩,A170,H⟩:=H
    try dsimp only at H
    have A17:=am A170
    clear A170
    replace H:=Option.bind_eq_some_iff.mp H
    obtain ⟨t785,A180,H⟩:=H
    try dsimp only at H
    have A18:=am A180
    clear A180
    replace H:=Option.bind_eq_some_iff.mp H
    obtain ⟨⟨t788,t789⟩,A190,H⟩:=H
    try dsimp only at H
    have A19:=am A190
    clear A190
    replace H:=Option.bind_eq_some_iff.mp H
    obtain ⟨t793,A200,H⟩:=H
    try dsimp only at H
    have A20:=am A200
    clear A200
    replace H:=Option.bind_eq_some_iff.mp H
    obtain ⟨⟨t796,t799⟩,A210,H⟩:=H
    try dsimp only at H
    have A21:=am A210
    clear A210
    have HC22:=am H
    clear H
    go_enter Tryd.func9,Tryd.ntmps9
    try go_wp2_with (first|((with_reducible refine gate_dst (N:=4) rfl ?_);refine box_event ?hg (N:=4) ?hd (cs:=#[.int .i64 a1_0,.slice A1_1 l1_1.length c1_1]) (t:=25) ?hr ?_;(case hd => rfl);(case hg => rfl);(case hr => first|(go_simp;done)|(go_simp;rfl));intro gb768 hg w23 hbox hb;have n0_:=am (below_step (lup HB.out) hb);have n1_:=am (hbox);have n2_:=am ((by rw [hg];exact (below_size (lup HB.out)) : w.heap.size ≤ gb768));have n3_:=am ((by rw [hg];exact (below_size (lup HB.out)) : w.heap.size ≤ gb768));clear HB;have HB:=n0_;have BK768:=n1_;have GW768:=n2_;have GE768:=n3_;clear n0_ n1_ n2_ n3_;clear hb hbox hg)|((with_reducible refine gate_callee (f:=16) rfl ?_);refine goesL_ (some 25) rfl rfl Tryd.func16 (by kernel_rfl) rfl #[.slice A0 l0.length c0,.int .i64 1048576] rfl (by (try simp only [List.map_toArray,List.map_cons,List.map_nil]);first|done|rfl|(simp only [List.length_drop,List.length_take];rfl)) ?_;(with_reducible refine (laws_szStringS.calls k _ _ l0 1048576 t769 _ ?side1 ?side2 A6.out).mono ?_);(case side1 => repeat (first|exact (Kd.C_below HR0.out HB.out)|(with_reducible first|refine Kd.C_alloc ?_ _|refine Kd.C_drewN ?_ _|refine Kd.C_drew ?_)));(case side2 => exact HC0.out);rintro e w' ⟨rfl,⟨nd,rfl⟩⟩;refine ⟨_,rfl,?_⟩;(try (rw [drewN_self w23];generalize hq_ : World.drewN w23 _ = w23;have n0_ : Aside0 (w23.heap[gb768]? = some (.cells #[.int .i64 a1_0,.slice A1_1 l1_1.length c1_1] 25 (0,0))):=⟨by rw [← hq_];exact (bup BK768.out)⟩;have n1_ : Aside0 (Below w.heap.size w w23):=⟨by rw [← hq_];exact (lup HB.out)⟩;clear BK768 HB hq_;have BK768:=n0_;have HB:=n1_;clear n0_ n1_));have hcz24_0 : w23.cell? ⟨gb768,0,none⟩ = some (.int .i64 a1_0):=(blk_cell BK768.out 0).trans rfl;have hcz24_1 : w23.cell? ⟨gb768,1,none⟩ = some (.slice A1_1 l1_1.length c1_1):=(blk_cell BK768.out 1).trans rfl;have hfz24_0:=blk_frozen BK768.out 0;have hfz24_1:=blk_frozen BK768.out 1)|((with_reducible refine gate_callee (f:=17) rfl ?_);refine goesL_ (some 30) rfl rfl Tryd.func17 (by kernel_rfl) rfl #[.agg #[.int .i64 a1_0,.slice A1_1 l1_1.length c1_1],.int .i64 t769] rfl (by (try simp only [List.map_toArray,List.map_cons,List.map_nil]);first|done|rfl|(simp only [List.length_drop,List.length_take];rfl)) ?_;(with_reducible refine (laws_szNursery.calls a1_0 _ _ l1_1 t769 t770 _ ?side1 ?side2 A9.out).mono ?_);(case side1 => repeat (first|exact (Kd.C_below HR1_1.out HB.out)|(with_reducible first|refine Kd.C_alloc ?_ _|refine Kd.C_drewN ?_ _|refine Kd.C_drew ?_)));(case side2 => exact HC1_1.out);rintro e w25 ⟨rfl,hb⟩;refine ⟨_,rfl,?_⟩;have n0_:=am (blk_below (bup BK768.out) hb);have n1_:=am (below_step (lup HB.out) hb);clear BK768 HB;have BK768:=n0_;have HB:=n1_;clear n0_ n1_;(try clear hb);(try clear hb2);(try clear hk);(try clear hi)))
    have n0_:=am (blk_drew BK768.out)
    have n1_:=am (below_drew1 HB.out)
    clear BK768
    clear HB
    have BK768:=n0_
    have HB:=n1_
    clear n0_ n1_
    refine start_ (n:=12) (S:=fun w' => w'.cell? ⟨gb768,0,none⟩ = some (.int .i64 a1_0)∧w'.cell? ⟨gb768,1,none⟩ = some (.slice A1_1 l1_1.length c1_1)) (ds:=[]) #[false,false,false,false,false,false,false,false,false,false,false,false] (by kernel_rfl) rfl rfl ⟨(blk_cell BK768.out 0).trans rfl,(blk_cell BK768.out 1).trans rfl⟩ (fun hHeld => ?_);refine with_tabW laws_FnExactYoungClosure.tab10 laws_FnExactYoungClosure.bits10 (fun HT_ HW_ => ?_)
    generalize w25.drew = w26 at BK768 HB hHeld ⊢
    refine pure_ (i:=0) (N:=some 34) (v:=?_) (a':=?_) #[true,false,false,false,false,false,false,false,false,false,false,false] rfl rfl (any_of HT_.out (by kernel_rfl)) (fun _ _ _ h => h) (Or.inl ⟨by rfl,?_⟩) ?_ ?_
    rotate_left
    ·intro w'
     go_simp
     with_reducible rfl
    rotate_left
    ·simp only [Act.put,List.setIfInBounds_toArray,List.set_cons_zero,List.set_cons_succ,i64_w,i32_w]
     rfl
    refine pure_ (i:=4) (N:=some 38) (v:=?_) (a':=?_) #[true,false,false,false,true,false,false,false,false,false,false,false] rfl rfl (any_of HT_.out (by kernel_rfl)) (fun _ _ _ h => h) (Or.inl ⟨by rfl,?_⟩) ?_ ?_
    rotate_left
    ·intro w'
     go_simp
     with_reducible rfl
    rotate_left
    ·simp only [Act.put,List.setIfInBounds_toArray,List.set_cons_zero,List.set_cons_succ,i64_w,i32_w]
     rfl
    refine take_ (i:=2) (N:=some 36) (v:=?_) (a':=?_) #[true,false,true,false,true,false,false,false,false,false,false,false] rfl rfl (take_ofW HT_.out HW_.out (by kernel_rfl)) (fun _ _ _ h => h) (Or.inl ⟨by rfl,?_⟩) hHeld ?_ ?_
    rotate_left
    ·rintro w' ⟨s0,s1⟩
     go_simp
     with_reducible rfl
    rotate_left
    ·simp only [Act.put,List.setIfInBounds_toArray,List.set_cons_zero,List.set_cons_succ,i64_w,i32_w]
     rfl
    refine one_ (i:=1) (N:=some 35) #[true,true,true,false,true,false,false,false,false,false,false,false] rfl rfl (one_of HT_.out (by kernel_rfl)) (by decide) (fun K hK => ?_)
    refine goes_ Tryd.func19 (by kernel_rfl) rfl #[.slice A0 l0.length c0] (by rfl) rfl rfl (by (try simp only [List.map_toArray,List.map_cons,List.map_nil]);first|done|rfl|(simp only [List.length_drop,List.length_take];rfl)) ?_
    with_reducible refine (laws_toStringS.calls k _ _ l0 t771 _ ?side1 ?side2 A14.out).mono ?_
    (case side1 => repeat (first|exact (Kd.C_below HR0.out HB.out)|(with_reducible first|refine Kd.C_alloc ?_ _|refine Kd.C_drewN ?_ _|refine Kd.C_drew ?_)))
    (case side2 => exact HC0.out)
    rintro e w27 ⟨v772,rfl,ho0,hb⟩
    refine ⟨_,rfl,?_⟩
    have n0_:=am (Kd.R_lower ho0 (below_size (lup HB.out)))
    have n1_:=am (blk_below (bup BK768.out) hb)
    have n2_:=am (below_step (lup HB.out) hb)
    clear BK768
    clear HB
    have HO773:=n0_
    have BK768:=n1_
    have HB:=n2_
    clear n0_ n1_ n2_
    (try clear hb)
    (try clear hb2)
    (try clear hk)
    (try clear hi)
    (try clear ho0)
    refine hK.out _ _ ⟨(blk_cell BK768.out 0).trans rfl,(blk_cell BK768.out 1).trans rfl⟩ (fun hHeld => ?_)
    clear hK K
    refine norm_ (a':=?_) ?_ ?_
    rotate_left
    ·show Act.put _ (some 35) _ = _
     simp only [Act.put,List.setIfInBounds_toArray,List.set_cons_zero,List.set_cons_succ,i64_w,i32_w]
     rfl
    refine one_ (i:=3) (N:=some 37) #[true,true,true,true,true,false,false,false,false,false,false,false] rfl rfl (one_of HT_.out (by kernel_rfl)) (by decide) (fun K hK => ?_)
    refine goes_ Tryd.func20 (by kernel_rfl) rfl #[.agg #[.int .i64 a1_0,.slice A1_1 l1_1.length c1_1]] (by rfl) rfl rfl (by (try simp only [List.map_toArray,List.map_cons,List.map_nil]);first|done|rfl|(simp only [List.length_drop,List.length_take];rfl)) ?_
    with_reducible refine (laws_toNursery.calls k a1_0 _ _ l1_1 t774 t775 _ ?side1 ?side2 A15.out).mono ?_
    (case side1 => repeat (first|exact (Kd.C_below HR1_1.out HB.out)|(with_reducible first|refine Kd.C_alloc ?_ _|refine Kd.C_drewN ?_ _|refine Kd.C_drew ?_)))
    (case side2 => exact HC1_1.out)
    rintro e w28 ⟨v776,rfl,ho0,hb⟩
    refine ⟨_,rfl,?_⟩
    have n0_:=am (Kd.R_below (kup HO773.out) hb)
    have n1_:=am (Kd.R_lower ho0 (below_size (lup HB.out)))
    have n2_:=am (blk_below (bup BK768.out) hb)
    have n3_:=am (below_step (lup HB.out) hb)
    clear HO773
    clear BK768
    clear HB
    have HO773:=n0_
    have HO777:=n1_
    have BK768:=n2_
    have HB:=n3_
    clear n0_ n1_ n2_ n3_
    (try clear hb)
    (try clear hb2)
    (try clear hk)
    (try clear hi)
    (try clear ho0)
    refine hK.out _ _ ⟨(blk_cell BK768.out 0).trans rfl,(blk_cell BK768.out 1).trans rfl⟩ (fun hHeld => ?_)
    clear hK K
    refine norm_ (a':=?_) ?_ ?_
    rotate_left
    ·show Act.put _ (some 37) _ = _
     simp only [Act.put,List.setIfInBounds_toArray,List.set_cons_zero,List.set_cons_succ,i64_w,i32_w]
     rfl
    refine one_ (i:=5) (N:=some 39) #[true,true,true,true,true,true,false,false,false,false,false,false] rfl rfl (one_of HT_.out (by kernel_rfl)) (by decide) (fun K hK => ?_)
    refine goes_ Tryd.func44 (by kernel_rfl) rfl #[.slice A2 l2.length c2] (by rfl) rfl rfl (by (try simp only [List.map_toArray,List.map_cons,List.map_nil]);first|done|rfl|(simp only [List.length_drop,List.length_take];rfl)) ?_
    with_reducible refine (laws_toInt64S.calls k _ _ l2 t778 _ ?side1 ?side2 A16.out).mono ?_
    (case side1 => repeat (first|exact (Kd.C_below HR2.out HB.out)|(with_reducible first|refine Kd.C_alloc ?_ _|refine Kd.C_drewN ?_ _|refine Kd.C_drew ?_)))
    (case side2 => exact HC2.out)
    rintro e w29 ⟨v779,rfl,ho0,hb⟩
    refine ⟨_,rfl,?_⟩
    have n0_:=am (Kd.R_below (kup HO773.out) hb)
    have n1_:=am (Kd.R_elder' (kup HO777.out) (Kd.R_base ho0) hb)
    have n2_:=am (Kd.R_lower (Kd.R_new' ho0 (Kd.R_lt (kup HO777.out))) (below_size (lup HB.out)))
    have n3_:=am (blk_below (bup BK768.out) hb)
    have n4_:=am (below_step (lup HB.out) hb)
    clear HO773
    clear HO777
    clear BK768
    clear HB
    have HO773:=n0_
    have HO777:=n1_
    have HO780:=n2_
    have BK768:=n3_
    have HB:=n4_
    clear n0_ n1_ n2_ n3_ n4_
    (try clear hb)
    (try clear hb2)
    (try clear hk)
    (try clear hi)
    (try clear ho0)
    obtain ⟨Ao30,co30,eo30⟩:=Kd.R_slice HO773.out
    (first|subst eo30|(injection eo30 with f1_ f2_ f3_;have f4_:=f1_.symm;have f5_:=f3_.symm;clear f1_ f2_ f3_;subst f4_;subst f5_))
    obtain ⟨Ao31,co31,eo31⟩:=Kd.R_slice HO777.out
    (first|subst eo31|(injection eo31 with f1_ f2_ f3_;have f4_:=f1_.symm;have f5_:=f3_.symm;clear f1_ f2_ f3_;subst f4_;subst f5_))
    obtain ⟨Ao32,co32,eo32⟩:=Kd.R_slice HO780.out
    (first|subst eo32|(injection eo32 with f1_ f2_ f3_;have f4_:=f1_.symm;have f5_:=f3_.symm;clear f1_ f2_ f3_;subst f4_;subst f5_))
    refine hK.out _ _ ⟨(blk_cell BK768.out 0).trans rfl,(blk_cell BK768.out 1).trans rfl⟩ (fun hHeld => ?_)
    clear hK K
    refine norm_ (a':=?_) ?_ ?_
    rotate_left
    ·show Act.put _ (some 39) _ = _
     simp only [Act.put,List.setIfInBounds_toArray,List.set_cons_zero,List.set_cons_succ,i64_w,i32_w]
     rfl
    refine one_ (i:=6) (N:=some 40) #[true,true,true,true,true,true,true,false,false,false,false,false] rfl rfl (one_of HT_.out (by kernel_rfl)) (by decide) (fun K hK => ?_)
    refine goes_ Tryd.func43 (by kernel_rfl) rfl #[.slice Ao30 t771.length co30,.agg #[.int .i64 t774,.slice Ao31 t775.length co31],.slice Ao32 t778.length co32] (by rfl) rfl rfl (by (try simp only [List.map_toArray,List.map_cons,List.map_nil]);first|done|rfl|(simp only [List.length_drop,List.length_take];rfl)) ?_
    with_reducible refine (spec_YoungClosure.calls k _ _ t771 t774 _ _ t775 _ _ t778 t781 t784 _ ?side1 ?side2 ?side3 ?side4 ?side5 ?side6 A17.out).mono ?_
    (case side1 => repeat (first|exact (Kd.R_reads' HO773.out).2.2|(with_reducible first|refine Kd.C_alloc ?_ _|refine Kd.C_drewN ?_ _|refine Kd.C_drew ?_)))
    (case side2 => exact (Kd.R_reads' HO773.out).2.1)
    (case side3 => repeat (first|exact (Kd.R_reads' HO777.out).2.2|(with_reducible first|refine Kd.C_alloc ?_ _|refine Kd.C_drewN ?_ _|refine Kd.C_drew ?_)))
    (case side4 => exact (Kd.R_reads' HO777.out).2.1)
    (case side5 => repeat (first|exact (Kd.R_reads' HO780.out).2.2|(with_reducible first|refine Kd.C_alloc ?_ _|refine Kd.C_drewN ?_ _|refine Kd.C_drew ?_)))
    (case side6 => exact (Kd.R_reads' HO780.out).2.1)
    rintro e w33 ⟨v782,rfl,ho0,hb⟩
    refine ⟨_,rfl,?_⟩
    have n0_:=am (Kd.R_below (kup HO773.out) hb)
    have n1_:=am (Kd.R_elder' (kup HO777.out) (Kd.R_base ho0) hb)
    have n2_:=am (Kd.R_elder' (kup HO780.out) (Kd.R_base ho0) hb)
    have n3_:=am (Kd.R_lower (Kd.R_new' (Kd.R_new' ho0 (Kd.R_lt (kup HO777.out))) (Kd.R_lt (kup HO780.out))) (below_size (lup HB.out)))
    have n4_:=am (blk_below (bup BK768.out) hb)
    have n5_:=am (below_step (lup HB.out) hb)
    clear HO773
    clear HO777
    clear HO780
    clear BK768
    clear HB
    have HO773:=n0_
    have HO777:=n1_
    have HO780:=n2_
    have HO783:=n3_
    have BK768:=n4_
    have HB:=n5_
    clear n0_ n1_ n2_ n3_ n4_ n5_
    (try clear hb)
    (try clear hb2)
    (try clear hk)
    (try clear hi)
    (try clear ho0)
    refine hK.out _ _ ⟨(blk_cell BK768.out 0).trans rfl,(blk_cell BK768.out 1).trans rfl⟩ (fun hHeld => ?_)
    clear hK K
    refine norm_ (a':=?_) ?_ ?_
    rotate_left
    ·show Act.put _ (some 40) _ = _
     simp only [Act.put,List.setIfInBounds_toArray,List.set_cons_zero,List.set_cons_succ,i64_w,i32_w]
     rfl
    refine pure_ (i:=7) (N:=some 33) (v:=?_) (a':=?_) #[true,true,true,true,true,true,true,true,false,false,false,false] rfl rfl (any_of HT_.out (by kernel_rfl)) (fun _ _ _ h => h) (Or.inl ⟨by rfl,?_⟩) ?_ ?_
    rotate_left
    ·intro w'
     go_simp
     with_reducible rfl
    rotate_left
    ·simp only [Act.put,List.setIfInBounds_toArray,List.set_cons_zero,List.set_cons_succ,i64_w,i32_w]
     rfl
    refine pure_ (i:=8) (N:=some 41) (v:=?_) (a':=?_) #[true,true,true,true,true,true,true,true,true,false,false,false] rfl rfl (any_of HT_.out (by kernel_rfl)) (fun _ _ _ h => h) (Or.inl ⟨by rfl,?_⟩) ?_ ?_
    rotate_left
    ·intro w'
     go_simp
     with_reducible rfl
    rotate_left
    ·simp only [Act.put,List.setIfInBounds_toArray,List.set_cons_zero,List.set_cons_succ,i64_w,i32_w]
     rfl
    refine pure_ (i:=9) (N:=some 42) (v:=?_) (a':=?_) #[true,true,true,true,true,true,true,true,true,true,false,false] rfl rfl (any_of HT_.out (by kernel_rfl)) (fun _ _ _ h => h) (Or.inl ⟨by rfl,?_⟩) ?_ ?_
    rotate_left
    ·intro w'
     go_simp
     with_reducible rfl
    rotate_left
    ·simp only [Act.put,List.setIfInBounds_toArray,List.set_cons_zero,List.set_cons_succ,i64_w,i32_w]
     rfl
    refine pure_ (i:=10) (N:=some 8) (v:=?_) (a':=?_) #[true,true,true,true,true,true,true,true,true,true,true,false] rfl rfl (any_of HT_.out (by kernel_rfl)) (fun _ _ _ h => h) (Or.inl ⟨by rfl,?_⟩) ?_ ?_
    rotate_left
    ·intro w'
     go_simp
     with_reducible rfl
    rotate_left
    ·simp only [Act.put,List.setIfInBounds_toArray,List.set_cons_zero,List.set_cons_succ,i64_w,i32_w]
     rfl
    refine pure_ (i:=11) (N:=some 9) (v:=?_) (a':=?_) #[true,true,true,true,true,true,true,true,true,true,true,true] rfl rfl (any_of HT_.out (by kernel_rfl)) (fun _ _ _ h => h) (Or.inl ⟨by rfl,?_⟩) ?_ ?_
    rotate_left
    ·intro w'
     go_simp
     with_reducible rfl
    rotate_left
    ·simp only [Act.put,List.setIfInBounds_toArray,List.set_cons_zero,List.set_cons_succ,i64_w,i32_w]
     rfl
    refine done_ (done_of HT_.out (by kernel_rfl)) ?_
    go_upto_region 15 with (first|((with_reducible refine gate_callee (f:=19) rfl ?_);refine goesL_ (some 44) rfl rfl Tryd.func19 (by kernel_rfl) rfl #[.slice A0 l0.length c0] rfl (by (try simp only [List.map_toArray,List.map_cons,List.map_nil]);first|done|rfl|(simp only [List.length_drop,List.length_take];rfl)) ?_;(with_reducible refine (laws_toStringS.calls k _ _ l0 t785 _ ?side1 ?side2 A18.out).mono ?_);(case side1 => repeat (first|exact (Kd.C_below HR0.out HB.out)|(with_reducible first|refine Kd.C_alloc ?_ _|refine Kd.C_drewN ?_ _|refine Kd.C_drew ?_)));(case side2 => exact HC0.out);rintro e w34 ⟨v786,rfl,ho0,hb⟩;refine ⟨_,rfl,?_⟩;have n0_:=am (Kd.R_elder' (kup HO773.out) (Kd.R_base ho0) hb);have n1_:=am (Kd.R_below (kup HO777.out) hb);have n2_:=am (Kd.R_below (kup HO780.out) hb);have n3_:=am (Kd.R_below (kup HO783.out) hb);have n4_:=am (Kd.R_lower (Kd.R_new' ho0 (Kd.R_lt (kup HO773.out))) (below_size (by repeat (first|(with_reducible first|exact HB.out|apply below_alloc|apply pw_below_drewN|apply below_drew1|refine below_set ?_ GE768.out)|exact HB.out))));have n5_:=am (blk_below (g:=gb768) (o:=.cells #[.int .i64 a1_0,.slice A1_1 l1_1.length c1_1] 25 (0,0)) (bup BK768.out) hb);have n6_:=am (below_step (by repeat (first|(with_reducible first|exact HB.out|apply below_alloc|apply pw_below_drewN|apply below_drew1|refine below_set ?_ GE768.out)|exact HB.out)) hb);clear HO773 HO777 HO780 HO783 BK768 HB;have HO773:=n0_;have HO777:=n1_;have HO780:=n2_;have HO783:=n3_;have HO787:=n4_;have BK768:=n5_;have HB:=n6_;clear n0_ n1_ n2_ n3_ n4_ n5_ n6_;(try clear hb);(try clear hb2);(try clear hk);(try clear hi);(try clear ho0);have hcz35_0 : w34.cell? ⟨gb768,0,none⟩ = some (.int .i64 a1_0):=(blk_cell BK768.out 0).trans rfl;have hcz35_1 : w34.cell? ⟨gb768,1,none⟩ = some (.slice A1_1 l1_1.length c1_1):=(blk_cell BK768.out 1).trans rfl;have hfz35_0:=blk_frozen BK768.out 0;have hfz35_1:=blk_frozen BK768.out 1)|((with_reducible refine gate_callee (f:=20) rfl ?_);refine goesL_ (some 46) rfl rfl Tryd.func20 (by kernel_rfl) rfl #[.agg #[.int .i64 a1_0,.slice A1_1 l1_1.length c1_1]] rfl (by (try simp only [List.map_toArray,List.map_cons,List.map_nil]);first|done|rfl|(simp only [List.length_drop,List.length_take];rfl)) ?_;(with_reducible refine (laws_toNursery.calls k a1_0 _ _ l1_1 t788 t789 _ ?side1 ?side2 A19.out).mono ?_);(case side1 => repeat (first|exact (Kd.C_below HR1_1.out HB.out)|(with_reducible first|refine Kd.C_alloc ?_ _|refine Kd.C_drewN ?_ _|refine Kd.C_drew ?_)));(case side2 => exact HC1_1.out);rintro e w36 ⟨v790,rfl,ho0,hb⟩;refine ⟨_,rfl,?_⟩;have n0_:=am (Kd.R_below (kup HO773.out) hb);have n1_:=am (Kd.R_elder' (kup HO777.out) (Kd.R_base ho0) hb);have n2_:=am (Kd.R_elder' (kup HO780.out) (Kd.R_base ho0) hb);have n3_:=am (Kd.R_elder' (kup HO783.out) (Kd.R_base ho0) hb);have n4_:=am (Kd.R_below (kup HO787.out) hb);have n5_:=am (Kd.R_lower (Kd.R_new' (Kd.R_new' (Kd.R_new' ho0 (Kd.R_lt (kup HO777.out))) (Kd.R_lt (kup HO780.out))) (Kd.R_lt (kup HO783.out))) (below_size (by repeat (first|(with_reducible first|exact HB.out|apply below_alloc|apply pw_below_drewN|apply below_drew1|refine below_set ?_ GE768.out)|exact HB.out))));have n6_:=am (blk_below (g:=gb768) (o:=.cells #[.int .i64 a1_0,.slice A1_1 l1_1.length c1_1] 25 (0,0)) (bup BK768.out) hb);have n7_:=am (below_step (by repeat (first|(with_reducible first|exact HB.out|apply below_alloc|apply pw_below_drewN|apply below_drew1|refine below_set ?_ GE768.out)|exact HB.out)) hb);clear HO773 HO777 HO780 HO783 HO787 BK768 HB;have HO773:=n0_;have HO777:=n1_;have HO780:=n2_;have HO783:=n3_;have HO787:=n4_;have HO791:=n5_;have BK768:=n6_;have HB:=n7_;clear n0_ n1_ n2_ n3_ n4_ n5_ n6_ n7_;(try clear hb);(try clear hb2);(try clear hk);(try clear hi);(try clear ho0))|((with_reducible refine gate_dst (N:=11) rfl ?_);refine box_event ?hg (N:=11) ?hd (cs:=#[.int .i64 0,.slice none 0 0]) (t:=30) ?hr ?_;(case hd => rfl);(case hg => rfl);(case hr => first|(go_simp;done)|(go_simp;rfl));intro gb792 hg w37 hbox hb;have n0_:=am (Kd.R_below (kup HO773.out) hb);have n1_:=am (Kd.R_below (kup HO777.out) hb);have n2_:=am (Kd.R_below (kup HO780.out) hb);have n3_:=am (Kd.R_below (kup HO783.out) hb);have n4_:=am (Kd.R_below (kup HO787.out) hb);have n5_:=am (Kd.R_below (kup HO791.out) hb);have n6_:=am (blk_below (g:=gb768) (o:=.cells #[.int .i64 a1_0,.slice A1_1 l1_1.length c1_1] 25 (0,0)) (bup BK768.out) hb);have n7_:=am (below_step (by repeat (first|(with_reducible first|exact HB.out|apply below_alloc|apply pw_below_drewN|apply below_drew1|refine below_set ?_ GE768.out)|exact HB.out)) hb);have n8_:=am (hbox);have n9_:=am ((by rw [hg];exact (below_size (by repeat (first|(with_reducible first|exact HB.out|apply below_alloc|apply pw_below_drewN|apply below_drew1|refine below_set ?_ GE768.out)|exact HB.out))) : w.heap.size ≤ gb792));have n10_:=am ((by rw [hg];exact (below_size (by repeat (first|(with_reducible first|exact HB.out|apply below_alloc|apply pw_below_drewN|apply below_drew1|refine below_set ?_ GE768.out)|exact HB.out))) : w.heap.size ≤ gb792));have n11_:=am ((by rw [hg];exact Nat.ne_of_lt (blk_lt (g:=gb768) (o:=.cells #[.int .i64 a1_0,.slice A1_1 l1_1.length c1_1] 25 (0,0)) (bup BK768.out)) : gb768≠gb792));have n12_:=am ((by rw [hg];exact Nat.ne_of_gt (blk_lt (g:=gb768) (o:=.cells #[.int .i64 a1_0,.slice A1_1 l1_1.length c1_1] 25 (0,0)) (bup BK768.out)) : gb792≠gb768));clear HO773 HO777 HO780 HO783 HO787 HO791 BK768 HB;have HO773:=n0_;have HO777:=n1_;have HO780:=n2_;have HO783:=n3_;have HO787:=n4_;have HO791:=n5_;have BK768:=n6_;have HB:=n7_;have BK792:=n8_;have GW792:=n9_;have GE792:=n10_;have NB768_792:=n11_;have NB792_768:=n12_;clear n0_ n1_ n2_ n3_ n4_ n5_ n6_ n7_ n8_ n9_ n10_ n11_ n12_;clear hb hbox hg;have hnb38:=NB792_768.out;have hnc38:=NB768_792.out;have hcz39_0 : w37.cell? ⟨gb792,0,none⟩ = some (.int .i64 0):=(blk_cell BK792.out 0).trans rfl;have hcz39_1 : w37.cell? ⟨gb792,1,none⟩ = some (.slice none 0 0):=(blk_cell BK792.out 1).trans rfl;have hfz39_0:=blk_frozen BK792.out 0;have hfz39_1:=blk_frozen BK792.out 1;obtain ⟨Ao40,co40,eo40⟩:=Kd.R_slice HO791.out;subst eo40)|((with_reducible refine gate_callee (f:=44) rfl ?_);refine goesL_ (some 48) rfl rfl Tryd.func44 (by kernel_rfl) rfl #[.slice A2 l2.length c2] rfl (by (try simp only [List.map_toArray,List.map_cons,List.map_nil]);first|done|rfl|(simp only [List.length_drop,List.length_take];rfl)) ?_;(with_reducible refine (laws_toInt64S.calls k _ _ l2 t793 _ ?side1 ?side2 A20.out).mono ?_);(case side1 => exact Kd.C_below HR2.out (by repeat (first|(with_reducible first|exact HB.out|apply below_alloc|apply pw_below_drewN|apply below_drew1|refine below_set ?_ GE768.out|refine below_set ?_ GE792.out)|exact HB.out)));(case side2 => exact HC2.out);rintro e w41 ⟨v794,rfl,ho0,hb⟩;refine ⟨_,rfl,?_⟩;have n0_:=am (Kd.R_below (by (with_reducible repeat (first|apply Kd.R_alloc|apply Kd.R_drewN|apply Kd.R_drew));exact (Kd.R_mono (Kd.R_far (p:=⟨gb792,1,none⟩) (Kd.R_far (p:=⟨gb792,0,none⟩) (Kd.R_types HO773.out BK792.out (by decide)) (fun _ hk => hk.2) (.int .i64 t788)) (fun _ hk => hk.2) (.slice Ao40 t789.length co40)) (fun _ h_ => h_.1))) hb);have n1_:=am (Kd.R_elder' (by (with_reducible repeat (first|apply Kd.R_alloc|apply Kd.R_drewN|apply Kd.R_drew));exact (Kd.R_mono (Kd.R_far (p:=⟨gb792,1,none⟩) (Kd.R_far (p:=⟨gb792,0,none⟩) (Kd.R_types HO777.out BK792.out (by decide)) (fun _ hk => hk.2) (.int .i64 t788)) (fun _ hk => hk.2) (.slice Ao40 t789.length co40)) (fun _ h_ => h_.1))) (Kd.R_base ho0) hb);have n2_:=am (Kd.R_elder' (by (with_reducible repeat (first|apply Kd.R_alloc|apply Kd.R_drewN|apply Kd.R_drew));exact (Kd.R_mono (Kd.R_far (p:=⟨gb792,1,none⟩) (Kd.R_far (p:=⟨gb792,0,none⟩) (Kd.R_types HO780.out BK792.out (by decide)) (fun _ hk => hk.2) (.int .i64 t788)) (fun _ hk => hk.2) (.slice Ao40 t789.length co40)) (fun _ h_ => h_.1))) (Kd.R_base ho0) hb);have n3_:=am (Kd.R_elder' (by (with_reducible repeat (first|apply Kd.R_alloc|apply Kd.R_drewN|apply Kd.R_drew));exact (Kd.R_mono (Kd.R_far (p:=⟨gb792,1,none⟩) (Kd.R_far (p:=⟨gb792,0,none⟩) (Kd.R_types HO783.out BK792.out (by decide)) (fun _ hk => hk.2) (.int .i64 t788)) (fun _ hk => hk.2) (.slice Ao40 t789.length co40)) (fun _ h_ => h_.1))) (Kd.R_base ho0) hb);have n4_:=am (Kd.R_below (by (with_reducible repeat (first|apply Kd.R_alloc|apply Kd.R_drewN|apply Kd.R_drew));exact (Kd.R_mono (Kd.R_far (p:=⟨gb792,1,none⟩) (Kd.R_far (p:=⟨gb792,0,none⟩) (Kd.R_types HO787.out BK792.out (by decide)) (fun _ hk => hk.2) (.int .i64 t788)) (fun _ hk => hk.2) (.slice Ao40 t789.length co40)) (fun _ h_ => h_.1))) hb);have n5_:=am (Kd.R_elder' (by (with_reducible repeat (first|apply Kd.R_alloc|apply Kd.R_drewN|apply Kd.R_drew));exact (Kd.R_mono (Kd.R_far (p:=⟨gb792,1,none⟩) (Kd.R_far (p:=⟨gb792,0,none⟩) (Kd.R_types HO791.out BK792.out (by decide)) (fun _ hk => hk.2) (.int .i64 t788)) (fun _ hk => hk.2) (.slice Ao40 t789.length co40)) (fun _ h_ => h_.1))) (Kd.R_base ho0) hb);have n6_:=am (Kd.R_lower (Kd.R_new' (Kd.R_new' (Kd.R_new' (Kd.R_new' ho0 (Kd.R_lt (by (with_reducible repeat (first|apply Kd.R_alloc|apply Kd.R_drewN|apply Kd.R_drew));exact (Kd.R_mono (Kd.R_far (p:=⟨gb792,1,none⟩) (Kd.R_far (p:=⟨gb792,0,none⟩) (Kd.R_types HO777.out BK792.out (by decide)) (fun _ hk => hk.2) (.int .i64 t788)) (fun _ hk => hk.2) (.slice Ao40 t789.length co40)) (fun _ h_ => h_.1))))) (Kd.R_lt (by (with_reducible repeat (first|apply Kd.R_alloc|apply Kd.R_drewN|apply Kd.R_drew));exact (Kd.R_mono (Kd.R_far (p:=⟨gb792,1,none⟩) (Kd.R_far (p:=⟨gb792,0,none⟩) (Kd.R_types HO780.out BK792.out (by decide)) (fun _ hk => hk.2) (.int .i64 t788)) (fun _ hk => hk.2) (.slice Ao40 t789.length co40)) (fun _ h_ => h_.1))))) (Kd.R_lt (by (with_reducible repeat (first|apply Kd.R_alloc|apply Kd.R_drewN|apply Kd.R_drew));exact (Kd.R_mono (Kd.R_far (p:=⟨gb792,1,none⟩) (Kd.R_far (p:=⟨gb792,0,none⟩) (Kd.R_types HO783.out BK792.out (by decide)) (fun _ hk => hk.2) (.int .i64 t788)) (fun _ hk => hk.2) (.slice Ao40 t789.length co40)) (fun _ h_ => h_.1))))) (Kd.R_lt (by (with_reducible repeat (first|apply Kd.R_alloc|apply Kd.R_drewN|apply Kd.R_drew));exact (Kd.R_mono (Kd.R_far (p:=⟨gb792,1,none⟩) (Kd.R_far (p:=⟨gb792,0,none⟩) (Kd.R_types HO791.out BK792.out (by decide)) (fun _ hk => hk.2) (.int .i64 t788)) (fun _ hk => hk.2) (.slice Ao40 t789.length co40)) (fun _ h_ => h_.1))))) (below_size (by repeat (first|(with_reducible first|exact HB.out|apply below_alloc|apply pw_below_drewN|apply below_drew1|refine below_set ?_ GE768.out|refine below_set ?_ GE792.out)|exact HB.out))));have n7_:=am (blk_below (g:=gb768) (o:=.cells #[.int .i64 a1_0,.slice A1_1 l1_1.length c1_1] 25 (0,0)) (by (with_reducible repeat (first|refine blk_drewN ?_ _|refine blk_drew ?_|refine blk_alloc ?_ _));refine blk_far ?_ NB768_792.out _;(with_reducible repeat (first|refine blk_drewN ?_ _|refine blk_drew ?_|refine blk_alloc ?_ _));refine blk_far ?_ NB768_792.out _;(with_reducible repeat (first|refine blk_drewN ?_ _|refine blk_drew ?_|refine blk_alloc ?_ _));exact BK768.out) hb);have n8_:=am (blk_below (g:=gb792) (o:=.cells #[.int .i64 t788,.slice Ao40 t789.length co40] 30 (0,0)) (by (with_reducible repeat (first|refine blk_drewN ?_ _|refine blk_drew ?_|refine blk_alloc ?_ _));refine blk_put (cs:=#[.int .i64 t788,.slice none 0 0]) ?_ 1 _ rfl;(with_reducible repeat (first|refine blk_drewN ?_ _|refine blk_drew ?_|refine blk_alloc ?_ _));refine blk_put (cs:=#[.int .i64 0,.slice none 0 0]) ?_ 0 _ rfl;(with_reducible repeat (first|refine blk_drewN ?_ _|refine blk_drew ?_|refine blk_alloc ?_ _));exact BK792.out) hb);have n9_:=am (below_step (by repeat (first|(with_reducible first|exact HB.out|apply below_alloc|apply pw_below_drewN|apply below_drew1|refine below_set ?_ GE768.out|refine below_set ?_ GE792.out)|exact HB.out)) hb);clear HO773 HO777 HO780 HO783 HO787 HO791 BK768 BK792 HB;have HO773:=n0_;have HO777:=n1_;have HO780:=n2_;have HO783:=n3_;have HO787:=n4_;have HO791:=n5_;have HO795:=n6_;have BK768:=n7_;have BK792:=n8_;have HB:=n9_;clear n0_ n1_ n2_ n3_ n4_ n5_ n6_ n7_ n8_ n9_;(try clear hb);(try clear hb2);(try clear hk);(try clear hi);(try clear ho0);have hcz42_0 : w41.cell? ⟨gb792,0,none⟩ = some (.int .i64 t788):=(blk_cell BK792.out 0).trans rfl;have hcz42_1 : w41.cell? ⟨gb792,1,none⟩ = some (.slice Ao40 t789.length co40):=(blk_cell BK792.out 1).trans rfl;have hfz42_0:=blk_frozen BK792.out 0;have hfz42_1:=blk_frozen BK792.out 1;obtain ⟨Ao43,co43,eo43⟩:=Kd.R_slice HO787.out;subst eo43;obtain ⟨Ao44,co44,eo44⟩:=Kd.R_slice HO795.out;subst eo44)|((with_reducible refine gate_callee (f:=45) rfl ?_);refine goesL_ (some 53) rfl rfl Tryd.func45 (by kernel_rfl) rfl #[.slice Ao43 t785.length co43,.agg #[.int .i64 t788,.slice Ao40 t789.length co40],.slice Ao44 t793.length co44] rfl (by (try simp only [List.map_toArray,List.map_cons,List.map_nil]);first|done|rfl|(simp only [List.length_drop,List.length_take];rfl)) ?_;(with_reducible refine (impl_YoungClosure.calls k _ _ t785 t788 _ _ t789 _ _ t793 t796 t799 _ ?side1 ?side2 ?side3 ?side4 ?side5 ?side6 A21.out).mono ?_);(case side1 => repeat (first|exact (Kd.R_reads' HO787.out).2.2|(with_reducible first|refine Kd.C_alloc ?_ _|refine Kd.C_drewN ?_ _|refine Kd.C_drew ?_)));(case side2 => exact (Kd.R_reads' HO787.out).2.1);(case side3 => repeat (first|exact (Kd.R_reads' HO791.out).2.2|(with_reducible first|refine Kd.C_alloc ?_ _|refine Kd.C_drewN ?_ _|refine Kd.C_drew ?_)));(case side4 => exact (Kd.R_reads' HO791.out).2.1);(case side5 => repeat (first|exact (Kd.R_reads' HO795.out).2.2|(with_reducible first|refine Kd.C_alloc ?_ _|refine Kd.C_drewN ?_ _|refine Kd.C_drew ?_)));(case side6 => exact (Kd.R_reads' HO795.out).2.1);rintro e w45 ⟨v797,rfl,ho0,hb⟩;refine ⟨_,rfl,?_⟩;have n0_:=am (Kd.R_below (kup HO773.out) hb);have n1_:=am (Kd.R_elder' (kup HO777.out) (Kd.R_base ho0) hb);have n2_:=am (Kd.R_elder' (kup HO780.out) (Kd.R_base ho0) hb);have n3_:=am (Kd.R_elder' (kup HO783.out) (Kd.R_base ho0) hb);have n4_:=am (Kd.R_below (kup HO787.out) hb);have n5_:=am (Kd.R_elder' (kup HO791.out) (Kd.R_base ho0) hb);have n6_:=am (Kd.R_elder' (kup HO795.out) (Kd.R_base ho0) hb);have n7_:=am (Kd.R_lower (Kd.R_new' (Kd.R_new' (Kd.R_new' (Kd.R_new' (Kd.R_new' ho0 (Kd.R_lt (kup HO777.out))) (Kd.R_lt (kup HO780.out))) (Kd.R_lt (kup HO783.out))) (Kd.R_lt (kup HO791.out))) (Kd.R_lt (kup HO795.out))) (below_size (by repeat (first|(with_reducible first|exact HB.out|apply below_alloc|apply pw_below_drewN|apply below_drew1|refine below_set ?_ GE768.out|refine below_set ?_ GE792.out)|exact HB.out))));have n8_:=am (blk_below (g:=gb768) (o:=.cells #[.int .i64 a1_0,.slice A1_1 l1_1.length c1_1] 25 (0,0)) (bup BK768.out) hb);have n9_:=am (blk_below (g:=gb792) (o:=.cells #[.int .i64 t788,.slice Ao40 t789.length co40] 30 (0,0)) (bup BK792.out) hb);have n10_:=am (below_step (by repeat (first|(with_reducible first|exact HB.out|apply below_alloc|apply pw_below_drewN|apply below_drew1|refine below_set ?_ GE768.out|refine below_set ?_ GE792.out)|exact HB.out)) hb);clear HO773 HO777 HO780 HO783 HO787 HO791 HO795 BK768 BK792 HB;have HO773:=n0_;have HO777:=n1_;have HO780:=n2_;have HO783:=n3_;have HO787:=n4_;have HO791:=n5_;have HO795:=n6_;have HO798:=n7_;have BK768:=n8_;have BK792:=n9_;have HB:=n10_;clear n0_ n1_ n2_ n3_ n4_ n5_ n6_ n7_ n8_ n9_ n10_;(try clear hb);(try clear hb2);(try clear hk);(try clear hi);(try clear ho0)))
    (try simp only [Act.put,List.setIfInBounds_toArray,List.set_cons_zero,List.set_cons_succ])
    go_cut [64] (fun v64 wc => ∃ (kq : Nat) (x64_21 : Bool),v64 = .bool x64_21∧Aside0 (laws_FnExactYoungClosure.j0 kq l0 l2 t781 t784 t785 t793 t796 t799 x64_21 a1_0 l1_1 t788 t789 = some r)∧Aside0 (kq ≤ k)∧Aside0 (Kd.R (Kd.int .i64) 2 wc w.heap.size (fun k_ => some k_≠((.slice Ao44 t793.length co44) : Value).ownBlock∧some k_≠(v797 : Value).ownBlock∧some k_≠((.slice Ao40 t789.length co40) : Value).ownBlock) v782 t781)∧Aside0 (Kd.R Kd.string 9 wc w.heap.size (fun _ => True) (.slice Ao43 t785.length co43) t785)∧Aside0 (Kd.R (Kd.int .i64) 2 wc w.heap.size (fun k_ => some k_≠(v782 : Value).ownBlock∧some k_≠(v797 : Value).ownBlock∧some k_≠((.slice Ao40 t789.length co40) : Value).ownBlock) (.slice Ao44 t793.length co44) t793)∧Aside0 (Kd.R (Kd.int .i64) 2 wc w.heap.size (fun k_ => some k_≠(v782 : Value).ownBlock∧some k_≠((.slice Ao44 t793.length co44) : Value).ownBlock∧some k_≠((.slice Ao40 t789.length co40) : Value).ownBlock) v797 t796)∧Aside0 (Kd.R (Kd.int .i64) 2 wc w.heap.size (fun k_ => some k_≠(v782 : Value).ownBlock∧some k_≠((.slice Ao44 t793.length co44) : Value).ownBlock∧some k_≠(v797 : Value).ownBlock) (.slice Ao40 t789.length co40) t789)∧Aside0 (wc.heap[gb768]? = some (.cells #[.int .i64 a1_0,(.slice A1_1 l1_1.length c1_1)] 25 (0,0)))∧Aside0 (wc.heap[gb792]? = some (.cells #[.int .i64 t788,(.slice Ao40 t789.length co40)] 30 (0,0)))∧Aside0 (Below w.heap.size w wc))
    case first =>
     have H:=HC22.out
     clear HC22
     replace H:=Option.bind_eq_some_iff.mp H
     obtain ⟨t800,A460,H⟩:=H
     try dsimp only at H
     have A46:=am A460
     clear A460
     by_cases c47 : t800 = true
     ·subst c47
      have H1:=H;rw [if_pos rfl] at H1
      clear H
      have H:=H1
      clear H1
      have H':=am H
      clear H
      obtain ⟨Ao48,co48,eo48⟩:=Kd.R_slice HO798.out
      subst eo48
      obtain ⟨Ao49,co49,eo49⟩:=Kd.R_slice HO783.out
      subst eo49
      go_wp2_with (first|((with_reducible refine gate_callee (f:=26) rfl ?_);refine goesL_ (some 58) rfl rfl Tryd.func26 (by kernel_rfl) rfl #[.slice Ao48 t796.length co48,.slice Ao49 t781.length co49] rfl (by (try simp only [List.map_toArray,List.map_cons,List.map_nil]);first|done|rfl|(simp only [List.length_drop,List.length_take];rfl)) ?_;(with_reducible refine (laws_eqInt64S.calls k _ _ t796 _ _ t781 true _ ?side1 ?side2 ?side3 ?side4 A46.out).mono ?_);(case side1 => repeat (first|exact (Kd.R_reads' HO798.out).2.2|(with_reducible first|refine Kd.C_alloc ?_ _|refine Kd.C_drewN ?_ _|refine Kd.C_drew ?_)));(case side2 => exact (Kd.R_reads' HO798.out).2.1);(case side3 => repeat (first|exact (Kd.R_reads' HO783.out).2.2|(with_reducible first|refine Kd.C_alloc ?_ _|refine Kd.C_drewN ?_ _|refine Kd.C_drew ?_)));(case side4 => exact (Kd.R_reads' HO783.out).2.1);rintro e w' ⟨rfl,⟨nd,rfl⟩⟩;refine ⟨_,rfl,?_⟩))
      go_meet
      case rel => exact ⟨_,((t799 != t784)),(by first|rfl|(simp;done)|(simp [*];done)),H',⟨by first|omega|exact Nat.le_refl _⟩,⟨kup (Kd.R_mono HO783.out (fun _ hk => ⟨hk.1.2,⟨hk.2,hk.1.1.2⟩⟩))⟩,⟨kup (Kd.R_mono HO787.out (fun _ hk => trivial))⟩,⟨kup (Kd.R_mono HO795.out (fun _ hk => ⟨hk.1.1.2,⟨hk.2,hk.1.2⟩⟩))⟩,⟨kup (Kd.R_mono HO798.out (fun _ hk => ⟨hk.1.1.2,⟨hk.2,hk.1.2⟩⟩))⟩,⟨kup (Kd.R_mono HO791.out (fun _ hk => ⟨hk.1.1.2,⟨hk.1.2,hk.2⟩⟩))⟩,⟨bup BK768.out⟩,⟨bup BK792.out⟩,⟨lup HB.out⟩⟩
     ·replace c47:=Bool.eq_false_iff.mpr c47
      subst c47
      have H1 : (laws_FnExactYoungClosure.j0 k l0 l2 t781 t784 t785 t793 t796 t799 true a1_0 l1_1 t788 t789) = some r:=by rw [if_neg (show ¬ (false = true) by decide)] at H;exact H
      clear H
      have H:=H1
      clear H1
      have H':=am H
      clear H
      obtain ⟨Ao50,co50,eo50⟩:=Kd.R_slice HO798.out
      subst eo50
      obtain ⟨Ao51,co51,eo51⟩:=Kd.R_slice HO783.out
      subst eo51
      go_wp2_with (first|((with_reducible refine gate_callee (f:=26) rfl ?_);refine goesL_ (some 58) rfl rfl Tryd.func26 (by kernel_rfl) rfl #[.slice Ao50 t796.length co50,.slice Ao51 t781.length co51] rfl (by (try simp only [List.map_toArray,List.map_cons,List.map_nil]);first|done|rfl|(simp only [List.length_drop,List.length_take];rfl)) ?_;(with_reducible refine (laws_eqInt64S.calls k _ _ t796 _ _ t781 false _ ?side1 ?side2 ?side3 ?side4 A46.out).mono ?_);(case side1 => repeat (first|exact (Kd.R_reads' HO798.out).2.2|(with_reducible first|refine Kd.C_alloc ?_ _|refine Kd.C_drewN ?_ _|refine Kd.C_drew ?_)));(case side2 => exact (Kd.R_reads' HO798.out).2.1);(case side3 => repeat (first|exact (Kd.R_reads' HO783.out).2.2|(with_reducible first|refine Kd.C_alloc ?_ _|refine Kd.C_drewN ?_ _|refine Kd.C_drew ?_)));(case side4 => exact (Kd.R_reads' HO783.out).2.1);rintro e w' ⟨rfl,⟨nd,rfl⟩⟩;refine ⟨_,rfl,?_⟩))
      go_meet
      case rel => exact ⟨_,(true),(by first|rfl|(simp;done)|(simp [*];done)),H',⟨by first|omega|exact Nat.le_refl _⟩,⟨kup (Kd.R_mono HO783.out (fun _ hk => ⟨hk.1.2,⟨hk.2,hk.1.1.2⟩⟩))⟩,⟨kup (Kd.R_mono HO787.out (fun _ hk => trivial))⟩,⟨kup (Kd.R_mono HO795.out (fun _ hk => ⟨hk.1.1.2,⟨hk.2,hk.1.2⟩⟩))⟩,⟨kup (Kd.R_mono HO798.out (fun _ hk => ⟨hk.1.1.2,⟨hk.2,hk.1.2⟩⟩))⟩,⟨kup (Kd.R_mono HO791.out (fun _ hk => ⟨hk.1.1.2,⟨hk.1.2,hk.2⟩⟩))⟩,⟨bup BK768.out⟩,⟨bup BK792.out⟩,⟨lup HB.out⟩⟩
    case rest =>
     clear HC22
     try clear c1
     try clear c2
     try clear p2
     try clear c3
     try clear c4
     try clear c4b0
     try clear c4b1
     try clear c7
     try clear c7b0
     try clear c9
     try clear c10
     try clear c10b0
     try clear c16
     try clear c17
     try clear c19
     try clear c20
     try clear c26
     try clear c38
     try clear c43
     try clear c44
     try clear c45
     try clear c47
     try clear hcz12_0
     try clear hcz12_1
     try clear hcz24_0
     try clear hcz24_1
     try clear hcz35_0
     try clear hcz35_1
     try clear hcz39_0
     try clear hcz39_1
     try clear hcz42_0
     try clear hcz42_1
     try clear hfz12_0
     try clear hfz12_1
     try clear hfz24_0
     try clear hfz24_1
     try clear hfz35_0
     try clear hfz35_1
     try clear hfz39_0
     try clear hfz39_1
     try clear hfz42_0
     try clear hfz42_1
     obtain ⟨kq,x64_21,rfl,HA,HJ21,HO_8,HO_10,HO_12,HO_13,HO_793001,BK768,BK792,HB⟩:=hcut
     cases kq with
     | zero => exact absurd HA.out (by simp [laws_FnExactYoungClosure.j0])
     | succ kj21 =>
      have H:=HA.out
      clear HA
      simp only [laws_FnExactYoungClosure.j0] at H
      by_cases c52 : x64_21 = true
      ·subst c52
       have H1:=H;rw [if_pos rfl] at H1
       clear H
       have H:=H1
       clear H1
       obtain rfl:=Option.some.inj H
       go_wp2
       go_ret
       exact ⟨by first|rfl|(simp [errW_none,errW_some] <;> rfl)|(simp [*,errW_none,errW_some] <;> rfl),by repeat (first|(with_reducible first|exact HB.out|apply below_alloc|apply pw_below_drewN|apply below_drew1|refine below_set ?_ GE768.out|refine below_set ?_ GE792.out)|exact HB.out)⟩
      ·replace c52:=Bool.eq_false_iff.mpr c52
       subst c52
       have H1 : ((laws_toStringS.f kj21 l0).bind fun t801 => ((laws_eqStringS.f kj21 t785 t801).bind fun t804 => (if t804 = true then ((laws_toNursery.f kj21 a1_0 l1_1).bind fun bt805 => ((laws_eqNursery.f kj21 t788 t789 bt805.1 bt805.2).bind fun t809 => (if t809 = true then ((laws_toInt64S.f kj21 l2).bind fun t810 => ((laws_eqInt64S.f kj21 t793 t810).bind fun t813 => (if t813 = true then ((laws_markStringS.f kj21 t785 1).bind fun bt814 => ((laws_markNursery.f kj21 t788 t789 bt814.1).bind fun bt816 => ((laws_markInt64S.f kj21 t793 bt816.1).bind fun bt818 => (if bt818.1 < 0 then (laws_FnExactYoungClosure.j1 kj21 l0 l2 t781 t784 t796 true a1_0 l1_1) else ((laws_eqInt64S.f kj21 t796 t781).bind fun t820 => (if t820 = true then (laws_FnExactYoungClosure.j1 kj21 l0 l2 t781 t784 t796 (t799 != t784) a1_0 l1_1) else (laws_FnExactYoungClosure.j1 kj21 l0 l2 t781 t784 t796 true a1_0 l1_1))))))) else (some false)))) else (some false)))) else (some false)))) = some r:=by rw [if_neg (show ¬ (false = true) by decide)] at H;exact H
       clear H
       have H:=H1
       clear H1
       replace H:=Option.bind_eq_some_iff.mp H
       obtain ⟨t801,A530,H⟩:=H
       try dsimp only at H
       have A53:=am A530
       clear A530
       replace H:=Option.bind_eq_some_iff.mp H
       obtain ⟨t804,A540,H⟩:=H
       try dsimp only at H
       have A54:=am A540
       clear A540
       by_cases c55 : t804 = true
       ·subst c55
        have H1:=H;rw [if_pos rfl] at H1
        clear H
        have H:=H1
        clear H1
        replace H:=Option.bind_eq_some_iff.mp H
        obtain ⟨⟨t805,t806⟩,A560,H⟩:=H
        try dsimp only at H
        have A56:=am A560
        clear A560
        replace H:=Option.bind_eq_some_iff.mp H
        obtain ⟨t809,A570,H⟩:=H
        try dsimp only at H
        have A57:=am A570
        clear A570
        by_cases c58 : t809 = true
        ·subst c58
         have H1:=H;rw [if_pos rfl] at H1
         clear H
         have H:=H1
         clear H1
         replace H:=Option.bind_eq_some_iff.mp H
         obtain ⟨t810,A590,H⟩:=H
         try dsimp only at H
         have A59:=am A590
         clear A590
         replace H:=Option.bind_eq_some_iff.mp H
         obtain ⟨t813,A600,H⟩:=H
         try dsimp only at H
         have A60:=am A600
         clear A600
         by_cases c61 : t813 = true
         ·subst c61
          have H1:=H;rw [if_pos rfl] at H1
          clear H
          have H:=H1
          clear H1
          replace H:=Option.bind_eq_some_iff.mp H
          obtain ⟨⟨t814,t815⟩,A620,H⟩:=H
          try dsimp only at H
          have A62:=am A620
          clear A620
          replace H:=Option.bind_eq_some_iff.mp H
          obtain ⟨⟨t816,t817⟩,A630,H⟩:=H
          try dsimp only at H
          have A63:=am A630
          clear A630
          replace H:=Option.bind_eq_some_iff.mp H
          obtain ⟨⟨t818,t819⟩,A640,H⟩:=H
          try dsimp only at H
          have A64:=am A640
          clear A640
          have HC65:=am H
          clear H
          try go_wp2_with (first|((with_reducible refine gate_callee (f:=19) rfl ?_);refine goesL_ (some 67) rfl rfl Tryd.func19 (by kernel_rfl) rfl #[.slice A0 l0.length c0] rfl (by (try simp only [List.map_toArray,List.map_cons,List.map_nil]);first|done|rfl|(simp only [List.length_drop,List.length_take];rfl)) ?_;(with_reducible refine (laws_toStringS.calls kj21 _ _ l0 t801 _ ?side1 ?side2 A53.out).mono ?_);(case side1 => repeat (first|exact (Kd.C_below HR0.out HB.out)|(with_reducible first|refine Kd.C_alloc ?_ _|refine Kd.C_drewN ?_ _|refine Kd.C_drew ?_)));(case side2 => exact HC0.out);rintro e w66 ⟨v802,rfl,ho0,hb⟩;refine ⟨_,rfl,?_⟩;have n0_:=am (Kd.R_below (kup HO_8.out) hb);have n1_:=am (Kd.R_elder' (kup HO_10.out) (Kd.R_base ho0) hb);have n2_:=am (Kd.R_below (kup HO_12.out) hb);have n3_:=am (Kd.R_below (kup HO_13.out) hb);have n4_:=am (Kd.R_below (kup HO_793001.out) hb);have n5_:=am (Kd.R_lower (Kd.R_new' ho0 (Kd.R_lt (kup HO_10.out))) (below_size (lup HB.out)));have n6_:=am (blk_below (bup BK768.out) hb);have n7_:=am (blk_below (bup BK792.out) hb);have n8_:=am (below_step (lup HB.out) hb);clear HO_8 HO_10 HO_12 HO_13 HO_793001 BK768 BK792 HB;have HO_8:=n0_;have HO_10:=n1_;have HO_12:=n2_;have HO_13:=n3_;have HO_793001:=n4_;have HO803:=n5_;have BK768:=n6_;have BK792:=n7_;have HB:=n8_;clear n0_ n1_ n2_ n3_ n4_ n5_ n6_ n7_ n8_;(try clear hb);(try clear hb2);(try clear hk);(try clear hi);(try clear ho0);obtain ⟨Ao67,co67,eo67⟩:=Kd.R_slice HO803.out;subst eo67)|((with_reducible refine gate_callee (f:=22) rfl ?_);refine goesL_ (some 68) rfl rfl Tryd.func22 (by kernel_rfl) rfl #[.slice Ao43 t785.length co43,.slice Ao67 t801.length co67] rfl (by (try simp only [List.map_toArray,List.map_cons,List.map_nil]);first|done|rfl|(simp only [List.length_drop,List.length_take];rfl)) ?_;(with_reducible refine (laws_eqStringS.calls kj21 _ _ t785 _ _ t801 true _ ?side1 ?side2 ?side3 ?side4 A54.out).mono ?_);(case side1 => repeat (first|exact (Kd.R_reads' HO_10.out).2.2|(with_reducible first|refine Kd.C_alloc ?_ _|refine Kd.C_drewN ?_ _|refine Kd.C_drew ?_)));(case side2 => exact (Kd.R_reads' HO_10.out).2.1);(case side3 => repeat (first|exact (Kd.R_reads' HO803.out).2.2|(with_reducible first|refine Kd.C_alloc ?_ _|refine Kd.C_drewN ?_ _|refine Kd.C_drew ?_)));(case side4 => exact (Kd.R_reads' HO803.out).2.1);rintro e w' ⟨rfl,⟨nd,rfl⟩⟩;refine ⟨_,rfl,?_⟩))
          (try (rw [drewN_self w66];generalize hq_ : World.drewN w66 _ = w66;have n0_ : Aside0 (Kd.R Kd.string 9 w66 w.heap.size (fun k_ => some k_≠(.slice Ao43 t785.length co43 : Value).ownBlock) (.slice Ao67 t801.length co67) t801):=⟨by rw [← hq_];exact (kup (Kd.R_mono HO803.out (fun _ hk => hk.2)))⟩;have n1_ : Aside0 (Kd.R Kd.string 9 w66 w.heap.size (fun k_ => some k_≠(.slice Ao67 t801.length co67 : Value).ownBlock) (.slice Ao43 t785.length co43) t785):=⟨by rw [← hq_];exact (kup (Kd.R_mono HO_10.out (fun _ hk => hk.2)))⟩;have n2_ : Aside0 (Kd.R (Kd.int .i64) 2 w66 w.heap.size (fun k_ => some k_≠(v797 : Value).ownBlock∧some k_≠(.slice Ao40 t789.length co40 : Value).ownBlock∧some k_≠(v782 : Value).ownBlock) (.slice Ao44 t793.length co44) t793):=⟨by rw [← hq_];exact (kup (Kd.R_mono HO_12.out (fun _ hk => ⟨hk.2.1,⟨hk.2.2,hk.1⟩⟩)))⟩;have n3_ : Aside0 (Kd.R (Kd.int .i64) 2 w66 w.heap.size (fun k_ => some k_≠(.slice Ao44 t793.length co44 : Value).ownBlock∧some k_≠(.slice Ao40 t789.length co40 : Value).ownBlock∧some k_≠(v782 : Value).ownBlock) v797 t796):=⟨by rw [← hq_];exact (kup (Kd.R_mono HO_13.out (fun _ hk => ⟨hk.2.1,⟨hk.2.2,hk.1⟩⟩)))⟩;have n4_ : Aside0 (Kd.R (Kd.int .i64) 2 w66 w.heap.size (fun k_ => some k_≠(.slice Ao44 t793.length co44 : Value).ownBlock∧some k_≠(v797 : Value).ownBlock∧some k_≠(v782 : Value).ownBlock) (.slice Ao40 t789.length co40) t789):=⟨by rw [← hq_];exact (kup (Kd.R_mono HO_793001.out (fun _ hk => ⟨hk.2.1,⟨hk.2.2,hk.1⟩⟩)))⟩;have n5_ : Aside0 (Kd.R (Kd.int .i64) 2 w66 w.heap.size (fun k_ => some k_≠(.slice Ao44 t793.length co44 : Value).ownBlock∧some k_≠(v797 : Value).ownBlock∧some k_≠(.slice Ao40 t789.length co40 : Value).ownBlock) v782 t781):=⟨by rw [← hq_];exact (kup HO_8.out)⟩;have n6_ : Aside0 (w66.heap[gb768]? = some (.cells #[.int .i64 a1_0,.slice A1_1 l1_1.length c1_1] 25 (0,0))):=⟨by rw [← hq_];exact (bup BK768.out)⟩;have n7_ : Aside0 (w66.heap[gb792]? = some (.cells #[.int .i64 t788,.slice Ao40 t789.length co40] 30 (0,0))):=⟨by rw [← hq_];exact (bup BK792.out)⟩;have n8_ : Aside0 (Below w.heap.size w w66):=⟨by rw [← hq_];exact (lup HB.out)⟩;clear HO803 HO_10 HO_12 HO_13 HO_793001 HO_8 BK768 BK792 HB hq_;have HO803:=n0_;have HO_10:=n1_;have HO_12:=n2_;have HO_13:=n3_;have HO_793001:=n4_;have HO_8:=n5_;have BK768:=n6_;have BK792:=n7_;have HB:=n8_;clear n0_ n1_ n2_ n3_ n4_ n5_ n6_ n7_ n8_))
          have n0_:=am (Kd.R_drew HO_8.out)
          have n1_:=am (Kd.R_drew HO_10.out)
          have n2_:=am (Kd.R_drew HO_12.out)
          have n3_:=am (Kd.R_drew HO_13.out)
          have n4_:=am (Kd.R_drew HO_793001.out)
          have n5_:=am (Kd.R_drew HO803.out)
          have n6_:=am (blk_drew BK768.out)
          have n7_:=am (blk_drew BK792.out)
          have n8_:=am (below_drew1 HB.out)
          clear HO_8
          clear HO_10
          clear HO_12
          clear HO_13
          clear HO_793001
          clear HO803
          clear BK768
          clear BK792
          clear HB
          have HO_8:=n0_
          have HO_10:=n1_
          have HO_12:=n2_
          have HO_13:=n3_
          have HO_793001:=n4_
          have HO803:=n5_
          have BK768:=n6_
          have BK792:=n7_
          have HB:=n8_
          clear n0_ n1_ n2_ n3_ n4_ n5_ n6_ n7_ n8_
          refine start_ (n:=5) (S:=fun w' => w'.cell? ⟨gb792,0,none⟩ = some (.int .i64 t788)∧w'.cell? ⟨gb792,1,none⟩ = some (.slice Ao40 t789.length co40)∧w'.cell? ⟨gb768,0,none⟩ = some (.int .i64 a1_0)∧w'.cell? ⟨gb768,1,none⟩ = some (.slice A1_1 l1_1.length c1_1)) (ds:=[]) #[false,false,false,false,false] (by kernel_rfl) rfl rfl ⟨(blk_cell BK792.out 0).trans rfl,(blk_cell BK792.out 1).trans rfl,(blk_cell BK768.out 0).trans rfl,(blk_cell BK768.out 1).trans rfl⟩ (fun hHeld => ?_)
          generalize w66.drew = w68 at HO_8 HO_10 HO_12 HO_13 HO_793001 HO803 BK768 BK792 HB hHeld ⊢
          refine take_ (i:=0) (N:=some 70) (v:=?_) (a':=?_) #[true,false,false,false,false] rfl rfl (by kernel_rfl) (fun _ _ _ h => h) (Or.inl ⟨by rfl,?_⟩) hHeld ?_ ?_
          rotate_left
          ·rintro w' ⟨s0,s1,s2,s3⟩
           go_simp
           with_reducible rfl
          rotate_left
          ·simp only [Act.put,List.setIfInBounds_toArray,List.set_cons_zero,List.set_cons_succ,i64_w,i32_w]
           rfl
          refine take_ (i:=1) (N:=some 71) (v:=?_) (a':=?_) #[true,true,false,false,false] rfl rfl (by kernel_rfl) (fun _ _ _ h => h) (Or.inl ⟨by rfl,?_⟩) hHeld ?_ ?_
          rotate_left
          ·rintro w' ⟨s0,s1,s2,s3⟩
           go_simp
           with_reducible rfl
          rotate_left
          ·simp only [Act.put,List.setIfInBounds_toArray,List.set_cons_zero,List.set_cons_succ,i64_w,i32_w]
           rfl
          refine one_ (i:=2) (N:=some 72) #[true,true,true,false,false] rfl rfl (by kernel_rfl) (by decide) (fun K hK => ?_)
          refine goes_ Tryd.func20 (by kernel_rfl) rfl #[.agg #[.int .i64 a1_0,.slice A1_1 l1_1.length c1_1]] (by rfl) rfl rfl (by (try simp only [List.map_toArray,List.map_cons,List.map_nil]);first|done|rfl|(simp only [List.length_drop,List.length_take];rfl)) ?_
          with_reducible refine (laws_toNursery.calls kj21 a1_0 _ _ l1_1 t805 t806 _ ?side1 ?side2 A56.out).mono ?_
          (case side1 => repeat (first|exact (Kd.C_below HR1_1.out HB.out)|(with_reducible first|refine Kd.C_alloc ?_ _|refine Kd.C_drewN ?_ _|refine Kd.C_drew ?_)))
          (case side2 => exact HC1_1.out)
          rintro e w69 ⟨v807,rfl,ho0,hb⟩
          refine ⟨_,rfl,?_⟩
          have n0_:=am (Kd.R_elder' (kup HO_8.out) (Kd.R_base ho0) hb)
          have n1_:=am (Kd.R_below (kup HO_10.out) hb)
          have n2_:=am (Kd.R_elder' (kup HO_12.out) (Kd.R_base ho0) hb)
          have n3_:=am (Kd.R_elder' (kup HO_13.out) (Kd.R_base ho0) hb)
          have n4_:=am (Kd.R_elder' (kup HO_793001.out) (Kd.R_base ho0) hb)
          have n5_:=am (Kd.R_below (kup HO803.out) hb)
          have n6_:=am (Kd.R_lower (Kd.R_new' (Kd.R_new' (Kd.R_new' (Kd.R_new' ho0 (Kd.R_lt (kup HO_8.out))) (Kd.R_lt (kup HO_12.out))) (Kd.R_lt (kup HO_13.out))) (Kd.R_lt (kup HO_793001.out))) (below_size (lup HB.out)))
          have n7_:=am (blk_below (bup BK768.out) hb)
          have n8_:=am (blk_below (bup BK792.out) hb)
          have n9_:=am (below_step (lup HB.out) hb)
          clear HO_8
          clear HO_10
          clear HO_12
          clear HO_13
          clear HO_793001
          clear HO803
          clear BK768
          clear BK792
          clear HB
          have HO_8:=n0_
          have HO_10:=n1_
          have HO_12:=n2_
          have HO_13:=n3_
          have HO_793001:=n4_
          have HO803:=n5_
          have HO808:=n6_
          have BK768:=n7_
          have BK792:=n8_
          have HB:=n9_
          clear n0_ n1_ n2_ n3_ n4_ n5_ n6_ n7_ n8_ n9_
          (try clear hb)
          (try clear hb2)
          (try clear hk)
          (try clear hi)
          (try clear ho0)
          obtain ⟨Ao70,co70,eo70⟩:=Kd.R_slice HO808.out
          (first|subst eo70|(injection eo70 with f1_ f2_ f3_;have f4_:=f1_.symm;have f5_:=f3_.symm;clear f1_ f2_ f3_;subst f4_;subst f5_))
          refine hK.out _ _ ⟨(blk_cell BK792.out 0).trans rfl,(blk_cell BK792.out 1).trans rfl,(blk_cell BK768.out 0).trans rfl,(blk_cell BK768.out 1).trans rfl⟩ (fun hHeld => ?_)
          clear hK K
          refine norm_ (a':=?_) ?_ ?_
          rotate_left
          ·show Act.put _ (some 72) _ = _
           simp only [Act.put,List.setIfInBounds_toArray,List.set_cons_zero,List.set_cons_succ,i64_w,i32_w]
           rfl
          refine one_ (i:=3) (N:=some 73) #[true,true,true,true,false] rfl rfl (by kernel_rfl) (by decide) (fun K hK => ?_)
          refine goes_ Tryd.func23 (by kernel_rfl) rfl #[.agg #[.int .i64 t788,.slice Ao40 t789.length co40],.agg #[.int .i64 t805,.slice Ao70 t806.length co70]] (by rfl) rfl rfl (by (try simp only [List.map_toArray,List.map_cons,List.map_nil]);first|done|rfl|(simp only [List.length_drop,List.length_take];rfl)) ?_
          with_reducible refine (laws_eqNursery.calls kj21 t788 _ _ t789 t805 _ _ t806 true _ ?side1 ?side2 ?side3 ?side4 A57.out).mono ?_
          (case side1 => repeat (first|exact (Kd.R_reads' HO_793001.out).2.2|(with_reducible first|refine Kd.C_alloc ?_ _|refine Kd.C_drewN ?_ _|refine Kd.C_drew ?_)))
          (case side2 => exact (Kd.R_reads' HO_793001.out).2.1)
          (case side3 => repeat (first|exact (Kd.R_reads' HO808.out).2.2|(with_reducible first|refine Kd.C_alloc ?_ _|refine Kd.C_drewN ?_ _|refine Kd.C_drew ?_)))
          (case side4 => exact (Kd.R_reads' HO808.out).2.1)
          rintro e w71 ⟨rfl,hb⟩
          refine ⟨_,rfl,?_⟩
          have n0_:=am (Kd.R_below (kup HO_8.out) hb)
          have n1_:=am (Kd.R_below (kup HO_10.out) hb)
          have n2_:=am (Kd.R_below (kup HO_12.out) hb)
          have n3_:=am (Kd.R_below (kup HO_13.out) hb)
          have n4_:=am (Kd.R_below (kup HO_793001.out) hb)
          have n5_:=am (Kd.R_below (kup HO803.out) hb)
          have n6_:=am (Kd.R_below (kup HO808.out) hb)
          have n7_:=am (blk_below (bup BK768.out) hb)
          have n8_:=am (blk_below (bup BK792.out) hb)
          have n9_:=am (below_step (lup HB.out) hb)
          clear HO_8
          clear HO_10
          clear HO_12
          clear HO_13
          clear HO_793001
          clear HO803
          clear HO808
          clear BK768
          clear BK792
          clear HB
          have HO_8:=n0_
          have HO_10:=n1_
          have HO_12:=n2_
          have HO_13:=n3_
          have HO_793001:=n4_
          have HO803:=n5_
          have HO808:=n6_
          have BK768:=n7_
          have BK792:=n8_
          have HB:=n9_
          clear n0_ n1_ n2_ n3_ n4_ n5_ n6_ n7_ n8_ n9_
          (try clear hb)
          (try clear hb2)
          (try clear hk)
          (try clear hi)
          refine hK.out _ _ ⟨(blk_cell BK792.out 0).trans rfl,(blk_cell BK792.out 1).trans rfl,(blk_cell BK768.out 0).trans rfl,(blk_cell BK768.out 1).trans rfl⟩ (fun hHeld => ?_)
          clear hK K
          refine norm_ (a':=?_) ?_ ?_
          rotate_left
          ·show Act.put _ (some 73) _ = _
           simp only [Act.put,List.setIfInBounds_toArray,List.set_cons_zero,List.set_cons_succ,i64_w,i32_w]
           rfl
          refine pure_ (i:=4) (N:=some 74) (v:=?_) (a':=?_) #[true,true,true,true,true] rfl rfl (by kernel_rfl) (fun _ _ _ h => h) (Or.inl ⟨by rfl,?_⟩) ?_ ?_
          rotate_left
          ·intro w'
           go_simp
           with_reducible rfl
          rotate_left
          ·simp only [Act.put,List.setIfInBounds_toArray,List.set_cons_zero,List.set_cons_succ,i64_w,i32_w]
           rfl
          refine done_ (by kernel_rfl) ?_
          go_upto_region 27 with (first|((with_reducible refine gate_callee (f:=44) rfl ?_);refine goesL_ (some 77) rfl rfl Tryd.func44 (by kernel_rfl) rfl #[.slice A2 l2.length c2] rfl (by (try simp only [List.map_toArray,List.map_cons,List.map_nil]);first|done|rfl|(simp only [List.length_drop,List.length_take];rfl)) ?_;(with_reducible refine (laws_toInt64S.calls kj21 _ _ l2 t810 _ ?side1 ?side2 A59.out).mono ?_);(case side1 => repeat (first|exact (Kd.C_below HR2.out HB.out)|(with_reducible first|refine Kd.C_alloc ?_ _|refine Kd.C_drewN ?_ _|refine Kd.C_drew ?_)));(case side2 => exact HC2.out);rintro e w72 ⟨v811,rfl,ho0,hb⟩;refine ⟨_,rfl,?_⟩;have n0_:=am (Kd.R_elder' (kup HO_8.out) (Kd.R_base ho0) hb);have n1_:=am (Kd.R_below (kup HO_10.out) hb);have n2_:=am (Kd.R_elder' (kup HO_12.out) (Kd.R_base ho0) hb);have n3_:=am (Kd.R_elder' (kup HO_13.out) (Kd.R_base ho0) hb);have n4_:=am (Kd.R_elder' (kup HO_793001.out) (Kd.R_base ho0) hb);have n5_:=am (Kd.R_below (kup HO803.out) hb);have n6_:=am (Kd.R_elder' (kup HO808.out) (Kd.R_base ho0) hb);have n7_:=am (Kd.R_lower (Kd.R_new' (Kd.R_new' (Kd.R_new' (Kd.R_new' (Kd.R_new' ho0 (Kd.R_lt (kup HO_8.out))) (Kd.R_lt (kup HO_12.out))) (Kd.R_lt (kup HO_13.out))) (Kd.R_lt (kup HO_793001.out))) (Kd.R_lt (kup HO808.out))) (below_size (lup HB.out)));have n8_:=am (blk_below (bup BK768.out) hb);have n9_:=am (blk_below (bup BK792.out) hb);have n10_:=am (below_step (lup HB.out) hb);clear HO_8 HO_10 HO_12 HO_13 HO_793001 HO803 HO808 BK768 BK792 HB;have HO_8:=n0_;have HO_10:=n1_;have HO_12:=n2_;have HO_13:=n3_;have HO_793001:=n4_;have HO803:=n5_;have HO808:=n6_;have HO812:=n7_;have BK768:=n8_;have BK792:=n9_;have HB:=n10_;clear n0_ n1_ n2_ n3_ n4_ n5_ n6_ n7_ n8_ n9_ n10_;(try clear hb);(try clear hb2);(try clear hk);(try clear hi);(try clear ho0);obtain ⟨Ao73,co73,eo73⟩:=Kd.R_slice HO812.out;subst eo73)|((with_reducible refine gate_callee (f:=26) rfl ?_);refine goesL_ (some 78) rfl rfl Tryd.func26 (by kernel_rfl) rfl #[.slice Ao44 t793.length co44,.slice Ao73 t810.length co73] rfl (by (try simp only [List.map_toArray,List.map_cons,List.map_nil]);first|done|rfl|(simp only [List.length_drop,List.length_take];rfl)) ?_;(with_reducible refine (laws_eqInt64S.calls kj21 _ _ t793 _ _ t810 true _ ?side1 ?side2 ?side3 ?side4 A60.out).mono ?_);(case side1 => repeat (first|exact (Kd.R_reads' HO_12.out).2.2|(with_reducible first|refine Kd.C_alloc ?_ _|refine Kd.C_drewN ?_ _|refine Kd.C_drew ?_)));(case side2 => exact (Kd.R_reads' HO_12.out).2.1);(case side3 => repeat (first|exact (Kd.R_reads' HO812.out).2.2|(with_reducible first|refine Kd.C_alloc ?_ _|refine Kd.C_drewN ?_ _|refine Kd.C_drew ?_)));(case side4 => exact (Kd.R_reads' HO812.out).2.1);rintro e w' ⟨rfl,⟨nd,rfl⟩⟩;refine ⟨_,rfl,?_⟩)|((with_reducible refine gate_callee (f:=27) rfl ?_);refine goesL_ (some 82) rfl rfl Tryd.func27 (by kernel_rfl) rfl #[.slice Ao43 t785.length co43,.int .i64 1] rfl (by (try simp only [List.map_toArray,List.map_cons,List.map_nil]);first|done|rfl|(simp only [List.length_drop,List.length_take];rfl)) ?_;(with_reducible refine (laws_markStringS.calls kj21 (fun k_ => some k_ = (.slice Ao43 t785.length co43 : Value).ownBlock) (.slice Ao43 t785.length co43) t785 1 t814 t815 w _ ?side1 ?side2 A62.out).mono ?_);(case side1 => repeat (first|(with_reducible first|exact HB.out|apply below_alloc|apply pw_below_drewN|apply below_drew1|refine below_set ?_ GE768.out|refine below_set ?_ GE792.out)|exact HB.out));(case side2 => exact Kd.R_tight rfl HO_10.out);rintro e w74 ⟨rfl,hy0,hb,hkp⟩;refine ⟨_,rfl,?_⟩;have n0_:=am (Kd.R_mono (ok':=fun k_ => some k_≠(.slice Ao44 t793.length co44 : Value).ownBlock∧some k_≠(v797 : Value).ownBlock∧some k_≠(.slice Ao40 t789.length co40 : Value).ownBlock∧some k_≠(.slice Ao70 t806.length co70 : Value).ownBlock∧some k_≠(.slice Ao73 t810.length co73 : Value).ownBlock) (Kd.R_keptB ((Kd.R_apart' HO_8.out (Kd.R_typed HO_10.out) (by decide))) hkp (fun k_ hk_ hs_ => by first|with_reducible exact hk_.2 hs_|with_reducible exact hk_ hs_|with_reducible exact hk_.1 hs_|with_reducible exact hk_.2 hs_|with_reducible exact hk_.2.1 hs_|with_reducible exact hk_.2.2 hs_|with_reducible exact hk_.2.2.1 hs_|with_reducible exact hk_.2.2.2 hs_|with_reducible exact hk_.1.1 hs_|with_reducible exact hk_.1.2 hs_|exact hk_.2 hs_|exact hk_ hs_)) (fun k_ hk_ => by first|with_reducible exact ⟨hk_.1.1.1.1.1,hk_.1.1.1.1.2.1,hk_.1.1.1.1.2.2,hk_.1.1.1.2,hk_.1.1.2⟩|(simp only [and_assoc] at hk_;first|with_reducible exact ⟨hk_.1,hk_.2.1,hk_.2.2.1,hk_.2.2.2.1,hk_.2.2.2.2.1⟩|(refine ⟨?_,?_,?_,?_,?_⟩ <;> first|with_reducible exact hk_.1|with_reducible exact hk_.2.1|with_reducible exact hk_.2.2.1|with_reducible exact hk_.2.2.2.1|with_reducible exact hk_.2.2.2.2.1|with_reducible exact hk_.2.2.2.2.2.1|with_reducible exact hk_.2.2.2.2.2.2.1|with_reducible exact hk_.2.2.2.2.2.2.2.1|with_reducible exact hk_.2|with_reducible exact hk_.2.2|with_reducible exact hk_.2.2.2|with_reducible exact hk_.2.2.2.2|with_reducible exact hk_.2.2.2.2.2|with_reducible exact hk_.2.2.2.2.2.2|with_reducible exact hk_.2.2.2.2.2.2.2|with_reducible exact hk_.2.2.2.2.2.2.2.2))));have n1_:=am (Kd.R_reok rfl hy0 (fun k_ e_ => HO_10.out.1 k_ e_));have n2_:=am (Kd.R_mono (ok':=fun k_ => some k_≠(v782 : Value).ownBlock∧some k_≠(v797 : Value).ownBlock∧some k_≠(.slice Ao40 t789.length co40 : Value).ownBlock∧some k_≠(.slice Ao70 t806.length co70 : Value).ownBlock∧some k_≠(.slice Ao73 t810.length co73 : Value).ownBlock) (Kd.R_keptB ((Kd.R_apart' HO_12.out (Kd.R_typed HO_10.out) (by decide))) hkp (fun k_ hk_ hs_ => by first|with_reducible exact hk_.2 hs_|with_reducible exact hk_ hs_|with_reducible exact hk_.1 hs_|with_reducible exact hk_.2 hs_|with_reducible exact hk_.2.1 hs_|with_reducible exact hk_.2.2 hs_|with_reducible exact hk_.2.2.1 hs_|with_reducible exact hk_.2.2.2 hs_|with_reducible exact hk_.1.1 hs_|with_reducible exact hk_.1.2 hs_|exact hk_.2 hs_|exact hk_ hs_)) (fun k_ hk_ => by first|with_reducible exact ⟨hk_.1.1.1.1.1,hk_.1.1.1.1.2.1,hk_.1.1.1.1.2.2,hk_.1.1.1.2,hk_.1.1.2⟩|(simp only [and_assoc] at hk_;first|with_reducible exact ⟨hk_.1,hk_.2.1,hk_.2.2.1,hk_.2.2.2.1,hk_.2.2.2.2.1⟩|(refine ⟨?_,?_,?_,?_,?_⟩ <;> first|with_reducible exact hk_.1|with_reducible exact hk_.2.1|with_reducible exact hk_.2.2.1|with_reducible exact hk_.2.2.2.1|with_reducible exact hk_.2.2.2.2.1|with_reducible exact hk_.2.2.2.2.2.1|with_reducible exact hk_.2.2.2.2.2.2.1|with_reducible exact hk_.2.2.2.2.2.2.2.1|with_reducible exact hk_.2|with_reducible exact hk_.2.2|with_reducible exact hk_.2.2.2|with_reducible exact hk_.2.2.2.2|with_reducible exact hk_.2.2.2.2.2|with_reducible exact hk_.2.2.2.2.2.2|with_reducible exact hk_.2.2.2.2.2.2.2|with_reducible exact hk_.2.2.2.2.2.2.2.2))));have n3_:=am (Kd.R_mono (ok':=fun k_ => some k_≠(v782 : Value).ownBlock∧some k_≠(.slice Ao44 t793.length co44 : Value).ownBlock∧some k_≠(.slice Ao40 t789.length co40 : Value).ownBlock∧some k_≠(.slice Ao70 t806.length co70 : Value).ownBlock∧some k_≠(.slice Ao73 t810.length co73 : Value).ownBlock) (Kd.R_keptB ((Kd.R_apart' HO_13.out (Kd.R_typed HO_10.out) (by decide))) hkp (fun k_ hk_ hs_ => by first|with_reducible exact hk_.2 hs_|with_reducible exact hk_ hs_|with_reducible exact hk_.1 hs_|with_reducible exact hk_.2 hs_|with_reducible exact hk_.2.1 hs_|with_reducible exact hk_.2.2 hs_|with_reducible exact hk_.2.2.1 hs_|with_reducible exact hk_.2.2.2 hs_|with_reducible exact hk_.1.1 hs_|with_reducible exact hk_.1.2 hs_|exact hk_.2 hs_|exact hk_ hs_)) (fun k_ hk_ => by first|with_reducible exact ⟨hk_.1.1.1.1.1,hk_.1.1.1.1.2.1,hk_.1.1.1.1.2.2,hk_.1.1.1.2,hk_.1.1.2⟩|(simp only [and_assoc] at hk_;first|with_reducible exact ⟨hk_.1,hk_.2.1,hk_.2.2.1,hk_.2.2.2.1,hk_.2.2.2.2.1⟩|(refine ⟨?_,?_,?_,?_,?_⟩ <;> first|with_reducible exact hk_.1|with_reducible exact hk_.2.1|with_reducible exact hk_.2.2.1|with_reducible exact hk_.2.2.2.1|with_reducible exact hk_.2.2.2.2.1|with_reducible exact hk_.2.2.2.2.2.1|with_reducible exact hk_.2.2.2.2.2.2.1|with_reducible exact hk_.2.2.2.2.2.2.2.1|with_reducible exact hk_.2|with_reducible exact hk_.2.2|with_reducible exact hk_.2.2.2|with_reducible exact hk_.2.2.2.2|with_reducible exact hk_.2.2.2.2.2|with_reducible exact hk_.2.2.2.2.2.2|with_reducible exact hk_.2.2.2.2.2.2.2|with_reducible exact hk_.2.2.2.2.2.2.2.2))));have n4_:=am (Kd.R_mono (ok':=fun k_ => some k_≠(v782 : Value).ownBlock∧some k_≠(.slice Ao44 t793.length co44 : Value).ownBlock∧some k_≠(v797 : Value).ownBlock∧some k_≠(.slice Ao70 t806.length co70 : Value).ownBlock∧some k_≠(.slice Ao73 t810.length co73 : Value).ownBlock) (Kd.R_keptB ((Kd.R_apart' HO_793001.out (Kd.R_typed HO_10.out) (by decide))) hkp (fun k_ hk_ hs_ => by first|with_reducible exact hk_.2 hs_|with_reducible exact hk_ hs_|with_reducible exact hk_.1 hs_|with_reducible exact hk_.2 hs_|with_reducible exact hk_.2.1 hs_|with_reducible exact hk_.2.2 hs_|with_reducible exact hk_.2.2.1 hs_|with_reducible exact hk_.2.2.2 hs_|with_reducible exact hk_.1.1 hs_|with_reducible exact hk_.1.2 hs_|exact hk_.2 hs_|exact hk_ hs_)) (fun k_ hk_ => by first|with_reducible exact ⟨hk_.1.1.1.1.1,hk_.1.1.1.1.2.1,hk_.1.1.1.1.2.2,hk_.1.1.1.2,hk_.1.1.2⟩|(simp only [and_assoc] at hk_;first|with_reducible exact ⟨hk_.1,hk_.2.1,hk_.2.2.1,hk_.2.2.2.1,hk_.2.2.2.2.1⟩|(refine ⟨?_,?_,?_,?_,?_⟩ <;> first|with_reducible exact hk_.1|with_reducible exact hk_.2.1|with_reducible exact hk_.2.2.1|with_reducible exact hk_.2.2.2.1|with_reducible exact hk_.2.2.2.2.1|with_reducible exact hk_.2.2.2.2.2.1|with_reducible exact hk_.2.2.2.2.2.2.1|with_reducible exact hk_.2.2.2.2.2.2.2.1|with_reducible exact hk_.2|with_reducible exact hk_.2.2|with_reducible exact hk_.2.2.2|with_reducible exact hk_.2.2.2.2|with_reducible exact hk_.2.2.2.2.2|with_reducible exact hk_.2.2.2.2.2.2|with_reducible exact hk_.2.2.2.2.2.2.2|with_reducible exact hk_.2.2.2.2.2.2.2.2))));have n5_:=am (blk_kept (bup BK768.out) hkp (fun hs_ => (fun e_ => (Kd.R_ne HO_10.out BK768.out (by decide)) e_) hs_));have n6_:=am (blk_kept (bup BK792.out) hkp (fun hs_ => (fun e_ => (Kd.R_ne HO_10.out BK792.out (by decide)) e_) hs_));have n7_:=am (Kd.R_mono (ok':=fun k_ => some k_≠(.slice Ao43 t785.length co43 : Value).ownBlock) (Kd.R_keptB (HO803.out) hkp (fun k_ hk_ hs_ => by first|with_reducible exact hk_.2 hs_|with_reducible exact hk_ hs_|with_reducible exact hk_.1 hs_|with_reducible exact hk_.2 hs_|with_reducible exact hk_.2.1 hs_|with_reducible exact hk_.2.2 hs_|with_reducible exact hk_.2.2.1 hs_|with_reducible exact hk_.2.2.2 hs_|with_reducible exact hk_.1.1 hs_|with_reducible exact hk_.1.2 hs_|exact hk_.2 hs_|exact hk_ hs_)) (fun k_ hk_ => by first|with_reducible exact hk_.1.2|with_reducible exact hk_.1|with_reducible exact hk_.1.1|with_reducible exact hk_.1.1.1|with_reducible exact hk_.2|with_reducible exact hk_.1.2|exact hk_.1.2));have n8_:=am (Kd.R_mono (ok':=fun k_ => some k_≠(v782 : Value).ownBlock∧some k_≠(.slice Ao44 t793.length co44 : Value).ownBlock∧some k_≠(v797 : Value).ownBlock∧some k_≠(.slice Ao40 t789.length co40 : Value).ownBlock∧some k_≠(.slice Ao73 t810.length co73 : Value).ownBlock) (Kd.R_keptB ((Kd.R_apart' HO808.out (Kd.R_typed HO_10.out) (by decide))) hkp (fun k_ hk_ hs_ => by first|with_reducible exact hk_.2 hs_|with_reducible exact hk_ hs_|with_reducible exact hk_.1 hs_|with_reducible exact hk_.2 hs_|with_reducible exact hk_.2.1 hs_|with_reducible exact hk_.2.2 hs_|with_reducible exact hk_.2.2.1 hs_|with_reducible exact hk_.2.2.2 hs_|with_reducible exact hk_.1.1 hs_|with_reducible exact hk_.1.2 hs_|exact hk_.2 hs_|exact hk_ hs_)) (fun k_ hk_ => by first|with_reducible exact ⟨hk_.1.1.1.1.1.1.2,hk_.1.1.1.1.1.2,hk_.1.1.1.1.2,hk_.1.1.1.2,hk_.1.1.2⟩|(simp only [and_assoc] at hk_;first|with_reducible exact ⟨hk_.1,hk_.2.1,hk_.2.2.1,hk_.2.2.2.1,hk_.2.2.2.2.1⟩|(refine ⟨?_,?_,?_,?_,?_⟩ <;> first|with_reducible exact hk_.1|with_reducible exact hk_.2.1|with_reducible exact hk_.2.2.1|with_reducible exact hk_.2.2.2.1|with_reducible exact hk_.2.2.2.2.1|with_reducible exact hk_.2.2.2.2.2.1|with_reducible exact hk_.2.2.2.2.2.2.1|with_reducible exact hk_.2.2.2.2.2.2.2.1|with_reducible exact hk_.2|with_reducible exact hk_.2.2|with_reducible exact hk_.2.2.2|with_reducible exact hk_.2.2.2.2|with_reducible exact hk_.2.2.2.2.2|with_reducible exact hk_.2.2.2.2.2.2|with_reducible exact hk_.2.2.2.2.2.2.2|with_reducible exact hk_.2.2.2.2.2.2.2.2))));have n9_:=am (Kd.R_mono (ok':=fun k_ => some k_≠(v782 : Value).ownBlock∧some k_≠(.slice Ao44 t793.length co44 : Value).ownBlock∧some k_≠(v797 : Value).ownBlock∧some k_≠(.slice Ao40 t789.length co40 : Value).ownBlock∧some k_≠(.slice Ao70 t806.length co70 : Value).ownBlock) (Kd.R_keptB ((Kd.R_apart' HO812.out (Kd.R_typed HO_10.out) (by decide))) hkp (fun k_ hk_ hs_ => by first|with_reducible exact hk_.2 hs_|with_reducible exact hk_ hs_|with_reducible exact hk_.1 hs_|with_reducible exact hk_.2 hs_|with_reducible exact hk_.2.1 hs_|with_reducible exact hk_.2.2 hs_|with_reducible exact hk_.2.2.1 hs_|with_reducible exact hk_.2.2.2 hs_|with_reducible exact hk_.1.1 hs_|with_reducible exact hk_.1.2 hs_|exact hk_.2 hs_|exact hk_ hs_)) (fun k_ hk_ => by first|with_reducible exact ⟨hk_.1.1.1.1.1.1.2,hk_.1.1.1.1.1.2,hk_.1.1.1.1.2,hk_.1.1.1.2,hk_.1.1.2⟩|(simp only [and_assoc] at hk_;first|with_reducible exact ⟨hk_.1,hk_.2.1,hk_.2.2.1,hk_.2.2.2.1,hk_.2.2.2.2.1⟩|(refine ⟨?_,?_,?_,?_,?_⟩ <;> first|with_reducible exact hk_.1|with_reducible exact hk_.2.1|with_reducible exact hk_.2.2.1|with_reducible exact hk_.2.2.2.1|with_reducible exact hk_.2.2.2.2.1|with_reducible exact hk_.2.2.2.2.2.1|with_reducible exact hk_.2.2.2.2.2.2.1|with_reducible exact hk_.2.2.2.2.2.2.2.1|with_reducible exact hk_.2|with_reducible exact hk_.2.2|with_reducible exact hk_.2.2.2|with_reducible exact hk_.2.2.2.2|with_reducible exact hk_.2.2.2.2.2|with_reducible exact hk_.2.2.2.2.2.2|with_reducible exact hk_.2.2.2.2.2.2.2|with_reducible exact hk_.2.2.2.2.2.2.2.2))));have n10_:=am (hb);clear HO_8 HO_10 HO_12 HO_13 HO_793001 BK768 BK792 HO803 HO808 HO812 HB;have HO_8:=n0_;have HO_10:=n1_;have HO_12:=n2_;have HO_13:=n3_;have HO_793001:=n4_;have BK768:=n5_;have BK792:=n6_;have HO803:=n7_;have HO808:=n8_;have HO812:=n9_;have HB:=n10_;clear n0_ n1_ n2_ n3_ n4_ n5_ n6_ n7_ n8_ n9_ n10_;(try clear hb);(try clear hkp);(try clear hy0);have hnb75:=NB792_768.out;have hnc75:=NB768_792.out;have hcz76_0 : w74.cell? ⟨gb792,0,none⟩ = some (.int .i64 t788):=(blk_cell BK792.out 0).trans rfl;have hcz76_1 : w74.cell? ⟨gb792,1,none⟩ = some (.slice Ao40 t789.length co40):=(blk_cell BK792.out 1).trans rfl;have hfz76_0:=blk_frozen BK792.out 0;have hfz76_1:=blk_frozen BK792.out 1)|((with_reducible refine gate_callee (f:=28) rfl ?_);refine goesL_ (some 85) rfl rfl Tryd.func28 (by kernel_rfl) rfl #[.agg #[.int .i64 t788,.slice Ao40 t789.length co40],.int .i64 t814] rfl (by (try simp only [List.map_toArray,List.map_cons,List.map_nil]);first|done|rfl|(simp only [List.length_drop,List.length_take];rfl)) ?_;(with_reducible refine (laws_markNursery.calls kj21 t788 (fun k_ => some k_ = (.slice Ao40 t789.length co40 : Value).ownBlock) (.slice Ao40 t789.length co40) t789 t814 t816 t817 w _ ?side1 ?side2 A63.out).mono ?_);(case side1 => repeat (first|(with_reducible first|exact HB.out|apply below_alloc|apply pw_below_drewN|apply below_drew1|refine below_set ?_ GE768.out|refine below_set ?_ GE792.out)|exact HB.out));(case side2 => exact Kd.R_tight rfl HO_793001.out);rintro e w77 ⟨rfl,hy0,hb,hkp⟩;refine ⟨_,rfl,?_⟩;have n0_:=am (Kd.R_mono (ok':=fun k_ => some k_≠(.slice Ao44 t793.length co44 : Value).ownBlock∧some k_≠(v797 : Value).ownBlock∧some k_≠(.slice Ao40 t789.length co40 : Value).ownBlock∧some k_≠(.slice Ao70 t806.length co70 : Value).ownBlock∧some k_≠(.slice Ao73 t810.length co73 : Value).ownBlock) (Kd.R_keptB (HO_8.out) hkp (fun k_ hk_ hs_ => by first|with_reducible exact hk_.2.2.1 hs_|with_reducible exact hk_ hs_|with_reducible exact hk_.1 hs_|with_reducible exact hk_.2 hs_|with_reducible exact hk_.2.1 hs_|with_reducible exact hk_.2.2 hs_|with_reducible exact hk_.2.2.1 hs_|with_reducible exact hk_.2.2.2 hs_|with_reducible exact hk_.1.1 hs_|with_reducible exact hk_.1.2 hs_|exact hk_.2.2.1 hs_|exact hk_ hs_)) (fun k_ hk_ => by first|with_reducible exact ⟨hk_.1.1,hk_.1.2.1,hk_.1.2.2.1,hk_.1.2.2.2.1,hk_.1.2.2.2.2⟩|(simp only [and_assoc] at hk_;first|with_reducible exact ⟨hk_.1,hk_.2.1,hk_.2.2.1,hk_.2.2.2.1,hk_.2.2.2.2.1⟩|(refine ⟨?_,?_,?_,?_,?_⟩ <;> first|with_reducible exact hk_.1|with_reducible exact hk_.2.1|with_reducible exact hk_.2.2.1|with_reducible exact hk_.2.2.2.1|with_reducible exact hk_.2.2.2.2.1|with_reducible exact hk_.2.2.2.2.2.1|with_reducible exact hk_.2.2.2.2.2.2.1|with_reducible exact hk_.2.2.2.2.2.2.2.1|with_reducible exact hk_.2|with_reducible exact hk_.2.2|with_reducible exact hk_.2.2.2|with_reducible exact hk_.2.2.2.2|with_reducible exact hk_.2.2.2.2.2|with_reducible exact hk_.2.2.2.2.2.2|with_reducible exact hk_.2.2.2.2.2.2.2|with_reducible exact hk_.2.2.2.2.2.2.2.2))));have n1_:=am (Kd.R_mono (ok':=fun k_ => some k_≠(.slice Ao67 t801.length co67 : Value).ownBlock) (Kd.R_keptB ((Kd.R_apart' HO_10.out (Kd.R_typed HO_793001.out) (by decide))) hkp (fun k_ hk_ hs_ => by first|with_reducible exact hk_.2 hs_|with_reducible exact hk_ hs_|with_reducible exact hk_.1 hs_|with_reducible exact hk_.2 hs_|with_reducible exact hk_.2.1 hs_|with_reducible exact hk_.2.2 hs_|with_reducible exact hk_.2.2.1 hs_|with_reducible exact hk_.2.2.2 hs_|with_reducible exact hk_.1.1 hs_|with_reducible exact hk_.1.2 hs_|exact hk_.2 hs_|exact hk_ hs_)) (fun k_ hk_ => by first|with_reducible exact hk_.1.1.2|with_reducible exact hk_.1|with_reducible exact hk_.1.1|with_reducible exact hk_.1.1.1|with_reducible exact hk_.2|with_reducible exact hk_.1.2|exact hk_.1.1.2));have n2_:=am (Kd.R_mono (ok':=fun k_ => some k_≠(v782 : Value).ownBlock∧some k_≠(v797 : Value).ownBlock∧some k_≠(.slice Ao40 t789.length co40 : Value).ownBlock∧some k_≠(.slice Ao70 t806.length co70 : Value).ownBlock∧some k_≠(.slice Ao73 t810.length co73 : Value).ownBlock) (Kd.R_keptB (HO_12.out) hkp (fun k_ hk_ hs_ => by first|with_reducible exact hk_.2.2.1 hs_|with_reducible exact hk_ hs_|with_reducible exact hk_.1 hs_|with_reducible exact hk_.2 hs_|with_reducible exact hk_.2.1 hs_|with_reducible exact hk_.2.2 hs_|with_reducible exact hk_.2.2.1 hs_|with_reducible exact hk_.2.2.2 hs_|with_reducible exact hk_.1.1 hs_|with_reducible exact hk_.1.2 hs_|exact hk_.2.2.1 hs_|exact hk_ hs_)) (fun k_ hk_ => by first|with_reducible exact ⟨hk_.1.1,hk_.1.2.1,hk_.1.2.2.1,hk_.1.2.2.2.1,hk_.1.2.2.2.2⟩|(simp only [and_assoc] at hk_;first|with_reducible exact ⟨hk_.1,hk_.2.1,hk_.2.2.1,hk_.2.2.2.1,hk_.2.2.2.2.1⟩|(refine ⟨?_,?_,?_,?_,?_⟩ <;> first|with_reducible exact hk_.1|with_reducible exact hk_.2.1|with_reducible exact hk_.2.2.1|with_reducible exact hk_.2.2.2.1|with_reducible exact hk_.2.2.2.2.1|with_reducible exact hk_.2.2.2.2.2.1|with_reducible exact hk_.2.2.2.2.2.2.1|with_reducible exact hk_.2.2.2.2.2.2.2.1|with_reducible exact hk_.2|with_reducible exact hk_.2.2|with_reducible exact hk_.2.2.2|with_reducible exact hk_.2.2.2.2|with_reducible exact hk_.2.2.2.2.2|with_reducible exact hk_.2.2.2.2.2.2|with_reducible exact hk_.2.2.2.2.2.2.2|with_reducible exact hk_.2.2.2.2.2.2.2.2))));have n3_:=am (Kd.R_mono (ok':=fun k_ => some k_≠(v782 : Value).ownBlock∧some k_≠(.slice Ao44 t793.length co44 : Value).ownBlock∧some k_≠(.slice Ao40 t789.length co40 : Value).ownBlock∧some k_≠(.slice Ao70 t806.length co70 : Value).ownBlock∧some k_≠(.slice Ao73 t810.length co73 : Value).ownBlock) (Kd.R_keptB (HO_13.out) hkp (fun k_ hk_ hs_ => by first|with_reducible exact hk_.2.2.1 hs_|with_reducible exact hk_ hs_|with_reducible exact hk_.1 hs_|with_reducible exact hk_.2 hs_|with_reducible exact hk_.2.1 hs_|with_reducible exact hk_.2.2 hs_|with_reducible exact hk_.2.2.1 hs_|with_reducible exact hk_.2.2.2 hs_|with_reducible exact hk_.1.1 hs_|with_reducible exact hk_.1.2 hs_|exact hk_.2.2.1 hs_|exact hk_ hs_)) (fun k_ hk_ => by first|with_reducible exact ⟨hk_.1.1,hk_.1.2.1,hk_.1.2.2.1,hk_.1.2.2.2.1,hk_.1.2.2.2.2⟩|(simp only [and_assoc] at hk_;first|with_reducible exact ⟨hk_.1,hk_.2.1,hk_.2.2.1,hk_.2.2.2.1,hk_.2.2.2.2.1⟩|(refine ⟨?_,?_,?_,?_,?_⟩ <;> first|with_reducible exact hk_.1|with_reducible exact hk_.2.1|with_reducible exact hk_.2.2.1|with_reducible exact hk_.2.2.2.1|with_reducible exact hk_.2.2.2.2.1|with_reducible exact hk_.2.2.2.2.2.1|with_reducible exact hk_.2.2.2.2.2.2.1|with_reducible exact hk_.2.2.2.2.2.2.2.1|with_reducible exact hk_.2|with_reducible exact hk_.2.2|with_reducible exact hk_.2.2.2|with_reducible exact hk_.2.2.2.2|with_reducible exact hk_.2.2.2.2.2|with_reducible exact hk_.2.2.2.2.2.2|with_reducible exact hk_.2.2.2.2.2.2.2|with_reducible exact hk_.2.2.2.2.2.2.2.2))));have n4_:=am (Kd.R_reok rfl hy0 (fun k_ e_ => HO_793001.out.1 k_ e_));have n5_:=am (blk_kept (bup BK768.out) hkp (fun hs_ => (fun e_ => (Kd.R_ne HO_793001.out BK768.out (by decide)) e_) hs_));have n6_:=am (blk_kept (bup BK792.out) hkp (fun hs_ => (fun e_ => (Kd.R_ne HO_793001.out BK792.out (by decide)) e_) hs_));have n7_:=am (Kd.R_mono (ok':=fun k_ => some k_≠(.slice Ao43 t785.length co43 : Value).ownBlock) (Kd.R_keptB ((Kd.R_apart' HO803.out (Kd.R_typed HO_793001.out) (by decide))) hkp (fun k_ hk_ hs_ => by first|with_reducible exact hk_.2 hs_|with_reducible exact hk_ hs_|with_reducible exact hk_.1 hs_|with_reducible exact hk_.2 hs_|with_reducible exact hk_.2.1 hs_|with_reducible exact hk_.2.2 hs_|with_reducible exact hk_.2.2.1 hs_|with_reducible exact hk_.2.2.2 hs_|with_reducible exact hk_.1.1 hs_|with_reducible exact hk_.1.2 hs_|exact hk_.2 hs_|exact hk_ hs_)) (fun k_ hk_ => by first|with_reducible exact hk_.1.1|with_reducible exact hk_.1|with_reducible exact hk_.1.1|with_reducible exact hk_.1.1.1|with_reducible exact hk_.2|with_reducible exact hk_.1.2|exact hk_.1.1));have n8_:=am (Kd.R_mono (ok':=fun k_ => some k_≠(v782 : Value).ownBlock∧some k_≠(.slice Ao44 t793.length co44 : Value).ownBlock∧some k_≠(v797 : Value).ownBlock∧some k_≠(.slice Ao40 t789.length co40 : Value).ownBlock∧some k_≠(.slice Ao73 t810.length co73 : Value).ownBlock) (Kd.R_keptB (HO808.out) hkp (fun k_ hk_ hs_ => by first|with_reducible exact hk_.2.2.2.1 hs_|with_reducible exact hk_ hs_|with_reducible exact hk_.1 hs_|with_reducible exact hk_.2 hs_|with_reducible exact hk_.2.1 hs_|with_reducible exact hk_.2.2 hs_|with_reducible exact hk_.2.2.1 hs_|with_reducible exact hk_.2.2.2 hs_|with_reducible exact hk_.1.1 hs_|with_reducible exact hk_.1.2 hs_|exact hk_.2.2.2.1 hs_|exact hk_ hs_)) (fun k_ hk_ => by first|with_reducible exact ⟨hk_.1.1,hk_.1.2.1,hk_.1.2.2.1,hk_.1.2.2.2.1,hk_.1.2.2.2.2⟩|(simp only [and_assoc] at hk_;first|with_reducible exact ⟨hk_.1,hk_.2.1,hk_.2.2.1,hk_.2.2.2.1,hk_.2.2.2.2.1⟩|(refine ⟨?_,?_,?_,?_,?_⟩ <;> first|with_reducible exact hk_.1|with_reducible exact hk_.2.1|with_reducible exact hk_.2.2.1|with_reducible exact hk_.2.2.2.1|with_reducible exact hk_.2.2.2.2.1|with_reducible exact hk_.2.2.2.2.2.1|with_reducible exact hk_.2.2.2.2.2.2.1|with_reducible exact hk_.2.2.2.2.2.2.2.1|with_reducible exact hk_.2|with_reducible exact hk_.2.2|with_reducible exact hk_.2.2.2|with_reducible exact hk_.2.2.2.2|with_reducible exact hk_.2.2.2.2.2|with_reducible exact hk_.2.2.2.2.2.2|with_reducible exact hk_.2.2.2.2.2.2.2|with_reducible exact hk_.2.2.2.2.2.2.2.2))));have n9_:=am (Kd.R_mono (ok':=fun k_ => some k_≠(v782 : Value).ownBlock∧some k_≠(.slice Ao44 t793.length co44 : Value).ownBlock∧some k_≠(v797 : Value).ownBlock∧some k_≠(.slice Ao40 t789.length co40 : Value).ownBlock∧some k_≠(.slice Ao70 t806.length co70 : Value).ownBlock) (Kd.R_keptB (HO812.out) hkp (fun k_ hk_ hs_ => by first|with_reducible exact hk_.2.2.2.1 hs_|with_reducible exact hk_ hs_|with_reducible exact hk_.1 hs_|with_reducible exact hk_.2 hs_|with_reducible exact hk_.2.1 hs_|with_reducible exact hk_.2.2 hs_|with_reducible exact hk_.2.2.1 hs_|with_reducible exact hk_.2.2.2 hs_|with_reducible exact hk_.1.1 hs_|with_reducible exact hk_.1.2 hs_|exact hk_.2.2.2.1 hs_|exact hk_ hs_)) (fun k_ hk_ => by first|with_reducible exact ⟨hk_.1.1,hk_.1.2.1,hk_.1.2.2.1,hk_.1.2.2.2.1,hk_.1.2.2.2.2⟩|(simp only [and_assoc] at hk_;first|with_reducible exact ⟨hk_.1,hk_.2.1,hk_.2.2.1,hk_.2.2.2.1,hk_.2.2.2.2.1⟩|(refine ⟨?_,?_,?_,?_,?_⟩ <;> first|with_reducible exact hk_.1|with_reducible exact hk_.2.1|with_reducible exact hk_.2.2.1|with_reducible exact hk_.2.2.2.1|with_reducible exact hk_.2.2.2.2.1|with_reducible exact hk_.2.2.2.2.2.1|with_reducible exact hk_.2.2.2.2.2.2.1|with_reducible exact hk_.2.2.2.2.2.2.2.1|with_reducible exact hk_.2|with_reducible exact hk_.2.2|with_reducible exact hk_.2.2.2|with_reducible exact hk_.2.2.2.2|with_reducible exact hk_.2.2.2.2.2|with_reducible exact hk_.2.2.2.2.2.2|with_reducible exact hk_.2.2.2.2.2.2.2|with_reducible exact hk_.2.2.2.2.2.2.2.2))));have n10_:=am (hb);clear HO_8 HO_10 HO_12 HO_13 HO_793001 BK768 BK792 HO803 HO808 HO812 HB;have HO_8:=n0_;have HO_10:=n1_;have HO_12:=n2_;have HO_13:=n3_;have HO_793001:=n4_;have BK768:=n5_;have BK792:=n6_;have HO803:=n7_;have HO808:=n8_;have HO812:=n9_;have HB:=n10_;clear n0_ n1_ n2_ n3_ n4_ n5_ n6_ n7_ n8_ n9_ n10_;(try clear hb);(try clear hkp);(try clear hy0))|((with_reducible refine gate_callee (f:=29) rfl ?_);refine goesL_ (some 88) rfl rfl Tryd.func29 (by kernel_rfl) rfl #[.slice Ao44 t793.length co44,.int .i64 t816] rfl (by (try simp only [List.map_toArray,List.map_cons,List.map_nil]);first|done|rfl|(simp only [List.length_drop,List.length_take];rfl)) ?_;(with_reducible refine (laws_markInt64S.calls kj21 (fun k_ => some k_ = (.slice Ao44 t793.length co44 : Value).ownBlock) (.slice Ao44 t793.length co44) t793 t816 t818 t819 w _ ?side1 ?side2 A64.out).mono ?_);(case side1 => repeat (first|(with_reducible first|exact HB.out|apply below_alloc|apply pw_below_drewN|apply below_drew1|refine below_set ?_ GE768.out|refine below_set ?_ GE792.out)|exact HB.out));(case side2 => exact Kd.R_tight rfl HO_12.out);rintro e w78 ⟨rfl,hy0,hb,hkp⟩;refine ⟨_,rfl,?_⟩;have n0_:=am (Kd.R_mono (ok':=fun k_ => some k_≠(.slice Ao44 t793.length co44 : Value).ownBlock∧some k_≠(v797 : Value).ownBlock∧some k_≠(.slice Ao40 t789.length co40 : Value).ownBlock∧some k_≠(.slice Ao70 t806.length co70 : Value).ownBlock∧some k_≠(.slice Ao73 t810.length co73 : Value).ownBlock) (Kd.R_keptB (HO_8.out) hkp (fun k_ hk_ hs_ => by first|with_reducible exact hk_.1 hs_|with_reducible exact hk_ hs_|with_reducible exact hk_.1 hs_|with_reducible exact hk_.2 hs_|with_reducible exact hk_.2.1 hs_|with_reducible exact hk_.2.2 hs_|with_reducible exact hk_.2.2.1 hs_|with_reducible exact hk_.2.2.2 hs_|with_reducible exact hk_.1.1 hs_|with_reducible exact hk_.1.2 hs_|exact hk_.1 hs_|exact hk_ hs_)) (fun k_ hk_ => by first|with_reducible exact ⟨hk_.1.1,hk_.1.2.1,hk_.1.2.2.1,hk_.1.2.2.2.1,hk_.1.2.2.2.2⟩|(simp only [and_assoc] at hk_;first|with_reducible exact ⟨hk_.1,hk_.2.1,hk_.2.2.1,hk_.2.2.2.1,hk_.2.2.2.2.1⟩|(refine ⟨?_,?_,?_,?_,?_⟩ <;> first|with_reducible exact hk_.1|with_reducible exact hk_.2.1|with_reducible exact hk_.2.2.1|with_reducible exact hk_.2.2.2.1|with_reducible exact hk_.2.2.2.2.1|with_reducible exact hk_.2.2.2.2.2.1|with_reducible exact hk_.2.2.2.2.2.2.1|with_reducible exact hk_.2.2.2.2.2.2.2.1|with_reducible exact hk_.2|with_reducible exact hk_.2.2|with_reducible exact hk_.2.2.2|with_reducible exact hk_.2.2.2.2|with_reducible exact hk_.2.2.2.2.2|with_reducible exact hk_.2.2.2.2.2.2|with_reducible exact hk_.2.2.2.2.2.2.2|with_reducible exact hk_.2.2.2.2.2.2.2.2))));have n1_:=am (Kd.R_mono (ok':=fun k_ => some k_≠(.slice Ao67 t801.length co67 : Value).ownBlock) (Kd.R_keptB ((Kd.R_apart' HO_10.out (Kd.R_typed HO_12.out) (by decide))) hkp (fun k_ hk_ hs_ => by first|with_reducible exact hk_.2 hs_|with_reducible exact hk_ hs_|with_reducible exact hk_.1 hs_|with_reducible exact hk_.2 hs_|with_reducible exact hk_.2.1 hs_|with_reducible exact hk_.2.2 hs_|with_reducible exact hk_.2.2.1 hs_|with_reducible exact hk_.2.2.2 hs_|with_reducible exact hk_.1.1 hs_|with_reducible exact hk_.1.2 hs_|exact hk_.2 hs_|exact hk_ hs_)) (fun k_ hk_ => by first|with_reducible exact hk_.1.1|with_reducible exact hk_.1|with_reducible exact hk_.1.1|with_reducible exact hk_.1.1.1|with_reducible exact hk_.2|with_reducible exact hk_.1.2|exact hk_.1.1));have n2_:=am (Kd.R_reok rfl hy0 (fun k_ e_ => HO_12.out.1 k_ e_));have n3_:=am (Kd.R_mono (ok':=fun k_ => some k_≠(v782 : Value).ownBlock∧some k_≠(.slice Ao44 t793.length co44 : Value).ownBlock∧some k_≠(.slice Ao40 t789.length co40 : Value).ownBlock∧some k_≠(.slice Ao70 t806.length co70 : Value).ownBlock∧some k_≠(.slice Ao73 t810.length co73 : Value).ownBlock) (Kd.R_keptB (HO_13.out) hkp (fun k_ hk_ hs_ => by first|with_reducible exact hk_.2.1 hs_|with_reducible exact hk_ hs_|with_reducible exact hk_.1 hs_|with_reducible exact hk_.2 hs_|with_reducible exact hk_.2.1 hs_|with_reducible exact hk_.2.2 hs_|with_reducible exact hk_.2.2.1 hs_|with_reducible exact hk_.2.2.2 hs_|with_reducible exact hk_.1.1 hs_|with_reducible exact hk_.1.2 hs_|exact hk_.2.1 hs_|exact hk_ hs_)) (fun k_ hk_ => by first|with_reducible exact ⟨hk_.1.1,hk_.1.2.1,hk_.1.2.2.1,hk_.1.2.2.2.1,hk_.1.2.2.2.2⟩|(simp only [and_assoc] at hk_;first|with_reducible exact ⟨hk_.1,hk_.2.1,hk_.2.2.1,hk_.2.2.2.1,hk_.2.2.2.2.1⟩|(refine ⟨?_,?_,?_,?_,?_⟩ <;> first|with_reducible exact hk_.1|with_reducible exact hk_.2.1|with_reducible exact hk_.2.2.1|with_reducible exact hk_.2.2.2.1|with_reducible exact hk_.2.2.2.2.1|with_reducible exact hk_.2.2.2.2.2.1|with_reducible exact hk_.2.2.2.2.2.2.1|with_reducible exact hk_.2.2.2.2.2.2.2.1|with_reducible exact hk_.2|with_reducible exact hk_.2.2|with_reducible exact hk_.2.2.2|with_reducible exact hk_.2.2.2.2|with_reducible exact hk_.2.2.2.2.2|with_reducible exact hk_.2.2.2.2.2.2|with_reducible exact hk_.2.2.2.2.2.2.2|with_reducible exact hk_.2.2.2.2.2.2.2.2))));have n4_:=am (Kd.R_mono (ok':=fun k_ => some k_≠(v782 : Value).ownBlock∧some k_≠(.slice Ao44 t793.length co44 : Value).ownBlock∧some k_≠(v797 : Value).ownBlock∧some k_≠(.slice Ao70 t806.length co70 : Value).ownBlock∧some k_≠(.slice Ao73 t810.length co73 : Value).ownBlock) (Kd.R_keptB (HO_793001.out) hkp (fun k_ hk_ hs_ => by first|with_reducible exact hk_.2.1 hs_|with_reducible exact hk_ hs_|with_reducible exact hk_.1 hs_|with_reducible exact hk_.2 hs_|with_reducible exact hk_.2.1 hs_|with_reducible exact hk_.2.2 hs_|with_reducible exact hk_.2.2.1 hs_|with_reducible exact hk_.2.2.2 hs_|with_reducible exact hk_.1.1 hs_|with_reducible exact hk_.1.2 hs_|exact hk_.2.1 hs_|exact hk_ hs_)) (fun k_ hk_ => by first|with_reducible exact ⟨hk_.1.1,hk_.1.2.1,hk_.1.2.2.1,hk_.1.2.2.2.1,hk_.1.2.2.2.2⟩|(simp only [and_assoc] at hk_;first|with_reducible exact ⟨hk_.1,hk_.2.1,hk_.2.2.1,hk_.2.2.2.1,hk_.2.2.2.2.1⟩|(refine ⟨?_,?_,?_,?_,?_⟩ <;> first|with_reducible exact hk_.1|with_reducible exact hk_.2.1|with_reducible exact hk_.2.2.1|with_reducible exact hk_.2.2.2.1|with_reducible exact hk_.2.2.2.2.1|with_reducible exact hk_.2.2.2.2.2.1|with_reducible exact hk_.2.2.2.2.2.2.1|with_reducible exact hk_.2.2.2.2.2.2.2.1|with_reducible exact hk_.2|with_reducible exact hk_.2.2|with_reducible exact hk_.2.2.2|with_reducible exact hk_.2.2.2.2|with_reducible exact hk_.2.2.2.2.2|with_reducible exact hk_.2.2.2.2.2.2|with_reducible exact hk_.2.2.2.2.2.2.2|with_reducible exact hk_.2.2.2.2.2.2.2.2))));have n5_:=am (blk_kept (bup BK768.out) hkp (fun hs_ => (fun e_ => (Kd.R_ne HO_12.out BK768.out (by decide)) e_) hs_));have n6_:=am (blk_kept (bup BK792.out) hkp (fun hs_ => (fun e_ => (Kd.R_ne HO_12.out BK792.out (by decide)) e_) hs_));have n7_:=am (Kd.R_mono (ok':=fun k_ => some k_≠(.slice Ao43 t785.length co43 : Value).ownBlock) (Kd.R_keptB ((Kd.R_apart' HO803.out (Kd.R_typed HO_12.out) (by decide))) hkp (fun k_ hk_ hs_ => by first|with_reducible exact hk_.2 hs_|with_reducible exact hk_ hs_|with_reducible exact hk_.1 hs_|with_reducible exact hk_.2 hs_|with_reducible exact hk_.2.1 hs_|with_reducible exact hk_.2.2 hs_|with_reducible exact hk_.2.2.1 hs_|with_reducible exact hk_.2.2.2 hs_|with_reducible exact hk_.1.1 hs_|with_reducible exact hk_.1.2 hs_|exact hk_.2 hs_|exact hk_ hs_)) (fun k_ hk_ => by first|with_reducible exact hk_.1.1|with_reducible exact hk_.1|with_reducible exact hk_.1.1|with_reducible exact hk_.1.1.1|with_reducible exact hk_.2|with_reducible exact hk_.1.2|exact hk_.1.1));have n8_:=am (Kd.R_mono (ok':=fun k_ => some k_≠(v782 : Value).ownBlock∧some k_≠(.slice Ao44 t793.length co44 : Value).ownBlock∧some k_≠(v797 : Value).ownBlock∧some k_≠(.slice Ao40 t789.length co40 : Value).ownBlock∧some k_≠(.slice Ao73 t810.length co73 : Value).ownBlock) (Kd.R_keptB (HO808.out) hkp (fun k_ hk_ hs_ => by first|with_reducible exact hk_.2.1 hs_|with_reducible exact hk_ hs_|with_reducible exact hk_.1 hs_|with_reducible exact hk_.2 hs_|with_reducible exact hk_.2.1 hs_|with_reducible exact hk_.2.2 hs_|with_reducible exact hk_.2.2.1 hs_|with_reducible exact hk_.2.2.2 hs_|with_reducible exact hk_.1.1 hs_|with_reducible exact hk_.1.2 hs_|exact hk_.2.1 hs_|exact hk_ hs_)) (fun k_ hk_ => by first|with_reducible exact ⟨hk_.1.1,hk_.1.2.1,hk_.1.2.2.1,hk_.1.2.2.2.1,hk_.1.2.2.2.2⟩|(simp only [and_assoc] at hk_;first|with_reducible exact ⟨hk_.1,hk_.2.1,hk_.2.2.1,hk_.2.2.2.1,hk_.2.2.2.2.1⟩|(refine ⟨?_,?_,?_,?_,?_⟩ <;> first|with_reducible exact hk_.1|with_reducible exact hk_.2.1|with_reducible exact hk_.2.2.1|with_reducible exact hk_.2.2.2.1|with_reducible exact hk_.2.2.2.2.1|with_reducible exact hk_.2.2.2.2.2.1|with_reducible exact hk_.2.2.2.2.2.2.1|with_reducible exact hk_.2.2.2.2.2.2.2.1|with_reducible exact hk_.2|with_reducible exact hk_.2.2|with_reducible exact hk_.2.2.2|with_reducible exact hk_.2.2.2.2|with_reducible exact hk_.2.2.2.2.2|with_reducible exact hk_.2.2.2.2.2.2|with_reducible exact hk_.2.2.2.2.2.2.2|with_reducible exact hk_.2.2.2.2.2.2.2.2))));have n9_:=am (Kd.R_mono (ok':=fun k_ => some k_≠(v782 : Value).ownBlock∧some k_≠(.slice Ao44 t793.length co44 : Value).ownBlock∧some k_≠(v797 : Value).ownBlock∧some k_≠(.slice Ao40 t789.length co40 : Value).ownBlock∧some k_≠(.slice Ao70 t806.length co70 : Value).ownBlock) (Kd.R_keptB (HO812.out) hkp (fun k_ hk_ hs_ => by first|with_reducible exact hk_.2.1 hs_|with_reducible exact hk_ hs_|with_reducible exact hk_.1 hs_|with_reducible exact hk_.2 hs_|with_reducible exact hk_.2.1 hs_|with_reducible exact hk_.2.2 hs_|with_reducible exact hk_.2.2.1 hs_|with_reducible exact hk_.2.2.2 hs_|with_reducible exact hk_.1.1 hs_|with_reducible exact hk_.1.2 hs_|exact hk_.2.1 hs_|exact hk_ hs_)) (fun k_ hk_ => by first|with_reducible exact ⟨hk_.1.1,hk_.1.2.1,hk_.1.2.2.1,hk_.1.2.2.2.1,hk_.1.2.2.2.2⟩|(simp only [and_assoc] at hk_;first|with_reducible exact ⟨hk_.1,hk_.2.1,hk_.2.2.1,hk_.2.2.2.1,hk_.2.2.2.2.1⟩|(refine ⟨?_,?_,?_,?_,?_⟩ <;> first|with_reducible exact hk_.1|with_reducible exact hk_.2.1|with_reducible exact hk_.2.2.1|with_reducible exact hk_.2.2.2.1|with_reducible exact hk_.2.2.2.2.1|with_reducible exact hk_.2.2.2.2.2.1|with_reducible exact hk_.2.2.2.2.2.2.1|with_reducible exact hk_.2.2.2.2.2.2.2.1|with_reducible exact hk_.2|with_reducible exact hk_.2.2|with_reducible exact hk_.2.2.2|with_reducible exact hk_.2.2.2.2|with_reducible exact hk_.2.2.2.2.2|with_reducible exact hk_.2.2.2.2.2.2|with_reducible exact hk_.2.2.2.2.2.2.2|with_reducible exact hk_.2.2.2.2.2.2.2.2))));have n10_:=am (hb);clear HO_8 HO_10 HO_12 HO_13 HO_793001 BK768 BK792 HO803 HO808 HO812 HB;have HO_8:=n0_;have HO_10:=n1_;have HO_12:=n2_;have HO_13:=n3_;have HO_793001:=n4_;have BK768:=n5_;have BK792:=n6_;have HO803:=n7_;have HO808:=n8_;have HO812:=n9_;have HB:=n10_;clear n0_ n1_ n2_ n3_ n4_ n5_ n6_ n7_ n8_ n9_ n10_;(try clear hb);(try clear hkp);(try clear hy0)))
          (try simp only [Act.put,List.setIfInBounds_toArray,List.set_cons_zero,List.set_cons_succ])
          go_cut [101] (fun v101 wc => ∃ (kq : Nat) (x101_64 : Bool),v101 = .bool x101_64∧Aside0 (laws_FnExactYoungClosure.j1 kq l0 l2 t781 t784 t796 x101_64 a1_0 l1_1 = some r)∧Aside0 (kq ≤ kj21)∧Aside0 (Kd.R (Kd.int .i64) 2 wc w.heap.size (fun k_ => some k_≠(v797 : Value).ownBlock∧some k_≠((.slice Ao40 t789.length co40) : Value).ownBlock) v782 t781)∧Aside0 (Kd.R (Kd.int .i64) 2 wc w.heap.size (fun k_ => some k_≠(v782 : Value).ownBlock∧some k_≠((.slice Ao40 t789.length co40) : Value).ownBlock) v797 t796)∧Aside0 (Kd.R (Kd.int .i64) 2 wc w.heap.size (fun k_ => some k_≠(v782 : Value).ownBlock∧some k_≠(v797 : Value).ownBlock) (.slice Ao40 t789.length co40) t817)∧Aside0 (wc.heap[gb768]? = some (.cells #[.int .i64 a1_0,(.slice A1_1 l1_1.length c1_1)] 25 (0,0)))∧Aside0 (wc.heap[gb792]? = some (.cells #[.int .i64 t788,(.slice Ao40 t789.length co40)] 30 (0,0)))∧Aside0 (Below w.heap.size w wc))
          case first =>
           have H:=HC65.out
           clear HC65
           by_cases c79 : t818 < 0
           ·rw [if_pos c79] at H
            have c79b0 : decide (t818 < 0) = true:=decide_eq_true c79
            clear c79
            (first|rw [c79b0]|(simp only [i64_w,i32_w];rw [c79b0])|skip)
            have H':=am H
            clear H
            go_wp2
            go_meet
            case rel => exact ⟨_,(true),(by first|rfl|(simp;done)|(simp [*];done)),H',⟨by have:=HJ21.out;first|omega|exact Nat.le_refl _⟩,⟨kup (Kd.R_mono HO_8.out (fun _ hk => by first|exact ⟨hk.2.1,hk.2.2.1⟩|(refine ⟨?_,?_⟩ <;> first|with_reducible exact hk.2|with_reducible exact hk.1.2|with_reducible exact hk.1.1.2|with_reducible exact hk.1.1.1.2|with_reducible exact hk.1.1.1.1.2|with_reducible exact hk.1.1.1.1.1.2|with_reducible exact hk|with_reducible exact hk.1|with_reducible exact hk.1.1|with_reducible exact hk.1.1.1|with_reducible exact hk.1.1.1.1|with_reducible exact hk.1.1.1.1.1|with_reducible exact trivial|exact Option.some_ne_none _)))⟩,⟨kup (Kd.R_mono HO_13.out (fun _ hk => by first|exact ⟨hk.1,hk.2.2.1⟩|(refine ⟨?_,?_⟩ <;> first|with_reducible exact hk.2|with_reducible exact hk.1.2|with_reducible exact hk.1.1.2|with_reducible exact hk.1.1.1.2|with_reducible exact hk.1.1.1.1.2|with_reducible exact hk.1.1.1.1.1.2|with_reducible exact hk|with_reducible exact hk.1|with_reducible exact hk.1.1|with_reducible exact hk.1.1.1|with_reducible exact hk.1.1.1.1|with_reducible exact hk.1.1.1.1.1|with_reducible exact trivial|exact Option.some_ne_none _)))⟩,⟨kup (Kd.R_mono HO_793001.out (fun _ hk => by first|exact ⟨hk.1,hk.2.2.1⟩|(refine ⟨?_,?_⟩ <;> first|with_reducible exact hk.2|with_reducible exact hk.1.2|with_reducible exact hk.1.1.2|with_reducible exact hk.1.1.1.2|with_reducible exact hk.1.1.1.1.2|with_reducible exact hk.1.1.1.1.1.2|with_reducible exact hk|with_reducible exact hk.1|with_reducible exact hk.1.1|with_reducible exact hk.1.1.1|with_reducible exact hk.1.1.1.1|with_reducible exact hk.1.1.1.1.1|with_reducible exact trivial|exact Option.some_ne_none _)))⟩,⟨bup BK768.out⟩,⟨bup BK792.out⟩,⟨lup HB.out⟩⟩
           ·rw [if_neg c79] at H
            have c79b0 : decide (t818 < 0) = false:=decide_eq_false c79
            clear c79
            (first|rw [c79b0]|(simp only [i64_w,i32_w];rw [c79b0])|skip)
            replace H:=Option.bind_eq_some_iff.mp H
            obtain ⟨t820,A800,H⟩:=H
            try dsimp only at H
            have A80:=am A800
            clear A800
            by_cases c81 : t820 = true
            ·subst c81
             have H1:=H;rw [if_pos rfl] at H1
             clear H
             have H:=H1
             clear H1
             have H':=am H
             clear H
             obtain ⟨Ao82,co82,eo82⟩:=Kd.R_slice HO_13.out
             subst eo82
             obtain ⟨Ao83,co83,eo83⟩:=Kd.R_slice HO_8.out
             subst eo83
             go_wp2_with (first|(go_at_call 26;(with_reducible refine (laws_eqInt64S.calls kj21 _ _ t796 _ _ t781 true _ ?side1 ?side2 ?side3 ?side4 A80.out).mono ?_);(case side1 => repeat (first|exact (Kd.R_reads' HO_13.out).2.2|(with_reducible first|refine Kd.C_alloc ?_ _|refine Kd.C_drewN ?_ _|refine Kd.C_drew ?_)));(case side2 => exact (Kd.R_reads' HO_13.out).2.1);(case side3 => repeat (first|exact (Kd.R_reads' HO_8.out).2.2|(with_reducible first|refine Kd.C_alloc ?_ _|refine Kd.C_drewN ?_ _|refine Kd.C_drew ?_)));(case side4 => exact (Kd.R_reads' HO_8.out).2.1);rintro e w' ⟨rfl,⟨nd,rfl⟩⟩))
             go_meet
             case rel => exact ⟨_,((t799 != t784)),(by first|rfl|(simp;done)|(simp [*];done)),H',⟨by have:=HJ21.out;first|omega|exact Nat.le_refl _⟩,⟨kup (Kd.R_mono HO_8.out (fun _ hk => by first|exact ⟨hk.2.1,hk.2.2.1⟩|(refine ⟨?_,?_⟩ <;> first|with_reducible exact hk.2|with_reducible exact hk.1.2|with_reducible exact hk.1.1.2|with_reducible exact hk.1.1.1.2|with_reducible exact hk.1.1.1.1.2|with_reducible exact hk.1.1.1.1.1.2|with_reducible exact hk|with_reducible exact hk.1|with_reducible exact hk.1.1|with_reducible exact hk.1.1.1|with_reducible exact hk.1.1.1.1|with_reducible exact hk.1.1.1.1.1|with_reducible exact trivial|exact Option.some_ne_none _)))⟩,⟨kup (Kd.R_mono HO_13.out (fun _ hk => by first|exact ⟨hk.1,hk.2.2.1⟩|(refine ⟨?_,?_⟩ <;> first|with_reducible exact hk.2|with_reducible exact hk.1.2|with_reducible exact hk.1.1.2|with_reducible exact hk.1.1.1.2|with_reducible exact hk.1.1.1.1.2|with_reducible exact hk.1.1.1.1.1.2|with_reducible exact hk|with_reducible exact hk.1|with_reducible exact hk.1.1|with_reducible exact hk.1.1.1|with_reducible exact hk.1.1.1.1|with_reducible exact hk.1.1.1.1.1|with_reducible exact trivial|exact Option.some_ne_none _)))⟩,⟨kup (Kd.R_mono HO_793001.out (fun _ hk => by first|exact ⟨hk.1,hk.2.2.1⟩|(refine ⟨?_,?_⟩ <;> first|with_reducible exact hk.2|with_reducible exact hk.1.2|with_reducible exact hk.1.1.2|with_reducible exact hk.1.1.1.2|with_reducible exact hk.1.1.1.1.2|with_reducible exact hk.1.1.1.1.1.2|with_reducible exact hk|with_reducible exact hk.1|with_reducible exact hk.1.1|with_reducible exact hk.1.1.1|with_reducible exact hk.1.1.1.1|with_reducible exact hk.1.1.1.1.1|with_reducible exact trivial|exact Option.some_ne_none _)))⟩,⟨bup BK768.out⟩,⟨bup BK792.out⟩,⟨lup HB.out⟩⟩
            ·replace c81:=Bool.eq_false_iff.mpr c81
             subst c81
             have H1 : (laws_FnExactYoungClosure.j1 kj21 l0 l2 t781 t784 t796 true a1_0 l1_1) = some r:=by rw [if_neg (show ¬ (false = true) by decide)] at H;exact H
             clear H
             have H:=H1
             clear H1
             have H':=am H
             clear H
             obtain ⟨Ao84,co84,eo84⟩:=Kd.R_slice HO_13.out
             subst eo84
             obtain ⟨Ao85,co85,eo85⟩:=Kd.R_slice HO_8.out
             subst eo85
             go_wp2_with (first|(go_at_call 26;(with_reducible refine (laws_eqInt64S.calls kj21 _ _ t796 _ _ t781 false _ ?side1 ?side2 ?side3 ?side4 A80.out).mono ?_);(case side1 => repeat (first|exact (Kd.R_reads' HO_13.out).2.2|(with_reducible first|refine Kd.C_alloc ?_ _|refine Kd.C_drewN ?_ _|refine Kd.C_drew ?_)));(case side2 => exact (Kd.R_reads' HO_13.out).2.1);(case side3 => repeat (first|exact (Kd.R_reads' HO_8.out).2.2|(with_reducible first|refine Kd.C_alloc ?_ _|refine Kd.C_drewN ?_ _|refine Kd.C_drew ?_)));(case side4 => exact (Kd.R_reads' HO_8.out).2.1);rintro e w' ⟨rfl,⟨nd,rfl⟩⟩))
             go_meet
             case rel => exact ⟨_,(true),(by first|rfl|(simp;done)|(simp [*];done)),H',⟨by have:=HJ21.out;first|omega|exact Nat.le_refl _⟩,⟨kup (Kd.R_mono HO_8.out (fun _ hk => by first|exact ⟨hk.2.1,hk.2.2.1⟩|(refine ⟨?_,?_⟩ <;> first|with_reducible exact hk.2|with_reducible exact hk.1.2|with_reducible exact hk.1.1.2|with_reducible exact hk.1.1.1.2|with_reducible exact hk.1.1.1.1.2|with_reducible exact hk.1.1.1.1.1.2|with_reducible exact hk|with_reducible exact hk.1|with_reducible exact hk.1.1|with_reducible exact hk.1.1.1|with_reducible exact hk.1.1.1.1|with_reducible exact hk.1.1.1.1.1|with_reducible exact trivial|exact Option.some_ne_none _)))⟩,⟨kup (Kd.R_mono HO_13.out (fun _ hk => by first|exact ⟨hk.1,hk.2.2.1⟩|(refine ⟨?_,?_⟩ <;> first|with_reducible exact hk.2|with_reducible exact hk.1.2|with_reducible exact hk.1.1.2|with_reducible exact hk.1.1.1.2|with_reducible exact hk.1.1.1.1.2|with_reducible exact hk.1.1.1.1.1.2|with_reducible exact hk|with_reducible exact hk.1|with_reducible exact hk.1.1|with_reducible exact hk.1.1.1|with_reducible exact hk.1.1.1.1|with_reducible exact hk.1.1.1.1.1|with_reducible exact trivial|exact Option.some_ne_none _)))⟩,⟨kup (Kd.R_mono HO_793001.out (fun _ hk => by first|exact ⟨hk.1,hk.2.2.1⟩|(refine ⟨?_,?_⟩ <;> first|with_reducible exact hk.2|with_reducible exact hk.1.2|with_reducible exact hk.1.1.2|with_reducible exact hk.1.1.1.2|with_reducible exact hk.1.1.1.1.2|with_reducible exact hk.1.1.1.1.1.2|with_reducible exact hk|with_reducible exact hk.1|with_reducible exact hk.1.1|with_reducible exact hk.1.1.1|with_reducible exact hk.1.1.1.1|with_reducible exact hk.1.1.1.1.1|with_reducible exact trivial|exact Option.some_ne_none _)))⟩,⟨bup BK768.out⟩,⟨bup BK792.out⟩,⟨lup HB.out⟩⟩
          case rest =>
           clear HC65
           try clear c1
           try clear c2
           try clear p2
           try clear c3
           try clear c4
           try clear c4b0
           try clear c4b1
           try clear c5
           try clear c6
           try clear c7
           try clear c7b0
           try clear c8
           try clear c9
           try clear c10
           try clear c10b0
           try clear c16
           try clear c17
           try clear c19
           try clear c20
           try clear c22
           try clear c23
           try clear c26
           try clear c27
           try clear c28
           try clear c29
           try clear c38
           try clear c43
           try clear c44
           try clear c45
           try clear c47
           try clear c52
           try clear c55
           try clear c58
           try clear c61
           try clear c75
           try clear c79
           try clear c79b0
           try clear c81
           try clear hcz12_0
           try clear hcz12_1
           try clear hcz24_0
           try clear hcz24_1
           try clear hcz35_0
           try clear hcz35_1
           try clear hcz39_0
           try clear hcz39_1
           try clear hcz42_0
           try clear hcz42_1
           try clear hcz76_0
           try clear hcz76_1
           try clear hfz12_0
           try clear hfz12_1
           try clear hfz24_0
           try clear hfz24_1
           try clear hfz35_0
           try clear hfz35_1
           try clear hfz39_0
           try clear hfz39_1
           try clear hfz42_0
           try clear hfz42_1
           try clear hfz76_0
           try clear hfz76_1
           try clear p2
           obtain ⟨kq,x101_64,rfl,HA,HJ64,HO_8,HO_13,HO_793001,BK768,BK792,HB⟩:=hcut
           have hl793001_64:=(Kd.R_reads' HO_793001.out).1
           rw [hl793001_64] at HO_793001
           (try simp only [hl793001_64])
           (try simp only [hl793001_64] at BK768)
           (try simp only [hl793001_64] at BK792)
           (try simp only [hl793001_64] at HO_8)
           (try simp only [hl793001_64] at HO_13)
           cases kq with
           | zero => exact absurd HA.out (by simp [laws_FnExactYoungClosure.j1])
           | succ kj64 =>
            have H:=HA.out
            clear HA
            simp only [laws_FnExactYoungClosure.j1] at H
            by_cases c86 : x101_64 = true
            ·subst c86
             have H1:=H;rw [if_pos rfl] at H1
             clear H
             have H:=H1
             clear H1
             obtain rfl:=Option.some.inj H
             go_wp2
             go_ret
             exact ⟨by first|rfl|(simp [errW_none,errW_some] <;> rfl)|(simp [*,errW_none,errW_some] <;> rfl),by repeat (first|(with_reducible first|exact HB.out|apply below_alloc|apply pw_below_drewN|apply below_drew1|refine below_set ?_ GE768.out|refine below_set ?_ GE792.out)|exact HB.out)⟩
            ·replace c86:=Bool.eq_false_iff.mpr c86
             subst c86
             have H1 : ((laws_markInt64S.f kj64 t796 1).bind fun bt821 => ((laws_heldInt64S.f kj64 bt821.2 1).bind fun t823 => (if t823 < 0 then (some false) else (if t823 = bt821.1 then ((laws_toStringS.f kj64 l0).bind fun t824 => ((laws_toNursery.f kj64 a1_0 l1_1).bind fun bt827 => ((laws_toInt64S.f kj64 l2).bind fun t831 => ((impl_YoungClosure.f kj64 t824 bt827.1 bt827.2 t831).bind fun bt834 => ((laws_eqInt64S.f kj64 bt834.1 t781).bind fun t838 => (if t838 = true then (laws_FnExactYoungClosure.j2 kj64 bt821.2 bt821.1 (bt834.2 != t784)) else (laws_FnExactYoungClosure.j2 kj64 bt821.2 bt821.1 true))))))) else (some false))))) = some r:=by rw [if_neg (show ¬ (false = true) by decide)] at H;exact H
             clear H
             have H:=H1
             clear H1
             replace H:=Option.bind_eq_some_iff.mp H
             obtain ⟨⟨t821,t822⟩,A870,H⟩:=H
             try dsimp only at H
             have A87:=am A870
             clear A870
             replace H:=Option.bind_eq_some_iff.mp H
             obtain ⟨t823,A880,H⟩:=H
             try dsimp only at H
             have A88:=am A880
             clear A880
             by_cases c89 : t823 < 0
             ·rw [if_pos c89] at H
              have c89b0 : decide (t823 < 0) = true:=decide_eq_true c89
              clear c89
              obtain rfl:=Option.some.inj H
              obtain ⟨Ao90,co90,eo90⟩:=Kd.R_slice HO_13.out
              subst eo90
              go_wp2_with (first|((with_reducible refine gate_callee (f:=29) rfl ?_);refine goesL_ (some 104) rfl rfl Tryd.func29 (by kernel_rfl) rfl #[.slice Ao90 t796.length co90,.int .i64 1] rfl (by (try simp only [List.map_toArray,List.map_cons,List.map_nil]);first|done|rfl|(simp only [List.length_drop,List.length_take];rfl)) ?_;(with_reducible refine (laws_markInt64S.calls kj64 (fun k_ => some k_ = (.slice Ao90 t796.length co90 : Value).ownBlock) (.slice Ao90 t796.length co90) t796 1 t821 t822 w _ ?side1 ?side2 A87.out).mono ?_);(case side1 => repeat (first|(with_reducible first|exact HB.out|apply below_alloc|apply pw_below_drewN|apply below_drew1|refine below_set ?_ GE768.out|refine below_set ?_ GE792.out)|exact HB.out));(case side2 => exact Kd.R_tight rfl HO_13.out);rintro e w91 ⟨rfl,hy0,hb,hkp⟩;refine ⟨_,rfl,?_⟩;have n0_:=am (Kd.R_mono (ok':=fun k_ => some k_≠(.slice Ao90 t796.length co90 : Value).ownBlock∧some k_≠(.slice Ao40 t817.length co40 : Value).ownBlock) (Kd.R_keptB (HO_8.out) hkp (fun k_ hk_ hs_ => by first|with_reducible exact hk_.1 hs_|with_reducible exact hk_ hs_|with_reducible exact hk_.1 hs_|with_reducible exact hk_.2 hs_|with_reducible exact hk_.2.1 hs_|with_reducible exact hk_.2.2 hs_|with_reducible exact hk_.2.2.1 hs_|with_reducible exact hk_.2.2.2 hs_|with_reducible exact hk_.1.1 hs_|with_reducible exact hk_.1.2 hs_|exact hk_.1 hs_|exact hk_ hs_)) (fun k_ hk_ => by first|with_reducible exact ⟨hk_.1.1,hk_.1.2⟩|(simp only [and_assoc] at hk_;first|with_reducible exact ⟨hk_.1,hk_.2.1⟩|(refine ⟨?_,?_⟩ <;> first|with_reducible exact hk_.1|with_reducible exact hk_.2.1|with_reducible exact hk_.2.2.1|with_reducible exact hk_.2.2.2.1|with_reducible exact hk_.2.2.2.2.1|with_reducible exact hk_.2|with_reducible exact hk_.2.2|with_reducible exact hk_.2.2.2|with_reducible exact hk_.2.2.2.2|with_reducible exact hk_.2.2.2.2.2))));have n1_:=am (Kd.R_reok rfl hy0 (fun k_ e_ => HO_13.out.1 k_ e_));have n2_:=am (Kd.R_mono (ok':=fun k_ => some k_≠(v782 : Value).ownBlock∧some k_≠(.slice Ao90 t796.length co90 : Value).ownBlock) (Kd.R_keptB (HO_793001.out) hkp (fun k_ hk_ hs_ => by first|with_reducible exact hk_.2 hs_|with_reducible exact hk_ hs_|with_reducible exact hk_.1 hs_|with_reducible exact hk_.2 hs_|with_reducible exact hk_.2.1 hs_|with_reducible exact hk_.2.2 hs_|with_reducible exact hk_.2.2.1 hs_|with_reducible exact hk_.2.2.2 hs_|with_reducible exact hk_.1.1 hs_|with_reducible exact hk_.1.2 hs_|exact hk_.2 hs_|exact hk_ hs_)) (fun k_ hk_ => by first|with_reducible exact ⟨hk_.1.1,hk_.1.2⟩|(simp only [and_assoc] at hk_;first|with_reducible exact ⟨hk_.1,hk_.2.1⟩|(refine ⟨?_,?_⟩ <;> first|with_reducible exact hk_.1|with_reducible exact hk_.2.1|with_reducible exact hk_.2.2.1|with_reducible exact hk_.2.2.2.1|with_reducible exact hk_.2.2.2.2.1|with_reducible exact hk_.2|with_reducible exact hk_.2.2|with_reducible exact hk_.2.2.2|with_reducible exact hk_.2.2.2.2|with_reducible exact hk_.2.2.2.2.2))));have n3_:=am (blk_kept (bup BK768.out) hkp (fun hs_ => (fun e_ => (Kd.R_ne HO_13.out BK768.out (by decide)) e_) hs_));have n4_:=am (blk_kept (bup BK792.out) hkp (fun hs_ => (fun e_ => (Kd.R_ne HO_13.out BK792.out (by decide)) e_) hs_));have n5_:=am (hb);clear HO_8 HO_13 HO_793001 BK768 BK792 HB;have HO_8:=n0_;have HO_13:=n1_;have HO_793001:=n2_;have BK768:=n3_;have BK792:=n4_;have HB:=n5_;clear n0_ n1_ n2_ n3_ n4_ n5_;(try clear hb);(try clear hkp);(try clear hy0))|((with_reducible refine gate_callee (f:=30) rfl ?_);refine goesL_ (some 107) rfl rfl Tryd.func30 (by kernel_rfl) rfl #[.slice Ao90 t822.length co90,.int .i64 1] rfl (by (try simp only [List.map_toArray,List.map_cons,List.map_nil]);first|done|(rw [show t822.length = t796.length from (Kd.R_reads' HO_13.out).1.symm] <;> rfl)|rfl|(simp only [List.length_drop,List.length_take];rfl)) ?_;(with_reducible refine (laws_heldInt64S.calls kj64 _ _ t822 1 t823 _ ?side1 ?side2 A88.out).mono ?_);(case side1 => repeat (first|exact (Kd.R_reads' HO_13.out).2.2|(with_reducible first|refine Kd.C_alloc ?_ _|refine Kd.C_drewN ?_ _|refine Kd.C_drew ?_)));(case side2 => rw [show t822.length = t796.length from (Kd.R_reads' HO_13.out).1.symm];exact (Kd.R_reads' HO_13.out).2.1);rintro e w' ⟨rfl,⟨nd,rfl⟩⟩;refine ⟨_,rfl,?_⟩))
              go_ret
              exact ⟨by first|rfl|(simp [errW_none,errW_some] <;> rfl)|(simp [*,errW_none,errW_some] <;> rfl),by repeat (first|(with_reducible first|exact HB.out|apply below_alloc|apply pw_below_drewN|apply below_drew1|refine below_set ?_ GE768.out|refine below_set ?_ GE792.out)|exact HB.out)⟩
             ·rw [if_neg c89] at H
              have c89b0 : decide (t823 < 0) = false:=decide_eq_false c89
              clear c89
              by_cases c92 : t823 = t821
              ·rw [if_pos c92] at H
               have c92b0 : (t823 == t821) = true:=beq_iff_eq.mpr c92
               have c92b1 : (t823 != t821) = false:=bne_eq_false_iff_eq.mpr c92
               clear c92
               replace H:=Option.bind_eq_some_iff.mp H
               obtain ⟨t824,A930,H⟩:=H
               try dsimp only at H
               have A93:=am A930
               clear A930
               replace H:=Option.bind_eq_some_iff.mp H
               obtain ⟨⟨t827,t828⟩,A940,H⟩:=H
               try dsimp only at H
               have A94:=am A940
               clear A940
               replace H:=Option.bind_eq_some_iff.mp H
               obtain ⟨t831,A950,H⟩:=H
               try dsimp only at H
               have A95:=am A950
               clear A950
               replace H:=Option.bind_eq_some_iff.mp H
               obtain ⟨⟨t834,t837⟩,A960,H⟩:=H
               try dsimp only at H
               have A96:=am A960
               clear A960
               have HC97:=am H
               clear H
               obtain ⟨Ao98,co98,eo98⟩:=Kd.R_slice HO_13.out
               subst eo98
               try go_wp2_with (first|((with_reducible refine gate_callee (f:=29) rfl ?_);refine goesL_ (some 104) rfl rfl Tryd.func29 (by kernel_rfl) rfl #[.slice Ao98 t796.length co98,.int .i64 1] rfl (by (try simp only [List.map_toArray,List.map_cons,List.map_nil]);first|done|rfl|(simp only [List.length_drop,List.length_take];rfl)) ?_;(with_reducible refine (laws_markInt64S.calls kj64 (fun k_ => some k_ = (.slice Ao98 t796.length co98 : Value).ownBlock) (.slice Ao98 t796.length co98) t796 1 t821 t822 w _ ?side1 ?side2 A87.out).mono ?_);(case side1 => repeat (first|(with_reducible first|exact HB.out|apply below_alloc|apply pw_below_drewN|apply below_drew1|refine below_set ?_ GE768.out|refine below_set ?_ GE792.out)|exact HB.out));(case side2 => exact Kd.R_tight rfl HO_13.out);rintro e w99 ⟨rfl,hy0,hb,hkp⟩;refine ⟨_,rfl,?_⟩;have n0_:=am (Kd.R_mono (ok':=fun k_ => some k_≠(.slice Ao98 t796.length co98 : Value).ownBlock∧some k_≠(.slice Ao40 t817.length co40 : Value).ownBlock) (Kd.R_keptB (HO_8.out) hkp (fun k_ hk_ hs_ => by first|with_reducible exact hk_.1 hs_|with_reducible exact hk_ hs_|with_reducible exact hk_.1 hs_|with_reducible exact hk_.2 hs_|with_reducible exact hk_.2.1 hs_|with_reducible exact hk_.2.2 hs_|with_reducible exact hk_.2.2.1 hs_|with_reducible exact hk_.2.2.2 hs_|with_reducible exact hk_.1.1 hs_|with_reducible exact hk_.1.2 hs_|exact hk_.1 hs_|exact hk_ hs_)) (fun k_ hk_ => by first|with_reducible exact ⟨hk_.1.1,hk_.1.2⟩|(simp only [and_assoc] at hk_;first|with_reducible exact ⟨hk_.1,hk_.2.1⟩|(refine ⟨?_,?_⟩ <;> first|with_reducible exact hk_.1|with_reducible exact hk_.2.1|with_reducible exact hk_.2.2.1|with_reducible exact hk_.2.2.2.1|with_reducible exact hk_.2.2.2.2.1|with_reducible exact hk_.2|with_reducible exact hk_.2.2|with_reducible exact hk_.2.2.2|with_reducible exact hk_.2.2.2.2|with_reducible exact hk_.2.2.2.2.2))));have n1_:=am (Kd.R_reok rfl hy0 (fun k_ e_ => HO_13.out.1 k_ e_));have n2_:=am (Kd.R_mono (ok':=fun k_ => some k_≠(v782 : Value).ownBlock∧some k_≠(.slice Ao98 t796.length co98 : Value).ownBlock) (Kd.R_keptB (HO_793001.out) hkp (fun k_ hk_ hs_ => by first|with_reducible exact hk_.2 hs_|with_reducible exact hk_ hs_|with_reducible exact hk_.1 hs_|with_reducible exact hk_.2 hs_|with_reducible exact hk_.2.1 hs_|with_reducible exact hk_.2.2 hs_|with_reducible exact hk_.2.2.1 hs_|with_reducible exact hk_.2.2.2 hs_|with_reducible exact hk_.1.1 hs_|with_reducible exact hk_.1.2 hs_|exact hk_.2 hs_|exact hk_ hs_)) (fun k_ hk_ => by first|with_reducible exact ⟨hk_.1.1,hk_.1.2⟩|(simp only [and_assoc] at hk_;first|with_reducible exact ⟨hk_.1,hk_.2.1⟩|(refine ⟨?_,?_⟩ <;> first|with_reducible exact hk_.1|with_reducible exact hk_.2.1|with_reducible exact hk_.2.2.1|with_reducible exact hk_.2.2.2.1|with_reducible exact hk_.2.2.2.2.1|with_reducible exact hk_.2|with_reducible exact hk_.2.2|with_reducible exact hk_.2.2.2|with_reducible exact hk_.2.2.2.2|with_reducible exact hk_.2.2.2.2.2))));have n3_:=am (blk_kept (bup BK768.out) hkp (fun hs_ => (fun e_ => (Kd.R_ne HO_13.out BK768.out (by decide)) e_) hs_));have n4_:=am (blk_kept (bup BK792.out) hkp (fun hs_ => (fun e_ => (Kd.R_ne HO_13.out BK792.out (by decide)) e_) hs_));have n5_:=am (hb);clear HO_8 HO_13 HO_793001 BK768 BK792 HB;have HO_8:=n0_;have HO_13:=n1_;have HO_793001:=n2_;have BK768:=n3_;have BK792:=n4_;have HB:=n5_;clear n0_ n1_ n2_ n3_ n4_ n5_;(try clear hb);(try clear hkp);(try clear hy0))|((with_reducible refine gate_callee (f:=30) rfl ?_);refine goesL_ (some 107) rfl rfl Tryd.func30 (by kernel_rfl) rfl #[.slice Ao98 t822.length co98,.int .i64 1] rfl (by (try simp only [List.map_toArray,List.map_cons,List.map_nil]);first|done|(rw [show t822.length = t796.length from (Kd.R_reads' HO_13.out).1.symm] <;> rfl)|rfl|(simp only [List.length_drop,List.length_take];rfl)) ?_;(with_reducible refine (laws_heldInt64S.calls kj64 _ _ t822 1 t823 _ ?side1 ?side2 A88.out).mono ?_);(case side1 => repeat (first|exact (Kd.R_reads' HO_13.out).2.2|(with_reducible first|refine Kd.C_alloc ?_ _|refine Kd.C_drewN ?_ _|refine Kd.C_drew ?_)));(case side2 => rw [show t822.length = t796.length from (Kd.R_reads' HO_13.out).1.symm];exact (Kd.R_reads' HO_13.out).2.1);rintro e w' ⟨rfl,⟨nd,rfl⟩⟩;refine ⟨_,rfl,?_⟩))
               (try (rw [drewN_self w99];generalize hq_ : World.drewN w99 _ = w99;have n0_ : Aside0 (Kd.R (Kd.int .i64) 2 w99 w.heap.size (fun k_ => some k_≠(.slice Ao40 t817.length co40 : Value).ownBlock∧some k_≠(v782 : Value).ownBlock) (.slice Ao98 t796.length co98) t822):=⟨by rw [← hq_];exact (kup (Kd.R_mono HO_13.out (fun _ hk => by first|exact ⟨hk.2,hk.1⟩|(refine ⟨?_,?_⟩ <;> first|with_reducible exact hk.2|with_reducible exact hk.1.2|with_reducible exact hk.1.1.2|with_reducible exact hk.1.1.1.2|with_reducible exact hk.1.1.1.1.2|with_reducible exact hk.1.1.1.1.1.2|with_reducible exact hk|with_reducible exact hk.1|with_reducible exact hk.1.1|with_reducible exact hk.1.1.1|with_reducible exact hk.1.1.1.1|with_reducible exact hk.1.1.1.1.1|with_reducible exact trivial|exact Option.some_ne_none _))))⟩;have n1_ : Aside0 (Kd.R (Kd.int .i64) 2 w99 w.heap.size (fun k_ => some k_≠(.slice Ao98 t796.length co98 : Value).ownBlock∧some k_≠(v782 : Value).ownBlock) (.slice Ao40 t817.length co40) t817):=⟨by rw [← hq_];exact (kup (Kd.R_mono HO_793001.out (fun _ hk => by first|exact ⟨hk.2,hk.1⟩|(refine ⟨?_,?_⟩ <;> first|with_reducible exact hk.2|with_reducible exact hk.1.2|with_reducible exact hk.1.1.2|with_reducible exact hk.1.1.1.2|with_reducible exact hk.1.1.1.1.2|with_reducible exact hk.1.1.1.1.1.2|with_reducible exact hk|with_reducible exact hk.1|with_reducible exact hk.1.1|with_reducible exact hk.1.1.1|with_reducible exact hk.1.1.1.1|with_reducible exact hk.1.1.1.1.1|with_reducible exact trivial|exact Option.some_ne_none _))))⟩;have n2_ : Aside0 (Kd.R (Kd.int .i64) 2 w99 w.heap.size (fun k_ => some k_≠(.slice Ao98 t796.length co98 : Value).ownBlock∧some k_≠(.slice Ao40 t817.length co40 : Value).ownBlock) v782 t781):=⟨by rw [← hq_];exact (kup HO_8.out)⟩;have n3_ : Aside0 (w99.heap[gb768]? = some (.cells #[.int .i64 a1_0,.slice A1_1 l1_1.length c1_1] 25 (0,0))):=⟨by rw [← hq_];exact (bup BK768.out)⟩;have n4_ : Aside0 (w99.heap[gb792]? = some (.cells #[.int .i64 t788,.slice Ao40 t817.length co40] 30 (0,0))):=⟨by rw [← hq_];exact (bup BK792.out)⟩;have n5_ : Aside0 (Below w.heap.size w w99):=⟨by rw [← hq_];exact (lup HB.out)⟩;clear HO_13 HO_793001 HO_8 BK768 BK792 HB hq_;have HO_13:=n0_;have HO_793001:=n1_;have HO_8:=n2_;have BK768:=n3_;have BK792:=n4_;have HB:=n5_;clear n0_ n1_ n2_ n3_ n4_ n5_))
               have n0_:=am (Kd.R_drew HO_8.out)
               have n1_:=am (Kd.R_drew HO_13.out)
               have n2_:=am (Kd.R_drew HO_793001.out)
               have n3_:=am (blk_drew BK768.out)
               have n4_:=am (blk_drew BK792.out)
               have n5_:=am (below_drew1 HB.out)
               clear HO_8
               clear HO_13
               clear HO_793001
               clear BK768
               clear BK792
               clear HB
               have HO_8:=n0_
               have HO_13:=n1_
               have HO_793001:=n2_
               have BK768:=n3_
               have BK792:=n4_
               have HB:=n5_
               clear n0_ n1_ n2_ n3_ n4_ n5_
               refine start_ (n:=12) (S:=fun w' => w'.cell? ⟨gb768,0,none⟩ = some (.int .i64 a1_0)∧w'.cell? ⟨gb768,1,none⟩ = some (.slice A1_1 l1_1.length c1_1)) (ds:=[]) #[false,false,false,false,false,false,false,false,false,false,false,false] (by kernel_rfl) rfl rfl ⟨(blk_cell BK768.out 0).trans rfl,(blk_cell BK768.out 1).trans rfl⟩ (fun hHeld => ?_);refine with_tabW laws_FnExactYoungClosure.tab37 laws_FnExactYoungClosure.bits37 (fun HT_ HW_ => ?_)
               generalize w99.drew = w100 at HO_8 HO_13 HO_793001 BK768 BK792 HB hHeld ⊢
               refine pure_ (i:=0) (N:=some 114) (v:=?_) (a':=?_) #[true,false,false,false,false,false,false,false,false,false,false,false] rfl rfl (any_of HT_.out (by kernel_rfl)) (fun _ _ _ h => h) (Or.inl ⟨by rfl,?_⟩) ?_ ?_
               rotate_left
               ·intro w'
                go_simp
                with_reducible rfl
               rotate_left
               ·simp only [Act.put,List.setIfInBounds_toArray,List.set_cons_zero,List.set_cons_succ,i64_w,i32_w]
                rfl
               refine pure_ (i:=4) (N:=some 118) (v:=?_) (a':=?_) #[true,false,false,false,true,false,false,false,false,false,false,false] rfl rfl (any_of HT_.out (by kernel_rfl)) (fun _ _ _ h => h) (Or.inl ⟨by rfl,?_⟩) ?_ ?_
               rotate_left
               ·intro w'
                go_simp
                with_reducible rfl
               rotate_left
               ·simp only [Act.put,List.setIfInBounds_toArray,List.set_cons_zero,List.set_cons_succ,i64_w,i32_w]
                rfl
               refine take_ (i:=2) (N:=some 116) (v:=?_) (a':=?_) #[true,false,true,false,true,false,false,false,false,false,false,false] rfl rfl (take_ofW HT_.out HW_.out (by kernel_rfl)) (fun _ _ _ h => h) (Or.inl ⟨by rfl,?_⟩) hHeld ?_ ?_
               rotate_left
               ·rintro w' ⟨s0,s1⟩
                go_simp
                with_reducible rfl
               rotate_left
               ·simp only [Act.put,List.setIfInBounds_toArray,List.set_cons_zero,List.set_cons_succ,i64_w,i32_w]
                rfl
               refine one_ (i:=1) (N:=some 115) #[true,true,true,false,true,false,false,false,false,false,false,false] rfl rfl (one_of HT_.out (by kernel_rfl)) (by decide) (fun K hK => ?_)
               refine goes_ Tryd.func19 (by kernel_rfl) rfl #[.slice A0 l0.length c0] (by rfl) rfl rfl (by (try simp only [List.map_toArray,List.map_cons,List.map_nil]);first|done|rfl|(simp only [List.length_drop,List.length_take];rfl)) ?_
               with_reducible refine (laws_toStringS.calls kj64 _ _ l0 t824 _ ?side1 ?side2 A93.out).mono ?_
               (case side1 => repeat (first|exact (Kd.C_below HR0.out HB.out)|(with_reducible first|refine Kd.C_alloc ?_ _|refine Kd.C_drewN ?_ _|refine Kd.C_drew ?_)))
               (case side2 => exact HC0.out)
               rintro e w101 ⟨v825,rfl,ho0,hb⟩
               refine ⟨_,rfl,?_⟩
               have n0_:=am (Kd.R_below (kup HO_8.out) hb)
               have n1_:=am (Kd.R_below (kup HO_13.out) hb)
               have n2_:=am (Kd.R_below (kup HO_793001.out) hb)
               have n3_:=am (Kd.R_lower ho0 (below_size (lup HB.out)))
               have n4_:=am (blk_below (bup BK768.out) hb)
               have n5_:=am (blk_below (bup BK792.out) hb)
               have n6_:=am (below_step (lup HB.out) hb)
               clear HO_8
               clear HO_13
               clear HO_793001
               clear BK768
               clear BK792
               clear HB
               have HO_8:=n0_
               have HO_13:=n1_
               have HO_793001:=n2_
               have HO826:=n3_
               have BK768:=n4_
               have BK792:=n5_
               have HB:=n6_
               clear n0_ n1_ n2_ n3_ n4_ n5_ n6_
               (try clear hb)
               (try clear hb2)
               (try clear hk)
               (try clear hi)
               (try clear ho0)
               refine hK.out _ _ ⟨(blk_cell BK768.out 0).trans rfl,(blk_cell BK768.out 1).trans rfl⟩ (fun hHeld => ?_)
               clear hK K
               refine norm_ (a':=?_) ?_ ?_
               rotate_left
               ·show Act.put _ (some 115) _ = _
                simp only [Act.put,List.setIfInBounds_toArray,List.set_cons_zero,List.set_cons_succ,i64_w,i32_w]
                rfl
               refine one_ (i:=3) (N:=some 117) #[true,true,true,true,true,false,false,false,false,false,false,false] rfl rfl (one_of HT_.out (by kernel_rfl)) (by decide) (fun K hK => ?_)
               refine goes_ Tryd.func20 (by kernel_rfl) rfl #[.agg #[.int .i64 a1_0,.slice A1_1 l1_1.length c1_1]] (by rfl) rfl rfl (by (try simp only [List.map_toArray,List.map_cons,List.map_nil]);first|done|rfl|(simp only [List.length_drop,List.length_take];rfl)) ?_
               with_reducible refine (laws_toNursery.calls kj64 a1_0 _ _ l1_1 t827 t828 _ ?side1 ?side2 A94.out).mono ?_
               (case side1 => repeat (first|exact (Kd.C_below HR1_1.out HB.out)|(with_reducible first|refine Kd.C_alloc ?_ _|refine Kd.C_drewN ?_ _|refine Kd.C_drew ?_)))
               (case side2 => exact HC1_1.out)
               rintro e w102 ⟨v829,rfl,ho0,hb⟩
               refine ⟨_,rfl,?_⟩
               have n0_:=am (Kd.R_elder' (kup HO_8.out) (Kd.R_base ho0) hb)
               have n1_:=am (Kd.R_elder' (kup HO_13.out) (Kd.R_base ho0) hb)
               have n2_:=am (Kd.R_elder' (kup HO_793001.out) (Kd.R_base ho0) hb)
               have n3_:=am (Kd.R_below (kup HO826.out) hb)
               have n4_:=am (Kd.R_lower (Kd.R_new' (Kd.R_new' (Kd.R_new' ho0 (Kd.R_lt (kup HO_8.out))) (Kd.R_lt (kup HO_13.out))) (Kd.R_lt (kup HO_793001.out))) (below_size (lup HB.out)))
               have n5_:=am (blk_below (bup BK768.out) hb)
               have n6_:=am (blk_below (bup BK792.out) hb)
               have n7_:=am (below_step (lup HB.out) hb)
               clear HO_8
               clear HO_13
               clear HO_793001
               clear HO826
               clear BK768
               clear BK792
               clear HB
               have HO_8:=n0_
               have HO_13:=n1_
               have HO_793001:=n2_
               have HO826:=n3_
               have HO830:=n4_
               have BK768:=n5_
               have BK792:=n6_
               have HB:=n7_
               clear n0_ n1_ n2_ n3_ n4_ n5_ n6_ n7_
               (try clear hb)
               (try clear hb2)
               (try clear hk)
               (try clear hi)
               (try clear ho0)
               refine hK.out _ _ ⟨(blk_cell BK768.out 0).trans rfl,(blk_cell BK768.out 1).trans rfl⟩ (fun hHeld => ?_)
               clear hK K
               refine norm_ (a':=?_) ?_ ?_
               rotate_left
               ·show Act.put _ (some 117) _ = _
                simp only [Act.put,List.setIfInBounds_toArray,List.set_cons_zero,List.set_cons_succ,i64_w,i32_w]
                rfl
               refine one_ (i:=5) (N:=some 119) #[true,true,true,true,true,true,false,false,false,false,false,false] rfl rfl (one_of HT_.out (by kernel_rfl)) (by decide) (fun K hK => ?_)
               refine goes_ Tryd.func44 (by kernel_rfl) rfl #[.slice A2 l2.length c2] (by rfl) rfl rfl (by (try simp only [List.map_toArray,List.map_cons,List.map_nil]);first|done|rfl|(simp only [List.length_drop,List.length_take];rfl)) ?_
               with_reducible refine (laws_toInt64S.calls kj64 _ _ l2 t831 _ ?side1 ?side2 A95.out).mono ?_
               (case side1 => repeat (first|exact (Kd.C_below HR2.out HB.out)|(with_reducible first|refine Kd.C_alloc ?_ _|refine Kd.C_drewN ?_ _|refine Kd.C_drew ?_)))
               (case side2 => exact HC2.out)
               rintro e w103 ⟨v832,rfl,ho0,hb⟩
               refine ⟨_,rfl,?_⟩
               have n0_:=am (Kd.R_elder' (kup HO_8.out) (Kd.R_base ho0) hb)
               have n1_:=am (Kd.R_elder' (kup HO_13.out) (Kd.R_base ho0) hb)
               have n2_:=am (Kd.R_elder' (kup HO_793001.out) (Kd.R_base ho0) hb)
               have n3_:=am (Kd.R_below (kup HO826.out) hb)
               have n4_:=am (Kd.R_elder' (kup HO830.out) (Kd.R_base ho0) hb)
               have n5_:=am (Kd.R_lower (Kd.R_new' (Kd.R_new' (Kd.R_new' (Kd.R_new' ho0 (Kd.R_lt (kup HO_8.out))) (Kd.R_lt (kup HO_13.out))) (Kd.R_lt (kup HO_793001.out))) (Kd.R_lt (kup HO830.out))) (below_size (lup HB.out)))
               have n6_:=am (blk_below (bup BK768.out) hb)
               have n7_:=am (blk_below (bup BK792.out) hb)
               have n8_:=am (below_step (lup HB.out) hb)
               clear HO_8
               clear HO_13
               clear HO_793001
               clear HO826
               clear HO830
               clear BK768
               clear BK792
               clear HB
               have HO_8:=n0_
               have HO_13:=n1_
               have HO_793001:=n2_
               have HO826:=n3_
               have HO830:=n4_
               have HO833:=n5_
               have BK768:=n6_
               have BK792:=n7_
               have HB:=n8_
               clear n0_ n1_ n2_ n3_ n4_ n5_ n6_ n7_ n8_
               (try clear hb)
               (try clear hb2)
               (try clear hk)
               (try clear hi)
               (try clear ho0)
               obtain ⟨Ao104,co104,eo104⟩:=Kd.R_slice HO826.out
               (first|subst eo104|(injection eo104 with f1_ f2_ f3_;have f4_:=f1_.symm;have f5_:=f3_.symm;clear f1_ f2_ f3_;subst f4_;subst f5_))
               obtain ⟨Ao105,co105,eo105⟩:=Kd.R_slice HO830.out
               (first|subst eo105|(injection eo105 with f1_ f2_ f3_;have f4_:=f1_.symm;have f5_:=f3_.symm;clear f1_ f2_ f3_;subst f4_;subst f5_))
               obtain ⟨Ao106,co106,eo106⟩:=Kd.R_slice HO833.out
               (first|subst eo106|(injection eo106 with f1_ f2_ f3_;have f4_:=f1_.symm;have f5_:=f3_.symm;clear f1_ f2_ f3_;subst f4_;subst f5_))
               refine hK.out _ _ ⟨(blk_cell BK768.out 0).trans rfl,(blk_cell BK768.out 1).trans rfl⟩ (fun hHeld => ?_)
               clear hK K
               refine norm_ (a':=?_) ?_ ?_
               rotate_left
               ·show Act.put _ (some 119) _ = _
                simp only [Act.put,List.setIfInBounds_toArray,List.set_cons_zero,List.set_cons_succ,i64_w,i32_w]
                rfl
               refine one_ (i:=6) (N:=some 120) #[true,true,true,true,true,true,true,false,false,false,false,false] rfl rfl (one_of HT_.out (by kernel_rfl)) (by decide) (fun K hK => ?_)
               refine goes_ Tryd.func45 (by kernel_rfl) rfl #[.slice Ao104 t824.length co104,.agg #[.int .i64 t827,.slice Ao105 t828.length co105],.slice Ao106 t831.length co106] (by rfl) rfl rfl (by (try simp only [List.map_toArray,List.map_cons,List.map_nil]);first|done|rfl|(simp only [List.length_drop,List.length_take];rfl)) ?_
               with_reducible refine (impl_YoungClosure.calls kj64 _ _ t824 t827 _ _ t828 _ _ t831 t834 t837 _ ?side1 ?side2 ?side3 ?side4 ?side5 ?side6 A96.out).mono ?_
               (case side1 => repeat (first|exact (Kd.R_reads' HO826.out).2.2|(with_reducible first|refine Kd.C_alloc ?_ _|refine Kd.C_drewN ?_ _|refine Kd.C_drew ?_)))
               (case side2 => exact (Kd.R_reads' HO826.out).2.1)
               (case side3 => repeat (first|exact (Kd.R_reads' HO830.out).2.2|(with_reducible first|refine Kd.C_alloc ?_ _|refine Kd.C_drewN ?_ _|refine Kd.C_drew ?_)))
               (case side4 => exact (Kd.R_reads' HO830.out).2.1)
               (case side5 => repeat (first|exact (Kd.R_reads' HO833.out).2.2|(with_reducible first|refine Kd.C_alloc ?_ _|refine Kd.C_drewN ?_ _|refine Kd.C_drew ?_)))
               (case side6 => exact (Kd.R_reads' HO833.out).2.1)
               rintro e w107 ⟨v835,rfl,ho0,hb⟩
               refine ⟨_,rfl,?_⟩
               have n0_:=am (Kd.R_elder' (kup HO_8.out) (Kd.R_base ho0) hb)
               have n1_:=am (Kd.R_elder' (kup HO_13.out) (Kd.R_base ho0) hb)
               have n2_:=am (Kd.R_elder' (kup HO_793001.out) (Kd.R_base ho0) hb)
               have n3_:=am (Kd.R_below (kup HO826.out) hb)
               have n4_:=am (Kd.R_elder' (kup HO830.out) (Kd.R_base ho0) hb)
               have n5_:=am (Kd.R_elder' (kup HO833.out) (Kd.R_base ho0) hb)
               have n6_:=am (Kd.R_lower (Kd.R_new' (Kd.R_new' (Kd.R_new' (Kd.R_new' (Kd.R_new' ho0 (Kd.R_lt (kup HO_8.out))) (Kd.R_lt (kup HO_13.out))) (Kd.R_lt (kup HO_793001.out))) (Kd.R_lt (kup HO830.out))) (Kd.R_lt (kup HO833.out))) (below_size (lup HB.out)))
               have n7_:=am (blk_below (bup BK768.out) hb)
               have n8_:=am (blk_below (bup BK792.out) hb)
               have n9_:=am (below_step (lup HB.out) hb)
               clear HO_8
               clear HO_13
               clear HO_793001
               clear HO826
               clear HO830
               clear HO833
               clear BK768
               clear BK792
               clear HB
               have HO_8:=n0_
               have HO_13:=n1_
               have HO_793001:=n2_
               have HO826:=n3_
               have HO830:=n4_
               have HO833:=n5_
               have HO836:=n6_
               have BK768:=n7_
               have BK792:=n8_
               have HB:=n9_
               clear n0_ n1_ n2_ n3_ n4_ n5_ n6_ n7_ n8_ n9_
               (try clear hb)
               (try clear hb2)
               (try clear hk)
               (try clear hi)
               (try clear ho0)
               refine hK.out _ _ ⟨(blk_cell BK768.out 0).trans rfl,(blk_cell BK768.out 1).trans rfl⟩ (fun hHeld => ?_)
               clear hK K
               refine norm_ (a':=?_) ?_ ?_
               rotate_left
               ·show Act.put _ (some 120) _ = _
                simp only [Act.put,List.setIfInBounds_toArray,List.set_cons_zero,List.set_cons_succ,i64_w,i32_w]
                rfl
               refine pure_ (i:=7) (N:=some 113) (v:=?_) (a':=?_) #[true,true,true,true,true,true,true,true,false,false,false,false] rfl rfl (any_of HT_.out (by kernel_rfl)) (fun _ _ _ h => h) (Or.inl ⟨by rfl,?_⟩) ?_ ?_
               rotate_left
               ·intro w'
                go_simp
                with_reducible rfl
               rotate_left
               ·simp only [Act.put,List.setIfInBounds_toArray,List.set_cons_zero,List.set_cons_succ,i64_w,i32_w]
                rfl
               refine pure_ (i:=8) (N:=some 121) (v:=?_) (a':=?_) #[true,true,true,true,true,true,true,true,true,false,false,false] rfl rfl (any_of HT_.out (by kernel_rfl)) (fun _ _ _ h => h) (Or.inl ⟨by rfl,?_⟩) ?_ ?_
               rotate_left
               ·intro w'
                go_simp
                with_reducible rfl
               rotate_left
               ·simp only [Act.put,List.setIfInBounds_toArray,List.set_cons_zero,List.set_cons_succ,i64_w,i32_w]
                rfl
               refine pure_ (i:=9) (N:=some 122) (v:=?_) (a':=?_) #[true,true,true,true,true,true,true,true,true,true,false,false] rfl rfl (any_of HT_.out (by kernel_rfl)) (fun _ _ _ h => h) (Or.inl ⟨by rfl,?_⟩) ?_ ?_
               rotate_left
               ·intro w'
                go_simp
                with_reducible rfl
               rotate_left
               ·simp only [Act.put,List.setIfInBounds_toArray,List.set_cons_zero,List.set_cons_succ,i64_w,i32_w]
                rfl
               refine pure_ (i:=10) (N:=some 18) (v:=?_) (a':=?_) #[true,true,true,true,true,true,true,true,true,true,true,false] rfl rfl (any_of HT_.out (by kernel_rfl)) (fun _ _ _ h => h) (Or.inl ⟨by rfl,?_⟩) ?_ ?_
               rotate_left
               ·intro w'
                go_simp
                with_reducible rfl
               rotate_left
               ·simp only [Act.put,List.setIfInBounds_toArray,List.set_cons_zero,List.set_cons_succ,i64_w,i32_w]
                rfl
               refine pure_ (i:=11) (N:=some 19) (v:=?_) (a':=?_) #[true,true,true,true,true,true,true,true,true,true,true,true] rfl rfl (any_of HT_.out (by kernel_rfl)) (fun _ _ _ h => h) (Or.inl ⟨by rfl,?_⟩) ?_ ?_
               rotate_left
               ·intro w'
                go_simp
                with_reducible rfl
               rotate_left
               ·simp only [Act.put,List.setIfInBounds_toArray,List.set_cons_zero,List.set_cons_succ,i64_w,i32_w]
                rfl
               refine done_ (done_of HT_.out (by kernel_rfl)) ?_
               go_upto_region 38 with (fail)
               go_cut [131] (fun v131 wc => ∃ (kq : Nat) (x131_96 : Bool),v131 = .bool x131_96∧Aside0 (laws_FnExactYoungClosure.j2 kq t822 t821 x131_96 = some r)∧Aside0 (kq ≤ kj64)∧Aside0 (Kd.R (Kd.int .i64) 2 wc w.heap.size (fun k_ => some k_≠((.slice Ao40 t817.length co40) : Value).ownBlock) (.slice Ao98 t796.length co98) t822)∧Aside0 (Kd.R (Kd.int .i64) 2 wc w.heap.size (fun k_ => some k_≠((.slice Ao98 t796.length co98) : Value).ownBlock) (.slice Ao40 t817.length co40) t817)∧Aside0 (wc.heap[gb768]? = some (.cells #[.int .i64 a1_0,(.slice A1_1 l1_1.length c1_1)] 25 (0,0)))∧Aside0 (wc.heap[gb792]? = some (.cells #[.int .i64 t788,(.slice Ao40 t817.length co40)] 30 (0,0)))∧Aside0 (Below w.heap.size w wc))
               case first =>
                have H:=HC97.out
                clear HC97
                replace H:=Option.bind_eq_some_iff.mp H
                obtain ⟨t838,A1080,H⟩:=H
                try dsimp only at H
                have A108:=am A1080
                clear A1080
                by_cases c109 : t838 = true
                ·subst c109
                 have H1:=H;rw [if_pos rfl] at H1
                 clear H
                 have H:=H1
                 clear H1
                 have H':=am H
                 clear H
                 obtain ⟨Ao110,co110,eo110⟩:=Kd.R_slice HO836.out
                 subst eo110
                 obtain ⟨Ao111,co111,eo111⟩:=Kd.R_slice HO_8.out
                 subst eo111
                 go_wp2_with (first|((with_reducible refine gate_callee (f:=26) rfl ?_);refine goesL_ (some 125) rfl rfl Tryd.func26 (by kernel_rfl) rfl #[.slice Ao110 t834.length co110,.slice Ao111 t781.length co111] rfl (by (try simp only [List.map_toArray,List.map_cons,List.map_nil]);first|done|rfl|(simp only [List.length_drop,List.length_take];rfl)) ?_;(with_reducible refine (laws_eqInt64S.calls kj64 _ _ t834 _ _ t781 true _ ?side1 ?side2 ?side3 ?side4 A108.out).mono ?_);(case side1 => repeat (first|exact (Kd.R_reads' HO836.out).2.2|(with_reducible first|refine Kd.C_alloc ?_ _|refine Kd.C_drewN ?_ _|refine Kd.C_drew ?_)));(case side2 => exact (Kd.R_reads' HO836.out).2.1);(case side3 => repeat (first|exact (Kd.R_reads' HO_8.out).2.2|(with_reducible first|refine Kd.C_alloc ?_ _|refine Kd.C_drewN ?_ _|refine Kd.C_drew ?_)));(case side4 => exact (Kd.R_reads' HO_8.out).2.1);rintro e w' ⟨rfl,⟨nd,rfl⟩⟩;refine ⟨_,rfl,?_⟩))
                 go_meet
                 case rel => exact ⟨_,((t837 != t784)),(by first|rfl|(simp;done)|(simp [*];done)),H',⟨by have:=HJ21.out;have:=HJ64.out;first|omega|exact Nat.le_refl _⟩,⟨by (try simp only [hl793001_64]);(with_reducible repeat (first|apply Kd.R_alloc|apply Kd.R_drewN|apply Kd.R_drew));exact Kd.R_mono HO_13.out (fun _ hk => by first|exact hk.1.1.1.2|(first|with_reducible exact hk.2|with_reducible exact hk.1.2|with_reducible exact hk.1.1.2|with_reducible exact hk.1.1.1.2|with_reducible exact hk.1.1.1.1.2|with_reducible exact hk.1.1.1.1.1.2|with_reducible exact hk|with_reducible exact hk.1|with_reducible exact hk.1.1|with_reducible exact hk.1.1.1|with_reducible exact hk.1.1.1.1|with_reducible exact hk.1.1.1.1.1|with_reducible exact trivial|exact Option.some_ne_none _)|(refine ⟨?_,?_⟩ <;> first|with_reducible exact hk.2|with_reducible exact hk.1.2|with_reducible exact hk.1.1.2|with_reducible exact hk.1.1.1.2|with_reducible exact hk.1.1.1.1.2|with_reducible exact hk.1.1.1.1.1.2|with_reducible exact hk|with_reducible exact hk.1|with_reducible exact hk.1.1|with_reducible exact hk.1.1.1|with_reducible exact hk.1.1.1.1|with_reducible exact hk.1.1.1.1.1|with_reducible exact trivial|exact Option.some_ne_none _))⟩,⟨by (try simp only [hl793001_64]);(with_reducible repeat (first|apply Kd.R_alloc|apply Kd.R_drewN|apply Kd.R_drew));exact Kd.R_mono HO_793001.out (fun _ hk => by first|exact hk.1.1.1.2|(first|with_reducible exact hk.2|with_reducible exact hk.1.2|with_reducible exact hk.1.1.2|with_reducible exact hk.1.1.1.2|with_reducible exact hk.1.1.1.1.2|with_reducible exact hk.1.1.1.1.1.2|with_reducible exact hk|with_reducible exact hk.1|with_reducible exact hk.1.1|with_reducible exact hk.1.1.1|with_reducible exact hk.1.1.1.1|with_reducible exact hk.1.1.1.1.1|with_reducible exact trivial|exact Option.some_ne_none _)|(refine ⟨?_,?_⟩ <;> first|with_reducible exact hk.2|with_reducible exact hk.1.2|with_reducible exact hk.1.1.2|with_reducible exact hk.1.1.1.2|with_reducible exact hk.1.1.1.1.2|with_reducible exact hk.1.1.1.1.1.2|with_reducible exact hk|with_reducible exact hk.1|with_reducible exact hk.1.1|with_reducible exact hk.1.1.1|with_reducible exact hk.1.1.1.1|with_reducible exact hk.1.1.1.1.1|with_reducible exact trivial|exact Option.some_ne_none _))⟩,⟨by (try simp only [hl793001_64]);(with_reducible repeat (first|refine blk_drewN ?_ _|refine blk_drew ?_|refine blk_alloc ?_ _));exact BK768.out⟩,⟨by (try simp only [hl793001_64]);(with_reducible repeat (first|refine blk_drewN ?_ _|refine blk_drew ?_|refine blk_alloc ?_ _));exact BK792.out⟩,⟨lup HB.out⟩⟩
                ·replace c109:=Bool.eq_false_iff.mpr c109
                 subst c109
                 have H1 : (laws_FnExactYoungClosure.j2 kj64 t822 t821 true) = some r:=by rw [if_neg (show ¬ (false = true) by decide)] at H;exact H
                 clear H
                 have H:=H1
                 clear H1
                 have H':=am H
                 clear H
                 obtain ⟨Ao112,co112,eo112⟩:=Kd.R_slice HO836.out
                 subst eo112
                 obtain ⟨Ao113,co113,eo113⟩:=Kd.R_slice HO_8.out
                 subst eo113
                 go_wp2_with (first|((with_reducible refine gate_callee (f:=26) rfl ?_);refine goesL_ (some 125) rfl rfl Tryd.func26 (by kernel_rfl) rfl #[.slice Ao112 t834.length co112,.slice Ao113 t781.length co113] rfl (by (try simp only [List.map_toArray,List.map_cons,List.map_nil]);first|done|rfl|(simp only [List.length_drop,List.length_take];rfl)) ?_;(with_reducible refine (laws_eqInt64S.calls kj64 _ _ t834 _ _ t781 false _ ?side1 ?side2 ?side3 ?side4 A108.out).mono ?_);(case side1 => repeat (first|exact (Kd.R_reads' HO836.out).2.2|(with_reducible first|refine Kd.C_alloc ?_ _|refine Kd.C_drewN ?_ _|refine Kd.C_drew ?_)));(case side2 => exact (Kd.R_reads' HO836.out).2.1);(case side3 => repeat (first|exact (Kd.R_reads' HO_8.out).2.2|(with_reducible first|refine Kd.C_alloc ?_ _|refine Kd.C_drewN ?_ _|refine Kd.C_drew ?_)));(case side4 => exact (Kd.R_reads' HO_8.out).2.1);rintro e w' ⟨rfl,⟨nd,rfl⟩⟩;refine ⟨_,rfl,?_⟩))
                 go_meet
                 case rel => exact ⟨_,(true),(by first|rfl|(simp;done)|(simp [*];done)),H',⟨by have:=HJ21.out;have:=HJ64.out;first|omega|exact Nat.le_refl _⟩,⟨by (try simp only [hl793001_64]);(with_reducible repeat (first|apply Kd.R_alloc|apply Kd.R_drewN|apply Kd.R_drew));exact Kd.R_mono HO_13.out (fun _ hk => by first|exact hk.1.1.1.2|(first|with_reducible exact hk.2|with_reducible exact hk.1.2|with_reducible exact hk.1.1.2|with_reducible exact hk.1.1.1.2|with_reducible exact hk.1.1.1.1.2|with_reducible exact hk.1.1.1.1.1.2|with_reducible exact hk|with_reducible exact hk.1|with_reducible exact hk.1.1|with_reducible exact hk.1.1.1|with_reducible exact hk.1.1.1.1|with_reducible exact hk.1.1.1.1.1|with_reducible exact trivial|exact Option.some_ne_none _)|(refine ⟨?_,?_⟩ <;> first|with_reducible exact hk.2|with_reducible exact hk.1.2|with_reducible exact hk.1.1.2|with_reducible exact hk.1.1.1.2|with_reducible exact hk.1.1.1.1.2|with_reducible exact hk.1.1.1.1.1.2|with_reducible exact hk|with_reducible exact hk.1|with_reducible exact hk.1.1|with_reducible exact hk.1.1.1|with_reducible exact hk.1.1.1.1|with_reducible exact hk.1.1.1.1.1|with_reducible exact trivial|exact Option.some_ne_none _))⟩,⟨by (try simp only [hl793001_64]);(with_reducible repeat (first|apply Kd.R_alloc|apply Kd.R_drewN|apply Kd.R_drew));exact Kd.R_mono HO_793001.out (fun _ hk => by first|exact hk.1.1.1.2|(first|with_reducible exact hk.2|with_reducible exact hk.1.2|with_reducible exact hk.1.1.2|with_reducible exact hk.1.1.1.2|with_reducible exact hk.1.1.1.1.2|with_reducible exact hk.1.1.1.1.1.2|with_reducible exact hk|with_reducible exact hk.1|with_reducible exact hk.1.1|with_reducible exact hk.1.1.1|with_reducible exact hk.1.1.1.1|with_reducible exact hk.1.1.1.1.1|with_reducible exact trivial|exact Option.some_ne_none _)|(refine ⟨?_,?_⟩ <;> first|with_reducible exact hk.2|with_reducible exact hk.1.2|with_reducible exact hk.1.1.2|with_reducible exact hk.1.1.1.2|with_reducible exact hk.1.1.1.1.2|with_reducible exact hk.1.1.1.1.1.2|with_reducible exact hk|with_reducible exact hk.1|with_reducible exact hk.1.1|with_reducible exact hk.1.1.1|with_reducible exact hk.1.1.1.1|with_reducible exact hk.1.1.1.1.1|with_reducible exact trivial|exact Option.some_ne_none _))⟩,⟨by (try simp only [hl793001_64]);(with_reducible repeat (first|refine blk_drewN ?_ _|refine blk_drew ?_|refine blk_alloc ?_ _));exact BK768.out⟩,⟨by (try simp only [hl793001_64]);(with_reducible repeat (first|refine blk_drewN ?_ _|refine blk_drew ?_|refine blk_alloc ?_ _));exact BK792.out⟩,⟨lup HB.out⟩⟩
               case rest =>
                clear HC97
                try clear c1
                try clear c2
                try clear p2
                try clear c3
                try clear c4
                try clear c4b0
                try clear c4b1
                try clear c5
                try clear c6
                try clear c7
                try clear c7b0
                try clear c8
                try clear c9
                try clear c10
                try clear c10b0
                try clear c16
                try clear c17
                try clear c19
                try clear c20
                try clear c22
                try clear c23
                try clear c26
                try clear c27
                try clear c28
                try clear c29
                try clear c30
                try clear c38
                try clear c43
                try clear c44
                try clear c45
                try clear c47
                try clear c52
                try clear c55
                try clear c58
                try clear c61
                try clear c75
                try clear c79
                try clear c79b0
                try clear c81
                try clear c86
                try clear c89
                try clear c89b0
                try clear c92
                try clear c92b0
                try clear c92b1
                try clear c109
                try clear hcz12_0
                try clear hcz12_1
                try clear hcz24_0
                try clear hcz24_1
                try clear hcz35_0
                try clear hcz35_1
                try clear hcz39_0
                try clear hcz39_1
                try clear hcz42_0
                try clear hcz42_1
                try clear hcz76_0
                try clear hcz76_1
                try clear hfz12_0
                try clear hfz12_1
                try clear hfz24_0
                try clear hfz24_1
                try clear hfz35_0
                try clear hfz35_1
                try clear hfz39_0
                try clear hfz39_1
                try clear hfz42_0
                try clear hfz42_1
                try clear hfz76_0
                try clear hfz76_1
                try clear p2
                obtain ⟨kq,x131_96,rfl,HA,HJ96,HO_13,HO_793001,BK768,BK792,HB⟩:=hcut
                have hl13_96:=(Kd.R_reads' HO_13.out).1
                rw [hl13_96] at HO_13
                (try simp only [hl13_96])
                (try simp only [hl13_96] at BK768)
                (try simp only [hl13_96] at BK792)
                (try simp only [hl13_96] at HO_793001)
                cases kq with
                | zero => exact absurd HA.out (by simp [laws_FnExactYoungClosure.j2])
                | succ kj96 =>
                 have H:=HA.out
                 clear HA
                 simp only [laws_FnExactYoungClosure.j2] at H
                 by_cases c114 : x131_96 = true
                 ·subst c114
                  have H1:=H;rw [if_pos rfl] at H1
                  clear H
                  have H:=H1
                  clear H1
                  obtain rfl:=Option.some.inj H
                  go_wp2
                  go_ret
                  exact ⟨by first|rfl|(simp [errW_none,errW_some] <;> rfl)|(simp [*,errW_none,errW_some] <;> rfl),by repeat (first|(with_reducible first|exact HB.out|apply below_alloc|apply pw_below_drewN|apply below_drew1|refine below_set ?_ GE768.out|refine below_set ?_ GE792.out)|exact HB.out)⟩
                 ·replace c114:=Bool.eq_false_iff.mpr c114
                  subst c114
                  have H1 : ((laws_heldInt64S.f kj96 t822 1).bind fun t839 => (if t839 < 0 then (some false) else (if t839 = t821 then (some true) else (some false)))) = some r:=by rw [if_neg (show ¬ (false = true) by decide)] at H;exact H
                  clear H
                  have H:=H1
                  clear H1
                  replace H:=Option.bind_eq_some_iff.mp H
                  obtain ⟨t839,A1150,H⟩:=H
                  try dsimp only at H
                  have A115:=am A1150
                  clear A1150
                  by_cases c116 : t839 < 0
                  ·rw [if_pos c116] at H
                   have c116b0 : decide (t839 < 0) = true:=decide_eq_true c116
                   clear c116
                   obtain rfl:=Option.some.inj H
                   go_wp2_with (first|((with_reducible refine gate_callee (f:=30) rfl ?_);refine goesL_ (some 134) rfl rfl Tryd.func30 (by kernel_rfl) rfl #[.slice Ao98 t822.length co98,.int .i64 1] rfl (by (try simp only [List.map_toArray,List.map_cons,List.map_nil]);first|done|rfl|(simp only [List.length_drop,List.length_take];rfl)) ?_;(with_reducible refine (laws_heldInt64S.calls kj96 _ _ t822 1 t839 _ ?side1 ?side2 A115.out).mono ?_);(case side1 => repeat (first|exact (Kd.R_reads' HO_13.out).2.2|(with_reducible first|refine Kd.C_alloc ?_ _|refine Kd.C_drewN ?_ _|refine Kd.C_drew ?_)));(case side2 => exact (Kd.R_reads' HO_13.out).2.1);rintro e w' ⟨rfl,⟨nd,rfl⟩⟩;refine ⟨_,rfl,?_⟩))
                   go_ret
                   exact ⟨by first|rfl|(simp [errW_none,errW_some] <;> rfl)|(simp [*,errW_none,errW_some] <;> rfl),by repeat (first|(with_reducible first|exact HB.out|apply below_alloc|apply pw_below_drewN|apply below_drew1|refine below_set ?_ GE768.out|refine below_set ?_ GE792.out)|exact HB.out)⟩
                  ·rw [if_neg c116] at H
                   have c116b0 : decide (t839 < 0) = false:=decide_eq_false c116
                   clear c116
                   by_cases c117 : t839 = t821
                   ·rw [if_pos c117] at H
                    have c117b0 : (t839 == t821) = true:=beq_iff_eq.mpr c117
                    have c117b1 : (t839 != t821) = false:=bne_eq_false_iff_eq.mpr c117
                    clear c117
                    obtain rfl:=Option.some.inj H
                    go_wp2_with (first|((with_reducible refine gate_callee (f:=30) rfl ?_);refine goesL_ (some 134) rfl rfl Tryd.func30 (by kernel_rfl) rfl #[.slice Ao98 t822.length co98,.int .i64 1] rfl (by (try simp only [List.map_toArray,List.map_cons,List.map_nil]);first|done|rfl|(simp only [List.length_drop,List.length_take];rfl)) ?_;(with_reducible refine (laws_heldInt64S.calls kj96 _ _ t822 1 t839 _ ?side1 ?side2 A115.out).mono ?_);(case side1 => repeat (first|exact (Kd.R_reads' HO_13.out).2.2|(with_reducible first|refine Kd.C_alloc ?_ _|refine Kd.C_drewN ?_ _|refine Kd.C_drew ?_)));(case side2 => exact (Kd.R_reads' HO_13.out).2.1);rintro e w' ⟨rfl,⟨nd,rfl⟩⟩;refine ⟨_,rfl,?_⟩))
                    go_ret
                    exact ⟨by first|rfl|(simp [errW_none,errW_some] <;> rfl)|(simp [*,errW_none,errW_some] <;> rfl),by repeat (first|(with_reducible first|exact HB.out|apply below_alloc|apply pw_below_drewN|apply below_drew1|refine below_set ?_ GE768.out|refine below_set ?_ GE792.out)|exact HB.out)⟩
                   ·rw [if_neg c117] at H
                    have c117b0 : (t839 == t821) = false:=beq_eq_false_iff_ne.mpr c117
                    have c117b1 : (t839 != t821) = true:=bne_iff_ne.mpr c117
                    obtain rfl:=Option.some.inj H
                    go_wp2_with (first|((with_reducible refine gate_callee (f:=30) rfl ?_);refine goesL_ (some 134) rfl rfl Tryd.func30 (by kernel_rfl) rfl #[.slice Ao98 t822.length co98,.int .i64 1] rfl (by (try simp only [List.map_toArray,List.map_cons,List.map_nil]);first|done|rfl|(simp only [List.length_drop,List.length_take];rfl)) ?_;(with_reducible refine (laws_heldInt64S.calls kj96 _ _ t822 1 t839 _ ?side1 ?side2 A115.out).mono ?_);(case side1 => repeat (first|exact (Kd.R_reads' HO_13.out).2.2|(with_reducible first|refine Kd.C_alloc ?_ _|refine Kd.C_drewN ?_ _|refine Kd.C_drew ?_)));(case side2 => exact (Kd.R_reads' HO_13.out).2.1);rintro e w' ⟨rfl,⟨nd,rfl⟩⟩;refine ⟨_,rfl,?_⟩))
                    go_ret
                    exact ⟨by first|rfl|(simp [errW_none,errW_some] <;> rfl)|(simp [*,errW_none,errW_some] <;> rfl),by repeat (first|(with_reducible first|exact HB.out|apply below_alloc|apply pw_below_drewN|apply below_drew1|refine below_set ?_ GE768.out|refine below_set ?_ GE792.out)|exact HB.out)⟩
              ·rw [if_neg c92] at H
               have c92b0 : (t823 == t821) = false:=beq_eq_false_iff_ne.mpr c92
               have c92b1 : (t823 != t821) = true:=bne_iff_ne.mpr c92
               obtain rfl:=Option.some.inj H
               obtain ⟨Ao118,co118,eo118⟩:=Kd.R_slice HO_13.out
               subst eo118
               go_wp2_with (first|((with_reducible refine gate_callee (f:=29) rfl ?_);refine goesL_ (some 104) rfl rfl Tryd.func29 (by kernel_rfl) rfl #[.slice Ao118 t796.length co118,.int .i64 1] rfl (by (try simp only [List.map_toArray,List.map_cons,List.map_nil]);first|done|rfl|(simp only [List.length_drop,List.length_take];rfl)) ?_;(with_reducible refine (laws_markInt64S.calls kj64 (fun k_ => some k_ = (.slice Ao118 t796.length co118 : Value).ownBlock) (.slice Ao118 t796.length co118) t796 1 t821 t822 w _ ?side1 ?side2 A87.out).mono ?_);(case side1 => repeat (first|(with_reducible first|exact HB.out|apply below_alloc|apply pw_below_drewN|apply below_drew1|refine below_set ?_ GE768.out|refine below_set ?_ GE792.out)|exact HB.out));(case side2 => exact Kd.R_tight rfl HO_13.out);rintro e w119 ⟨rfl,hy0,hb,hkp⟩;refine ⟨_,rfl,?_⟩;have n0_:=am (Kd.R_mono (ok':=fun k_ => some k_≠(.slice Ao118 t796.length co118 : Value).ownBlock∧some k_≠(.slice Ao40 t817.length co40 : Value).ownBlock) (Kd.R_keptB (HO_8.out) hkp (fun k_ hk_ hs_ => by first|with_reducible exact hk_.1 hs_|with_reducible exact hk_ hs_|with_reducible exact hk_.1 hs_|with_reducible exact hk_.2 hs_|with_reducible exact hk_.2.1 hs_|with_reducible exact hk_.2.2 hs_|with_reducible exact hk_.2.2.1 hs_|with_reducible exact hk_.2.2.2 hs_|with_reducible exact hk_.1.1 hs_|with_reducible exact hk_.1.2 hs_|exact hk_.1 hs_|exact hk_ hs_)) (fun k_ hk_ => by first|with_reducible exact ⟨hk_.1.1,hk_.1.2⟩|(simp only [and_assoc] at hk_;first|with_reducible exact ⟨hk_.1,hk_.2.1⟩|(refine ⟨?_,?_⟩ <;> first|with_reducible exact hk_.1|with_reducible exact hk_.2.1|with_reducible exact hk_.2.2.1|with_reducible exact hk_.2.2.2.1|with_reducible exact hk_.2.2.2.2.1|with_reducible exact hk_.2|with_reducible exact hk_.2.2|with_reducible exact hk_.2.2.2|with_reducible exact hk_.2.2.2.2|with_reducible exact hk_.2.2.2.2.2))));have n1_:=am (Kd.R_reok rfl hy0 (fun k_ e_ => HO_13.out.1 k_ e_));have n2_:=am (Kd.R_mono (ok':=fun k_ => some k_≠(v782 : Value).ownBlock∧some k_≠(.slice Ao118 t796.length co118 : Value).ownBlock) (Kd.R_keptB (HO_793001.out) hkp (fun k_ hk_ hs_ => by first|with_reducible exact hk_.2 hs_|with_reducible exact hk_ hs_|with_reducible exact hk_.1 hs_|with_reducible exact hk_.2 hs_|with_reducible exact hk_.2.1 hs_|with_reducible exact hk_.2.2 hs_|with_reducible exact hk_.2.2.1 hs_|with_reducible exact hk_.2.2.2 hs_|with_reducible exact hk_.1.1 hs_|with_reducible exact hk_.1.2 hs_|exact hk_.2 hs_|exact hk_ hs_)) (fun k_ hk_ => by first|with_reducible exact ⟨hk_.1.1,hk_.1.2⟩|(simp only [and_assoc] at hk_;first|with_reducible exact ⟨hk_.1,hk_.2.1⟩|(refine ⟨?_,?_⟩ <;> first|with_reducible exact hk_.1|with_reducible exact hk_.2.1|with_reducible exact hk_.2.2.1|with_reducible exact hk_.2.2.2.1|with_reducible exact hk_.2.2.2.2.1|with_reducible exact hk_.2|with_reducible exact hk_.2.2|with_reducible exact hk_.2.2.2|with_reducible exact hk_.2.2.2.2|with_reducible exact hk_.2.2.2.2.2))));have n3_:=am (blk_kept (bup BK768.out) hkp (fun hs_ => (fun e_ => (Kd.R_ne HO_13.out BK768.out (by decide)) e_) hs_));have n4_:=am (blk_kept (bup BK792.out) hkp (fun hs_ => (fun e_ => (Kd.R_ne HO_13.out BK792.out (by decide)) e_) hs_));have n5_:=am (hb);clear HO_8 HO_13 HO_793001 BK768 BK792 HB;have HO_8:=n0_;have HO_13:=n1_;have HO_793001:=n2_;have BK768:=n3_;have BK792:=n4_;have HB:=n5_;clear n0_ n1_ n2_ n3_ n4_ n5_;(try clear hb);(try clear hkp);(try clear hy0))|((with_reducible refine gate_callee (f:=30) rfl ?_);refine goesL_ (some 107) rfl rfl Tryd.func30 (by kernel_rfl) rfl #[.slice Ao118 t822.length co118,.int .i64 1] rfl (by (try simp only [List.map_toArray,List.map_cons,List.map_nil]);first|done|(rw [show t822.length = t796.length from (Kd.R_reads' HO_13.out).1.symm] <;> rfl)|rfl|(simp only [List.length_drop,List.length_take];rfl)) ?_;(with_reducible refine (laws_heldInt64S.calls kj64 _ _ t822 1 t823 _ ?side1 ?side2 A88.out).mono ?_);(case side1 => repeat (first|exact (Kd.R_reads' HO_13.out).2.2|(with_reducible first|refine Kd.C_alloc ?_ _|refine Kd.C_drewN ?_ _|refine Kd.C_drew ?_)));(case side2 => rw [show t822.length = t796.length from (Kd.R_reads' HO_13.out).1.symm];exact (Kd.R_reads' HO_13.out).2.1);rintro e w' ⟨rfl,⟨nd,rfl⟩⟩;refine ⟨_,rfl,?_⟩))
               go_ret
               exact ⟨by first|rfl|(simp [errW_none,errW_some] <;> rfl)|(simp [*,errW_none,errW_some] <;> rfl),by repeat (first|(with_reducible first|exact HB.out|apply below_alloc|apply pw_below_drewN|apply below_drew1|refine below_set ?_ GE768.out|refine below_set ?_ GE792.out)|exact HB.out)⟩
         ·replace c61:=Bool.eq_false_iff.mpr c61
          subst c61
          have H1 : (some false) = some r:=by rw [if_neg (show ¬ (false = true) by decide)] at H;exact H
          clear H
          have H:=H1
          clear H1
          obtain rfl:=Option.some.inj H
          try go_wp2_with (first|((with_reducible refine gate_callee (f:=19) rfl ?_);refine goesL_ (some 67) rfl rfl Tryd.func19 (by kernel_rfl) rfl #[.slice A0 l0.length c0] rfl (by (try simp only [List.map_toArray,List.map_cons,List.map_nil]);first|done|rfl|(simp only [List.length_drop,List.length_take];rfl)) ?_;(with_reducible refine (laws_toStringS.calls kj21 _ _ l0 t801 _ ?side1 ?side2 A53.out).mono ?_);(case side1 => repeat (first|exact (Kd.C_below HR0.out HB.out)|(with_reducible first|refine Kd.C_alloc ?_ _|refine Kd.C_drewN ?_ _|refine Kd.C_drew ?_)));(case side2 => exact HC0.out);rintro e w120 ⟨v802,rfl,ho0,hb⟩;refine ⟨_,rfl,?_⟩;have n0_:=am (Kd.R_below (kup HO_8.out) hb);have n1_:=am (Kd.R_elder' (kup HO_10.out) (Kd.R_base ho0) hb);have n2_:=am (Kd.R_below (kup HO_12.out) hb);have n3_:=am (Kd.R_below (kup HO_13.out) hb);have n4_:=am (Kd.R_below (kup HO_793001.out) hb);have n5_:=am (Kd.R_lower (Kd.R_new' ho0 (Kd.R_lt (kup HO_10.out))) (below_size (lup HB.out)));have n6_:=am (blk_below (bup BK768.out) hb);have n7_:=am (blk_below (bup BK792.out) hb);have n8_:=am (below_step (lup HB.out) hb);clear HO_8 HO_10 HO_12 HO_13 HO_793001 BK768 BK792 HB;have HO_8:=n0_;have HO_10:=n1_;have HO_12:=n2_;have HO_13:=n3_;have HO_793001:=n4_;have HO803:=n5_;have BK768:=n6_;have BK792:=n7_;have HB:=n8_;clear n0_ n1_ n2_ n3_ n4_ n5_ n6_ n7_ n8_;(try clear hb);(try clear hb2);(try clear hk);(try clear hi);(try clear ho0);obtain ⟨Ao121,co121,eo121⟩:=Kd.R_slice HO803.out;subst eo121)|((with_reducible refine gate_callee (f:=22) rfl ?_);refine goesL_ (some 68) rfl rfl Tryd.func22 (by kernel_rfl) rfl #[.slice Ao43 t785.length co43,.slice Ao121 t801.length co121] rfl (by (try simp only [List.map_toArray,List.map_cons,List.map_nil]);first|done|rfl|(simp only [List.length_drop,List.length_take];rfl)) ?_;(with_reducible refine (laws_eqStringS.calls kj21 _ _ t785 _ _ t801 true _ ?side1 ?side2 ?side3 ?side4 A54.out).mono ?_);(case side1 => repeat (first|exact (Kd.R_reads' HO_10.out).2.2|(with_reducible first|refine Kd.C_alloc ?_ _|refine Kd.C_drewN ?_ _|refine Kd.C_drew ?_)));(case side2 => exact (Kd.R_reads' HO_10.out).2.1);(case side3 => repeat (first|exact (Kd.R_reads' HO803.out).2.2|(with_reducible first|refine Kd.C_alloc ?_ _|refine Kd.C_drewN ?_ _|refine Kd.C_drew ?_)));(case side4 => exact (Kd.R_reads' HO803.out).2.1);rintro e w' ⟨rfl,⟨nd,rfl⟩⟩;refine ⟨_,rfl,?_⟩))
          (try (rw [drewN_self w120];generalize hq_ : World.drewN w120 _ = w120;have n0_ : Aside0 (Kd.R Kd.string 9 w120 w.heap.size (fun k_ => some k_≠(.slice Ao43 t785.length co43 : Value).ownBlock) (.slice Ao121 t801.length co121) t801):=⟨by rw [← hq_];exact (kup (Kd.R_mono HO803.out (fun _ hk => hk.2)))⟩;have n1_ : Aside0 (Kd.R Kd.string 9 w120 w.heap.size (fun k_ => some k_≠(.slice Ao121 t801.length co121 : Value).ownBlock) (.slice Ao43 t785.length co43) t785):=⟨by rw [← hq_];exact (kup (Kd.R_mono HO_10.out (fun _ hk => hk.2)))⟩;have n2_ : Aside0 (Kd.R (Kd.int .i64) 2 w120 w.heap.size (fun k_ => some k_≠(v797 : Value).ownBlock∧some k_≠(.slice Ao40 t789.length co40 : Value).ownBlock∧some k_≠(v782 : Value).ownBlock) (.slice Ao44 t793.length co44) t793):=⟨by rw [← hq_];exact (kup (Kd.R_mono HO_12.out (fun _ hk => ⟨hk.2.1,⟨hk.2.2,hk.1⟩⟩)))⟩;have n3_ : Aside0 (Kd.R (Kd.int .i64) 2 w120 w.heap.size (fun k_ => some k_≠(.slice Ao44 t793.length co44 : Value).ownBlock∧some k_≠(.slice Ao40 t789.length co40 : Value).ownBlock∧some k_≠(v782 : Value).ownBlock) v797 t796):=⟨by rw [← hq_];exact (kup (Kd.R_mono HO_13.out (fun _ hk => ⟨hk.2.1,⟨hk.2.2,hk.1⟩⟩)))⟩;have n4_ : Aside0 (Kd.R (Kd.int .i64) 2 w120 w.heap.size (fun k_ => some k_≠(.slice Ao44 t793.length co44 : Value).ownBlock∧some k_≠(v797 : Value).ownBlock∧some k_≠(v782 : Value).ownBlock) (.slice Ao40 t789.length co40) t789):=⟨by rw [← hq_];exact (kup (Kd.R_mono HO_793001.out (fun _ hk => ⟨hk.2.1,⟨hk.2.2,hk.1⟩⟩)))⟩;have n5_ : Aside0 (Kd.R (Kd.int .i64) 2 w120 w.heap.size (fun k_ => some k_≠(.slice Ao44 t793.length co44 : Value).ownBlock∧some k_≠(v797 : Value).ownBlock∧some k_≠(.slice Ao40 t789.length co40 : Value).ownBlock) v782 t781):=⟨by rw [← hq_];exact (kup HO_8.out)⟩;have n6_ : Aside0 (w120.heap[gb768]? = some (.cells #[.int .i64 a1_0,.slice A1_1 l1_1.length c1_1] 25 (0,0))):=⟨by rw [← hq_];exact (bup BK768.out)⟩;have n7_ : Aside0 (w120.heap[gb792]? = some (.cells #[.int .i64 t788,.slice Ao40 t789.length co40] 30 (0,0))):=⟨by rw [← hq_];exact (bup BK792.out)⟩;have n8_ : Aside0 (Below w.heap.size w w120):=⟨by rw [← hq_];exact (lup HB.out)⟩;clear HO803 HO_10 HO_12 HO_13 HO_793001 HO_8 BK768 BK792 HB hq_;have HO803:=n0_;have HO_10:=n1_;have HO_12:=n2_;have HO_13:=n3_;have HO_793001:=n4_;have HO_8:=n5_;have BK768:=n6_;have BK792:=n7_;have HB:=n8_;clear n0_ n1_ n2_ n3_ n4_ n5_ n6_ n7_ n8_))
          have n0_:=am (Kd.R_drew HO_8.out)
          have n1_:=am (Kd.R_drew HO_10.out)
          have n2_:=am (Kd.R_drew HO_12.out)
          have n3_:=am (Kd.R_drew HO_13.out)
          have n4_:=am (Kd.R_drew HO_793001.out)
          have n5_:=am (Kd.R_drew HO803.out)
          have n6_:=am (blk_drew BK768.out)
          have n7_:=am (blk_drew BK792.out)
          have n8_:=am (below_drew1 HB.out)
          clear HO_8
          clear HO_10
          clear HO_12
          clear HO_13
          clear HO_793001
          clear HO803
          clear BK768
          clear BK792
          clear HB
          have HO_8:=n0_
          have HO_10:=n1_
          have HO_12:=n2_
          have HO_13:=n3_
          have HO_793001:=n4_
          have HO803:=n5_
          have BK768:=n6_
          have BK792:=n7_
          have HB:=n8_
          clear n0_ n1_ n2_ n3_ n4_ n5_ n6_ n7_ n8_
          refine start_ (n:=5) (S:=fun w' => w'.cell? ⟨gb792,0,none⟩ = some (.int .i64 t788)∧w'.cell? ⟨gb792,1,none⟩ = some (.slice Ao40 t789.length co40)∧w'.cell? ⟨gb768,0,none⟩ = some (.int .i64 a1_0)∧w'.cell? ⟨gb768,1,none⟩ = some (.slice A1_1 l1_1.length c1_1)) (ds:=[]) #[false,false,false,false,false] (by kernel_rfl) rfl rfl ⟨(blk_cell BK792.out 0).trans rfl,(blk_cell BK792.out 1).trans rfl,(blk_cell BK768.out 0).trans rfl,(blk_cell BK768.out 1).trans rfl⟩ (fun hHeld => ?_)
          generalize w120.drew = w122 at HO_8 HO_10 HO_12 HO_13 HO_793001 HO803 BK768 BK792 HB hHeld ⊢
          refine take_ (i:=0) (N:=some 70) (v:=?_) (a':=?_) #[true,false,false,false,false] rfl rfl (by kernel_rfl) (fun _ _ _ h => h) (Or.inl ⟨by rfl,?_⟩) hHeld ?_ ?_
          rotate_left
          ·rintro w' ⟨s0,s1,s2,s3⟩
           go_simp
           with_reducible rfl
          rotate_left
          ·simp only [Act.put,List.setIfInBounds_toArray,List.set_cons_zero,List.set_cons_succ,i64_w,i32_w]
           rfl
          refine take_ (i:=1) (N:=some 71) (v:=?_) (a':=?_) #[true,true,false,false,false] rfl rfl (by kernel_rfl) (fun _ _ _ h => h) (Or.inl ⟨by rfl,?_⟩) hHeld ?_ ?_
          rotate_left
          ·rintro w' ⟨s0,s1,s2,s3⟩
           go_simp
           with_reducible rfl
          rotate_left
          ·simp only [Act.put,List.setIfInBounds_toArray,List.set_cons_zero,List.set_cons_succ,i64_w,i32_w]
           rfl
          refine one_ (i:=2) (N:=some 72) #[true,true,true,false,false] rfl rfl (by kernel_rfl) (by decide) (fun K hK => ?_)
          refine goes_ Tryd.func20 (by kernel_rfl) rfl #[.agg #[.int .i64 a1_0,.slice A1_1 l1_1.length c1_1]] (by rfl) rfl rfl (by (try simp only [List.map_toArray,List.map_cons,List.map_nil]);first|done|rfl|(simp only [List.length_drop,List.length_take];rfl)) ?_
          with_reducible refine (laws_toNursery.calls kj21 a1_0 _ _ l1_1 t805 t806 _ ?side1 ?side2 A56.out).mono ?_
          (case side1 => repeat (first|exact (Kd.C_below HR1_1.out HB.out)|(with_reducible first|refine Kd.C_alloc ?_ _|refine Kd.C_drewN ?_ _|refine Kd.C_drew ?_)))
          (case side2 => exact HC1_1.out)
          rintro e w123 ⟨v807,rfl,ho0,hb⟩
          refine ⟨_,rfl,?_⟩
          have n0_:=am (Kd.R_elder' (kup HO_8.out) (Kd.R_base ho0) hb)
          have n1_:=am (Kd.R_below (kup HO_10.out) hb)
          have n2_:=am (Kd.R_elder' (kup HO_12.out) (Kd.R_base ho0) hb)
          have n3_:=am (Kd.R_elder' (kup HO_13.out) (Kd.R_base ho0) hb)
          have n4_:=am (Kd.R_elder' (kup HO_793001.out) (Kd.R_base ho0) hb)
          have n5_:=am (Kd.R_below (kup HO803.out) hb)
          have n6_:=am (Kd.R_lower (Kd.R_new' (Kd.R_new' (Kd.R_new' (Kd.R_new' ho0 (Kd.R_lt (kup HO_8.out))) (Kd.R_lt (kup HO_12.out))) (Kd.R_lt (kup HO_13.out))) (Kd.R_lt (kup HO_793001.out))) (below_size (lup HB.out)))
          have n7_:=am (blk_below (bup BK768.out) hb)
          have n8_:=am (blk_below (bup BK792.out) hb)
          have n9_:=am (below_step (lup HB.out) hb)
          clear HO_8
          clear HO_10
          clear HO_12
          clear HO_13
          clear HO_793001
          clear HO803
          clear BK768
          clear BK792
          clear HB
          have HO_8:=n0_
          have HO_10:=n1_
          have HO_12:=n2_
          have HO_13:=n3_
          have HO_793001:=n4_
          have HO803:=n5_
          have HO808:=n6_
          have BK768:=n7_
          have BK792:=n8_
          have HB:=n9_
          clear n0_ n1_ n2_ n3_ n4_ n5_ n6_ n7_ n8_ n9_
          (try clear hb)
          (try clear hb2)
          (try clear hk)
          (try clear hi)
          (try clear ho0)
          obtain ⟨Ao124,co124,eo124⟩:=Kd.R_slice HO808.out
          (first|subst eo124|(injection eo124 with f1_ f2_ f3_;have f4_:=f1_.symm;have f5_:=f3_.symm;clear f1_ f2_ f3_;subst f4_;subst f5_))
          refine hK.out _ _ ⟨(blk_cell BK792.out 0).trans rfl,(blk_cell BK792.out 1).trans rfl,(blk_cell BK768.out 0).trans rfl,(blk_cell BK768.out 1).trans rfl⟩ (fun hHeld => ?_)
          clear hK K
          refine norm_ (a':=?_) ?_ ?_
          rotate_left
          ·show Act.put _ (some 72) _ = _
           simp only [Act.put,List.setIfInBounds_toArray,List.set_cons_zero,List.set_cons_succ,i64_w,i32_w]
           rfl
          refine one_ (i:=3) (N:=some 73) #[true,true,true,true,false] rfl rfl (by kernel_rfl) (by decide) (fun K hK => ?_)
          refine goes_ Tryd.func23 (by kernel_rfl) rfl #[.agg #[.int .i64 t788,.slice Ao40 t789.length co40],.agg #[.int .i64 t805,.slice Ao124 t806.length co124]] (by rfl) rfl rfl (by (try simp only [List.map_toArray,List.map_cons,List.map_nil]);first|done|rfl|(simp only [List.length_drop,List.length_take];rfl)) ?_
          with_reducible refine (laws_eqNursery.calls kj21 t788 _ _ t789 t805 _ _ t806 true _ ?side1 ?side2 ?side3 ?side4 A57.out).mono ?_
          (case side1 => repeat (first|exact (Kd.R_reads' HO_793001.out).2.2|(with_reducible first|refine Kd.C_alloc ?_ _|refine Kd.C_drewN ?_ _|refine Kd.C_drew ?_)))
          (case side2 => exact (Kd.R_reads' HO_793001.out).2.1)
          (case side3 => repeat (first|exact (Kd.R_reads' HO808.out).2.2|(with_reducible first|refine Kd.C_alloc ?_ _|refine Kd.C_drewN ?_ _|refine Kd.C_drew ?_)))
          (case side4 => exact (Kd.R_reads' HO808.out).2.1)
          rintro e w125 ⟨rfl,hb⟩
          refine ⟨_,rfl,?_⟩
          have n0_:=am (Kd.R_below (kup HO_8.out) hb)
          have n1_:=am (Kd.R_below (kup HO_10.out) hb)
          have n2_:=am (Kd.R_below (kup HO_12.out) hb)
          have n3_:=am (Kd.R_below (kup HO_13.out) hb)
          have n4_:=am (Kd.R_below (kup HO_793001.out) hb)
          have n5_:=am (Kd.R_below (kup HO803.out) hb)
          have n6_:=am (Kd.R_below (kup HO808.out) hb)
          have n7_:=am (blk_below (bup BK768.out) hb)
          have n8_:=am (blk_below (bup BK792.out) hb)
          have n9_:=am (below_step (lup HB.out) hb)
          clear HO_8
          clear HO_10
          clear HO_12
          clear HO_13
          clear HO_793001
          clear HO803
          clear HO808
          clear BK768
          clear BK792
          clear HB
          have HO_8:=n0_
          have HO_10:=n1_
          have HO_12:=n2_
          have HO_13:=n3_
          have HO_793001:=n4_
          have HO803:=n5_
          have HO808:=n6_
          have BK768:=n7_
          have BK792:=n8_
          have HB:=n9_
          clear n0_ n1_ n2_ n3_ n4_ n5_ n6_ n7_ n8_ n9_
          (try clear hb)
          (try clear hb2)
          (try clear hk)
          (try clear hi)
          refine hK.out _ _ ⟨(blk_cell BK792.out 0).trans rfl,(blk_cell BK792.out 1).trans rfl,(blk_cell BK768.out 0).trans rfl,(blk_cell BK768.out 1).trans rfl⟩ (fun hHeld => ?_)
          clear hK K
          refine norm_ (a':=?_) ?_ ?_
          rotate_left
          ·show Act.put _ (some 73) _ = _
           simp only [Act.put,List.setIfInBounds_toArray,List.set_cons_zero,List.set_cons_succ,i64_w,i32_w]
           rfl
          refine pure_ (i:=4) (N:=some 74) (v:=?_) (a':=?_) #[true,true,true,true,true] rfl rfl (by kernel_rfl) (fun _ _ _ h => h) (Or.inl ⟨by rfl,?_⟩) ?_ ?_
          rotate_left
          ·intro w'
           go_simp
           with_reducible rfl
          rotate_left
          ·simp only [Act.put,List.setIfInBounds_toArray,List.set_cons_zero,List.set_cons_succ,i64_w,i32_w]
           rfl
          refine done_ (by kernel_rfl) ?_
          try go_wp2_with (first|((with_reducible refine gate_callee (f:=44) rfl ?_);refine goesL_ (some 77) rfl rfl Tryd.func44 (by kernel_rfl) rfl #[.slice A2 l2.length c2] rfl (by (try simp only [List.map_toArray,List.map_cons,List.map_nil]);first|done|rfl|(simp only [List.length_drop,List.length_take];rfl)) ?_;(with_reducible refine (laws_toInt64S.calls kj21 _ _ l2 t810 _ ?side1 ?side2 A59.out).mono ?_);(case side1 => repeat (first|exact (Kd.C_below HR2.out HB.out)|(with_reducible first|refine Kd.C_alloc ?_ _|refine Kd.C_drewN ?_ _|refine Kd.C_drew ?_)));(case side2 => exact HC2.out);rintro e w126 ⟨v811,rfl,ho0,hb⟩;refine ⟨_,rfl,?_⟩;have n0_:=am (Kd.R_elder' (kup HO_8.out) (Kd.R_base ho0) hb);have n1_:=am (Kd.R_below (kup HO_10.out) hb);have n2_:=am (Kd.R_elder' (kup HO_12.out) (Kd.R_base ho0) hb);have n3_:=am (Kd.R_elder' (kup HO_13.out) (Kd.R_base ho0) hb);have n4_:=am (Kd.R_elder' (kup HO_793001.out) (Kd.R_base ho0) hb);have n5_:=am (Kd.R_below (kup HO803.out) hb);have n6_:=am (Kd.R_elder' (kup HO808.out) (Kd.R_base ho0) hb);have n7_:=am (Kd.R_lower (Kd.R_new' (Kd.R_new' (Kd.R_new' (Kd.R_new' (Kd.R_new' ho0 (Kd.R_lt (kup HO_8.out))) (Kd.R_lt (kup HO_12.out))) (Kd.R_lt (kup HO_13.out))) (Kd.R_lt (kup HO_793001.out))) (Kd.R_lt (kup HO808.out))) (below_size (lup HB.out)));have n8_:=am (blk_below (bup BK768.out) hb);have n9_:=am (blk_below (bup BK792.out) hb);have n10_:=am (below_step (lup HB.out) hb);clear HO_8 HO_10 HO_12 HO_13 HO_793001 HO803 HO808 BK768 BK792 HB;have HO_8:=n0_;have HO_10:=n1_;have HO_12:=n2_;have HO_13:=n3_;have HO_793001:=n4_;have HO803:=n5_;have HO808:=n6_;have HO812:=n7_;have BK768:=n8_;have BK792:=n9_;have HB:=n10_;clear n0_ n1_ n2_ n3_ n4_ n5_ n6_ n7_ n8_ n9_ n10_;(try clear hb);(try clear hb2);(try clear hk);(try clear hi);(try clear ho0);obtain ⟨Ao127,co127,eo127⟩:=Kd.R_slice HO812.out;subst eo127)|((with_reducible refine gate_callee (f:=26) rfl ?_);refine goesL_ (some 78) rfl rfl Tryd.func26 (by kernel_rfl) rfl #[.slice Ao44 t793.length co44,.slice Ao127 t810.length co127] rfl (by (try simp only [List.map_toArray,List.map_cons,List.map_nil]);first|done|rfl|(simp only [List.length_drop,List.length_take];rfl)) ?_;(with_reducible refine (laws_eqInt64S.calls kj21 _ _ t793 _ _ t810 false _ ?side1 ?side2 ?side3 ?side4 A60.out).mono ?_);(case side1 => repeat (first|exact (Kd.R_reads' HO_12.out).2.2|(with_reducible first|refine Kd.C_alloc ?_ _|refine Kd.C_drewN ?_ _|refine Kd.C_drew ?_)));(case side2 => exact (Kd.R_reads' HO_12.out).2.1);(case side3 => repeat (first|exact (Kd.R_reads' HO812.out).2.2|(with_reducible first|refine Kd.C_alloc ?_ _|refine Kd.C_drewN ?_ _|refine Kd.C_drew ?_)));(case side4 => exact (Kd.R_reads' HO812.out).2.1);rintro e w' ⟨rfl,⟨nd,rfl⟩⟩;refine ⟨_,rfl,?_⟩))
          go_ret
          exact ⟨by first|rfl|(simp [errW_none,errW_some] <;> rfl)|(simp [*,errW_none,errW_some] <;> rfl),by repeat (first|(with_reducible first|exact HB.out|apply below_alloc|apply pw_below_drewN|apply below_drew1|refine below_set ?_ GE768.out|refine below_set ?_ GE792.out)|exact HB.out)⟩
        ·replace c58:=Bool.eq_false_iff.mpr c58
         subst c58
         have H1 : (some false) = some r:=by rw [if_neg (show ¬ (false = true) by decide)] at H;exact H
         clear H
         have H:=H1
         clear H1
         obtain rfl:=Option.some.inj H
         try go_wp2_with (first|((with_reducible refine gate_callee (f:=19) rfl ?_);refine goesL_ (some 67) rfl rfl Tryd.func19 (by kernel_rfl) rfl #[.slice A0 l0.length c0] rfl (by (try simp only [List.map_toArray,List.map_cons,List.map_nil]);first|done|rfl|(simp only [List.length_drop,List.length_take];rfl)) ?_;(with_reducible refine (laws_toStringS.calls kj21 _ _ l0 t801 _ ?side1 ?side2 A53.out).mono ?_);(case side1 => repeat (first|exact (Kd.C_below HR0.out HB.out)|(with_reducible first|refine Kd.C_alloc ?_ _|refine Kd.C_drewN ?_ _|refine Kd.C_drew ?_)));(case side2 => exact HC0.out);rintro e w128 ⟨v802,rfl,ho0,hb⟩;refine ⟨_,rfl,?_⟩;have n0_:=am (Kd.R_below (kup HO_8.out) hb);have n1_:=am (Kd.R_elder' (kup HO_10.out) (Kd.R_base ho0) hb);have n2_:=am (Kd.R_below (kup HO_12.out) hb);have n3_:=am (Kd.R_below (kup HO_13.out) hb);have n4_:=am (Kd.R_below (kup HO_793001.out) hb);have n5_:=am (Kd.R_lower (Kd.R_new' ho0 (Kd.R_lt (kup HO_10.out))) (below_size (lup HB.out)));have n6_:=am (blk_below (bup BK768.out) hb);have n7_:=am (blk_below (bup BK792.out) hb);have n8_:=am (below_step (lup HB.out) hb);clear HO_8 HO_10 HO_12 HO_13 HO_793001 BK768 BK792 HB;have HO_8:=n0_;have HO_10:=n1_;have HO_12:=n2_;have HO_13:=n3_;have HO_793001:=n4_;have HO803:=n5_;have BK768:=n6_;have BK792:=n7_;have HB:=n8_;clear n0_ n1_ n2_ n3_ n4_ n5_ n6_ n7_ n8_;(try clear hb);(try clear hb2);(try clear hk);(try clear hi);(try clear ho0);obtain ⟨Ao129,co129,eo129⟩:=Kd.R_slice HO803.out;subst eo129)|((with_reducible refine gate_callee (f:=22) rfl ?_);refine goesL_ (some 68) rfl rfl Tryd.func22 (by kernel_rfl) rfl #[.slice Ao43 t785.length co43,.slice Ao129 t801.length co129] rfl (by (try simp only [List.map_toArray,List.map_cons,List.map_nil]);first|done|rfl|(simp only [List.length_drop,List.length_take];rfl)) ?_;(with_reducible refine (laws_eqStringS.calls kj21 _ _ t785 _ _ t801 true _ ?side1 ?side2 ?side3 ?side4 A54.out).mono ?_);(case side1 => repeat (first|exact (Kd.R_reads' HO_10.out).2.2|(with_reducible first|refine Kd.C_alloc ?_ _|refine Kd.C_drewN ?_ _|refine Kd.C_drew ?_)));(case side2 => exact (Kd.R_reads' HO_10.out).2.1);(case side3 => repeat (first|exact (Kd.R_reads' HO803.out).2.2|(with_reducible first|refine Kd.C_alloc ?_ _|refine Kd.C_drewN ?_ _|refine Kd.C_drew ?_)));(case side4 => exact (Kd.R_reads' HO803.out).2.1);rintro e w' ⟨rfl,⟨nd,rfl⟩⟩;refine ⟨_,rfl,?_⟩))
         (try (rw [drewN_self w128];generalize hq_ : World.drewN w128 _ = w128;have n0_ : Aside0 (Kd.R Kd.string 9 w128 w.heap.size (fun k_ => some k_≠(.slice Ao43 t785.length co43 : Value).ownBlock) (.slice Ao129 t801.length co129) t801):=⟨by rw [← hq_];exact (kup (Kd.R_mono HO803.out (fun _ hk => hk.2)))⟩;have n1_ : Aside0 (Kd.R Kd.string 9 w128 w.heap.size (fun k_ => some k_≠(.slice Ao129 t801.length co129 : Value).ownBlock) (.slice Ao43 t785.length co43) t785):=⟨by rw [← hq_];exact (kup (Kd.R_mono HO_10.out (fun _ hk => hk.2)))⟩;have n2_ : Aside0 (Kd.R (Kd.int .i64) 2 w128 w.heap.size (fun k_ => some k_≠(v797 : Value).ownBlock∧some k_≠(.slice Ao40 t789.length co40 : Value).ownBlock∧some k_≠(v782 : Value).ownBlock) (.slice Ao44 t793.length co44) t793):=⟨by rw [← hq_];exact (kup (Kd.R_mono HO_12.out (fun _ hk => ⟨hk.2.1,⟨hk.2.2,hk.1⟩⟩)))⟩;have n3_ : Aside0 (Kd.R (Kd.int .i64) 2 w128 w.heap.size (fun k_ => some k_≠(.slice Ao44 t793.length co44 : Value).ownBlock∧some k_≠(.slice Ao40 t789.length co40 : Value).ownBlock∧some k_≠(v782 : Value).ownBlock) v797 t796):=⟨by rw [← hq_];exact (kup (Kd.R_mono HO_13.out (fun _ hk => ⟨hk.2.1,⟨hk.2.2,hk.1⟩⟩)))⟩;have n4_ : Aside0 (Kd.R (Kd.int .i64) 2 w128 w.heap.size (fun k_ => some k_≠(.slice Ao44 t793.length co44 : Value).ownBlock∧some k_≠(v797 : Value).ownBlock∧some k_≠(v782 : Value).ownBlock) (.slice Ao40 t789.length co40) t789):=⟨by rw [← hq_];exact (kup (Kd.R_mono HO_793001.out (fun _ hk => ⟨hk.2.1,⟨hk.2.2,hk.1⟩⟩)))⟩;have n5_ : Aside0 (Kd.R (Kd.int .i64) 2 w128 w.heap.size (fun k_ => some k_≠(.slice Ao44 t793.length co44 : Value).ownBlock∧some k_≠(v797 : Value).ownBlock∧some k_≠(.slice Ao40 t789.length co40 : Value).ownBlock) v782 t781):=⟨by rw [← hq_];exact (kup HO_8.out)⟩;have n6_ : Aside0 (w128.heap[gb768]? = some (.cells #[.int .i64 a1_0,.slice A1_1 l1_1.length c1_1] 25 (0,0))):=⟨by rw [← hq_];exact (bup BK768.out)⟩;have n7_ : Aside0 (w128.heap[gb792]? = some (.cells #[.int .i64 t788,.slice Ao40 t789.length co40] 30 (0,0))):=⟨by rw [← hq_];exact (bup BK792.out)⟩;have n8_ : Aside0 (Below w.heap.size w w128):=⟨by rw [← hq_];exact (lup HB.out)⟩;clear HO803 HO_10 HO_12 HO_13 HO_793001 HO_8 BK768 BK792 HB hq_;have HO803:=n0_;have HO_10:=n1_;have HO_12:=n2_;have HO_13:=n3_;have HO_793001:=n4_;have HO_8:=n5_;have BK768:=n6_;have BK792:=n7_;have HB:=n8_;clear n0_ n1_ n2_ n3_ n4_ n5_ n6_ n7_ n8_))
         have n0_:=am (Kd.R_drew HO_8.out)
         have n1_:=am (Kd.R_drew HO_10.out)
         have n2_:=am (Kd.R_drew HO_12.out)
         have n3_:=am (Kd.R_drew HO_13.out)
         have n4_:=am (Kd.R_drew HO_793001.out)
         have n5_:=am (Kd.R_drew HO803.out)
         have n6_:=am (blk_drew BK768.out)
         have n7_:=am (blk_drew BK792.out)
         have n8_:=am (below_drew1 HB.out)
         clear HO_8
         clear HO_10
         clear HO_12
         clear HO_13
         clear HO_793001
         clear HO803
         clear BK768
         clear BK792
         clear HB
         have HO_8:=n0_
         have HO_10:=n1_
         have HO_12:=n2_
         have HO_13:=n3_
         have HO_793001:=n4_
         have HO803:=n5_
         have BK768:=n6_
         have BK792:=n7_
         have HB:=n8_
         clear n0_ n1_ n2_ n3_ n4_ n5_ n6_ n7_ n8_
         refine start_ (n:=5) (S:=fun w' => w'.cell? ⟨gb792,0,none⟩ = some (.int .i64 t788)∧w'.cell? ⟨gb792,1,none⟩ = some (.slice Ao40 t789.length co40)∧w'.cell? ⟨gb768,0,none⟩ = some (.int .i64 a1_0)∧w'.cell? ⟨gb768,1,none⟩ = some (.slice A1_1 l1_1.length c1_1)) (ds:=[]) #[false,false,false,false,false] (by kernel_rfl) rfl rfl ⟨(blk_cell BK792.out 0).trans rfl,(blk_cell BK792.out 1).trans rfl,(blk_cell BK768.out 0).trans rfl,(blk_cell BK768.out 1).trans rfl⟩ (fun hHeld => ?_)
         generalize w128.drew = w130 at HO_8 HO_10 HO_12 HO_13 HO_793001 HO803 BK768 BK792 HB hHeld ⊢
         refine take_ (i:=0) (N:=some 70) (v:=?_) (a':=?_) #[true,false,false,false,false] rfl rfl (by kernel_rfl) (fun _ _ _ h => h) (Or.inl ⟨by rfl,?_⟩) hHeld ?_ ?_
         rotate_left
         ·rintro w' ⟨s0,s1,s2,s3⟩
          go_simp
          with_reducible rfl
         rotate_left
         ·simp only [Act.put,List.setIfInBounds_toArray,List.set_cons_zero,List.set_cons_succ,i64_w,i32_w]
          rfl
         refine take_ (i:=1) (N:=some 71) (v:=?_) (a':=?_) #[true,true,false,false,false] rfl rfl (by kernel_rfl) (fun _ _ _ h => h) (Or.inl ⟨by rfl,?_⟩) hHeld ?_ ?_
         rotate_left
         ·rintro w' ⟨s0,s1,s2,s3⟩
          go_simp
          with_reducible rfl
         rotate_left
         ·simp only [Act.put,List.setIfInBounds_toArray,List.set_cons_zero,List.set_cons_succ,i64_w,i32_w]
          rfl
         refine one_ (i:=2) (N:=some 72) #[true,true,true,false,false] rfl rfl (by kernel_rfl) (by decide) (fun K hK => ?_)
         refine goes_ Tryd.func20 (by kernel_rfl) rfl #[.agg #[.int .i64 a1_0,.slice A1_1 l1_1.length c1_1]] (by rfl) rfl rfl (by (try simp only [List.map_toArray,List.map_cons,List.map_nil]);first|done|rfl|(simp only [List.length_drop,List.length_take];rfl)) ?_
         with_reducible refine (laws_toNursery.calls kj21 a1_0 _ _ l1_1 t805 t806 _ ?side1 ?side2 A56.out).mono ?_
         (case side1 => repeat (first|exact (Kd.C_below HR1_1.out HB.out)|(with_reducible first|refine Kd.C_alloc ?_ _|refine Kd.C_drewN ?_ _|refine Kd.C_drew ?_)))
         (case side2 => exact HC1_1.out)
         rintro e w131 ⟨v807,rfl,ho0,hb⟩
         refine ⟨_,rfl,?_⟩
         have n0_:=am (Kd.R_elder' (kup HO_8.out) (Kd.R_base ho0) hb)
         have n1_:=am (Kd.R_below (kup HO_10.out) hb)
         have n2_:=am (Kd.R_elder' (kup HO_12.out) (Kd.R_base ho0) hb)
         have n3_:=am (Kd.R_elder' (kup HO_13.out) (Kd.R_base ho0) hb)
         have n4_:=am (Kd.R_elder' (kup HO_793001.out) (Kd.R_base ho0) hb)
         have n5_:=am (Kd.R_below (kup HO803.out) hb)
         have n6_:=am (Kd.R_lower (Kd.R_new' (Kd.R_new' (Kd.R_new' (Kd.R_new' ho0 (Kd.R_lt (kup HO_8.out))) (Kd.R_lt (kup HO_12.out))) (Kd.R_lt (kup HO_13.out))) (Kd.R_lt (kup HO_793001.out))) (below_size (lup HB.out)))
         have n7_:=am (blk_below (bup BK768.out) hb)
         have n8_:=am (blk_below (bup BK792.out) hb)
         have n9_:=am (below_step (lup HB.out) hb)
         clear HO_8
         clear HO_10
         clear HO_12
         clear HO_13
         clear HO_793001
         clear HO803
         clear BK768
         clear BK792
         clear HB
         have HO_8:=n0_
         have HO_10:=n1_
         have HO_12:=n2_
         have HO_13:=n3_
         have HO_793001:=n4_
         have HO803:=n5_
         have HO808:=n6_
         have BK768:=n7_
         have BK792:=n8_
         have HB:=n9_
         clear n0_ n1_ n2_ n3_ n4_ n5_ n6_ n7_ n8_ n9_
         (try clear hb)
         (try clear hb2)
         (try clear hk)
         (try clear hi)
         (try clear ho0)
         obtain ⟨Ao132,co132,eo132⟩:=Kd.R_slice HO808.out
         (first|subst eo132|(injection eo132 with f1_ f2_ f3_;have f4_:=f1_.symm;have f5_:=f3_.symm;clear f1_ f2_ f3_;subst f4_;subst f5_))
         refine hK.out _ _ ⟨(blk_cell BK792.out 0).trans rfl,(blk_cell BK792.out 1).trans rfl,(blk_cell BK768.out 0).trans rfl,(blk_cell BK768.out 1).trans rfl⟩ (fun hHeld => ?_)
         clear hK K
         refine norm_ (a':=?_) ?_ ?_
         rotate_left
         ·show Act.put _ (some 72) _ = _
          simp only [Act.put,List.setIfInBounds_toArray,List.set_cons_zero,List.set_cons_succ,i64_w,i32_w]
          rfl
         refine one_ (i:=3) (N:=some 73) #[true,true,true,true,false] rfl rfl (by kernel_rfl) (by decide) (fun K hK => ?_)
         refine goes_ Tryd.func23 (by kernel_rfl) rfl #[.agg #[.int .i64 t788,.slice Ao40 t789.length co40],.agg #[.int .i64 t805,.slice Ao132 t806.length co132]] (by rfl) rfl rfl (by (try simp only [List.map_toArray,List.map_cons,List.map_nil]);first|done|rfl|(simp only [List.length_drop,List.length_take];rfl)) ?_
         with_reducible refine (laws_eqNursery.calls kj21 t788 _ _ t789 t805 _ _ t806 false _ ?side1 ?side2 ?side3 ?side4 A57.out).mono ?_
         (case side1 => repeat (first|exact (Kd.R_reads' HO_793001.out).2.2|(with_reducible first|refine Kd.C_alloc ?_ _|refine Kd.C_drewN ?_ _|refine Kd.C_drew ?_)))
         (case side2 => exact (Kd.R_reads' HO_793001.out).2.1)
         (case side3 => repeat (first|exact (Kd.R_reads' HO808.out).2.2|(with_reducible first|refine Kd.C_alloc ?_ _|refine Kd.C_drewN ?_ _|refine Kd.C_drew ?_)))
         (case side4 => exact (Kd.R_reads' HO808.out).2.1)
         rintro e w133 ⟨rfl,hb⟩
         refine ⟨_,rfl,?_⟩
         have n0_:=am (Kd.R_below (kup HO_8.out) hb)
         have n1_:=am (Kd.R_below (kup HO_10.out) hb)
         have n2_:=am (Kd.R_below (kup HO_12.out) hb)
         have n3_:=am (Kd.R_below (kup HO_13.out) hb)
         have n4_:=am (Kd.R_below (kup HO_793001.out) hb)
         have n5_:=am (Kd.R_below (kup HO803.out) hb)
         have n6_:=am (Kd.R_below (kup HO808.out) hb)
         have n7_:=am (blk_below (bup BK768.out) hb)
         have n8_:=am (blk_below (bup BK792.out) hb)
         have n9_:=am (below_step (lup HB.out) hb)
         clear HO_8
         clear HO_10
         clear HO_12
         clear HO_13
         clear HO_793001
         clear HO803
         clear HO808
         clear BK768
         clear BK792
         clear HB
         have HO_8:=n0_
         have HO_10:=n1_
         have HO_12:=n2_
         have HO_13:=n3_
         have HO_793001:=n4_
         have HO803:=n5_
         have HO808:=n6_
         have BK768:=n7_
         have BK792:=n8_
         have HB:=n9_
         clear n0_ n1_ n2_ n3_ n4_ n5_ n6_ n7_ n8_ n9_
         (try clear hb)
         (try clear hb2)
         (try clear hk)
         (try clear hi)
         refine hK.out _ _ ⟨(blk_cell BK792.out 0).trans rfl,(blk_cell BK792.out 1).trans rfl,(blk_cell BK768.out 0).trans rfl,(blk_cell BK768.out 1).trans rfl⟩ (fun hHeld => ?_)
         clear hK K
         refine norm_ (a':=?_) ?_ ?_
         rotate_left
         ·show Act.put _ (some 73) _ = _
          simp only [Act.put,List.setIfInBounds_toArray,List.set_cons_zero,List.set_cons_succ,i64_w,i32_w]
          rfl
         refine pure_ (i:=4) (N:=some 74) (v:=?_) (a':=?_) #[true,true,true,true,true] rfl rfl (by kernel_rfl) (fun _ _ _ h => h) (Or.inl ⟨by rfl,?_⟩) ?_ ?_
         rotate_left
         ·intro w'
          go_simp
          with_reducible rfl
         rotate_left
         ·simp only [Act.put,List.setIfInBounds_toArray,List.set_cons_zero,List.set_cons_succ,i64_w,i32_w]
          rfl
         refine done_ (by kernel_rfl) ?_
         try go_wp2
         go_ret
         exact ⟨by first|rfl|(simp [errW_none,errW_some] <;> rfl)|(simp [*,errW_none,errW_some] <;> rfl),by repeat (first|(with_reducible first|exact HB.out|apply below_alloc|apply pw_below_drewN|apply below_drew1|refine below_set ?_ GE768.out|refine below_set ?_ GE792.out)|exact HB.out)⟩
       ·replace c55:=Bool.eq_false_iff.mpr c55
        subst c55
        have H1 : (some false) = some r:=by rw [if_neg (show ¬ (false = true) by decide)] at H;exact H
        clear H
        have H:=H1
        clear H1
        obtain rfl:=Option.some.inj H
        go_wp2_with (first|((with_reducible refine gate_callee (f:=19) rfl ?_);refine goesL_ (some 67) rfl rfl Tryd.func19 (by kernel_rfl) rfl #[.slice A0 l0.length c0] rfl (by (try simp only [List.map_toArray,List.map_cons,List.map_nil]);first|done|rfl|(simp only [List.length_drop,List.length_take];rfl)) ?_;(with_reducible refine (laws_toStringS.calls kj21 _ _ l0 t801 _ ?side1 ?side2 A53.out).mono ?_);(case side1 => repeat (first|exact (Kd.C_below HR0.out HB.out)|(with_reducible first|refine Kd.C_alloc ?_ _|refine Kd.C_drewN ?_ _|refine Kd.C_drew ?_)));(case side2 => exact HC0.out);rintro e w134 ⟨v802,rfl,ho0,hb⟩;refine ⟨_,rfl,?_⟩;have n0_:=am (Kd.R_below (kup HO_8.out) hb);have n1_:=am (Kd.R_elder' (kup HO_10.out) (Kd.R_base ho0) hb);have n2_:=am (Kd.R_below (kup HO_12.out) hb);have n3_:=am (Kd.R_below (kup HO_13.out) hb);have n4_:=am (Kd.R_below (kup HO_793001.out) hb);have n5_:=am (Kd.R_lower (Kd.R_new' ho0 (Kd.R_lt (kup HO_10.out))) (below_size (lup HB.out)));have n6_:=am (blk_below (bup BK768.out) hb);have n7_:=am (blk_below (bup BK792.out) hb);have n8_:=am (below_step (lup HB.out) hb);clear HO_8 HO_10 HO_12 HO_13 HO_793001 BK768 BK792 HB;have HO_8:=n0_;have HO_10:=n1_;have HO_12:=n2_;have HO_13:=n3_;have HO_793001:=n4_;have HO803:=n5_;have BK768:=n6_;have BK792:=n7_;have HB:=n8_;clear n0_ n1_ n2_ n3_ n4_ n5_ n6_ n7_ n8_;(try clear hb);(try clear hb2);(try clear hk);(try clear hi);(try clear ho0);obtain ⟨Ao135,co135,eo135⟩:=Kd.R_slice HO803.out;subst eo135)|((with_reducible refine gate_callee (f:=22) rfl ?_);refine goesL_ (some 68) rfl rfl Tryd.func22 (by kernel_rfl) rfl #[.slice Ao43 t785.length co43,.slice Ao135 t801.length co135] rfl (by (try simp only [List.map_toArray,List.map_cons,List.map_nil]);first|done|rfl|(simp only [List.length_drop,List.length_take];rfl)) ?_;(with_reducible refine (laws_eqStringS.calls kj21 _ _ t785 _ _ t801 false _ ?side1 ?side2 ?side3 ?side4 A54.out).mono ?_);(case side1 => repeat (first|exact (Kd.R_reads' HO_10.out).2.2|(with_reducible first|refine Kd.C_alloc ?_ _|refine Kd.C_drewN ?_ _|refine Kd.C_drew ?_)));(case side2 => exact (Kd.R_reads' HO_10.out).2.1);(case side3 => repeat (first|exact (Kd.R_reads' HO803.out).2.2|(with_reducible first|refine Kd.C_alloc ?_ _|refine Kd.C_drewN ?_ _|refine Kd.C_drew ?_)));(case side4 => exact (Kd.R_reads' HO803.out).2.1);rintro e w' ⟨rfl,⟨nd,rfl⟩⟩;refine ⟨_,rfl,?_⟩))
        go_ret
        exact ⟨by first|rfl|(simp [errW_none,errW_some] <;> rfl)|(simp [*,errW_none,errW_some] <;> rfl),by repeat (first|(with_reducible first|exact HB.out|apply below_alloc|apply pw_below_drewN|apply below_drew1|refine below_set ?_ GE768.out|refine below_set ?_ GE792.out)|exact HB.out)⟩

/-- THE ONE PURE STATEMENT of laws_FnExactYoungClosure. -/
def laws_FnExactYoungClosure.Pure : Prop := ∀ (l0 : List ByteArray) (a1_0 : Int) (l1_1 : List Int) (l2 : List Int), (l0.length ≤ maxLen ∧ ∀ y0 ∈ l0, y0.size ≤ maxLen) → (Lit.int .i64 a1_0).wf = true → (l1_1.length ≤ maxLen ∧ ∀ y0 ∈ l1_1, (Lit.int .i64 y0).wf = true) → (l2.length ≤ maxLen ∧ ∀ y0 ∈ l2, (Lit.int .i64 y0).wf = true) → ∃ k, laws_FnExactYoungClosure.f k l0 a1_0 l1_1 l2 = some true

end Go.Proofs.YtgfeafcgpeclcaaDoor.X
namespace Go.Proofs.YtgfeafcgpeclcaaDoor.Pure
open Go.RowKit Go.Proofs.YtgfeafcgpeclcaaDoorW.PrintWords Go.Proofs.YtgfeafcgpeclcaaDoorW.PrintLast
set_option linter.unusedVariables false
set_option linter.unusedSimpArgs false

theorem w64 {x : Int} (h0 : -9223372036854775808 ≤ x) (h1 : x ≤ 9223372036854775807) : wrap64 x = x := by
  unfold wrap64
  omega

section
variable {α β : Type}
theorem Ev.pos {c : Prop} [Decidable c] {A B : Nat → Option α} {r : α} (h : c) (k : Ev A r) : Ev (fun n => if c then A n else B n) r := by
  obtain ⟨K, k⟩ := k
  exact ⟨K, fun n hn => by simp only [if_pos h]; exact k n hn⟩
theorem Ev.neg {c : Prop} [Decidable c] {A B : Nat → Option α} {r : α} (h : ¬ c) (k : Ev B r) : Ev (fun n => if c then A n else B n) r := by
  obtain ⟨K, k⟩ := k
  exact ⟨K, fun n hn => by simp only [if_neg h]; exact k n hn⟩
theorem Ev.cases {c : Prop} [Decidable c] {A B : Nat → Option α} {r : α} (h : c → Ev A r) (k : ¬ c → Ev B r) : Ev (fun n => if c then A n else B n) r := by
  by_cases hc : c
  · exact Ev.pos hc (h hc)
  · exact Ev.neg hc (k hc)
theorem Ev.eq {r r' : α} (h : r = r') : Ev (fun _ => some r) r' := ⟨0, fun _ _ => by rw [h]⟩
theorem Ev.val {g : Nat → Option α} {r r' : α} (h : Ev g r) (e : r = r') : Ev g r' := e ▸ h
theorem Ev.bindo {g : Option α} {f : Nat → α → Option β} {a : α} {r : β} (h : g = some a) (k : Ev (fun n => f n a) r) : Ev (fun n => g.bind (f n)) r := by
  obtain ⟨K, k⟩ := k
  exact ⟨K, fun n hn => by simp only [h, Option.bind_some]; exact k n hn⟩
theorem Ev.det {g : Nat → Option α} {r r' : α} (h : Ev g r) (k : Ev g r') : r = r' := by
  obtain ⟨K, h⟩ := h
  obtain ⟨K', k⟩ := k
  have h1 := h (max K K') (by omega)
  have h2 := k (max K K') (by omega)
  rw [h1] at h2
  exact Option.some.inj h2
end

/-! ### lists by place -/
theorem rd_get {l : List Int} {i : Nat} (h : i < l.length) : rd l (i : Int) = l[i] := by
  unfold rd
  simp [List.getD_eq_getElem?_getD, List.getElem?_eq_getElem h]
theorem rd_eq {l : List Int} {i : Nat} : rd l (i : Int) = l.getD i 0 := by
  unfold rd
  simp
theorem take_snoc2 {α : Type} (l : List α) (i : Nat) (h : i < l.length) : l.take (i + 1) = l.take i ++ [l[i]] := by
  rw [List.take_succ_eq_append_getElem h]
/-- k, k + 1, .., n numbers. -/
def marks (k : Int) (n : Nat) : List Int := (List.range n).map fun i : Nat => k + (i : Int)
theorem marks_length (k : Int) (n : Nat) : (marks k n).length = n := by simp [marks]
theorem marks_get (k : Int) (n i : Nat) (h : i < n) : rd (marks k n) (i : Int) = k + i := by
  have h' : i < (marks k n).length := by rw [marks_length]; exact h
  rw [rd_get h']
  simp [marks]
end Go.Proofs.YtgfeafcgpeclcaaDoor.Pure
namespace Go.Proofs.YtgfeafcgpeclcaaDoor.Pure
open Go.RowKit Go.Proofs.YtgfeafcgpeclcaaDoor.X Go.Proofs.YtgfeafcgpeclcaaDoorW.PrintWords Go.Proofs.YtgfeafcgpeclcaaDoorW.PrintLast
set_option linter.unusedVariables false
set_option linter.unusedSimpArgs false

theorem toInt64S_l (l : List Int) (hl : l.length ≤ 1099511627776) (d : Nat) : ∀ (i : Nat) (x : List Int), l.length - i = d → i ≤ l.length → x.length = l.length → (∀ m (h : m < x.length) (h' : m < l.length), m < i → x[m] = l[m]) →
    Ev (fun k => laws_toInt64S.l0 k l x (i : Int)) l := by
  induction d with
  | zero =>
    intro i x hd hi hx hm
    refine Ev.step (fun k => by rw [laws_toInt64S.l0]) ?_
    refine Ev.neg (by omega) (Ev.eq ?_)
    exact List.ext_getElem hx (fun m h1 h2 => hm m h1 h2 (by omega))
  | succ d ih =>
    intro i x hd hi hx hm
    have hlt : i < l.length := by omega
    refine Ev.step (fun k => by rw [laws_toInt64S.l0]) ?_
    refine Ev.pos (by omega) (Ev.pos (by omega) (Ev.pos (by omega) ?_))
    rw [show wrap64 ((i : Int) + 1) = ((i + 1 : Nat) : Int) from by rw [w64 (by omega) (by omega)]; omega, rd_get hlt]
    refine ih (i + 1) _ (by omega) (by omega) (by simp [hx]) (fun m h1 h2 h3 => ?_)
    rw [List.getElem_set]
    simp only [Int.toNat_natCast]
    split
    · rename_i e; subst e; rfl
    · exact hm m (by simpa using h1) h2 (by omega)
theorem toInt64S_ev (l : List Int) (hl : l.length ≤ 1099511627776) : Ev (fun k => laws_toInt64S.f k l) l := by
  unfold laws_toInt64S.f
  refine Ev.pos (by omega) (Ev.pos (by omega) ?_)
  exact toInt64S_l l hl _ 0 _ rfl (by omega) (by simp) (fun m _ _ h => by omega)

theorem eqInt64S_l (a b : List Int) (hl : a.length ≤ 1099511627776) (he : a.length = b.length) (d : Nat) : ∀ (i : Nat), a.length - i = d → i ≤ a.length → (∀ m (h : m < a.length) (h' : m < b.length), m < i → a[m] = b[m]) →
    Ev (fun k => laws_eqInt64S.l0 k a b (i : Int)) (decide (a = b)) := by
  induction d with
  | zero =>
    intro i hd hi hm
    refine Ev.step (fun k => by rw [laws_eqInt64S.l0]) ?_
    refine Ev.neg (by omega) (Ev.eq ?_)
    exact (decide_eq_true (List.ext_getElem he (fun m h1 h2 => hm m h1 h2 (by omega)))).symm
  | succ d ih =>
    intro i hd hi hm
    have hlt : i < a.length := by omega
    have hlt2 : i < b.length := by omega
    refine Ev.step (fun k => by rw [laws_eqInt64S.l0]) ?_
    refine Ev.pos (by omega) (Ev.pos (by omega) (Ev.pos (by omega) ?_))
    rw [show wrap64 ((i : Int) + 1) = ((i + 1 : Nat) : Int) from by rw [w64 (by omega) (by omega)]; omega, rd_get hlt, rd_get hlt2]
    refine Ev.cases (fun e => ?_) (fun e => Ev.eq ?_)
    · exact ih (i + 1) (by omega) (by omega) (fun m h1 h2 h3 => by
        by_cases h : m = i
        · subst h; exact e
        · exact hm m h1 h2 (by omega))
    · exact (decide_eq_false (fun h => e (by subst h; rfl))).symm
theorem eqInt64S_ev (a b : List Int) (hl : a.length ≤ 1099511627776) : Ev (fun k => laws_eqInt64S.f k a b) (decide (a = b)) := by
  unfold laws_eqInt64S.f
  refine Ev.cases (fun e => ?_) (fun e => Ev.eq ?_)
  · exact eqInt64S_l a b hl (by omega) _ 0 rfl (by omega) (fun m _ _ h => by omega)
  · exact (decide_eq_false (fun h => e (by rw [h]))).symm
theorem eqInt64S_same (a : List Int) (hl : a.length ≤ 1099511627776) : Ev (fun k => laws_eqInt64S.f k a a) true := Ev.val (eqInt64S_ev a a hl) (by simp)

theorem markInt64S_l (k0 : Int) (h0 : 0 ≤ k0) (h1 : k0 ≤ 1099511627776) (n : Nat) (hn : n ≤ 1099511627776) (d : Nat) : ∀ (i : Nat) (x : List Int), n - i = d → i ≤ n → x.length = n → (∀ m (h : m < x.length), m < i → x[m] = k0 + m) →
    Ev (fun k => laws_markInt64S.l0 k x (k0 + i) (i : Int)) (k0 + n, marks k0 n) := by
  induction d with
  | zero =>
    intro i x hd hi hx hm
    refine Ev.step (fun k => by rw [laws_markInt64S.l0]) ?_
    refine Ev.neg (by omega) (Ev.eq ?_)
    obtain rfl : i = n := by omega
    refine congrArg (Prod.mk _) (List.ext_getElem (by rw [hx, marks_length]) (fun m h1 h2 => ?_))
    rw [hm m h1 (by omega)]
    simp [marks]
  | succ d ih =>
    intro i x hd hi hx hm
    have hlt : i < n := by omega
    refine Ev.step (fun k => by rw [laws_markInt64S.l0]) ?_
    refine Ev.pos (by omega) (Ev.pos (by omega) ?_)
    rw [show wrap64 ((i : Int) + 1) = ((i + 1 : Nat) : Int) from by rw [w64 (by omega) (by omega)]; omega, show wrap64 (k0 + (i : Int) + 1) = k0 + ((i + 1 : Nat) : Int) from by rw [w64 (by omega) (by omega)]; omega]
    refine ih (i + 1) _ (by omega) (by omega) (by simp [hx]) (fun m h1 h3 => ?_)
    rw [List.getElem_set]
    simp only [Int.toNat_natCast]
    split
    · rename_i e; subst e; rfl
    · exact hm m (by simpa using h1) (by omega)
theorem markInt64S_ev (l : List Int) (k0 : Int) (h0 : 0 ≤ k0) (h1 : k0 ≤ 1099511627776) (hl : l.length ≤ 1099511627776) : Ev (fun k => laws_markInt64S.f k l k0) (k0 + l.length, marks k0 l.length) := by
  unfold laws_markInt64S.f
  have h := markInt64S_l k0 h0 h1 l.length hl _ 0 l rfl (by omega) rfl (fun m _ h => by omega)
  simpa using h

theorem heldInt64S_l (k0 : Int) (h0 : 0 ≤ k0) (h1 : k0 ≤ 1099511627776) (n : Nat) (hn : n ≤ 1099511627776) (d : Nat) : ∀ (i : Nat), n - i = d → i ≤ n →
    Ev (fun k => laws_heldInt64S.l0 k (marks k0 n) (k0 + i) (i : Int)) (k0 + n) := by
  induction d with
  | zero =>
    intro i hd hi
    refine Ev.step (fun k => by rw [laws_heldInt64S.l0]) ?_
    rw [marks_length]
    exact Ev.neg (by omega) (Ev.eq (by omega))
  | succ d ih =>
    intro i hd hi
    refine Ev.step (fun k => by rw [laws_heldInt64S.l0]) ?_
    rw [marks_length]
    refine Ev.pos (by omega) (Ev.pos (by omega) ?_)
    refine Ev.pos (marks_get k0 n i (by omega)) ?_
    rw [show wrap64 ((i : Int) + 1) = ((i + 1 : Nat) : Int) from by rw [w64 (by omega) (by omega)]; omega, show wrap64 (k0 + (i : Int) + 1) = k0 + ((i + 1 : Nat) : Int) from by rw [w64 (by omega) (by omega)]; omega]
    exact ih (i + 1) (by omega) (by omega)
theorem heldInt64S_ev (k0 : Int) (n : Nat) (h0 : 0 ≤ k0) (h1 : k0 ≤ 1099511627776) (hn : n ≤ 1099511627776) : Ev (fun k => laws_heldInt64S.f k (marks k0 n) k0) (k0 + n) := by
  unfold laws_heldInt64S.f
  have h := heldInt64S_l k0 h0 h1 n hn _ 0 rfl (by omega)
  simpa using h
end Go.Proofs.YtgfeafcgpeclcaaDoor.Pure
namespace Go.Proofs.YtgfeafcgpeclcaaDoor.Pure
open Go.RowKit Go.Proofs.YtgfeafcgpeclcaaDoor.X Go.Proofs.YtgfeafcgpeclcaaDoorW.PrintWords Go.Proofs.YtgfeafcgpeclcaaDoorW.PrintLast
set_option linter.unusedVariables false
set_option linter.unusedSimpArgs false
theorem rdS_get {l : List ByteArray} {i : Nat} (h : i < l.length) : rdOf ByteArray.empty l (i : Int) = l[i] := by
  simp [rdOf, List.getD_eq_getElem?_getD, List.getElem?_eq_getElem h]
theorem szStringS_ev (l : List ByteArray) (hl : l.length ≤ maxLen) (hs : ∀ x ∈ l, x.size ≤ maxLen) (n : Int) (h0 : 0 ≤ n) (h1 : n ≤ 1048576) :
    ∃ r, Ev (fun k => laws_szStringS.f k l n) r ∧ r ≤ 1048576 ∧ (¬ r < 0 → l.length ≤ 1048576 ∧ ∀ x ∈ l, x.size ≤ 1048576) := by
  have hl : l.length ≤ 9223372036854775807 := hl
  have lp : ∀ (d i : Nat) (m : Int), l.length - i = d → i ≤ l.length → 0 ≤ m → m ≤ 1048576 → l.length ≤ 1048576 → (∀ j (h : j < l.length), j < i → l[j].size ≤ 1048576) →
      ∃ r, Ev (fun k => laws_szStringS.l0 k l m (i : Int)) r ∧ r ≤ 1048576 ∧ (¬ r < 0 → l.length ≤ 1048576 ∧ ∀ x ∈ l, x.size ≤ 1048576) := by
    intro d
    induction d with
    | zero =>
      intro i m hd hi hm0 hm1 hlen hall
      refine ⟨m, Ev.step (fun k => by rw [laws_szStringS.l0]) (Ev.neg (by omega) (Ev.eq rfl)), hm1, fun _ => ⟨hlen, fun x hx => ?_⟩⟩
      obtain ⟨j, hj, rfl⟩ := List.getElem_of_mem hx
      exact hall j hj (by omega)
    | succ d ih =>
      intro i m hd hi hm0 hm1 hlen hall
      have hlt : i < l.length := by omega
      have hsz : l[i].size ≤ 9223372036854775807 := hs _ (List.getElem_mem hlt)
      by_cases c : m - (l[i].size : Int) < 0
      · refine ⟨-1, Ev.step (fun k => by rw [laws_szStringS.l0]) ?_, by omega, fun h => absurd (show (-1 : Int) < 0 by omega) h⟩
        rw [rdS_get hlt, w64 (x := m - (l[i].size : Int)) (by omega) (by omega)]
        exact Ev.pos (by omega) (Ev.pos (by omega) (Ev.pos c (Ev.eq rfl)))
      · obtain ⟨r, hr, hp⟩ := ih (i + 1) (m - (l[i].size : Int)) (by omega) (by omega) (by omega) (by omega) hlen (fun j hj hji => by
          by_cases e : j = i
          · subst e; omega
          · exact hall j hj (by omega))
        refine ⟨r, Ev.step (fun k => by rw [laws_szStringS.l0]) ?_, hp⟩
        rw [rdS_get hlt, w64 (x := m - (l[i].size : Int)) (by omega) (by omega), show wrap64 ((i : Int) + 1) = ((i + 1 : Nat) : Int) from by rw [w64 (by omega) (by omega)]; omega]
        exact Ev.pos (by omega) (Ev.pos (by omega) (Ev.neg c hr))
  unfold laws_szStringS.f
  rw [w64 (x := n - (l.length : Int)) (by omega) (by omega)]
  by_cases c : n - (l.length : Int) < 0
  · exact ⟨-1, Ev.pos c (Ev.eq rfl), by omega, fun h => absurd (show (-1 : Int) < 0 by omega) h⟩
  · obtain ⟨r, hr, hp⟩ := lp _ 0 (n - (l.length : Int)) rfl (by omega) (by omega) (by omega) (by omega) (fun j hj h => by omega)
    exact ⟨r, Ev.neg c hr, hp⟩
theorem toStringS_ev (l : List ByteArray) (hl : l.length ≤ 1048576) : Ev (fun k => laws_toStringS.f k l) l := by
  have lp : ∀ (d i : Nat) (x : List ByteArray), l.length - i = d → i ≤ l.length → x.length = l.length → (∀ m (h : m < x.length) (h' : m < l.length), m < i → x[m] = l[m]) → Ev (fun k => laws_toStringS.l0 k l x (i : Int)) l := by
    intro d
    induction d with
    | zero =>
      intro i x hd hi hx hm
      refine Ev.step (fun k => by rw [laws_toStringS.l0]) (Ev.neg (by omega) (Ev.eq ?_))
      exact List.ext_getElem hx (fun m h1 h2 => hm m h1 h2 (by omega))
    | succ d ih =>
      intro i x hd hi hx hm
      have hlt : i < l.length := by omega
      have hnext := ih (i + 1) (x.set i l[i]) (by omega) (by omega) (by rw [List.length_set]; exact hx) (fun m h1 h2 h3 => by
        rw [List.getElem_set]
        split
        · rename_i e; subst e; rfl
        · exact hm m (by rw [List.length_set] at h1; exact h1) h2 (by omega))
      refine Ev.step (fun k => by rw [laws_toStringS.l0]) ?_
      rw [rdS_get hlt, show wrap64 ((i : Int) + 1) = ((i + 1 : Nat) : Int) from by rw [w64 (by omega) (by omega)]; omega, Int.toNat_natCast]
      exact Ev.pos (by omega) (Ev.pos (by omega) (Ev.pos (by omega) hnext))
  unfold laws_toStringS.f
  refine Ev.pos (by omega) (Ev.pos (by omega) ?_)
  exact lp _ 0 _ rfl (by omega) (by simp) (fun m _ _ h => by omega)
theorem eqStringS_same (l : List ByteArray) (hl : l.length ≤ 1048576) : Ev (fun k => laws_eqStringS.f k l l) true := by
  have lp : ∀ (d i : Nat), l.length - i = d → i ≤ l.length → Ev (fun k => laws_eqStringS.l0 k l l (i : Int)) true := by
    intro d
    induction d with
    | zero =>
      intro i hd hi
      exact Ev.step (fun k => by rw [laws_eqStringS.l0]) (Ev.neg (by omega) (Ev.eq rfl))
    | succ d ih =>
      intro i hd hi
      refine Ev.step (fun k => by rw [laws_eqStringS.l0]) ?_
      rw [show wrap64 ((i : Int) + 1) = ((i + 1 : Nat) : Int) from by rw [w64 (by omega) (by omega)]; omega]
      exact Ev.pos (by omega) (Ev.pos (by omega) (Ev.pos (by omega) (Ev.pos rfl (ih (i + 1) (by omega) (by omega)))))
  unfold laws_eqStringS.f
  exact Ev.pos rfl (lp _ 0 rfl (by omega))
end Go.Proofs.YtgfeafcgpeclcaaDoor.Pure
namespace Go.Proofs.YtgfeafcgpeclcaaDoor.Pure
open Go.RowKit Go.Proofs.YtgfeafcgpeclcaaDoor.X Go.Proofs.YtgfeafcgpeclcaaDoorW.PrintWords Go.Proofs.YtgfeafcgpeclcaaDoorW.PrintLast
theorem l1In_f (a lo hi : Int) : spec_l1In.f a lo hi = some (decide (lo ≤ a) && decide (a ≤ hi)) := by
  unfold spec_l1In.f
  split
  · rename_i h; simp [show lo ≤ a from h]
  · rename_i h; have : ¬ lo ≤ a := h; simp [this]
theorem within_f (a lo hi : Int) : impl_within.f a lo hi = some (decide (lo ≤ a) && decide (a ≤ hi)) := by
  unfold impl_within.f
  split
  · rename_i h; simp [show lo ≤ a from h]
  · rename_i h; have : ¬ lo ≤ a := h; simp [this]
end Go.Proofs.YtgfeafcgpeclcaaDoor.Pure
namespace Go.Proofs.YtgfeafcgpeclcaaDoor.Pure
open Go.RowKit Go.Proofs.YtgfeafcgpeclcaaDoor.X Go.Proofs.YtgfeafcgpeclcaaDoorW.PrintWords Go.Proofs.YtgfeafcgpeclcaaDoorW.PrintLast
set_option linter.unusedVariables false
set_option linter.unusedSimpArgs false
def kindsOk (l : List UInt8) : Bool := l.all fun b => [105, 114].contains b
def typeOk (s : ByteArray) : Bool := decide (1 ≤ s.size ∧ s.size ≤ 23) && kindsOk s.data.toList
def typesOk (l : List ByteArray) : Bool := decide (1 ≤ l.length ∧ l.length ≤ 12) && l.all typeOk
theorem dropWhile_all {p : UInt8 → Bool} : ∀ l : List UInt8, (∀ x ∈ l.dropWhile p, p x = true) → l.dropWhile p = []
  | [], _ => rfl
  | a :: l, h => by
    by_cases c : p a = true
    · rw [List.dropWhile_cons_of_pos c] at h ⊢
      exact dropWhile_all l h
    · rw [List.dropWhile_cons_of_neg c] at h
      exact absurd (h a (List.mem_cons_self ..)) c
theorem dropWhile_nil_iff {p : UInt8 → Bool} (l : List UInt8) : l.dropWhile p = [] ↔ ∀ x ∈ l, p x = true := by
  constructor
  · intro h
    induction l with
    | nil => simp
    | cons a l ih =>
      by_cases c : p a = true
      · rw [List.dropWhile_cons_of_pos c] at h
        intro x hx
        rcases List.mem_cons.1 hx with rfl | hx
        · exact c
        · exact ih h x hx
      · rw [List.dropWhile_cons_of_neg c] at h
        cases h
  · exact fun h => dropWhile_all l (fun x hx => h x ((List.dropWhile_sublist _).mem hx))
theorem trim_nil (l cs : List UInt8) : Lib.trimS l cs = [] ↔ ∀ x ∈ l, cs.contains x = true := by
  unfold Lib.trimS Lib.trimLeftS Lib.trimRightS
  rw [dropWhile_nil_iff]
  constructor
  · intro h
    have h1 := dropWhile_all (p := fun x => cs.contains x) l.reverse (fun x hx => h x (List.mem_reverse.2 hx))
    rw [dropWhile_nil_iff] at h1
    exact fun x hx => h1 x (List.mem_reverse.2 hx)
  · intro h x hx
    exact h x (List.mem_reverse.1 ((List.dropWhile_sublist _).mem (List.mem_reverse.1 hx)))
theorem isType_f (s : ByteArray) (hs : s.size ≤ 1048576) : impl_isType.f s = some (typeOk s) := by
  unfold impl_isType.f typeOk
  rw [within_f, Option.bind_some]
  by_cases c : 1 ≤ s.size ∧ s.size ≤ 23
  · rw [if_pos (by simp; omega), decide_eq_true c, Bool.true_and]
    have ht : strings_Trim.f s (⟨#[105, 114]⟩ : ByteArray) = some ⟨(Lib.trimS s.data.toList [105, 114]).toArray⟩ := by
      unfold strings_Trim.f
      rw [if_pos (by omega), if_pos (by decide), if_pos (by decide)]
    rw [ht, Option.bind_some]
    congr 1
    rw [Bool.eq_iff_iff, beq_iff_eq, ByteArray.toList_eq]
    show (Lib.trimS s.data.toList [105, 114]).toArray.toList = [] ↔ _
    rw [trim_nil, kindsOk, List.all_eq_true]
  · rw [if_neg (by simp; omega), decide_eq_false c, Bool.false_and]
theorem impl_TypesOk_f (l : List ByteArray) (hs : ∀ x ∈ l, x.size ≤ 1048576) : impl_TypesOk.f l = some (typesOk l) := by
  have hany : slices_ContainsFunc_impl_TypesOk_1.f l = some (l.any fun x => !typeOk x) := by
    unfold slices_ContainsFunc_impl_TypesOk_1.f
    refine anyO_some (fun x hx => ?_)
    unfold impl_TypesOk_1.f
    rw [isType_f x (hs x hx)]
    rfl
  have hsz : impl_size_string.f l = some (l.length : Int) := rfl
  unfold impl_TypesOk.f typesOk
  rw [hsz, Option.bind_some, within_f, Option.bind_some]
  by_cases c : 1 ≤ l.length ∧ l.length ≤ 12
  · rw [if_pos (by simp; omega), decide_eq_true c, Bool.true_and, hany, Option.bind_some]
    congr 1
    rw [List.any_eq_not_all_not]
    simp
  · rw [if_neg (by simp; omega), decide_eq_false c, Bool.false_and]
theorem bt_get {s : ByteArray} {i : Nat} (h : i < s.data.toList.length) : bt s (i : Int) = (s.data.toList[i].toNat : Int) := by
  have h' : i < s.size := h
  rw [← bt_at s (i : Int) (by simpa using h')]
  simp [ByteArray.getElem_eq_getElem_data]
theorem l3Type_ev (s : ByteArray) (hs : s.size ≤ 1048576) : Ev (fun k => spec_l3Type.f k s) (typeOk s) := by
  have hlen : s.data.toList.length = s.size := rfl
  have lp : ∀ (d i : Nat), s.size - i = d → i ≤ s.size → Ev (fun k => spec_l3Type.l0 k s (i : Int)) (decide (1 ≤ s.size ∧ s.size ≤ 23) && kindsOk (s.data.toList.drop i)) := by
    intro d
    induction d with
    | zero =>
      intro i hd hi
      rw [List.drop_eq_nil_of_le (by omega)]
      refine Ev.step (fun k => by rw [spec_l3Type.l0]) (Ev.neg (by omega) (Ev.bindo (l1In_f _ _ _) (Ev.eq ?_)))
      simp only [kindsOk, List.all_nil, Bool.and_true]
      rw [Bool.eq_iff_iff]
      simp
      omega
    | succ d ih =>
      intro i hd hi
      have hlt : i < s.data.toList.length := by omega
      have ih := ih (i + 1) (by omega) (by omega)
      refine Ev.step (fun k => by rw [spec_l3Type.l0]) ?_
      rw [bt_get hlt, show wrap64 ((i : Int) + 1) = ((i + 1 : Nat) : Int) from by rw [w64 (by omega) (by omega)]; omega, List.drop_eq_getElem_cons hlt]
      generalize s.data.toList[i] = b at *
      have hb : kindsOk (b :: s.data.toList.drop (i + 1)) = ([105, 114].contains b && kindsOk (s.data.toList.drop (i + 1))) := rfl
      rw [hb]
      refine Ev.pos (by omega) (Ev.pos (by omega) (Ev.cases (fun c => ?_) (fun c => Ev.cases (fun c2 => ?_) (fun c2 => Ev.eq ?_))))
      · have e : b = 105 := UInt8.toNat_inj.1 (by show b.toNat = 105; omega)
        subst e
        rw [show [105, 114].contains (105 : UInt8) = true from rfl, Bool.true_and]
        exact ih
      · have e : b = 114 := UInt8.toNat_inj.1 (by show b.toNat = 114; omega)
        subst e
        rw [show [105, 114].contains (114 : UInt8) = true from rfl, Bool.true_and]
        exact ih
      · have e : [105, 114].contains b = false := by
          rw [Bool.eq_false_iff]
          intro h
          simp at h
          rcases h with h | h
          · subst h; exact c rfl
          · subst h; exact c2 rfl
        rw [e, Bool.false_and, Bool.and_false]
  unfold spec_l3Type.f typeOk
  have h := lp _ 0 rfl (by omega)
  rw [List.drop_zero] at h
  exact h
theorem spec_TypesOk_ev (l : List ByteArray) (hl : l.length ≤ 1048576) (hs : ∀ x ∈ l, x.size ≤ 1048576) : Ev (fun k => spec_TypesOk.f k l) (typesOk l) := by
  have lp : ∀ (d i : Nat), l.length - i = d → i ≤ l.length → Ev (fun k => spec_TypesOk.l0 k l (i : Int)) ((l.drop i).all typeOk) := by
    intro d
    induction d with
    | zero =>
      intro i hd hi
      rw [List.drop_eq_nil_of_le (by omega)]
      refine Ev.step (fun k => by rw [spec_TypesOk.l0]) ?_
      exact Ev.neg (by omega) (Ev.eq rfl)
    | succ d ih =>
      intro i hd hi
      have hlt : i < l.length := by omega
      have ih := ih (i + 1) (by omega) (by omega)
      refine Ev.step (fun k => by rw [spec_TypesOk.l0]) ?_
      rw [show rdOf ByteArray.empty l (i : Int) = l[i] from by simp [rdOf, List.getD_eq_getElem?_getD, List.getElem?_eq_getElem hlt], show wrap64 ((i : Int) + 1) = ((i + 1 : Nat) : Int) from by rw [w64 (by omega) (by omega)]; omega, List.drop_eq_getElem_cons hlt, List.all_cons]
      refine Ev.pos (by omega) (Ev.pos (by omega) (Ev.bind (l3Type_ev l[i] (hs _ (List.getElem_mem hlt))) (Ev.cases (fun c => ?_) (fun c => ?_))))
      · rw [c, Bool.true_and]
        exact ih
      · rw [Bool.eq_false_iff.2 c, Bool.false_and]
        exact Ev.eq rfl
  unfold spec_TypesOk.f typesOk
  refine Ev.bindo (l1In_f _ _ _) ?_
  by_cases c : 1 ≤ l.length ∧ l.length ≤ 12
  · rw [decide_eq_true c, Bool.true_and]
    refine Ev.pos (by simp; omega) ?_
    have h := lp _ 0 rfl (by omega)
    rw [List.drop_zero] at h
    exact h
  · rw [decide_eq_false c, Bool.false_and]
    exact Ev.neg (by simp; omega) (Ev.eq rfl)
end Go.Proofs.YtgfeafcgpeclcaaDoor.Pure
namespace Go.Proofs.YtgfeafcgpeclcaaDoor.Pure
open Go.RowKit Go.Proofs.YtgfeafcgpeclcaaDoor.X Go.Proofs.YtgfeafcgpeclcaaDoorW.PrintWords Go.Proofs.YtgfeafcgpeclcaaDoorW.PrintLast
set_option linter.unusedVariables false
set_option linter.unusedSimpArgs false

def refk (a : Int) : Int := if a = 0 then 0 else if 2 ≤ a ∧ a ≤ 254 ∧ a % 2 = 0 then 1 else if 1 ≤ a ∧ a ≤ 799 ∧ a % 2 = 1 then 2 else -1
theorem refk_cases (a : Int) : refk a = 0 ∨ refk a = 1 ∨ refk a = 2 ∨ refk a = -1 := by
  unfold refk
  repeat' split
  all_goals simp
theorem tmod2 {a : Int} (h : 0 ≤ a) : Int.tmod a 2 = a % 2 := Int.tmod_eq_emod_of_nonneg h
theorem spec_RefKind_ev (a : Int) : Ev (fun k => spec_RefKind.f k a) (refk a) := by
  have j : ∀ b : Bool, (b = true → 2 ≤ a ∧ a ≤ 254 ∧ a % 2 = 0) → (b = false → ¬ (2 ≤ a ∧ a ≤ 254 ∧ a % 2 = 0)) → ¬ a = 0 → Ev (fun k => spec_RefKind.j0 k a b) (refk a) := by
    intro b h1 h2 h0
    refine Ev.step (fun k => by rw [spec_RefKind.j0]) ?_
    refine Ev.cases (fun e => Ev.eq ?_) (fun e => ?_)
    · unfold refk; rw [if_neg h0, if_pos (h1 e)]
    · have h2 := h2 (by simpa using e)
      refine Ev.bindo (l1In_f _ _ _) (Ev.cases (fun c => ?_) (fun c => Ev.eq ?_))
      · simp only [Bool.and_eq_true, decide_eq_true_eq] at c
        rw [tmod2 (by omega)]
        refine Ev.cases (fun c2 => Ev.eq ?_) (fun c2 => Ev.eq ?_)
        · unfold refk; rw [if_neg h0, if_neg h2, if_pos ⟨c.1, c.2, c2⟩]
        · unfold refk; rw [if_neg h0, if_neg h2, if_neg (by omega)]
      · unfold refk; rw [if_neg h0, if_neg h2, if_neg (fun x => c (by simp [x.1, x.2.1]))]
  unfold spec_RefKind.f
  refine Ev.cases (fun e => Ev.eq ?_) (fun e => ?_)
  · unfold refk; rw [if_pos e]
  · refine Ev.bindo (l1In_f _ _ _) (Ev.cases (fun c => ?_) (fun c => ?_))
    · simp only [Bool.and_eq_true, decide_eq_true_eq] at c
      rw [tmod2 (by omega)]
      exact j _ (fun h => ⟨c.1, c.2, by simpa using h⟩) (fun h x => by simp [x.2.2] at h) e
    · exact j _ (fun h => by cases h) (fun _ x => c (by simp [x.1, x.2.1])) e
theorem impl_RefKind_ev (a : Int) : Ev (fun k => impl_RefKind.f k a) (refk a) := by
  have j : ∀ b : Bool, (b = true → 2 ≤ a ∧ a ≤ 254 ∧ a % 2 = 0) → (b = false → ¬ (2 ≤ a ∧ a ≤ 254 ∧ a % 2 = 0)) → ¬ a = 0 → Ev (fun k => impl_RefKind.j0 k a b) (refk a) := by
    intro b h1 h2 h0
    refine Ev.step (fun k => by rw [impl_RefKind.j0]) ?_
    refine Ev.cases (fun e => Ev.eq ?_) (fun e => ?_)
    · unfold refk; rw [if_neg h0, if_pos (h1 e)]
    · have h2 := h2 (by simpa using e)
      refine Ev.bindo (within_f _ _ _) (Ev.cases (fun c => ?_) (fun c => Ev.eq ?_))
      · simp only [Bool.and_eq_true, decide_eq_true_eq] at c
        rw [tmod2 (by omega)]
        refine Ev.cases (fun c2 => Ev.eq ?_) (fun c2 => Ev.eq ?_)
        · unfold refk; rw [if_neg h0, if_neg h2, if_pos ⟨c.1, c.2, c2⟩]
        · unfold refk; rw [if_neg h0, if_neg h2, if_neg (by omega)]
      · unfold refk; rw [if_neg h0, if_neg h2, if_neg (fun x => c (by simp [x.1, x.2.1]))]
  unfold impl_RefKind.f
  refine Ev.cases (fun e => Ev.eq ?_) (fun e => ?_)
  · unfold refk; rw [if_pos e]
  · refine Ev.bindo (within_f _ _ _) (Ev.cases (fun c => ?_) (fun c => ?_))
    · simp only [Bool.and_eq_true, decide_eq_true_eq] at c
      rw [tmod2 (by omega)]
      exact j _ (fun h => ⟨c.1, c.2, by simpa using h⟩) (fun h x => by simp [x.2.2] at h) e
    · exact j _ (fun h => by cases h) (fun _ x => c (by simp [x.1, x.2.1])) e
theorem impl_isYoung_ev (a : Int) : Ev (fun k => impl_isYoung.f k a) (decide (refk a = 2)) := by
  unfold impl_isYoung.f
  refine Ev.bind (impl_RefKind_ev a) (Ev.eq ?_)
  by_cases h : refk a = 2 <;> simp [h]
end Go.Proofs.YtgfeafcgpeclcaaDoor.Pure
namespace Go.Proofs.YtgfeafcgpeclcaaDoor.Pure
open Go.RowKit Go.Proofs.YtgfeafcgpeclcaaDoor.X Go.Proofs.YtgfeafcgpeclcaaDoorW.PrintWords Go.Proofs.YtgfeafcgpeclcaaDoorW.PrintLast
set_option linter.unusedVariables false
set_option linter.unusedSimpArgs false
theorem sorted_ext : ∀ {l m : List Int}, l.Pairwise (· < ·) → m.Pairwise (· < ·) → (∀ x, x ∈ l ↔ x ∈ m) → l = m
  | [], [], _, _, _ => rfl
  | [], y :: m, _, _, h => absurd ((h y).2 (List.mem_cons_self ..)) (by simp)
  | x :: l, [], _, _, h => absurd ((h x).1 (List.mem_cons_self ..)) (by simp)
  | x :: l, y :: m, hl, hm, h => by
    rw [List.pairwise_cons] at hl hm
    have e : x = y := by
      rcases List.mem_cons.1 ((h x).1 (List.mem_cons_self ..)) with e | hx
      · exact e
      · rcases List.mem_cons.1 ((h y).2 (List.mem_cons_self ..)) with e | hy
        · exact e.symm
        · have h1 := hl.1 y hy
          have h2 := hm.1 x hx
          omega
    subst e
    rw [sorted_ext hl.2 hm.2 (fun z => ?_)]
    have hz := h z
    simp only [List.mem_cons] at hz
    constructor
    · intro h1
      have h2 := hl.1 z h1
      rcases hz.1 (.inr h1) with e | h3
      · omega
      · exact h3
    · intro h1
      have h2 := hm.1 z h1
      rcases hz.2 (.inr h1) with e | h3
      · omega
      · exact h3
theorem placeIn_ev (l : List Int) (x : Int) (hl : l.length ≤ 1099511627776) : ∃ r, Ev (fun k => spec_l7Place.f k l x) r ∧ ((0 ≤ r ∧ x ∈ l) ∨ (r = -1 ∧ x ∉ l)) := by
  have lp : ∀ (d i : Nat), l.length - i = d → i ≤ l.length → x ∉ l.take i → ∃ r, Ev (fun k => spec_l7Place.l0 k l x (i : Int)) r ∧ ((0 ≤ r ∧ x ∈ l) ∨ (r = -1 ∧ x ∉ l)) := by
    intro d
    induction d with
    | zero =>
      intro i hd hi hx
      refine ⟨-1, Ev.step (fun k => by rw [spec_l7Place.l0]) (Ev.neg (by omega) (Ev.eq rfl)), .inr ⟨rfl, ?_⟩⟩
      rwa [List.take_of_length_le (by omega)] at hx
    | succ d ih =>
      intro i hd hi hx
      have hlt : i < l.length := by omega
      by_cases e : l[i] = x
      · refine ⟨i, Ev.step (fun k => by rw [spec_l7Place.l0]) ?_, .inl ⟨by omega, e ▸ List.getElem_mem hlt⟩⟩
        rw [rd_get hlt]
        exact Ev.pos (by omega) (Ev.pos (by omega) (Ev.pos e (Ev.eq rfl)))
      · obtain ⟨r, hr, hp⟩ := ih (i + 1) (by omega) (by omega) (by
          rw [take_snoc2 l i hlt, List.mem_append]
          simp only [List.mem_singleton]
          rintro (h | h)
          · exact hx h
          · exact e h.symm)
        refine ⟨r, Ev.step (fun k => by rw [spec_l7Place.l0]) ?_, hp⟩
        rw [rd_get hlt, show wrap64 ((i : Int) + 1) = ((i + 1 : Nat) : Int) from by rw [w64 (by omega) (by omega)]; omega]
        exact Ev.pos (by omega) (Ev.pos (by omega) (Ev.neg e hr))
  unfold spec_l7Place.f
  exact lp _ 0 rfl (by omega) (by simp)
theorem less_f (a b : Int) : cmp_Less_int64.f a b = some (decide (a < b)) := by
  unfold cmp_Less_int64.f cmp_isNaN_int64.f
  simp
theorem nan_f (a : Int) : slices_isNaN_int64.f a = some false := by
  unfold slices_isNaN_int64.f
  simp
theorem bsearch_ev (l : List Int) (x : Int) (hs : l.Pairwise (· < ·)) (hl : l.length ≤ 1099511627776) : ∃ (i : Nat) (f : Bool), Ev (fun k => slices_BinarySearch_int64_int64.f k l x) ((i : Int), f) ∧ i ≤ l.length ∧ (∀ j (h : j < l.length), j < i → l[j] < x) ∧ (∀ j (h : j < l.length), i < j → x < l[j]) ∧ (f = true → ∃ h : i < l.length, l[i] = x) ∧ (f = false → ∀ h : i < l.length, x < l[i]) := by
  rw [List.pairwise_iff_getElem] at hs
  have u64 : ∀ y : Int, 0 ≤ y → y < 18446744073709551616 → IntKind.u64.wrap y = y := by
    intro y h0 h1
    simp only [IntKind.wrap, IntKind.bits, IntKind.signed]
    simp
    omega
  have lp : ∀ (d lo hi : Nat), hi - lo ≤ d → lo ≤ hi → hi ≤ l.length → (∀ j (h : j < l.length), j < lo → l[j] < x) → (∀ j (h : j < l.length), hi ≤ j → x ≤ l[j]) →
      ∃ (i : Nat) (f : Bool), Ev (fun k => slices_BinarySearch_int64_int64.l0 k l x (l.length : Int) (lo : Int) (hi : Int)) ((i : Int), f) ∧ i ≤ l.length ∧ (∀ j (h : j < l.length), j < i → l[j] < x) ∧ (∀ j (h : j < l.length), i < j → x < l[j]) ∧ (f = true → ∃ h : i < l.length, l[i] = x) ∧ (f = false → ∀ h : i < l.length, x < l[i]) := by
    intro d
    induction d with
    | zero =>
      intro lo hi hd hle hhi h1 h2
      obtain rfl : lo = hi := by omega
      by_cases hlt : lo < l.length
      · have hge := h2 lo hlt (Nat.le_refl _)
        have hup : ∀ j (h : j < l.length), lo < j → x < l[j] := fun j h hj => by
          have := hs lo j hlt h hj
          omega
        by_cases e : l[lo] = x
        · refine ⟨lo, true, ?_, by omega, h1, hup, fun _ => ⟨hlt, e⟩, by simp⟩
          refine Ev.step (fun k => by rw [slices_BinarySearch_int64_int64.l0]) ?_
          rw [rd_get hlt]
          exact Ev.neg (by omega) (Ev.pos (by omega) (Ev.pos (by omega) (Ev.pos (by omega) (Ev.pos e (Ev.eq rfl)))))
        · refine ⟨lo, false, ?_, by omega, h1, hup, by simp, fun _ _ => by omega⟩
          refine Ev.step (fun k => by rw [slices_BinarySearch_int64_int64.l0]) ?_
          rw [rd_get hlt]
          refine Ev.neg (by omega) (Ev.pos (by omega) (Ev.pos (by omega) (Ev.pos (by omega) (Ev.neg e ?_))))
          exact Ev.bindo (nan_f _) (Ev.neg (by simp) (Ev.eq rfl))
      · refine ⟨lo, false, ?_, by omega, h1, fun j h hj => by omega, by simp, fun _ h => by omega⟩
        refine Ev.step (fun k => by rw [slices_BinarySearch_int64_int64.l0]) ?_
        exact Ev.neg (by omega) (Ev.neg (by omega) (Ev.eq rfl))
    | succ d ih =>
      intro lo hi hd hle hhi h1 h2
      by_cases c : lo < hi
      · have hm : (lo + hi) / 2 < l.length := by omega
        have e1 : wrap64 (IntKind.u64.wrap (wrap64 ((lo : Int) + (hi : Int))) / 2) = (((lo + hi) / 2 : Nat) : Int) := by
          rw [w64 (x := (lo : Int) + (hi : Int)) (by omega) (by omega), u64 _ (by omega) (by omega), w64 (by omega) (by omega)]
          omega
        by_cases c2 : l[(lo + hi) / 2] < x
        · obtain ⟨i, f, hev, hr⟩ := ih ((lo + hi) / 2 + 1) hi (by omega) (by omega) hhi (fun j h hj => by
            by_cases e : j = (lo + hi) / 2
            · subst e; exact c2
            · have := hs j ((lo + hi) / 2) h hm (by omega)
              omega) h2
          refine ⟨i, f, ?_, hr⟩
          refine Ev.step (fun k => by rw [slices_BinarySearch_int64_int64.l0]) ?_
          rw [e1, rd_get hm, show wrap64 ((((lo + hi) / 2 : Nat) : Int) + 1) = (((lo + hi) / 2 + 1 : Nat) : Int) from by rw [w64 (by omega) (by omega)]; omega]
          refine Ev.pos (by omega) (Ev.pos (by omega) (Ev.pos (by omega) (Ev.bindo (less_f _ _) ?_)))
          exact Ev.pos (by simpa using c2) hev
        · obtain ⟨i, f, hev, hr⟩ := ih lo ((lo + hi) / 2) (by omega) (by omega) (by omega) h1 (fun j h hj => by
            by_cases e : j = (lo + hi) / 2
            · subst e; omega
            · have := hs ((lo + hi) / 2) j hm h (by omega)
              omega)
          refine ⟨i, f, ?_, hr⟩
          refine Ev.step (fun k => by rw [slices_BinarySearch_int64_int64.l0]) ?_
          rw [e1, rd_get hm]
          refine Ev.pos (by omega) (Ev.pos (by omega) (Ev.pos (by omega) (Ev.bindo (less_f _ _) ?_)))
          exact Ev.neg (by simpa using c2) hev
      · exact ih lo hi (by omega) hle hhi h1 h2
  unfold slices_BinarySearch_int64_int64.f
  exact lp l.length 0 l.length (by omega) (by omega) (Nat.le_refl _) (fun j h hj => by omega) (fun j h hj => by omega)
end Go.Proofs.YtgfeafcgpeclcaaDoor.Pure
